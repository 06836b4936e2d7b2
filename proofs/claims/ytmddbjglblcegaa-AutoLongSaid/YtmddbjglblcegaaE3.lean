/-
  What is proved here: parts of the proof that the last text states: rules for walks through code, and of this program's functions what they answer. No condition of their own.
-/
import Derived.Deep.Draws
import Derived.Deep.LoopGhost
import Derived.Ground.SlsfProg
import Derived.KernelRfl
import Derived.Laws.Externs
import Derived.Lib.SliceRun
import Derived.Lib.SlicesCompact
import Derived.Lib.Walk
import Derived.Shelf.RegionOpenPlain
import Derived.Shelf.SlGeneric
import Derived.Shelf.SlLaysQ
import Derived.Shelf.SlSortCmp.NoneTotal
import Derived.Shelf.SlicesE.Kit
import Derived.Shelf.SlicesQ.Load
import Derived.Sort.WalkB12
import Derived.Test.YtmddbjglblcegaaRows
import Derived.WalkKit
import Derived.Test.YtmddbjglblcegaaE2
namespace Go.Own
open Go
section
variable {α β:Type}{P:Program}{N:Rm}{g g1:Gst}{p:Place}{m:Int}{a b:Operand}{t:TypeId}
theorem AV.at_app1:∀ (l:List Nat) {x nd:AV}{k:Nat}{c:AV},x.at l=some nd->nd.kids[k]?=some c->x.at (l++[k])=some c
 | [],x,nd,k,c,h,hk=>by
  simp only [AV.at,Option.some.injEq] at h
  subst h
  simp [AV.at,hk]
 | j::l,x,nd,k,c,h,hk=>by
  simp only [AV.at] at h
  cases hj:x.kids[j]? with
  | none=>rw [hj] at h; cases h
  | some y =>
   rw [hj] at h
   simp only [List.cons_append,AV.at,hj]
   exact AV.at_app1 l h hk
theorem AV.setAt_app:∀ (l:List Nat) {x nd:AV}{k:Nat}{c:AV}(y:AV),x.at l=some nd->nd.kids[k]?=some c->x.setAt (l++[k]) y=x.setAt l (nd.setKid k y)
 | [],x,nd,k,c,y,h,hk=>by
  simp only [AV.at,Option.some.injEq] at h
  subst h
  simp [AV.setAt,hk]
 | j::l,x,nd,k,c,y,h,hk=>by
  simp only [AV.at] at h
  cases hj:x.kids[j]? with
  | none=>rw [hj] at h; cases h
  | some z =>
   rw [hj] at h
   simp only [List.cons_append,AV.setAt,hj]
   rw [AV.setAt_app l y h hk]
theorem el_cell {en:En α}{L:List α}{yy:α}{o:Nat}{c:AV}(h:idx L m=some yy) (hc:(en.cells yy)[o]?=some c):(oR en L).kids[m.toNat * en.z+o]?=some c:=rowc_at en h hc
theorem atP_el {en:En α}{L:List α}{yy:α}{r o:Nat}{path:List Nat}{c:AV}(hp:atP g ⟨r,path⟩=some (oR en L)) (h:idx L m=some yy) (hc:(en.cells yy)[o]?=some c):atP g ⟨r,path++[m.toNat * en.z+o]⟩=some c:=by
 unfold atP at hp ⊢
 simp only at hp ⊢
 cases hx:g r with
 | none=>rw [hx] at hp; cases hp
 | some x =>
  rw [hx] at hp
  exact AV.at_app1 path hp (el_cell h hc)
theorem setP_el {en:En α}{L:List α}{yy:α}{r o:Nat}{path:List Nat}{c:AV}(y:AV) (hp:atP g ⟨r,path⟩=some (oR en L)) (h:idx L m=some yy) (hc:(en.cells yy)[o]?=some c) :
  setP g ⟨r,path++[m.toNat * en.z+o]⟩ y=setP g ⟨r,path⟩ (.own en.z L.length ((rowc en L).set (m.toNat * en.z+o) y)):=by
 funext s
 unfold setP
 simp only
 split
 ·rename_i e
  subst e
  unfold atP at hp
  simp only at hp
  cases hx:g s with
  | none=>rfl
  | some x =>
   rw [hx] at hp
   simp only [Option.map_some,Option.some.injEq]
   rw [AV.setAt_app path y hp (el_cell h hc)]
   rfl
 ·rfl
theorem splice_set (l:List AV) (k:Nat) (x c:AV):splice (l.set k x) k [c]=splice l k [c]:=by
 unfold splice
 simp only [List.length_singleton]
 rw [List.take_set,List.drop_set]
 rw [List.set_eq_of_length_le (by simp; omega)]
 simp
theorem EO.stEP {o':Oper}{en:En α}{en2:En β}{L:List α}{yy y2:α}{Ls M R:List β}{o s mm:Nat}{new new':List AV}{x2 y0:AV}{G2:List (Nat × AV)}
  (ho:o'.op=.store t a b) (hd:o'.dst=none) (ha:Rd g a (.ptr p (m.toNat * en.z+o))) (hb:Rd g b (.brw en2.z ⟨s,[]⟩ (Ls.length+mm)))
  (hps:g s=some (.pend en2.z ⟨p.root,p.path++[m.toNat * en.z+o]⟩ Ls.length mm new)) (hp:atP g p=some (oR en L)) (h:idx L m=some yy) (hcell:(en.cells yy)[o]?=some (oR en2 Ls)) (hq:Nat.beq p.root s=false)
  (h1:TkL (setP (setP g ⟨s,[]⟩ .dead) p (.own en.z L.length ((rowc en L).set (m.toNat * en.z+o) .dead))) new new' g1)
  (hfz:FzL new' (rowc en2 M)) (hm:M.length=mm) (hR:Ls++M=R) (hz:sizeT P t 1=true)
  (hp1:atP g1 p=some (.own en.z L.length ((rowc en L).set (m.toNat * en.z+o) .dead)))
  (he:splice (en.cells yy) o [oR en2 R]=en.cells y2) (hlen:Nat.ble (o+1) en.z=true)
  (hx2:setP g1 p (oR en (L.set m.toNat y2)) p.root=some x2) (hr:(get G2 p.root).isSome=true) (hy0:g1 p.root=some y0) [hno:NRc y0] (hG:TrX g1 (get G2) p.root x2 G2):EO P N g o' (get G2):=by
 subst hm hR
 have hlen':=Nat.le_of_ble_eq_true hlen
 have hsp:=row_set en (cs':=[oR en2 (Ls++M)]) h he (by simpa using hlen')
 have hl2:(L.set m.toNat y2).length=L.length:=List.length_set
 have hqr:=Nat.ne_of_beq_eq_false hq
 have hatq:atP g ⟨p.root,p.path++[m.toNat * en.z+o]⟩=some (oR en2 Ls):=atP_el (g:=g) (r:=p.root) (path:=p.path) hp h hcell
 have hpS:atP (setP g ⟨s,[]⟩ .dead) p=some (oR en L):=by
  unfold atP at hp ⊢
  rw [setP_slot (p:=⟨s,[]⟩) (fun e=>hqr e)]; exact hp
 have ht:TkL g [.brw en2.z ⟨s,[]⟩ (Ls.length+M.length)] [.own en2.z (Ls.length+M.length) (rowc en2 Ls++new')] g1:=by
  refine .pn hps hatq hq ?_ .nil
  rw [setP_el .dead (r:=p.root) (path:=p.path) hpS h hcell]
  exact h1
 have hk:m.toNat * en.z+o+1<=L.length * en.z:=by
  obtain ⟨q0,q1,_⟩:=idx_spec h
  have h2:m.toNat+1<=L.length:=by omega
  calc m.toNat * en.z+o+1<=m.toNat * en.z+en.z:=by omega
   _=(m.toNat+1) * en.z:=by rw [Nat.add_mul]; omega
   _<=L.length * en.z:=Nat.mul_le_mul_right _ h2
 refine .store ho hd ha.opd hb.opd ht.take (y':=oR en2 (Ls++M)) ?_ rfl hz (p:=p) (nd:=.own en.z L.length ((rowc en L).set (m.toNat * en.z+o) .dead)) (z:=en.z) (n:=L.length) (cs:=(rowc en L).set (m.toNat * en.z+o) .dead) hp1 (.inl rfl) ?_ (by simp) (fun t x hx=>?_) (fun t x hx y hy=>?_) (fun t z q n m new hx=>?_) (by intro e; rw [e] at hr; cases hr)
 ·rw [<- oR_app]; exact (hfz.pre _).own
 ·simp only [List.length_singleton,List.length_set,rowc_len]; exact hk
 ·have hnd:(AV.own en.z L.length ((rowc en L).set (m.toNat * en.z+o) .dead)).splice (m.toNat * en.z+o) [oR en2 (Ls++M)]=oR en (L.set m.toNat y2):=by
   show AV.own en.z L.length (splice ((rowc en L).set (m.toNat * en.z+o) .dead) (m.toNat * en.z+o) [oR en2 (Ls++M)])=_
   unfold oR at hsp ⊢
   rw [splice_set,hsp,hl2]
  rw [hnd]
  rcases hG.spec t x hx with ⟨h1,h2,_⟩ | ⟨h1,h2,_⟩
  ·rw [setP_slot h1]; exact h2
  ·subst h1 h2; exact hx2
 ·rcases hG.spec t x hx with ⟨h1,h2,h3⟩ | ⟨h1,h2,h3⟩
  ·rw [h2] at hy; cases hy
   rcases h3 with h3 | ⟨h3,c2,rfl⟩
   ·exact h3.rkq
   ·refine RKp.ref (by cases h3; rfl) ⟨h3.ok1,h3.clear ?_,h3.ok2⟩
    intro e
    obtain ⟨pr,pp⟩:=p
    simp only at e
    subst e
    simp only [setP,if_true,hy0,Option.map_some,AV.setAt,Option.some.injEq] at hx2
    cases hx2
  ·subst h1; rw [hy0] at hy; cases hy; exact .nr hno.nr
 ·rcases hG.spec t _ hx with ⟨_,_,h3 | ⟨h3,_⟩⟩ | ⟨_,_,h3⟩
  ·exact h3.np _ _ _ _ _ rfl
  ·exact h3.np _ _ _ _ _ rfl
  ·cases h3
end
end Go.Own
/- Short forms for printed walks. -/
namespace Go.Own
open Go
section
variable {P:Program}{N:Rm}{ops:Array Oper}{AT:List (List Nat)}{g g0:Gst}{K:Gst->Prop}{l:List Oper}{acc:Acc}{d i:Nat}{op:Op}{ty:TypeId}{pos:String}{after:Array Edge}{x:AV}
theorem Rv (hp:PS P g op ty x) (hk:RunL P N ops l (upd g d x) K) (hN:N.ok d=true:=by rfl) (hf:g d=none:=by rfl):RunL P N ops (⟨some d,op,ty,pos,after,none⟩::l) g K:=.v hp hN hf .none hk
theorem Rc (hp:PC P g op x) (hk:RunL P N ops l (upd g d x) K) (hN:N.ok d=true:=by rfl) (hf:g d=none:=by rfl):RunL P N ops (⟨some d,op,ty,pos,after,none⟩::l) g K:=.c hp hN hf .none hk
theorem Dv (j0:Nat) (hp:PS P (vis AT g0 j0 acc) op ty x) (hk:DL P N ops AT g0 i ((j0,d,some x)::acc) l K) (hj:Nat.beq ops.size (j0+l.length+1)=true:=by rfl) (hf:g0 d=none:=by rfl) (hn:acc.all (fun e=>!Nat.beq e.2.1 d)=true:=by rfl) (hN:N.ok d=true:=by rfl) :
  DL P N ops AT g0 i acc (⟨some d,op,ty,pos,after,none⟩::l) K:=.v j0 hp hj hf hn hN .none hk
theorem Dc (j0:Nat) (hp:PC P (vis AT g0 j0 acc) op x) (hk:DL P N ops AT g0 i ((j0,d,some x)::acc) l K) (hj:Nat.beq ops.size (j0+l.length+1)=true:=by rfl) (hf:g0 d=none:=by rfl) (hn:acc.all (fun e=>!Nat.beq e.2.1 d)=true:=by rfl) (hN:N.ok d=true:=by rfl) :
  DL P N ops AT g0 i acc (⟨some d,op,ty,pos,after,none⟩::l) K:=.c j0 hp hj hf hn hN .none hk
end
instance {z n:Nat}{cs:List AV}:NPc (.own z n cs):=⟨by simp⟩
def rn (a n:Nat) (l:List Nat):List Nat:=List.range' a n++l
end Go.Own
namespace Go.Own
open Go
section
variable {α:Type}{P:Program}{N:Rm}{g:Gst}{d r:Nat}{ty:TypeId}
instance {fn:Fn}{cs:List AV} [h:NRl cs]:NRc (.clo fn [] cs):=⟨.clo (by simp) h.nr⟩
theorem O.mf {fn:Fn}{caps:List Operand}{b:List AV}(hb:Own.opds g caps=some b):PS P g (.makeFunc fn #[] caps.toArray) ty (.clo fn [] b):=.p3 (.makeFunc rfl (by simpa using hb))
theorem View.cl {fn:Fn}{cs cs':List AV}(h:VwL g cs cs'):View g (.clo fn [] cs) (.clo fn [] cs'):=.clo h.len h.get
theorem PC.gc {c:Operand}{xs:List Operand}{tys:Array TypeId}{f:FuncId}{ys caps:List AV}{outs:List (Option AV)}{res:AV}(hc:Rd g c (.clo (.func f) [] caps)) (hx:Opds g xs ys) (hcon:Con P f (ys++caps) outs res) (hf:callT P f=true) (ho:noneB outs=true) [hcp:NRl caps] [hr:NRc res] :
  PC P g (.call { callee:=.value c,args:=xs.toArray,argTypes:=tys }) res:=by
 have e:=noneB_map ho hcon.1
 refine .plain (first:=[]) (caps:=caps) (ys:=ys) hc.opd (by simpa using hx.spec.1) hf (fun y hy=>?_) ?_ hr.nr
 ·rw [List.nil_append] at hy
  rcases List.mem_append.1 hy with h | h
  ·exact hx.spec.2 y h
  ·exact hcp.nr y h
 ·rw [List.nil_append,<- e]; exact hcon
theorem CallOk.lv {o:Oper}{xs:List Operand}{tys:Array TypeId}{f:FuncId}{ys args:List AV}{res:AV}{en:En α}{L L':List α}{G2:List (Nat × AV)}(ho:o.op=.call { callee:=.value (.func f),args:=xs.toArray,argTypes:=tys }) (hd:o.dst=some d) (hx:Own.opds g xs=some (.brw en.z ⟨r,[]⟩ L.length::ys))
  (hs:g r=some (oR en L)) (hv:VwL (get ((r,.dead)::G2)) ys args) (hcon:Con P f (oR en L::args) (some (oR en L')::args.map fun _=>none) res) (hf:callT P f=true) [hr:OOc res] [hro:OOc (oR en L')]
  (hG:Trim false (setP g ⟨r,[]⟩ .dead) (get ((r,.dead)::G2)) G2) (hg:get G2 d=none) (hrd:Nat.beq r d=false) (hG4:Trim false (get ((r,oR en L')::G2)) (get ((r,oR en L')::G2)) G2) (hN:N.ok d=true) :
  CallOk P N g o d (get ((d,res)::(r,oR en L')::G2)):=by
 have hrd':r≠d:=Nat.ne_of_beq_eq_false hrd
 have dead2:get ((r,AV.dead)::G2) r=some .dead:=by simp [get]
 have hnr:∀ x∈rowc en L,NR x:=by
  intro x hx
  obtain ⟨a,_,ha⟩:=List.mem_flatMap.1 hx
  exact en.nr a x ha
 have htk:(rowc en L).take (L.length * en.z)=rowc en L:=List.take_of_length_le (by rw [rowc_len]; exact Nat.le_refl _)
 have keep2:Keep (setP g ⟨r,[]⟩ .dead) (get ((r,.dead)::G2)):=by
  refine ⟨fun t x h=>?_,fun t x h=>?_,fun t z q n m new h=>?_⟩
  all_goals
   simp only [get] at h
   split at h
  ·rename_i e; subst e; cases h; simp [setP,hs,AV.setAt]
  ·obtain ⟨⟨y,h1,_,h3⟩,_⟩:=hG.spec t x h; rw [<- h3 rfl]; exact h1
  ·cases h; exact .nr .dead
  ·exact (hG.spec t x h).2.1
  ·cases h
  ·exact (hG.spec t _ h).2.2 _ _ _ _ _ rfl
 have put:putAll (get ((r,.dead)::G2)) [(⟨r,[]⟩,oR en L')]=get ((r,oR en L')::G2):=by
  funext t
  simp only [putAll,setP,get]
  by_cases h:t=r
  ·simp [h,AV.setAt]
  ·simp [h]
 have keep4:Keep (get ((r,oR en L')::G2)) (get ((r,oR en L')::G2)):=by
  refine ⟨fun t x h=>h,fun t x h=>?_,fun t z q n m new h=>?_⟩
  all_goals
   simp only [get] at h
   split at h
  ·cases h; exact .nr hro.oo.nr
  ·exact (hG4.spec t x h).2.1
  ·cases h
  ·exact (hG4.spec t _ h).2.2 _ _ _ _ _ rfl
 have hl:=hv.len
 have e5:get ((d,res)::(r,oR en L')::G2)=upd (get ((r,oR en L')::G2)) d res:=by
  funext t
  rw [get_cons]
 rw [e5]
 refine ECall.ok (first:=[]) (caps:=[]) (ys:=.brw en.z ⟨r,[]⟩ L.length::ys) (tk:=fun k=>k == 0) (vw:=true) (outs:=some (oR en L')::args.map fun _=>none) (g1:=setP g ⟨r,[]⟩ .dead) (g2:=get ((r,.dead)::G2)) (g4:=get ((r,oR en L')::G2)) (l:=[(⟨r,[]⟩,oR en L')]) (ks:=fun _=>0) (xs0:=.brw en.z ⟨r,[]⟩ L.length::ys.map fun _=>.dead) (xs1:=oR en L::ys.map fun _=>.dead) (args:=oR en L::args) (res:=res) ho hd rfl (by simpa using hx)
  ⟨hf,by simp,by simpa using hl,fun k x h=>?_,?_,keep2,fun k x y hx hy=>?_,hcon,by simpa using hr.oo,fun k x h=>?_,fun j p x hj=>?_,by simp,fun i j hi hj _=>by simp at hi hj; omega,by rw [put]; exact keep4⟩ ?_ hN Bk.refl
 ·simp only [List.nil_append,List.append_nil] at h
  cases k with
  | zero=>exact .inl h
  | succ k =>
   refine .inr ?_
   simp only [List.getElem?_cons_succ] at h ⊢
   rw [List.getElem?_map,h]; rfl
 ·have h1:Take (setP g ⟨r,[]⟩ .dead) ((rowc en L).take (L.length * en.z)) (rowc en L) (setP g ⟨r,[]⟩ .dead):=by rw [htk]; exact .nr hnr
  refine .brw (N:=L.length) (by simp [atP,hs,AV.at]) (Nat.le_refl _) h1 (.nr fun x hx=>?_)
  obtain ⟨_,_,rfl⟩:=List.mem_map.1 hx
  exact .dead
 ·simp only [List.nil_append,List.append_nil] at hx
  cases k with
  | zero=>simpa using hy
  | succ k =>
   simp only [List.getElem?_cons_succ] at hx hy
   exact ⟨rfl,hv.get k x y hx hy⟩
 ·cases k with
  | zero=>simp only [List.getElem?_cons_zero,Option.some.injEq] at h; subst h; exact hro.oo
  | succ k =>
   simp only [List.getElem?_cons_succ,List.getElem?_map] at h
   cases ha:args[k]? <;> rw [ha] at h <;> cases h
 ·cases j with
  | succ j=>simp at hj
  | zero =>
   simp only [List.getElem?_cons_zero,Option.some.injEq,Prod.mk.injEq] at hj
   obtain ⟨rfl,rfl⟩:=hj
   exact ⟨rfl,by simp [atP,dead2,AV.at],.inl ⟨en.z,L.length,rowc en L,rfl,by simp [atP,hs,AV.at]⟩⟩
 ·simp only [get,if_neg (Ne.symm hrd')]; exact hg
end
end Go.Own
namespace Go.Own
open Go Go.Proofs Go.Shelf Go.Lib Go.Sort
section
variable {P:Program}{w:World}
def ordB {α:Type} [DecidableEq α] (lt:α->α->Bool) (l:List α):Bool :=
 l.all fun a=>!lt a a&&l.all fun b=>(lt a b||lt b a||decide (a=b))&&l.all fun c=>(!(lt a b&&lt b c)||lt a c)&&(lt a b||lt b c||!lt a c)
def ltO {α:Type}(cf:α->α->Option Int) (a b:α):Bool:=decide ((cf a b).getD 0<0)
def ins {α:Type}(lt:α->α->Bool) (x:α):List α->List α
 | []=>[x]
 | y::l=>if lt y x then y::ins lt x l else x::y::l
def isort {α:Type}(lt:α->α->Bool):List α->List α
 | []=>[]
 | x::l=>ins lt x (isort lt l)
theorem ins_perm {α:Type}(lt:α->α->Bool) (x:α):∀ l:List α,(ins lt x l).Perm (x::l)
 | []=>.refl _
 | y::l=>by
  unfold ins
  split
  ·exact ((ins_perm lt x l).cons y).trans (.swap x y l)
  ·exact .refl _
theorem isort_perm {α:Type}(lt:α->α->Bool):∀ l:List α,(isort lt l).Perm l
 | []=>.refl _
 | x::l=>(ins_perm lt x _).trans ((isort_perm lt l).cons x)
theorem ins_sorted {α:Type}{lt:α->α->Bool}(hS:SWO lt) (x:α):∀ l:List α,l.Pairwise (fun a b=>(!lt b a)=true)->(ins lt x l).Pairwise fun a b=>(!lt b a)=true
 | [],_=>List.pairwise_singleton _ _
 | y::l,h=>by
  obtain ⟨h1,h2⟩:=List.pairwise_cons.1 h
  unfold ins
  split
  ·rename_i hlt
   refine List.pairwise_cons.2 ⟨fun z hz=>?_,ins_sorted hS x l h2⟩
   rcases List.mem_cons.1 ((ins_perm lt x l).mem_iff.1 hz) with rfl | hz
   ·cases hc:lt z y with
    | false=>rfl
    | true=>have:=hS.trans _ _ _ hlt hc; rw [hS.irrefl] at this; cases this
   ·exact h1 z hz
  ·rename_i hlt
   have hlt:lt y x=false:=by simpa using hlt
   refine List.pairwise_cons.2 ⟨fun z hz=>?_,h⟩
   rcases List.mem_cons.1 hz with rfl | hz
   ·rw [hlt]; rfl
   ·have hz:=h1 z hz
    simp only [Bool.not_eq_true'] at hz ⊢
    exact hS.ntrans _ _ _ hz hlt
theorem isort_sorted {α:Type}{lt:α->α->Bool}(hS:SWO lt):∀ l:List α,(isort lt l).Pairwise fun a b=>(!lt b a)=true
 | []=>.nil
 | x::l=>ins_sorted hS x _ (isort_sorted hS l)
theorem isort_merge {α:Type}{lt:α->α->Bool}(hS:SWO lt) (hT:∀ x y,lt x y=false->lt y x=false->x=y) (l:List α):l.mergeSort (fun x y=>!lt y x)=isort lt l:=by
 refine List.Perm.eq_of_pairwise (le:=fun x y=>(!lt y x)=true) (fun a b _ _ h1 h2=>?_) (List.pairwise_mergeSort (fun a b c h1 h2=>?_) (fun a b=>?_) l) (isort_sorted hS l) ((List.mergeSort_perm _ _).trans (isort_perm lt l).symm)
 ·simp only [Bool.not_eq_true'] at h1 h2
  exact hT a b h2 h1
 ·simp only [Bool.not_eq_true'] at h1 h2 ⊢
  exact hS.ntrans _ _ _ h2 h1
 ·cases h1:lt b a with
  | false=>rfl
  | true =>
   cases h2:lt a b with
   | false=>rfl
   | true=>have:=hS.trans _ _ _ h1 h2; rw [hS.irrefl] at this; cases this
theorem ins_map {α β:Type}{lt:α->α->Bool}{lt':β->β->Bool}{f:α->β}(h:∀ a b,lt a b=lt' (f a) (f b)) (x:α):∀ l:List α,(ins lt x l).map f=ins lt' (f x) (l.map f)
 | []=>rfl
 | y::l=>by
  simp only [ins,List.map_cons,h]
  split
  ·rw [List.map_cons,ins_map h x l]
  ·rfl
theorem isort_map {α β:Type}{lt:α->α->Bool}{lt':β->β->Bool}{f:α->β}(h:∀ a b,lt a b=lt' (f a) (f b)):∀ l:List α,(isort lt l).map f=isort lt' (l.map f)
 | []=>rfl
 | x::l=>by simp only [isort,List.map_cons,ins_map h,isort_map h l]
def sortO {α:Type} [DecidableEq α] (cf:α->α->Option Int) (l:List α):Option (List α) :=
 if (l.all fun a=>l.all fun b=>(cf a b).isSome)&&ordB (ltO cf) l&&decide (l.length<4611686018427387904) then some (isort (ltO cf) l) else none
theorem grow_of_fr {w':World}(h:Fr w w' fun _=>False):∃ q os,w'=grow (w.drewN q) os:=by
 refine ⟨w'.drawn - w.drawn,w'.heap.extract w.heap.size w'.heap.size,?_⟩
 obtain ⟨h1,h2,h3,h4,h5,h6,h7⟩:=h
 obtain ⟨hp,tp,dr,os,out⟩:=w'
 simp only at h1 h2 h3 h4 h5 h7
 subst h1 h2 h3
 unfold grow World.drewN
 simp only [World.mk.injEq,true_and,and_true]
 refine ⟨?_,by omega⟩
 apply Array.ext_getElem?
 intro k
 rw [Array.getElem?_append]
 by_cases hk:k<w.heap.size
 ·rw [if_pos hk]; exact h5 k hk fun h=>h
 ·rw [if_neg hk,Array.getElem?_extract]
  by_cases hk2:k<hp.size
  ·rw [if_pos (by omega),show w.heap.size+(k - w.heap.size)=k by omega]
  ·rw [if_neg (by omega),Array.getElem?_eq_none (by omega)]
theorem ordB_spec {α:Type} [DecidableEq α] {lt:α->α->Bool}{l:List α}(h:ordB lt l=true):∀ a∈l,lt a a=false/\∀ b∈l,(lt a b=true\/lt b a=true\/a=b)/\∀ c∈l,((lt a b=true/\lt b c=true)->lt a c=true)/\(lt a b=true\/lt b c=true\/lt a c=false):=by
 intro a ha
 unfold ordB at h
 have h1:=List.all_eq_true.1 h a ha
 simp only [Bool.and_eq_true,Bool.not_eq_true',List.all_eq_true,Bool.or_eq_true,decide_eq_true_eq] at h1
 refine ⟨h1.1,fun b hb=>?_⟩
 obtain ⟨h2,h3⟩:=h1.2 b hb
 refine ⟨by rcases h2 with (h | h) | h <;> simp [h],fun c hc=>?_⟩
 obtain ⟨h4,h5⟩:=h3 c hc
 refine ⟨fun ⟨x,y⟩=>?_,by rcases h5 with (h | h) | h <;> simp [h]⟩
 rcases h4 with h | h
 ·rw [x,y] at h; cases h
 ·exact h
theorem sortO_spec {α:Type} [DecidableEq α] {cf:α->α->Option Int}{l r:List α}(h:sortO cf l=some r):(∀ a∈l,∀ b∈l,(cf a b).isSome=true)/\ordB (ltO cf) l=true/\l.length<4611686018427387904/\r=isort (ltO cf) l:=by
 unfold sortO at h
 split at h
 ·rename_i hc
  simp only [Bool.and_eq_true,List.all_eq_true,decide_eq_true_eq] at hc
  exact ⟨hc.1.1,hc.1.2,hc.2,(Option.some.inj h).symm⟩
 ·cases h
theorem heap_sortWorld {α:Type} [Inhabited α] {enc:α->Value}{b n:Nat}{d:Array α}{os:Array Obj}{cur:Array Value}{e:TypeId}{fr:Nat × Nat}(hb:w.heap[b]?=some (.cells cur e fr)) :
  (sortWorld enc w b 0 n d os).heap[b]?=some (.cells (putCells enc 0 d cur) e fr):=by
 have hlt:b<w.heap.size:=(Array.getElem?_eq_some_iff.1 hb).1
 unfold sortWorld
 rw [heap_grow_old _ _ (by rw [Go.Sort.size_putRow]; exact hlt)]
 unfold putRow mapBlock
 have ea:(Go.Sort.ahead w n).heap=w.heap:=rfl
 simp only [ea,Array.getElem?_modify,if_true,hb,Option.map_some,onCells]
theorem heap_sortWorld_other {α:Type} [Inhabited α] {enc:α->Value}{b n c:Nat}{d:Array α}{os:Array Obj}(hc:c<w.heap.size) (hne:c≠b) :
  (sortWorld enc w b 0 n d os).heap[c]?=w.heap[c]?:=by
 unfold sortWorld
 rw [heap_grow_old _ _ (by rw [Go.Sort.size_putRow]; exact hc)]
 unfold putRow mapBlock
 have ea:(Go.Sort.ahead w n).heap=w.heap:=rfl
 simp only [ea,Array.getElem?_modify,if_neg (Ne.symm hne)]
theorem fr_sortWorld {α:Type} [Inhabited α] {enc:α->Value}{b n:Nat}{d:Array α}{os:Array Obj}{U:BSet}(hU:U b):Fr w (sortWorld enc w b 0 n d os) U:=by
 refine ⟨rfl,rfl,rfl,?_,fun c hc hn=>heap_sortWorld_other hc fun e=>hn (e ▸ hU),fun a ha=>?_,?_⟩
 ·unfold sortWorld; rw [size_grow,Go.Sort.size_putRow]; exact Nat.le_add_right _ _
 ·unfold sortWorld
  rw [frozen?_grow _ _ _ (by rw [Go.Sort.size_putRow]; exact ha),Go.Sort.frozen?_putRow]; rfl
 ·show w.drawn<=w.drawn+n
  exact Nat.le_add_right _ _
theorem putCells_take {α:Type} [Inhabited α] {enc:α->Value}{d:Array α}{cur:Array Value}(h:d.size<=cur.size):(putCells enc 0 d cur).toList.take d.size=d.toList.map enc:=by
 apply List.ext_getElem?
 intro k
 rw [List.getElem?_take,List.getElem?_map]
 by_cases hk:k<d.size
 ·rw [if_pos hk,Array.getElem?_toList,Array.getElem?_toList]
  have hc:k<cur.size:=by omega
  simp only [putCells,Array.getElem?_mapIdx,Array.getElem?_eq_getElem hc,Array.getElem?_eq_getElem hk,Option.map_some]
  rw [if_pos ⟨Nat.zero_le _,by omega⟩,Nat.sub_zero]
  simp [getElem!_pos,hk]
 ·rw [if_neg hk,Array.getElem?_toList,Array.getElem?_eq_none (by omega)]; rfl
end
end Go.Own
namespace Go.Own
open Go
section
variable {α:Type}{P:Program}{N:Rm}{g g1 g2 g3:Gst}{ops:Array Oper}{AT:List (List Nat)}{acc:Acc}{l:List Oper}{K:Gst->Prop}{i d r:Nat}
def plB (p q:Place):Bool:=Nat.beq p.root q.root&&p.path == q.path
def noQ (p:Place) (acc:Acc):Bool:=acc.all fun e=>match pendPlace e with | some q=>!plB p q | none=>true
theorem noQ_spec {p:Place}{G:List (Nat × AV)}{A:Nat->Bool}(h:noQ p acc=true) (hG:npB G=true):∀ t z n m new,visG (get G) A acc t≠some (.pend z p n m new):=by
 intro t z n m new e
 rcases visG_some e with ⟨e',he,h1,_,h2⟩ | ⟨_,h2⟩
 ·have:=List.all_eq_true.1 h e' he
  obtain ⟨k,d,x⟩:=e'
  simp only at h2
  subst h2
  simp [pendPlace,plB] at this
 ·exact npB_spec hG _ _ _ _ _ _ h2
theorem EffOk.cell {o:Oper}{r k0:Nat}{y:AV}{cs:List AV}{g5:Gst}(hr:g r=some (.obj cs)) (hy:cs[k0]?=some y) (hyn:NR y)
  (hop:∀ v:Value,v.oneCell'=true->∃ g1 g4,Keep (setP g ⟨r,[k0]⟩ (.lit v)) g1/\EffOk P N g1 o g4/\atP g4 ⟨r,[k0]⟩=some (.lit v)/\Keep (setP g4 ⟨r,[k0]⟩ y) g5):EffV P N (fun p=>p∈[(⟨r,[k0]⟩:Place)]) g o g5:=by
 intro w I T Fs h a ha hN K Q hK
 have hnp:∀ z q n m new,y≠.pend z q n m new:=by rintro z q n m new rfl; cases hyn
 have hat:atP g ⟨r,[k0]⟩=some y:=by simp [atP,hr,AV.at,AV.kids,hy]
 obtain ⟨v,Fy,hv,hRy,hFy,put⟩:=h.toC.part hat hnp
 have hv1:v.oneCell'=true:=by
  obtain ⟨u,hu,hRu⟩:=h.rel r _ hr
  obtain ⟨b,u',h1,h2,h3,h4,_⟩:=R.node (z:=0) (n:=0) (hRu.isTree (by simp)) (.inr rfl) hy
  have:valAt w T ⟨r,[k0]⟩=child w u k0:=by
   unfold valAt
   simp only [hu,walk]
   cases child w u k0 <;> rfl
  rw [this,h3] at hv
  cases hv
  exact h4
 obtain ⟨Fs1,hS1,hF1,hF2⟩:=put (.lit v) E0 (.lit hv1 fun _ h=>h) (fun _ h=>h.elim) (fun _ h=>h.elim) (fun _ _ _ h=>h.elim)
 obtain ⟨g1,g4,hk1,hok,hat4,hk4⟩:=hop v hv1
 have sub1:∀ t c,Fs1 t c->Fs t c/\¬ Fy c:=by
  intro t c hc
  by_cases ht:t=r
  ·subst ht
   rcases (hF1 c).1 hc with h' | h'
   ·exact h'
   ·exact h'.elim
  ·rw [hF2 t ht] at hc
   exact ⟨hc,fun hf=>ht (h.dis t r c hc (hFy c hf))⟩
 have hS1':=hS1.keep hk1
 refine hok w I T _ hS1' a ha hN K Q fun a' w' hn htm=>?_
 obtain ⟨e1,e2,I',Fs',hS',hst⟩:=hn
 obtain ⟨v2,F2,hv2,hR2,hF2',put2⟩:=hS'.toC.part hat4 (by simp)
 have hv2':v2=v:=hR2.inv_lit.1
 subst hv2'
 have hFyI:∀ c,Fy c->¬ I c:=fun c hc=>h.imm r c (hFy c hc)
 have hFylt:∀ c,Fy c->c<w.heap.size:=fun c hc=>h.ltF r c (hFy c hc)
 have offU:∀ c,Fy c->¬ ∃ t,(g1 t≠none/\Fs1 t c):=fun c hc ⟨t,_,h'⟩=>(sub1 t c h').2 hc
 have offF':∀ t c,Fs' t c->¬ Fy c:=by
  intro t c hc hf
  rcases hst.own c ⟨t,hc⟩ with h' | h'
  ·exact offU c hf h'
  ·have:=hFylt c hf; omega
 have offI':∀ c,Fy c->¬ I' c:=by
  intro c hc hi
  rcases hst.new c hi with h' | h' | h'
  ·exact hFyI c hc h'
  ·exact offU c hc h'
  ·have:=hFylt c hc; omega
 have sameY:∀ c,Fy c->w'.heap[c]?=w.heap[c]?:=fun c hc=>hst.fr.block c (hFylt c hc) (offU c hc)
 have sameI:∀ c,I c->w'.heap[c]?=w.heap[c]?:=fun c hc=>hst.fr.block c (h.lt c hc) fun ⟨t,_,h'⟩=>h.imm t c (sub1 t c h').1 hc
 have hRy':R w' I' (RefAt w' a'.tmps) y v2 Fy:=((hRy.nr hyn).frame sameI hst.more (fun _ _ h=>h) sameY)
 obtain ⟨Fs5,hS5,hF5,hF6⟩:=put2 y Fy hRy' (fun c hc hf=>(offF' _ c hf hc).elim) (fun c hc=>offI' c hc) (fun t c _ hc hf=>offF' t c hf hc)
 have hS6:=hS5.keep hk4
 refine hK a' w' ⟨e1,e2,I',_,hS6,⟨?_,hst.more,fun c hc=>?_,fun c hc=>?_⟩⟩ htm fun r' path hp y' hy' hnp'=>?_
 ·exact hst.fr.mono fun b _ ⟨t,_,h'⟩=>⟨t,(sub1 t b h').1⟩
 ·rcases hst.new c hc with h' | ⟨t,_,h'⟩ | h'
  ·exact .inl h'
  ·exact .inr (.inl ⟨t,(sub1 t c h').1⟩)
  ·exact .inr (.inr h')
 ·obtain ⟨t,_,hc⟩:=hc
  have:(∃ t,Fs' t c)\/Fy c:=by
   by_cases ht:t=r
   ·subst ht
    rcases (hF5 c).1 hc with ⟨h',_⟩ | h'
    ·exact .inl ⟨_,h'⟩
    ·exact .inr h'
   ·rw [hF6 t ht] at hc; exact .inl ⟨t,hc⟩
  rcases this with h' | h'
  ·rcases hst.own c h' with ⟨t,_,h''⟩ | h''
   ·exact .inl ⟨t,(sub1 t c h'').1⟩
   ·exact .inr h''
  ·exact .inl ⟨r,hFy c h'⟩
 ·have hp:(⟨r',path⟩:Place)∈[(⟨r,[k0]⟩:Place)]:=hp
  have hp:=List.mem_singleton.1 hp
  cases hp
  rw [hv,hv2]
end
end Go.Own
namespace Go.Own
open Go
section
variable {α:Type}{P:Program}{N:Rm}{g:Gst}{ops:Array Oper}{l:List Oper}{K:Gst->Prop}{r n:Nat}{t e ty:TypeId}{a b:Operand}{m:Int}{en:En α}{L:List α}{y y2:α}{k:IntKind}{pos:String}{after:Array Edge}
end
end Go.Own
namespace Go.Own
open Go Go.Proofs Go.Shelf Go.Lib Go.Sort
section
variable {P:Program}{w:World}
class Lts {α:Type}(e:En α) where
 vals:α->List Value
 cells:∀ a,e.cells a=(vals a).map .lit
 one:∀ a,∀ v∈vals a,v.oneCell'=true
variable {α:Type}{e:En α}
theorem Lts.len [h:Lts e] (a:α):(h.vals a).length=e.z:=by
 have:=e.len a
 rw [h.cells,List.length_map] at this
 exact this
def flatV (e:En α) [h:Lts e] (l:List α):List Value:=l.flatMap h.vals
theorem rowc_flatV [h:Lts e]:∀ l:List α,rowc e l=(flatV e l).map .lit
 | []=>rfl
 | a::l=>by
  have:rowc e (a::l)=e.cells a++rowc e l:=by simp [rowc]
  rw [this,rowc_flatV l,h.cells]
  simp [flatV]
theorem flatV_len [h:Lts e] (l:List α):(flatV e l).length=l.length * e.z:=by
 have:=rowc_len e l
 rw [rowc_flatV,List.length_map] at this
 exact this
theorem flatV_one [h:Lts e] {l:List α}:∀ v∈flatV e l,v.oneCell'=true:=by
 intro v hv
 obtain ⟨a,_,hv⟩:=List.mem_flatMap.1 hv
 exact h.one a v hv
theorem flatV_get [h:Lts e]:∀ (l:List α) (i j:Nat) (a:α),l[i]?=some a->j<e.z->(flatV e l)[i * e.z+j]?=(h.vals a)[j]?
 | [],i,j,a,ha,_=>by simp at ha
 | b::l,0,j,a,ha,hj=>by
  simp only [List.getElem?_cons_zero,Option.some.injEq] at ha
  subst ha
  simp only [flatV,List.flatMap_cons,Nat.zero_mul,Nat.zero_add]
  rw [List.getElem?_append_left (by rw [Lts.len]; exact hj)]
 | b::l,i+1,j,a,ha,hj=>by
  simp only [List.getElem?_cons_succ] at ha
  have:=flatV_get l i j a ha hj
  simp only [flatV,List.flatMap_cons] at this ⊢
  rw [List.getElem?_append_right (by rw [Lts.len,Nat.add_mul]; omega),Lts.len,<- this]
  congr 1
  rw [Nat.add_mul]; omega
theorem flatK_flatV {β:Type} [Inhabited β] [h:Lts e] (f:β->α) (d:Array β):(flatK (fun x=>h.vals (f x)) e.z d).toList=flatV e (d.toList.map f):=by
 apply List.ext_getElem?
 intro t
 by_cases ht:t<d.size * e.z
 ·have hz:0<e.z:=by
   rcases Nat.eq_zero_or_pos e.z with h0 | h0
   ·rw [h0] at ht; omega
   ·exact h0
  have h1:t / e.z<d.size:=Nat.div_lt_of_lt_mul (by rw [Nat.mul_comm]; exact ht)
  have h2:t % e.z<e.z:=Nat.mod_lt _ hz
  have ha:(d.toList.map f)[t / e.z]?=some (f d[t / e.z]!):=by
   rw [List.getElem?_map,Array.getElem?_toList,Array.getElem?_eq_getElem h1,getElem!_pos d _ h1]; rfl
  have:=flatV_get (e:=e) _ (t / e.z) (t % e.z) _ ha h2
  rw [Nat.mul_comm,Nat.div_add_mod] at this
  rw [this,Array.getElem?_toList,Array.getElem?_eq_getElem (by simpa using ht),<- getElem!_pos (flatK (fun x=>h.vals (f x)) e.z d) t (by simpa using ht),get_flatK _ _ _ _ ht]
  have h3:t % e.z<(h.vals (f d[t / e.z]!)).length:=by rw [Lts.len]; exact h2
  rw [getElem!_pos (h.vals (f d[t / e.z]!)) (t % e.z) h3,List.getElem?_eq_getElem h3]
 ·rw [List.getElem?_eq_none (by simp; omega),List.getElem?_eq_none (by rw [flatV_len,List.length_map,Array.length_toList]; omega)]
theorem sort_finS [hL:Lts e] {vs:List Value}{v0 v1:Value}(hvs:vs=[v0,v1]) {I:BSet}{Fs:Nat->BSet}{g:Gst}(hS:SR w I vs.toArray g Fs) {w':World}{t:TypeId}{r:List α}(ho:w'.ownsRow 0 t e.z v0 r.length (flatV e r)) (hF:∀ c,Fs 0 c↔v0.ownBlock=some c) (hfr:Fr w w' fun c=>Fs 0 c) :
  ∃ v I' Fs',Ending.returned (.tuple #[])=.returned v/\SR w' I' (vs++[v]).toArray (outG [some (oR e r),none] (.tup [])) Fs'/\St w I (fun c=>∃ t,Fs t c) w' I' (fun c=>∃ t,Fs' t c):=by
 subst hvs
 refine ⟨_,I,fun t=>if t=0 then Fs 0 else E0,rfl,⟨fun t x hx=>?_,fun t ht c hc=>?_,fun t t' c hc hc'=>?_,fun t c hc=>?_,fun c hc=>Nat.lt_of_lt_of_le (hS.lt c hc) hfr.size,fun t t' z p n m new z' n' m' new' h1 h2=>?_⟩,⟨?_,fun c h=>h,fun c h=>.inl h,fun c hc=>?_⟩⟩
 ·unfold outG at hx
  split at hx
  ·rename_i ht
   have ht:t=2:=ht
   subst ht
   cases hx
   exact ⟨.tuple #[],rfl,.tree (.tup (Fs:=fun _=>E0) rfl (fun k x u h=>by simp at h) (fun j k c h=>by simp at h) (fun c=>⟨fun h=>h.elim,fun ⟨k,h,_⟩=>by simp at h⟩))⟩
  ·match t,hx with
   | 0,hx =>
    cases hx
    refine ⟨v0,rfl,.tree ?_⟩
    show R w' I _ (.own e.z r.length (rowc e r)) v0 (Fs 0)
    rw [rowc_flatV]
    refine .own (Fs:=fun _=>E0) ho (by simp) (fun k u hu=>flatV_one u (List.mem_of_getElem? hu)) (fun k x u hx hu=>?_) (fun _ _ _ _ _ h=>h.elim) (fun _ _ _ h=>h.elim) (fun c=>⟨fun h=>.inl ((hF c).1 h),fun h=>?_⟩)
    ·rw [List.getElem?_map,hu] at hx
     cases hx
     exact .lit (flatV_one u (List.mem_of_getElem? hu)) fun _ h=>h
    ·rcases h with h | ⟨_,_,h⟩
     ·exact (hF c).2 h
     ·exact h.elim
   | 1,hx=>cases hx
   | t+2,hx=>cases hx
 ·have h0:¬ t=0:=fun e=>by subst e; exact absurd ht (by simp [outG])
  simp only [if_neg h0] at hc
  exact hc
 ·have key:∀ {t:Nat},(if t=0 then Fs 0 else E0) c->t=0:=fun {t} h=>by
   by_cases h0:t=0
   ·exact h0
   ·rw [if_neg h0] at h; exact h.elim
  rw [key hc,key hc']
 ·by_cases h0:t=0
  ·simp only [if_pos h0] at hc; exact hS.imm 0 c hc
  ·simp only [if_neg h0] at hc; exact hc.elim
 ·unfold outG at h1
  split at h1
  ·cases h1
  ·match t,h1 with
   | 0,h1=>cases h1
   | 1,h1=>cases h1
   | t+2,h1=>cases h1
 ·exact hfr.mono fun b _ hb=>⟨0,hb⟩
 ·obtain ⟨t,ht⟩:=hc
  by_cases h0:t=0
  ·simp only [if_pos h0] at ht; exact .inl ⟨0,ht⟩
  ·simp only [if_neg h0] at ht; exact ht.elim
theorem Con.sortS [DecidableEq α] [hV:Lts e] {ρ:Ren}(L:SlLaysF0.n6 P ρ) (aE:∀ w,(isAgg (ρ.t 24)).run P w=.ok true w) (zE:∀ w,(Go.sizeOf (ρ.t 24)).run P w=.ok e.z w) {g:FuncId}{caps:List AV} [hcp:NRl caps] (hg:callT P g=true) {l r:List α}{cf:α->α->Option Int}(h:sortO cf l=some r)
  (hc:∀ a b v,cf a b=some v->Con P g (.agg (e.cells a)::.agg (e.cells b)::caps) (none::none::caps.map fun _=>none) (I64 v)) :
  Con P (ρ.f 6) [oR e l,.clo (.func g) [] caps] [some (oR e r),none] (.tup []):=by
 refine ⟨rfl,fun w I vs Fs hl hS=>?_⟩
 obtain ⟨v0,v1,rfl⟩:∃ v0 v1,vs=[v0,v1]:=by
  match vs,hl with
  | [a,b],_=>exact ⟨a,b,rfl⟩
 obtain ⟨hs1,hs2,hs3,rfl⟩:=sortO_spec h
 obtain ⟨u,hu,hR⟩:=hS.rel 0 (oR e l) rfl
 obtain rfl:v0=u:=by simpa using hu
 replace hR:=hR.isTree (by simp)
 obtain ⟨u,hu,hR1⟩:=hS.rel 1 (.clo (.func g) [] caps) rfl
 obtain rfl:v1=u:=by simpa using hu
 replace hR1:=hR1.isTree (by simp)
 rw [show oR e l=.own e.z l.length (rowc e l) from rfl,rowc_flatV] at hR
 cases hR with
 | ref hx=>simp [AV.isRef] at hx
 | @own _ _ _ _ t us Fk _ ho hlu hone hr hd hb hF =>
 cases hR1 with
 | ref hx=>simp [AV.isRef] at hx
 | @clo _ _ _ a1 cb _ hF1 h1 h2 hr1 hr2 =>
 obtain rfl:a1=#[]:=Array.eq_empty_of_size_eq_zero (by simpa using h1.symm)
 have hF0:∀ c,Fs 0 c↔v0.ownBlock=some c:=by
  intro c
  refine ⟨fun hc=>?_,fun hc=>(hF c).2 (.inl hc)⟩
  rcases (hF c).1 hc with h | ⟨k,hk,h⟩
  ·exact h
  ·have hx:=List.getElem?_eq_getElem hk
   have hu:=List.getElem?_eq_getElem (hlu ▸ hk)
   have hR:=hr k _ _ hx hu
   rw [List.getElem_map] at hR
   generalize us[k]=uu at hR
   cases hR with
   | lit _ hf=>exact (hf c h).elim
   | ref hx=>simp [AV.isRef] at hx
 have hus:us=flatV e l:=by
  apply List.ext_getElem?
  intro k
  by_cases hk:k<us.length
  ·have hk':k<((flatV e l).map AV.lit).length:=hlu.symm ▸ hk
   have hx:=List.getElem?_eq_getElem hk'
   have hu:=List.getElem?_eq_getElem hk
   have hR:=hr k _ _ hx hu
   rw [List.getElem_map] at hR
   rw [hu,hR.inv_lit.1,List.getElem?_eq_getElem (by simpa using hk')]
  ·rw [List.getElem?_eq_none (by omega),List.getElem?_eq_none (by rw [List.length_map] at hlu; omega)]
 subst hus
 have hperm:=isort_perm (ltO cf) l
 have hlen:=hperm.length_eq
 by_cases hnil:l=[]
 ·subst hnil
  have hsl:∃ p cap,v0=.slice p 0 cap:=by
   rcases ho.2 with ⟨rfl,_⟩ | ⟨b,cap,cur,rfl,_⟩
   ·exact ⟨_,_,rfl⟩
   ·exact ⟨_,_,rfl⟩
  obtain ⟨p,cap,rfl⟩:=hsl
  refine (AnyF.slices_SortFunc_none L p cap _ w).mono ?_
  rintro e' w' ⟨rfl,rfl⟩
  exact sort_finS rfl hS (t:=t) (r:=[]) ho hF0 (Fr.refl _ _)
 ·obtain ⟨hlen2,hcase⟩:=ho
  rcases hcase with ⟨rfl,h0⟩ | ⟨b,cap,cur,rfl,_,hgb,hle,hmx,hsz,htk⟩
  ·exact absurd (List.eq_nil_of_length_eq_zero h0) hnil
  have hbU:Fs 0 b:=(hF0 b).2 rfl
  have hblt:b<w.heap.size:=(Array.getElem?_eq_some_iff.1 hgb).1
  obtain ⟨a0,ha0⟩:=List.exists_mem_of_ne_nil l hnil
  let β:={ x:α // x∈l }
  haveI:Inhabited β:=⟨⟨a0,ha0⟩⟩
  let enc:β->List Value:=fun x=>hV.vals x.1
  let cg:β->β->Int:=fun x y=>(cf x.1 y.1).getD 0
  have hlt:∀ x y:β,ltOf cg x y=ltO cf x.1 y.1:=fun x y=>rfl
  let d:Array β:=l.attach.toArray
  have hdl:d.toList.map Subtype.val=l:=by
   show (l.attach.toArray).toList.map Subtype.val=l
   simp
  have hds:d.size=l.length:=by show (l.attach.toArray).size=l.length; rw [List.size_toArray,List.length_attach]
  have hsp:=ordB_spec hs2
  have hO:SWO (ltOf cg):=by
   refine ⟨fun x=>by rw [hlt]; exact (hsp x.1 x.2).1,fun x y z=>?_,fun x y z=>?_⟩
   ·rw [hlt,hlt,hlt]
    exact fun p q=>(((hsp x.1 x.2).2 y.1 y.2).2 z.1 z.2).1 ⟨p,q⟩
   ·rw [hlt,hlt,hlt]
    intro p q
    rcases (((hsp x.1 x.2).2 y.1 y.2).2 z.1 z.2).2 with h | h | h
    ·rw [p] at h; cases h
    ·rw [q] at h; cases h
    ·exact h
  have hT:∀ x y:β,ltOf cg x y=false->ltOf cg y x=false->x=y:=by
   intro x y p q
   rw [hlt] at p q
   rcases ((hsp x.1 x.2).2 y.1 y.2).1 with h | h | h
   ·rw [p] at h; cases h
   ·rw [q] at h; cases h
   ·exact Subtype.ext h
  have hfl:(flatK enc e.z d).toList=flatV e l:=by
   have:=flatK_flatV (e:=e) (fun x:β=>x.1) d
   rw [hdl] at this
   exact this
  have hH:HoldsK enc e.z w b 0 d:=by
   intro j hj
   have hj':j<(flatV e l).length:=by rw [<- hfl,Array.length_toList]; exact hj
   refine ⟨?_,?_⟩
   ·unfold World.cell?
    simp only [hgb,Nat.zero_add]
    show cur[j]?=_
    have h1:=congrArg (fun t=>t[j]?) htk
    have hlt2:j<l.length * e.z:=by rw [<- flatV_len (e:=e)]; exact hj'
    simp only [List.getElem?_take,if_pos hlt2,Array.getElem?_toList] at h1
    rw [h1,<- hfl,Array.getElem?_toList,Array.getElem?_eq_getElem hj,getElem!_pos (flatK enc e.z d) j hj]
    rfl
   ·unfold World.frozen?
    simp only [hgb]
    simp
  have eg:∀ args w,(callFunc g args).run P w=.ok (.enter g args) w:=fun args w=>callT_run hg args
  have hagg:∀ (W:World) (I:BSet) (ρ':AV->Value->Prop) (a:α),R W I ρ' (.agg (e.cells a)) (.agg (hV.vals a).toArray) fun _=>False:=by
   intro W I ρ' a
   rw [hV.cells]
   refine .agg (Fs:=fun _=>E0) (by simp) (fun k u hu=>hV.one a u ?_) (fun k x u hx hu=>?_) (fun _ _ _ _ _ h=>h.elim) (fun c=>⟨fun h=>h.elim,fun ⟨_,_,h⟩=>h.elim⟩)
   ·rw [List.getElem?_toArray] at hu; exact List.mem_of_getElem? hu
   ·rw [List.getElem?_toArray] at hu
    rw [List.getElem?_map,hu] at hx
    cases hx
    exact .lit (hV.one a u (List.mem_of_getElem? hu)) fun _ h=>h
  have hcmp:CmpLays P g cb enc e.z cg b 0 d.size w:=by
   intro m os dk hdk x y
   have hsome:=hs1 x.1 x.2 y.1 y.2
   obtain ⟨v,hv⟩:=Option.isSome_iff_exists.1 hsome
   have hcg:cg x y=v:=by show (cf x.1 y.1).getD 0=v; rw [hv]; rfl
   show Calls P g _ (sortWorld id w b 0 m (flatK enc e.z dk) os) fun e' w'=>_/\∃ q os',w'=grow ((sortWorld id w b 0 m (flatK enc e.z dk) os).drewN q) os'
   have hW0:SR (sortWorld id w b 0 m (flatK enc e.z dk) os) I #[] (fun _=>none) (fun _=>E0):=by
    refine ⟨fun _ _ h=>(by cases h),fun _ _ _ h=>h,fun _ _ _ h=>h.elim,fun _ _ h=>h.elim,fun c hc=>?_,fun _ _ _ _ _ _ _ _ _ _ _ h=>(by cases h)⟩
    have:=hS.lt c hc
    unfold sortWorld
    rw [size_grow,Go.Sort.size_putRow]
    exact Nat.lt_of_lt_of_le this (Nat.le_add_right _ _)
   have hW:=hW0.args (I':=I) (fun c h=>.inl h) (args:=.agg (e.cells x.1)::.agg (e.cells y.1)::caps) (vs:=.agg (enc x).toArray::.agg (enc y).toArray::cb.toList) (by simp [h2]) (fun ρ' k z u hz hu=>?_)
   ·have hcall:=(hc x.1 y.1 v hv).2 _ I (.agg (enc x).toArray::.agg (enc y).toArray::cb.toList) _ (by simp [h2]) hW
    have harr:(.agg (enc x).toArray::.agg (enc y).toArray::cb.toList).toArray=#[.agg (enc x).toArray,.agg (enc y).toArray]++cb:=by
     apply Array.ext'
     simp
    rw [harr] at hcall
    refine hcall.mono ?_
    rintro e' w' ⟨v',I',Fs',rfl,hS',hst⟩
    obtain ⟨u,hu,hRv⟩:=hS'.rel (caps.length+2) (I64 v) (by simp [outG])
    have hvu:u=v':=by
     have:(Value.agg (enc x).toArray::.agg (enc y).toArray::cb.toList).length=caps.length+2:=by simp [h2]
     rw [List.getElem?_toArray,<- this] at hu
     simpa using hu.symm
    subst hvu
    have hlit:=(hRv.isTree (by simp)).inv_lit.1
    subst hlit
    refine ⟨by rw [hcg],?_⟩
    exact grow_of_fr (hst.fr.mono fun c _ ⟨_,hh⟩=>hh)
   ·match k,hz,hu with
    | 0,hz,hu=>cases hz; cases hu; exact hagg _ _ _ x.1
    | 1,hz,hu=>cases hz; cases hu; exact hagg _ _ _ y.1
    | k+2,hz,hu =>
     simp only [List.getElem?_cons_succ] at hz hu
     have hRc:=(hr2 k z u hz (by simpa using hu)).nr (ρ':=ρ') (hcp.nr z (List.mem_of_getElem? hz))
     refine hRc.frame (fun c hc=>?_) (fun _ h=>h) (fun _ _ h=>h) (fun c h=>h.elim)
     exact heap_sortWorld_other (hS.lt c hc) fun e=>hS.imm 0 c (e ▸ hbU) hc
  have hmain:=AnyQ.slices_SortFunc_total L e.z aE zE enc (fun x=>Lts.len x.1) (fun x v hv=>hV.one x.1 v hv) cg hO g cb b 0 cap d w eg hcmp hH hblt (by rw [hds]; exact hs3) hT
  rw [hds] at hmain
  refine hmain.mono ?_
  rintro e' w' ⟨rfl,n,os,rfl⟩
  have hval:(d.toList.mergeSort fun x y=>!ltOf cg y x).map Subtype.val=isort (ltO cf) l:=by
   rw [isort_merge hO hT]
   have hm:(isort (ltOf cg) l.attach).map Subtype.val=isort (ltO cf) (l.attach.map Subtype.val):=isort_map (lt:=ltOf cg) (lt':=ltO cf) (f:=Subtype.val) (fun a b=>hlt a b) l.attach
   rw [List.attach_map_subtype_val] at hm
   exact hm
  generalize hms:(d.toList.mergeSort fun x y=>!ltOf cg y x)=ms at hval
  have hmsl:ms.length=l.length:=by rw [<- hlen,<- hval,List.length_map]
  have hfl2:(flatK enc e.z ms.toArray).toList=flatV e (isort (ltO cf) l):=by
   have:=flatK_flatV (e:=e) (fun x:β=>x.1) ms.toArray
   rw [show (ms.toArray).toList.map (fun x:β=>x.1)=isort (ltO cf) l from hval] at this
   exact this
  have hfs:(flatK enc e.z ms.toArray).size=l.length * e.z:=by rw [size_flatK,List.size_toArray,hmsl]
  refine sort_finS rfl hS (t:=t) (r:=isort (ltO cf) l) ⟨flatV_len _,.inr ⟨b,cap,_,by rw [hlen],Nat.zero_le _,heap_sortWorld (enc:=id) hgb,by omega,hmx,?_,?_⟩⟩ hF0 (fr_sortWorld (enc:=id) hbU)
  ·rw [<- hsz]
   simp [putCells]
  ·rw [hlen,<- hfs,putCells_take (by rw [hfs,hsz]; exact Nat.mul_le_mul_right _ hle),List.map_id,hfl2]
end
end Go.Own
namespace Go.Own
open Go
section
variable {α:Type}{P:Program}{N:Rm}{g:Gst}{d r:Nat}
theorem CallOk.tk {o:Oper}{x:Operand}{tys:Array TypeId}{f:FuncId}{res:AV}{en:En α}{L:List α}{G2:List (Nat × AV)}(ho:o.op=.call { callee:=.value (.func f),args:=#[x],argTypes:=tys }) (hd:o.dst=some d) (hx:Own.opds g [x]=some [.brw en.z ⟨r,[]⟩ L.length])
  (hs:g r=some (oR en L)) (hcon:Con P f [oR en L] [none] res) (hf:callT P f=true) [hr:NRc res]
  (hG:Trim false (setP g ⟨r,[]⟩ .dead) (get G2) G2) (hg:get G2 d=none) (hN:N.ok d=true) :
  CallOk P N g o d (get ((d,res)::G2)):=by
 have hnr:∀ x∈rowc en L,NR x:=by
  intro x hx
  obtain ⟨a,_,ha⟩:=List.mem_flatMap.1 hx
  exact en.nr a x ha
 have htk:(rowc en L).take (L.length * en.z)=rowc en L:=List.take_of_length_le (by rw [rowc_len]; exact Nat.le_refl _)
 have keep2:Keep (setP g ⟨r,[]⟩ .dead) (get G2):=by
  refine ⟨fun t x h=>?_,fun t x h=>(hG.spec t x h).2.1,fun t z q n m new h=>(hG.spec t _ h).2.2 _ _ _ _ _ rfl⟩
  obtain ⟨⟨y,h1,_,h3⟩,_⟩:=hG.spec t x h
  rw [<- h3 rfl]; exact h1
 have keep4:Keep (get G2) (get G2):=⟨fun t x h=>h,fun t x h=>(hG.spec t x h).2.1,fun t z q n m new h=>(hG.spec t _ h).2.2 _ _ _ _ _ rfl⟩
 have e5:get ((d,res)::G2)=upd (get G2) d res:=by
  funext t
  rw [get_cons]
 rw [e5]
 refine ECall.ok (first:=[]) (caps:=[]) (ys:=[.brw en.z ⟨r,[]⟩ L.length]) (tk:=fun k=>k == 0) (vw:=false) (outs:=[none]) (g1:=setP g ⟨r,[]⟩ .dead) (g2:=get G2) (g4:=get G2) (l:=[]) (ks:=fun _=>0) (xs0:=[.brw en.z ⟨r,[]⟩ L.length]) (xs1:=[oR en L]) (args:=[oR en L]) (res:=res) ho hd rfl hx
  ⟨hf,by simp,by simp,fun k x h=>.inl h,?_,keep2,fun k x y hx hy=>?_,hcon,by simpa using hr.nr,fun k x h=>?_,fun j p x hj=>by simp at hj,by simp,fun i j hi hj _=>by simp at hi,keep4⟩ hg hN Bk.refl
 ·have h1:Take (setP g ⟨r,[]⟩ .dead) ((rowc en L).take (L.length * en.z)) (rowc en L) (setP g ⟨r,[]⟩ .dead):=by rw [htk]; exact .nr hnr
  exact .brw (N:=L.length) (by simp [atP,hs,AV.at]) (Nat.le_refl _) h1 (.nr fun x hx=>by simp at hx)
 ·cases k with
  | zero=>simpa using hy
  | succ k=>simp at hy
 ·cases k with
  | zero=>simp at h
  | succ k=>simp at h
end
end Go.Own
namespace Go.Own
open Go Go.Proofs Go.Shelf Go.Lib Go.Sort
section
variable {α:Type} [DecidableEq α]
def dd:Option α->List α->List α
 | _,[]=>[]
 | p,a::l=>if p=some a then dd (some a) l else a::dd (some a) l
def dedup (l:List α):List α:=dd none l
def compO (l:List α):Option (List α):=if l.length<4611686018427387904 then some (dedup l) else none
theorem compact_dd [Inhabited α] (zs:List α):compactUpTo zs.toArray zs.toArray.size=dedup zs:=by
 have key:∀ k,k<=zs.length->compactUpTo zs.toArray k++dd (if k=0 then none else zs[k - 1]?) (zs.drop k)=dd none zs:=by
  intro k
  induction k with
  | zero=>intro _; simp [compactUpTo]
  | succ k ih =>
   intro hk
   rw [<- ih (by omega),compactUpTo_succ]
   have hlt:k<zs.length:=by omega
   rw [<- List.getElem_cons_drop hlt,dd,List.append_assoc]
   congr 1
   have e1:zs.toArray[k]! = zs[k]:=by rw [getElem!_pos zs.toArray k (by simpa using hlt)]; simp
   have hp1:(if k+1=0 then none else zs[k+1 - 1]?)=some zs[k]:=by simp [hlt]
   have hk:keeps zs.toArray k=true↔(if k=0 then none else zs[k - 1]?)≠some zs[k]:=by
    unfold keeps
    rw [decide_eq_true_eq,e1]
    by_cases h0:k=0
    ·simp [h0]
    ·have hp:k - 1<zs.length:=by omega
     have e2:zs.toArray[k - 1]! = zs[k - 1]:=by rw [getElem!_pos zs.toArray (k - 1) (by simpa using hp)]; simp
     rw [if_neg h0,e2,List.getElem?_eq_getElem hp]
     constructor
     ·rintro (h | h) e
      ·exact h0 h
      ·exact h (Option.some.inj e).symm
     ·exact fun h=>.inr fun e=>h (by rw [e])
   rw [hp1,e1]
   by_cases h:(if k=0 then none else zs[k - 1]?)=some zs[k]
   ·rw [if_neg (fun hh=>(hk.1 hh) h),if_pos h]; rfl
   ·rw [if_pos (hk.2 h),if_neg h]; rfl
 have:=key zs.length (Nat.le_refl _)
 rw [List.drop_length] at this
 simp only [dd,List.append_nil] at this
 show compactUpTo _ _=dd none zs
 rw [<- this]
 simp
theorem dd_len:∀ (l:List α) (p:Option α),(dd p l).length<=l.length
 | [],_=>Nat.le_refl _
 | a::l,p=>by
  unfold dd
  have:=dd_len l (some a)
  split
  ·simp; omega
  ·simp; omega
end
section
variable {α:Type}{e:En α}{P:Program}{w:World}
theorem comp_fin [hL:Lts e] {v0:Value}{I:BSet}{Fs:Nat->BSet}{g:Gst}(hS:SR w I [v0].toArray g Fs) {w':World}{t:TypeId}{v:Value}{r:List α}(ho:w'.ownsRow 0 t e.z v r.length (flatV e r)) (hF:∀ c,Fs 0 c↔v.ownBlock=some c) (hfr:Fr w w' fun c=>Fs 0 c) :
  ∃ v' I' Fs',Ending.returned v=.returned v'/\SR w' I' ([v0]++[v']).toArray (outG [none] (oR e r)) Fs'/\St w I (fun c=>∃ t,Fs t c) w' I' (fun c=>∃ t,Fs' t c):=by
 refine ⟨v,I,fun t=>if t=1 then Fs 0 else E0,rfl,⟨fun t x hx=>?_,fun t ht c hc=>?_,fun t t' c hc hc'=>?_,fun t c hc=>?_,fun c hc=>Nat.lt_of_lt_of_le (hS.lt c hc) hfr.size,fun t t' z p n m new z' n' m' new' h1 h2=>?_⟩,⟨?_,fun c h=>h,fun c h=>.inl h,fun c hc=>?_⟩⟩
 ·unfold outG at hx
  split at hx
  ·rename_i ht
   have ht:t=1:=ht
   subst ht
   cases hx
   refine ⟨v,rfl,.tree ?_⟩
   show R w' I _ (.own e.z r.length (rowc e r)) v (Fs 0)
   rw [rowc_flatV]
   refine .own (Fs:=fun _=>E0) ho (by simp) (fun k u hu=>flatV_one u (List.mem_of_getElem? hu)) (fun k x u hx hu=>?_) (fun _ _ _ _ _ h=>h.elim) (fun _ _ _ h=>h.elim) (fun c=>⟨fun h=>.inl ((hF c).1 h),fun h=>?_⟩)
   ·rw [List.getElem?_map,hu] at hx
    cases hx
    exact .lit (flatV_one u (List.mem_of_getElem? hu)) fun _ h=>h
   ·rcases h with h | ⟨_,_,h⟩
    ·exact (hF c).2 h
    ·exact h.elim
  ·match t,hx with
   | 0,hx=>cases hx
   | t+1,hx=>cases hx
 ·have h0:¬ t=1:=fun e=>by subst e; exact absurd ht (by simp [outG])
  simp only [if_neg h0] at hc
  exact hc
 ·have key:∀ {t:Nat},(if t=1 then Fs 0 else E0) c->t=1:=fun {t} h=>by
   by_cases h0:t=1
   ·exact h0
   ·rw [if_neg h0] at h; exact h.elim
  rw [key hc,key hc']
 ·by_cases h0:t=1
  ·simp only [if_pos h0] at hc; exact hS.imm 0 c hc
  ·simp only [if_neg h0] at hc; exact hc.elim
 ·unfold outG at h1
  split at h1
  ·cases h1
  ·match t,h1 with
   | 0,h1=>cases h1
   | t+1,h1=>cases h1
 ·exact hfr.mono fun b _ hb=>⟨0,hb⟩
 ·obtain ⟨t,ht⟩:=hc
  by_cases h0:t=1
  ·simp only [if_pos h0] at ht; exact .inl ⟨0,ht⟩
  ·simp only [if_neg h0] at ht; exact ht.elim
variable [DecidableEq α] [Inhabited α]
theorem Con.compS [hV:Lts e] {f:FuncId}
  (hc:∀ (w:World) (b cap:Nat) (d:Array α),0<d.size->HoldsK hV.vals e.z w b 0 d->b<w.heap.size->d.size<=cap->d.size<4611686018427387904 ->
   Calls P f #[.slice (some ⟨b,0,none⟩) d.size cap] w fun e' w'=>e'=.returned (.slice (some ⟨b,0,none⟩) (compactUpTo d d.size).length cap)/\∃ q,w'=putRowK hV.vals e.z (Sort.ahead w q) b 0 (compactUpTo d d.size++List.replicate (d.size - (compactUpTo d d.size).length) default).toArray)
  (hn:∀ (w:World) (p:Option Addr) (cap:Nat),Calls P f #[.slice p 0 cap] w fun e' w'=>e'=.returned (.slice p 0 cap)/\w'=w) {l r:List α}(h:compO l=some r) :
  Con P f [oR e l] [none] (oR e r):=by
 obtain ⟨hbig,rfl⟩:l.length<4611686018427387904/\r=dedup l:=by
  unfold compO at h
  split at h
  ·rename_i hh; exact ⟨hh,(Option.some.inj h).symm⟩
  ·cases h
 refine ⟨rfl,fun w I vs Fs hl hS=>?_⟩
 obtain ⟨v0,rfl⟩:∃ v0,vs=[v0]:=by
  match vs,hl with
  | [a],_=>exact ⟨a,rfl⟩
 obtain ⟨u,hu,hR⟩:=hS.rel 0 (oR e l) rfl
 obtain rfl:v0=u:=by simpa using hu
 replace hR:=hR.isTree (by simp)
 rw [show oR e l=.own e.z l.length (rowc e l) from rfl,rowc_flatV] at hR
 cases hR with
 | ref hx=>simp [AV.isRef] at hx
 | @own _ _ _ _ t us Fk _ ho hlu hone hr hd hb hF =>
 have hF0:∀ c,Fs 0 c↔v0.ownBlock=some c:=by
  intro c
  refine ⟨fun hc=>?_,fun hc=>(hF c).2 (.inl hc)⟩
  rcases (hF c).1 hc with h | ⟨k,hk,h⟩
  ·exact h
  ·have hx:=List.getElem?_eq_getElem hk
   have hu:=List.getElem?_eq_getElem (hlu ▸ hk)
   have hR:=hr k _ _ hx hu
   rw [List.getElem_map] at hR
   generalize us[k]=uu at hR
   cases hR with
   | lit _ hf=>exact (hf c h).elim
   | ref hx=>simp [AV.isRef] at hx
 have hus:us=flatV e l:=by
  apply List.ext_getElem?
  intro k
  by_cases hk:k<us.length
  ·have hk':k<((flatV e l).map AV.lit).length:=hlu.symm ▸ hk
   have hx:=List.getElem?_eq_getElem hk'
   have hu:=List.getElem?_eq_getElem hk
   have hR:=hr k _ _ hx hu
   rw [List.getElem_map] at hR
   rw [hu,hR.inv_lit.1,List.getElem?_eq_getElem (by simpa using hk')]
  ·rw [List.getElem?_eq_none (by omega),List.getElem?_eq_none (by rw [List.length_map] at hlu; omega)]
 subst hus
 by_cases hnil:l=[]
 ·subst hnil
  have hsl:∃ p cap,v0=.slice p 0 cap:=by
   rcases ho.2 with ⟨rfl,_⟩ | ⟨b,cap,cur,rfl,_⟩
   ·exact ⟨_,_,rfl⟩
   ·exact ⟨_,_,rfl⟩
  obtain ⟨p,cap,rfl⟩:=hsl
  refine (hn w p cap).mono ?_
  rintro e' w' ⟨rfl,rfl⟩
  exact comp_fin hS (t:=t) (r:=dedup []) ho hF0 (Fr.refl _ _)
 ·obtain ⟨hlen2,hcase⟩:=ho
  rcases hcase with ⟨rfl,h0⟩ | ⟨b,cap,cur,rfl,_,hgb,hle,hmx,hsz,htk⟩
  ·exact absurd (List.eq_nil_of_length_eq_zero h0) hnil
  have hbU:Fs 0 b:=(hF0 b).2 rfl
  have hblt:b<w.heap.size:=(Array.getElem?_eq_some_iff.1 hgb).1
  have hds:l.toArray.size=l.length:=by simp
  have hpos:0<l.toArray.size:=by rw [hds]; exact List.length_pos_iff.2 hnil
  have flat:∀ d:Array α,(flatK hV.vals e.z d).toList=flatV e d.toList:=fun d=>by
   have:=flatK_flatV (e:=e) (fun x:α=>x) d
   rw [List.map_id'] at this
   exact this
  have hfl:(flatK hV.vals e.z l.toArray).toList=flatV e l:=flat _
  have hH:HoldsK hV.vals e.z w b 0 l.toArray:=by
   intro j hj
   have hj':j<(flatV e l).length:=by rw [<- hfl,Array.length_toList]; exact hj
   refine ⟨?_,?_⟩
   ·unfold World.cell?
    simp only [hgb,Nat.zero_add]
    show cur[j]?=_
    have h1:=congrArg (fun t=>t[j]?) htk
    have hlt2:j<l.length * e.z:=by rw [<- flatV_len (e:=e)]; exact hj'
    simp only [List.getElem?_take,if_pos hlt2,Array.getElem?_toList] at h1
    rw [h1,<- hfl,Array.getElem?_toList,Array.getElem?_eq_getElem hj,getElem!_pos (flatK hV.vals e.z l.toArray) j hj]
    rfl
   ·unfold World.frozen?
    simp only [hgb]
    simp
  have hmain:=hc w b cap l.toArray hpos hH hblt (by rw [hds]; exact hle) (by rw [hds]; exact hbig)
  rw [compact_dd,hds] at hmain
  refine hmain.mono ?_
  rintro e' w' ⟨rfl,q,hw⟩
  have hdl:(dedup l).length<=l.length:=dd_len l none
  generalize hms:(dedup l++List.replicate (l.length - (dedup l).length) default).toArray=ms at hw
  have hmsz:ms.size=l.length:=by rw [<- hms]; simp; omega
  have hfs:(flatK hV.vals e.z ms).size=l.length * e.z:=by rw [size_flatK,hmsz]
  have hws:w'=sortWorld id w b 0 q (flatK hV.vals e.z ms) #[]:=by
   rw [hw]
   unfold putRowK sortWorld
   rw [grow_empty]
  subst hws
  have htk2:(flatV e ms.toList).take ((dedup l).length * e.z)=flatV e (dedup l):=by
   rw [<- hms]
   simp only [flatV,List.flatMap_append]
   rw [List.take_append_of_le_length,List.take_of_length_le]
   ·have:=flatV_len (e:=e) (dedup l); unfold flatV at this; omega
   ·have:=flatV_len (e:=e) (dedup l); unfold flatV at this; omega
  refine comp_fin hS (t:=t) (r:=dedup l) ⟨flatV_len _,.inr ⟨b,cap,_,rfl,Nat.zero_le _,heap_sortWorld (enc:=id) hgb,by omega,hmx,?_,?_⟩⟩ hF0 (fr_sortWorld (enc:=id) hbU)
  ·rw [<- hsz]
   simp [putCells]
  ·have h1:=putCells_take (enc:=id) (d:=flatK hV.vals e.z ms) (cur:=cur) (by rw [hfs,hsz]; exact Nat.mul_le_mul_right _ hle)
   rw [List.map_id,flat ms] at h1
   have h2:(dedup l).length * e.z<=(flatK hV.vals e.z ms).size:=by rw [hfs]; exact Nat.mul_le_mul_right _ hdl
   rw [<- htk2,<- h1,List.take_take,Nat.min_eq_left h2]
end
end Go.Own
namespace Go.Proofs
open Go.Shelf Go.RowKit Go.Lib Go.Sort
variable {α:Type} [Inhabited α] [DecidableEq α]
omit [DecidableEq α] in
theorem setMany_lay (enc:α->List Value) (d:Array α) (k:Nat) (xs:List α) (h:k+xs.length<=d.size):setMany (flatK enc 2 d) (k * 2) (flatK enc 2 xs.toArray).toList=flatK enc 2 (lay d k xs):=by
 have hls:(lay d k xs).size=d.size:=by
  have:∀ (xs:List α) (d:Array α) (k:Nat),(lay d k xs).size=d.size:=by
   intro xs
   induction xs with
   | nil=>intro d k; rfl
   | cons x xs ih=>intro d k; rw [lay,ih]; simp
  exact this xs d k
 refine ext_get! (by simp [hls]) fun t ht=>?_
 rw [size_setMany,size_flatK] at ht
 have hvl:(flatK enc 2 xs.toArray).toList.length=xs.length * 2:=by simp
 rw [get_setMany _ _ _ t (by rw [size_flatK]; exact ht),hvl,get_flatK enc 2 (lay d k xs) t (by rw [hls]; exact ht),get_flatK enc 2 d t ht]
 have h1:t / 2<d.size:=by omega
 have hg:=lay_get? xs d k (t / 2) h
 have e1:(lay d k xs)[t / 2]! = if k<=t / 2/\t / 2<k+xs.length then xs[t / 2 - k]! else d[t / 2]! := by
  rw [getElem!_pos (lay d k xs) (t / 2) (by omega)]
  rw [Array.getElem?_eq_getElem (by omega)] at hg
  by_cases hc:k<=t / 2/\t / 2<k+xs.length
  ·rw [if_pos hc] at hg ⊢
   have hx:t / 2 - k<xs.length:=by omega
   rw [List.getElem?_eq_getElem hx] at hg
   rw [Option.some.inj hg,getElem!_pos xs (t / 2 - k) hx]
  ·rw [if_neg hc] at hg ⊢
   rw [Array.getElem?_eq_getElem h1] at hg
   rw [Option.some.inj hg,getElem!_pos d (t / 2) h1]
 rw [e1]
 by_cases hc:k * 2<=t/\t<k * 2+xs.length * 2
 ·rw [if_pos hc,if_pos (by omega)]
  have hx:t - k * 2<xs.toArray.size * 2:=by simp; omega
  have e2:(flatK enc 2 xs.toArray).toList[t - k * 2]! = (flatK enc 2 xs.toArray)[t - k * 2]! := by
   rw [getElem!_pos (flatK enc 2 xs.toArray) _ (by simpa using hx),getElem!_pos (flatK enc 2 xs.toArray).toList _ (by simpa using hx)]
   simp
  rw [e2,get_flatK _ _ _ _ hx,show (t - k * 2) / 2=t / 2 - k by omega,show (t - k * 2) % 2=t % 2 by omega]
  have hx2:t / 2 - k<xs.length:=by omega
  rw [getElem!_pos xs.toArray (t / 2 - k) (by simpa using hx2),getElem!_pos xs (t / 2 - k) hx2]
  simp
 ·rw [if_neg hc,if_neg (by omega)]
omit [DecidableEq α] [Inhabited α] in
theorem lay_one (d:Array α) (k:Nat) (x:α):lay d k [x]=d.setIfInBounds k x:=rfl
omit [DecidableEq α] in
theorem putRowK_lay (enc:α->List Value) (w:World) (blk:Nat) (d:Array α) (k:Nat) (xs:List α) (h:k+xs.length<=d.size):(putRowK enc 2 w blk 0 d).setCells blk (k * 2) (flatK enc 2 xs.toArray).toList=putRowK enc 2 w blk 0 (lay d k xs):=by
 unfold putRowK
 have:=setCells_putRow w blk 0 (flatK enc 2 xs.toArray).toList (k * 2) (flatK enc 2 d) (by simp; omega)
 rw [Nat.zero_add] at this
 rw [this,setMany_lay enc d k xs h]
omit [DecidableEq α] in
theorem flatK_one (e0 e1:α->Value) (u:α):(flatK (fun x=>[e0 x,e1 x]) 2 [u].toArray).toList=[e0 u,e1 u]:=by
 unfold flatK
 rw [show Array.range ([u].toArray.size * 2)=#[0,1] from rfl]
 simp
theorem zc_two (n:Nat) (z:Value):(Builtin.zeroCells #[z,z] n).toList=List.replicate (n * 2) z:=by
 apply List.ext_getElem
 ·simp [Builtin.zeroCells]
 ·intro i h1 h2
  simp only [Builtin.zeroCells,Array.getElem_toList,Array.getElem_map,Array.getElem_range,List.getElem_replicate]
  rw [show (#[z,z]:Array Value).size=2 from rfl]
  rcases Nat.mod_two_eq_zero_or_one i with e | e <;> rw [e] <;> rfl
omit [DecidableEq α] in
theorem fk_two (enc:α->List Value) (n:Nat) (z:Value) (h:enc default=[z,z]):(flatK enc 2 (List.replicate n (default:α)).toArray).toList=List.replicate (n * 2) z:=by
 apply List.ext_getElem
 ·simp
 ·intro i h1 h2
  rw [List.length_replicate] at h2
  have h3:i<((List.replicate n (default:α)).toArray).size * 2:=by simpa using h2
  have h4:(flatK enc 2 (List.replicate n (default:α)).toArray)[i]! = z:=by
   rw [get_flatK _ _ _ i h3]
   have h5:i / 2<n:=by omega
   rw [getElem!_pos ((List.replicate n (default:α)).toArray) (i / 2) (by simpa using h5)]
   simp only [List.getElem_toArray,List.getElem_replicate,h]
   rcases Nat.mod_two_eq_zero_or_one i with e | e <;> rw [e] <;> rfl
  rw [getElem!_pos _ i (by simpa using h2)] at h4
  simpa using h4
theorem run_clear_cells (P:Program) (w:World) (t e ty:TypeId) (z:Value) (ht:P.underlying t=some (.slice e)) (hv:∀ w,(zeroValue e).run P w=.ok z w) (b o n c:Nat) (vs:List Value) (hz:(Builtin.zeroCells z.cells n).toList=vs) (h1:∀ v∈vs,v.oneCell'=true) (hn:0<n)
  (hc:∀ j,j<vs.length->(w.cell? ⟨b,o+j,none⟩).isSome=true) (hf:∀ j,j<vs.length->w.frozen? ⟨b,o+j,none⟩=false) :
  (Builtin.clear_ #[t] ty #[.slice (some ⟨b,o,none⟩) n c]).run P w=.ok (.tuple #[]) (w.setCells b o vs):=by
 have hst:=run_storeCells_cells (P:=P) b o vs 0 w (by simpa using hc) (by simpa using hf) h1
 simp only [Nat.add_zero] at hst
 obtain ⟨m,rfl⟩:∃ m,n=m+1:=⟨n - 1,by omega⟩
 simp [Builtin.clear_,run_underlying ht,hv,hz,hst]
namespace Two
open Go.Own
variable {P:Program}{t:TypeId}
theorem eqA {xs bs:List Value}{sh:List Sh}(ha:xs.map shOf=sh.map some) (hb:bs.map shOf=sh.map some) (ht:eqAT P t sh=true) (w:World):(binOp .eql t (.agg xs.toArray) (.agg bs.toArray)).run P w=.ok (.bool (eqVs xs bs)) w:=by
 simp only [eqAT,Bool.and_eq_true,Bool.not_eq_true'] at ht
 obtain ⟨⟨h1,h2⟩,h3⟩:=ht
 have h:=run_eqIn w 100 t sh h1 Op.maxDepth (by decide) xs bs ha hb
 split at h2
 ·rename_i fs hu
  simp only [pack,hu] at h
  simp [binOp,Op.equal,h]
 ·cases h2
theorem neA {xs bs:List Value}{sh:List Sh}(ha:xs.map shOf=sh.map some) (hb:bs.map shOf=sh.map some) (ht:eqAT P t sh=true) (w:World):(binOp .neq t (.agg xs.toArray) (.agg bs.toArray)).run P w=.ok (.bool (!eqVs xs bs)) w:=by
 simp only [eqAT,Bool.and_eq_true,Bool.not_eq_true'] at ht
 obtain ⟨⟨h1,h2⟩,h3⟩:=ht
 have h:=run_eqIn w 100 t sh h1 Op.maxDepth (by decide) xs bs ha hb
 split at h2
 ·rename_i fs hu
  simp only [pack,hu] at h
  simp [binOp,Op.equal,h]
 ·cases h2
theorem gdA {sh:List Sh}(ht:eqAT P t sh=true) (op:BinOp) (a b:Operand) (x y:Array Value) (w:World):(eqGuard op t a b (.agg x) (.agg y)).run P w=.ok () w:=by
 simp only [eqAT,Bool.and_eq_true,Bool.not_eq_true'] at ht
 simp [eqGuard,ht.2]
omit [Inhabited α] [DecidableEq α] in
theorem one (f:α->Int):OneCell fun x=>Value.int .i64 (f x):=fun _=>rfl
end Two
end Go.Proofs
namespace Go.Own
open Go Go.Proofs Go.Shelf Go.Lib Go.Sort
def shrK (k:IntKind) (m n:Int):Int:=m.fdiv (2 ^ (min n.toNat k.bits))
theorem wpList_app_fr {P:Program}{w:World}{ops:Array Oper}{rest:List Oper}{o:Oper}{a:Act}{Q:Exit->Act->World->Prop}(hgd:o.guard=none) (s x:Operand) (t:TypeId)
  (ho:o.op=.call { callee:=.builtin .append,args:=#[s,x],argTypes:=#[t,t] }) (e:TypeId) (i:TypeInfo) (z:Value) (ht:P.underlying t=some (.slice e)) (hi:P.info? e=some i) (hz:i.zero=some z) (hzs:z.cells.size=i.size) (hsz:0<i.size)
  (v:Value) (n:Nat) (xs:List Value) (hs:a.eval s=v) (hown:w.ownsRow 0 e i.size v n xs)
  (ad:Addr) (m c:Nat) (news:List Value) (hx:a.eval x=.slice (some ad) m c) (hl:news.length=m * i.size) (hnews:∀ j u,news[j]?=some u->w.cell? (ad.add j)=some u) (h1:∀ u∈news,u.oneCell'=true)
  (h63:n+m<=maxLen) (hbytes:(n+m) * i.bytes<=140737488355328)
  (h:∀ v' w' e2,AppRun w w' v v' e e2 i.size n m xs news->wpList P ops Q rest (a.put o.dst v') w'):wpList P ops Q (o::rest) a w :=
 wpList_plain hgd fun _ hK=>by
  obtain ⟨v',w',e2,hr,hA⟩:=run_app (P:=P) (w:=w) t o.type e e i z ht hi hz hzs hsz hown (a:=some ad) (m:=m) (c:=c) (fun _=>rfl) hl (fun ad' e=>by cases e; exact hnews) h1 h63 hbytes
  unfold Oper.wp execOp
  simp only [ho,resolve,invoke,builtin,Sem.run_bind,Sem.run_pure,Result.andThen_ok,List.map_toArray,List.map_cons,List.map_nil,hs,hx,hr]
  exact hK _ _ (h v' w' e2 hA)
def cloneO {α:Type}(l:List α):Option (List α):=if l.length<=1000000000000 then some l else none
section
variable {α:Type}{e:En α}{P:Program}{w:World}
theorem Con.cloneS [hV:Lts e] {f:FuncId}
  (hc:∀ (w:World) (ad:Addr) (n c:Nat) (news:List Value),news.length=n * e.z->n<=1000000000000->(∀ j u,news[j]?=some u->w.cell? (ad.add j)=some u)->(∀ u∈news,u.oneCell'=true) ->
   Calls P f #[.slice (some ad) n c] w fun e' w'=>∃ v' t,e'=.returned v'/\w'.ownsRow 0 t e.z v' n news/\(∀ c,v'.ownBlock=some c->w.heap.size<=c)/\Fr w w' fun _=>False)
  (hn:∀ (w:World) (n c:Nat),Calls P f #[.slice none n c] w fun e' w'=>e'=.returned (.slice none 0 0)/\w'=w) {l r:List α}(h:cloneO l=some r) :
  Con P f [iR e l] [none] (oR e r):=by
 obtain ⟨hbig,rfl⟩:l.length<=1000000000000/\r=l:=by
  unfold cloneO at h
  split at h
  ·rename_i hh; exact ⟨hh,(Option.some.inj h).symm⟩
  ·cases h
 refine ⟨rfl,fun w I vs Fs hl hS=>?_⟩
 obtain ⟨v0,rfl⟩:∃ v0,vs=[v0]:=by
  match vs,hl with
  | [a],_=>exact ⟨a,rfl⟩
 obtain ⟨u,hu,hR⟩:=hS.rel 0 (iR e r) rfl
 obtain rfl:v0=u:=by simpa using hu
 replace hR:=hR.isTree (by simp)
 -- what comes back, in a world that has grown
 have fin:∀ (w':World) (v:Value) (t:TypeId),w'.ownsRow 0 t e.z v r.length (flatV e r)->(∀ c,v.ownBlock=some c->w.heap.size<=c)->Fr w w' (fun _=>False) ->
   ∃ v' I' Fs',Ending.returned v=.returned v'/\SR w' I' ([v0]++[v']).toArray (outG [none] (oR e r)) Fs'/\St w I (fun c=>∃ t,Fs t c) w' I' (fun c=>∃ t,Fs' t c):=by
  intro w' v t ho hb hfr
  refine ⟨v,I,fun t=>if t=1 then fun c=>v.ownBlock=some c else E0,rfl,⟨fun t x hx=>?_,fun t ht c hc=>?_,fun t t' c hc hc'=>?_,fun t c hc hI=>?_,fun c hc=>Nat.lt_of_lt_of_le (hS.lt c hc) hfr.size,fun t t' z p n m new z' n' m' new' h1 h2=>?_⟩,⟨hfr.mono fun _ _ h=>h.elim,fun c h=>h,fun c h=>.inl h,fun c hc=>?_⟩⟩
  ·unfold outG at hx
   split at hx
   ·rename_i ht
    have ht:t=1:=ht
    subst ht
    cases hx
    refine ⟨v,rfl,.tree ?_⟩
    show R w' I _ (.own e.z r.length (rowc e r)) v (fun c=>v.ownBlock=some c)
    rw [rowc_flatV]
    refine .own (Fs:=fun _=>E0) ho (by simp) (fun k u hu=>flatV_one u (List.mem_of_getElem? hu)) (fun k x u hx hu=>?_) (fun _ _ _ _ _ h=>h.elim) (fun _ _ _ h=>h.elim) (fun c=>⟨fun h=>.inl h,fun h=>?_⟩)
    ·rw [List.getElem?_map,hu] at hx
     cases hx
     exact .lit (flatV_one u (List.mem_of_getElem? hu)) fun _ h=>h
    ·rcases h with h | ⟨_,_,h⟩
     ·exact h
     ·exact h.elim
   ·match t,hx with
    | 0,hx=>cases hx
    | t+1,hx=>cases hx
  ·have h0:¬ t=1:=fun e=>by subst e; exact absurd ht (by simp [outG])
   simp only [if_neg h0] at hc
   exact hc
  ·have key:∀ {t:Nat},(if t=1 then fun c=>v.ownBlock=some c else E0) c->t=1:=fun {t} h=>by
    by_cases h0:t=1
    ·exact h0
    ·rw [if_neg h0] at h; exact h.elim
   rw [key hc,key hc']
  ·by_cases h0:t=1
   ·simp only [if_pos h0] at hc
    have:=hb c hc
    have:=hS.lt c hI
    omega
   ·simp only [if_neg h0] at hc; exact hc.elim
  ·unfold outG at h1
   split at h1
   ·cases h1
   ·match t,h1 with
    | 0,h1=>cases h1
    | t+1,h1=>cases h1
  ·obtain ⟨t,ht⟩:=hc
   by_cases h0:t=1
   ·simp only [if_pos h0] at ht; exact .inr (hb c ht)
   ·simp only [if_neg h0] at ht; exact ht.elim
 have use:∀ (ad:Addr) (c:Nat),(∀ j u,(flatV e r)[j]?=some u->w.cell? (ad.add j)=some u)->Calls P f #[.slice (some ad) r.length c] w fun e' w'=>∃ v' I' Fs',e'=.returned v'/\SR w' I' ([v0]++[v']).toArray (outG [none] (oR e r)) Fs'/\St w I (fun c=>∃ t,Fs t c) w' I' (fun c=>∃ t,Fs' t c):=by
  intro ad c hcell
  refine (hc w ad r.length c (flatV e r) (flatV_len _) hbig hcell flatV_one).mono ?_
  rintro e' w' ⟨v',t,rfl,ho,hb,hfr⟩
  exact fin w' v' t ho hb hfr
 rw [show iR e r=.imm e.z r.length (rowc e r) from rfl,rowc_flatV] at hR
 generalize hcs:(flatV e r).map AV.lit=cs at hR
 generalize hrl:r.length=rl at hR
 cases hR with
 | ref hx=>simp [AV.isRef] at hx
 | @imm0 _ cap a _ hF =>
  have hr0:r=[]:=List.eq_nil_of_length_eq_zero hrl
  cases a with
  | none =>
   refine (hn w 0 cap).mono ?_
   rintro e' w' ⟨rfl,rfl⟩
   exact fin w' _ 0 ⟨by rw [flatV_len],.inl ⟨rfl,by rw [hr0]; rfl⟩⟩ (fun c hc=>by cases hc) (Fr.refl _ _)
  | some ad =>
   have:=use ad cap (fun j u hj=>by rw [hr0] at hj; simp [flatV] at hj)
   rw [hrl] at this
   exact this
 | @imm _ _ cap _ ad us _ hF hcap hI hs hll h1 hcc hrr =>
  subst hrl
  refine use ad cap fun j u hj=>?_
  have hj':cs[j]?=some (.lit u):=by rw [<- hcs,List.getElem?_map,hj]; rfl
  have e1:=(hrr j _ hj').inv_lit.1
  have:=hcc j _ hj'
  rw [e1] at this
  obtain ⟨b,o,sp⟩:=ad
  simp only at hs this
  subst hs
  rw [Addr.add_lit]
  exact this
end
end Go.Own
namespace Go.Own
open Go
section
variable {α:Type}{P:Program}{N:Rm}{g:Gst}{d r:Nat}
theorem rowc_nr' (en:En α) (L:List α):∀ x∈rowc en L,NR x:=by
 intro x hx
 obtain ⟨a,_,ha⟩:=List.mem_flatMap.1 hx
 exact en.nr a x ha
theorem CallOk.lc {o:Oper}{xs:List Operand}{tys:Array TypeId}{f:FuncId}{ys args:List AV}{res:AV}{en:En α}{L L':List α}{G2:List (Nat × AV)}(ho:o.op=.call { callee:=.value (.func f),args:=xs.toArray,argTypes:=tys }) (hd:o.dst=some d) (hx:Own.opds g xs=some (.brw en.z ⟨r,[0]⟩ L.length::ys))
  (hs:g r=some (.obj [oR en L])) (hv:VwL (get ((r,.obj [.dead])::G2)) ys args) (hcon:Con P f (oR en L::args) (some (oR en L')::args.map fun _=>none) res) (hf:callT P f=true) [hr:OOc res] [hro:OOc (oR en L')]
  (hG:Trim false (setP g ⟨r,[0]⟩ .dead) (get ((r,.obj [.dead])::G2)) G2) (hg:get G2 d=none) (hrd:Nat.beq r d=false) (hG4:Trim false (get ((r,.obj [oR en L'])::G2)) (get ((r,.obj [oR en L'])::G2)) G2) (hN:N.ok d=true) :
  CallOk P N g o d (get ((d,res)::(r,.obj [oR en L'])::G2)):=by
 have hrd':r≠d:=Nat.ne_of_beq_eq_false hrd
 have dead2:get ((r,AV.obj [.dead])::G2) r=some (.obj [.dead]):=by simp [get]
 have htk:(rowc en L).take (L.length * en.z)=rowc en L:=List.take_of_length_le (by rw [rowc_len]; exact Nat.le_refl _)
 have nrO:∀ x:AV,NR x->NR (.obj [x]):=fun x h=>.obj fun y hy=>by rw [List.mem_singleton.1 hy]; exact h
 have keep2:Keep (setP g ⟨r,[0]⟩ .dead) (get ((r,.obj [.dead])::G2)):=by
  refine ⟨fun t x h=>?_,fun t x h=>?_,fun t z q n m new h=>?_⟩
  all_goals
   simp only [get] at h
   split at h
  ·rename_i e; subst e; cases h; simp [setP,hs,AV.setAt,AV.kids,AV.setKid]
  ·obtain ⟨⟨y,h1,_,h3⟩,_⟩:=hG.spec t x h; rw [<- h3 rfl]; exact h1
  ·cases h; exact .nr (nrO _ .dead)
  ·exact (hG.spec t x h).2.1
  ·cases h
  ·exact (hG.spec t _ h).2.2 _ _ _ _ _ rfl
 have put:putAll (get ((r,.obj [.dead])::G2)) [(⟨r,[0]⟩,oR en L')]=get ((r,.obj [oR en L'])::G2):=by
  funext t
  simp only [putAll,setP,get]
  by_cases h:t=r
  ·simp [h,AV.setAt,AV.kids,AV.setKid]
  ·simp [h]
 have keep4:Keep (get ((r,.obj [oR en L'])::G2)) (get ((r,.obj [oR en L'])::G2)):=by
  refine ⟨fun t x h=>h,fun t x h=>?_,fun t z q n m new h=>?_⟩
  all_goals
   simp only [get] at h
   split at h
  ·cases h; exact .nr (nrO _ hro.oo.nr)
  ·exact (hG4.spec t x h).2.1
  ·cases h
  ·exact (hG4.spec t _ h).2.2 _ _ _ _ _ rfl
 have hl:=hv.len
 have e5:get ((d,res)::(r,.obj [oR en L'])::G2)=upd (get ((r,.obj [oR en L'])::G2)) d res:=by
  funext t
  rw [get_cons]
 rw [e5]
 refine ECall.ok (first:=[]) (caps:=[]) (ys:=.brw en.z ⟨r,[0]⟩ L.length::ys) (tk:=fun k=>k == 0) (vw:=true) (outs:=some (oR en L')::args.map fun _=>none) (g1:=setP g ⟨r,[0]⟩ .dead) (g2:=get ((r,.obj [.dead])::G2)) (g4:=get ((r,.obj [oR en L'])::G2)) (l:=[(⟨r,[0]⟩,oR en L')]) (ks:=fun _=>0) (xs0:=.brw en.z ⟨r,[0]⟩ L.length::ys.map fun _=>.dead) (xs1:=oR en L::ys.map fun _=>.dead) (args:=oR en L::args) (res:=res) ho hd rfl (by simpa using hx)
  ⟨hf,by simp,by simpa using hl,fun k x h=>?_,?_,keep2,fun k x y hx hy=>?_,hcon,by simpa using hr.oo,fun k x h=>?_,fun j p x hj=>?_,by simp,fun i j hi hj _=>by simp at hi hj; omega,by rw [put]; exact keep4⟩ ?_ hN Bk.refl
 ·simp only [List.nil_append,List.append_nil] at h
  cases k with
  | zero=>exact .inl h
  | succ k =>
   refine .inr ?_
   simp only [List.getElem?_cons_succ] at h ⊢
   rw [List.getElem?_map,h]; rfl
 ·have h1:Take (setP g ⟨r,[0]⟩ .dead) ((rowc en L).take (L.length * en.z)) (rowc en L) (setP g ⟨r,[0]⟩ .dead):=by rw [htk]; exact .nr (rowc_nr' en L)
  refine .brw (N:=L.length) (by simp [atP,hs,AV.at,AV.kids]) (Nat.le_refl _) h1 (.nr fun x hx=>?_)
  obtain ⟨_,_,rfl⟩:=List.mem_map.1 hx
  exact .dead
 ·simp only [List.nil_append,List.append_nil] at hx
  cases k with
  | zero=>simpa using hy
  | succ k =>
   simp only [List.getElem?_cons_succ] at hx hy
   exact ⟨rfl,hv.get k x y hx hy⟩
 ·cases k with
  | zero=>simp only [List.getElem?_cons_zero,Option.some.injEq] at h; subst h; exact hro.oo
  | succ k =>
   simp only [List.getElem?_cons_succ,List.getElem?_map] at h
   cases ha:args[k]? <;> rw [ha] at h <;> cases h
 ·cases j with
  | succ j=>simp at hj
  | zero =>
   simp only [List.getElem?_cons_zero,Option.some.injEq,Prod.mk.injEq] at hj
   obtain ⟨rfl,rfl⟩:=hj
   exact ⟨rfl,by simp [atP,dead2,AV.at,AV.kids],.inl ⟨en.z,L.length,rowc en L,rfl,by simp [atP,hs,AV.at,AV.kids]⟩⟩
 ·simp only [get,if_neg (Ne.symm hrd')]; exact hg
theorem CallOk.tc {o:Oper}{x:Operand}{tys:Array TypeId}{f:FuncId}{res:AV}{en:En α}{L:List α}{G2:List (Nat × AV)}(ho:o.op=.call { callee:=.value (.func f),args:=#[x],argTypes:=tys }) (hd:o.dst=some d) (hx:Own.opds g [x]=some [.brw en.z ⟨r,[0]⟩ L.length])
  (hs:g r=some (.obj [oR en L])) (hcon:Con P f [oR en L] [none] res) (hf:callT P f=true) [hr:NRc res]
  (hG:Trim false (setP g ⟨r,[0]⟩ .dead) (get G2) G2) (hg:get G2 d=none) (hN:N.ok d=true) :
  CallOk P N g o d (get ((d,res)::G2)):=by
 have htk:(rowc en L).take (L.length * en.z)=rowc en L:=List.take_of_length_le (by rw [rowc_len]; exact Nat.le_refl _)
 have keep2:Keep (setP g ⟨r,[0]⟩ .dead) (get G2):=by
  refine ⟨fun t x h=>?_,fun t x h=>(hG.spec t x h).2.1,fun t z q n m new h=>(hG.spec t _ h).2.2 _ _ _ _ _ rfl⟩
  obtain ⟨⟨y,h1,_,h3⟩,_⟩:=hG.spec t x h
  rw [<- h3 rfl]; exact h1
 have keep4:Keep (get G2) (get G2):=⟨fun t x h=>h,fun t x h=>(hG.spec t x h).2.1,fun t z q n m new h=>(hG.spec t _ h).2.2 _ _ _ _ _ rfl⟩
 have e5:get ((d,res)::G2)=upd (get G2) d res:=by
  funext t
  rw [get_cons]
 rw [e5]
 refine ECall.ok (first:=[]) (caps:=[]) (ys:=[.brw en.z ⟨r,[0]⟩ L.length]) (tk:=fun k=>k == 0) (vw:=false) (outs:=[none]) (g1:=setP g ⟨r,[0]⟩ .dead) (g2:=get G2) (g4:=get G2) (l:=[]) (ks:=fun _=>0) (xs0:=[.brw en.z ⟨r,[0]⟩ L.length]) (xs1:=[oR en L]) (args:=[oR en L]) (res:=res) ho hd rfl hx
  ⟨hf,by simp,by simp,fun k x h=>.inl h,?_,keep2,fun k x y hx hy=>?_,hcon,by simpa using hr.nr,fun k x h=>?_,fun j p x hj=>by simp at hj,by simp,fun i j hi hj _=>by simp at hi,keep4⟩ hg hN Bk.refl
 ·have h1:Take (setP g ⟨r,[0]⟩ .dead) ((rowc en L).take (L.length * en.z)) (rowc en L) (setP g ⟨r,[0]⟩ .dead):=by rw [htk]; exact .nr (rowc_nr' en L)
  exact .brw (N:=L.length) (by simp [atP,hs,AV.at,AV.kids]) (Nat.le_refl _) h1 (.nr fun x hx=>by simp at hx)
 ·cases k with
  | zero=>simpa using hy
  | succ k=>simp at hy
 ·cases k with
  | zero=>simp at h
  | succ k=>simp at h
end
end Go.Own
namespace Go.Own
open Go
theorem q {α:Sort _}{a:α}:a=a:=rfl
abbrev S0:ByteArray:={ data:=#[] }
theorem ode {p:Prop} [Decidable p] (h:decide p=true):p:=of_decide_eq_true h
theorem tn2 {b:Bool}{g h:Gst}{s0 s1:Nat}{x0 x1:AV}(h0:g s0=some x0) [NRc x0] (h1:g s1=some x1) [NRc x1]:Trim b g h [(s0,x0),(s1,x1)]:=(.n h0 (.n h1 .nil))
theorem tn3 {b:Bool}{g h:Gst}{s0 s1 s2:Nat}{x0 x1 x2:AV}(h0:g s0=some x0) [NRc x0] (h1:g s1=some x1) [NRc x1] (h2:g s2=some x2) [NRc x2]:Trim b g h [(s0,x0),(s1,x1),(s2,x2)]:=(.n h0 (.n h1 (.n h2 .nil)))
theorem tn4 {b:Bool}{g h:Gst}{s0 s1 s2 s3:Nat}{x0 x1 x2 x3:AV}(h0:g s0=some x0) [NRc x0] (h1:g s1=some x1) [NRc x1] (h2:g s2=some x2) [NRc x2] (h3:g s3=some x3) [NRc x3]:Trim b g h [(s0,x0),(s1,x1),(s2,x2),(s3,x3)]:=(.n h0 (.n h1 (.n h2 (.n h3 .nil))))
theorem tn5 {b:Bool}{g h:Gst}{s0 s1 s2 s3 s4:Nat}{x0 x1 x2 x3 x4:AV}(h0:g s0=some x0) [NRc x0] (h1:g s1=some x1) [NRc x1] (h2:g s2=some x2) [NRc x2] (h3:g s3=some x3) [NRc x3] (h4:g s4=some x4) [NRc x4]:Trim b g h [(s0,x0),(s1,x1),(s2,x2),(s3,x3),(s4,x4)]:=(.n h0 (.n h1 (.n h2 (.n h3 (.n h4 .nil)))))
theorem tn6 {b:Bool}{g h:Gst}{s0 s1 s2 s3 s4 s5:Nat}{x0 x1 x2 x3 x4 x5:AV}(h0:g s0=some x0) [NRc x0] (h1:g s1=some x1) [NRc x1] (h2:g s2=some x2) [NRc x2] (h3:g s3=some x3) [NRc x3] (h4:g s4=some x4) [NRc x4] (h5:g s5=some x5) [NRc x5]:Trim b g h [(s0,x0),(s1,x1),(s2,x2),(s3,x3),(s4,x4),(s5,x5)]:=(.n h0 (.n h1 (.n h2 (.n h3 (.n h4 (.n h5 .nil))))))
theorem tn7 {b:Bool}{g h:Gst}{s0 s1 s2 s3 s4 s5 s6:Nat}{x0 x1 x2 x3 x4 x5 x6:AV}(h0:g s0=some x0) [NRc x0] (h1:g s1=some x1) [NRc x1] (h2:g s2=some x2) [NRc x2] (h3:g s3=some x3) [NRc x3] (h4:g s4=some x4) [NRc x4] (h5:g s5=some x5) [NRc x5] (h6:g s6=some x6) [NRc x6]:Trim b g h [(s0,x0),(s1,x1),(s2,x2),(s3,x3),(s4,x4),(s5,x5),(s6,x6)]:=(.n h0 (.n h1 (.n h2 (.n h3 (.n h4 (.n h5 (.n h6 .nil)))))))
theorem tn8 {b:Bool}{g h:Gst}{s0 s1 s2 s3 s4 s5 s6 s7:Nat}{x0 x1 x2 x3 x4 x5 x6 x7:AV}(h0:g s0=some x0) [NRc x0] (h1:g s1=some x1) [NRc x1] (h2:g s2=some x2) [NRc x2] (h3:g s3=some x3) [NRc x3] (h4:g s4=some x4) [NRc x4] (h5:g s5=some x5) [NRc x5] (h6:g s6=some x6) [NRc x6] (h7:g s7=some x7) [NRc x7]:Trim b g h [(s0,x0),(s1,x1),(s2,x2),(s3,x3),(s4,x4),(s5,x5),(s6,x6),(s7,x7)]:=(.n h0 (.n h1 (.n h2 (.n h3 (.n h4 (.n h5 (.n h6 (.n h7 .nil))))))))
theorem tn9 {b:Bool}{g h:Gst}{s0 s1 s2 s3 s4 s5 s6 s7 s8:Nat}{x0 x1 x2 x3 x4 x5 x6 x7 x8:AV}(h0:g s0=some x0) [NRc x0] (h1:g s1=some x1) [NRc x1] (h2:g s2=some x2) [NRc x2] (h3:g s3=some x3) [NRc x3] (h4:g s4=some x4) [NRc x4] (h5:g s5=some x5) [NRc x5] (h6:g s6=some x6) [NRc x6] (h7:g s7=some x7) [NRc x7] (h8:g s8=some x8) [NRc x8]:Trim b g h [(s0,x0),(s1,x1),(s2,x2),(s3,x3),(s4,x4),(s5,x5),(s6,x6),(s7,x7),(s8,x8)]:=(.n h0 (.n h1 (.n h2 (.n h3 (.n h4 (.n h5 (.n h6 (.n h7 (.n h8 .nil)))))))))
theorem tn10 {b:Bool}{g h:Gst}{s0 s1 s2 s3 s4 s5 s6 s7 s8 s9:Nat}{x0 x1 x2 x3 x4 x5 x6 x7 x8 x9:AV}(h0:g s0=some x0) [NRc x0] (h1:g s1=some x1) [NRc x1] (h2:g s2=some x2) [NRc x2] (h3:g s3=some x3) [NRc x3] (h4:g s4=some x4) [NRc x4] (h5:g s5=some x5) [NRc x5] (h6:g s6=some x6) [NRc x6] (h7:g s7=some x7) [NRc x7] (h8:g s8=some x8) [NRc x8] (h9:g s9=some x9) [NRc x9]:Trim b g h [(s0,x0),(s1,x1),(s2,x2),(s3,x3),(s4,x4),(s5,x5),(s6,x6),(s7,x7),(s8,x8),(s9,x9)]:=(.n h0 (.n h1 (.n h2 (.n h3 (.n h4 (.n h5 (.n h6 (.n h7 (.n h8 (.n h9 .nil))))))))))
theorem tn11 {b:Bool}{g h:Gst}{s0 s1 s2 s3 s4 s5 s6 s7 s8 s9 s10:Nat}{x0 x1 x2 x3 x4 x5 x6 x7 x8 x9 x10:AV}(h0:g s0=some x0) [NRc x0] (h1:g s1=some x1) [NRc x1] (h2:g s2=some x2) [NRc x2] (h3:g s3=some x3) [NRc x3] (h4:g s4=some x4) [NRc x4] (h5:g s5=some x5) [NRc x5] (h6:g s6=some x6) [NRc x6] (h7:g s7=some x7) [NRc x7] (h8:g s8=some x8) [NRc x8] (h9:g s9=some x9) [NRc x9] (h10:g s10=some x10) [NRc x10]:Trim b g h [(s0,x0),(s1,x1),(s2,x2),(s3,x3),(s4,x4),(s5,x5),(s6,x6),(s7,x7),(s8,x8),(s9,x9),(s10,x10)]:=(.n h0 (.n h1 (.n h2 (.n h3 (.n h4 (.n h5 (.n h6 (.n h7 (.n h8 (.n h9 (.n h10 .nil)))))))))))
section
variable {P:Program}{N:Rm}{ops:Array Oper}{g:Gst}{K:Gst->Prop}{l:List Oper}{d t:Nat}{ty:TypeId}{pos:String}{after:Array Edge}{v:Value}
theorem Fi {G1:List (Nat × AV)}(h:Trim true g (get G1) G1):RunL P N ops [] g fun g'=>Wk g' (get G1):=.fin h
theorem Vm (h:g t=some (.lit v)) (hk:RunL P N ops l (upd g d (.lit v)) K) (hN:N.ok d=true:=by rfl) (hf:g d=none:=by rfl):RunL P N ops (⟨some d,.move (.tmp t),ty,pos,after,none⟩::l) g K:=Rv (O.mv (.lit h)) hk hN hf
theorem Va (h:g t=some (.lit v)) (hk:RunL P N ops l (upd g d (.lit v)) K) (hN:N.ok d=true:=by rfl) (hf:g d=none:=by rfl):RunL P N ops (⟨some d,.assign (.tmp t),ty,pos,after,none⟩::l) g K:=Rv (O.az (.lit h)) hk hN hf
theorem Vk (h:ofConst v=.lit v) (hk:RunL P N ops l (upd g d (.lit v)) K) (hN:N.ok d=true:=by rfl) (hf:g d=none:=by rfl):RunL P N ops (⟨some d,.assign (.const v),ty,pos,after,none⟩::l) g K:=Rv (O.az (.k h)) hk hN hf
end
end Go.Own
namespace Go.Own
open Go
section
variable {α:Type}{g:Gst}
end
end Go.Own
namespace Go.Proofs
open Go Go.Shelf Go.RowKit Go.Lib Go.Sort Go.Own
def Try.sortS70_ren:Go.Shelf.Ren:=⟨fun | 6=>70 | 15=>96 | 14=>98 | 28=>118 | 29=>119 | 20=>120 | 21=>121 | 22=>122 | 23=>123 | 24=>124 | 25=>125 | 26=>126 | 27=>127 | 46=>140 | 47=>136 | 48=>137 | 49=>141 | 50=>142 | 57=>148 | n=>n,fun | 22=>66 | 24=>72 | 25=>129 | 3=>3 | 39=>151 | 0=>0 | 53=>170 | 55=>126 | 4=>4 | 46=>164 | 45=>163 | 50=>123 | 5=>5 | 9=>9 | 66=>184 | 70=>188 | 76=>192 | 77=>193 | n=>n,fun | n=>n⟩
theorem Try.sortS70:Go.Proofs.SlLaysF0.n6 Try.prog Try.sortS70_ren:={
 mixed:=by kernel_rfl
 f6:=⟨Try.f70.name,by decide,Try.func70.trans (congrArg some (by kernel_rfl))⟩
 f14:=⟨Try.f98.name,by decide,Try.func98.trans (congrArg some (by kernel_rfl))⟩
 f15:=Try.func96.trans (congrArg some (by kernel_rfl))
 f20:=⟨Try.f120.name,by decide,Try.func120.trans (congrArg some (by kernel_rfl))⟩
 f21:=⟨Try.f121.name,by decide,Try.func121.trans (congrArg some (by kernel_rfl))⟩
 f22:=⟨Try.f122.name,by decide,Try.func122.trans (congrArg some (by kernel_rfl))⟩
 f23:=⟨Try.f123.name,by decide,Try.func123.trans (congrArg some (by kernel_rfl))⟩
 f24:=⟨Try.f124.name,by decide,Try.func124.trans (congrArg some (by kernel_rfl))⟩
 f25:=⟨Try.f125.name,by decide,Try.func125.trans (congrArg some (by kernel_rfl))⟩
 f26:=⟨Try.f126.name,by decide,Try.func126.trans (congrArg some (by kernel_rfl))⟩
 f27:=⟨Try.f127.name,by decide,Try.func127.trans (congrArg some (by kernel_rfl))⟩
 f28:=Try.func118.trans (congrArg some (by kernel_rfl))
 f29:=Try.func119.trans (congrArg some (by kernel_rfl))
 f46:=⟨Try.f140.name,by decide,Try.func140.trans (congrArg some (by kernel_rfl))⟩
 f47:=Try.func136.trans (congrArg some (by kernel_rfl))
 f48:=Try.func137.trans (congrArg some (by kernel_rfl))
 f49:=⟨Try.f141.name,by decide,Try.func141.trans (congrArg some (by kernel_rfl))⟩
 f50:=⟨Try.f142.name,by decide,Try.func142.trans (congrArg some (by kernel_rfl))⟩
 f57:=⟨Try.f148.name,by decide,Try.func148.trans (congrArg some (by kernel_rfl))⟩
 t0:=Try.underlying0
 a0:=Try.isAgg0
 z0:=Try.sizeOf0
 v0:=Try.zeroValue0
 t3:=Try.underlying3
 a3:=Try.isAgg3
 z3:=Try.sizeOf3
 v3:=Try.zeroValue3
 t4:=Try.underlying4
 a4:=Try.isAgg4
 z4:=Try.sizeOf4
 v4:=Try.zeroValue4
 t5:=Try.underlying5
 a5:=Try.isAgg5
 z5:=Try.sizeOf5
 v5:=Try.zeroValue5
 t9:=Try.underlying9
 a9:=Try.isAgg9
 z9:=Try.sizeOf9
 v9:=Try.zeroValue9
 t22:=Try.underlying66
 a22:=Try.isAgg66
 z22:=Try.sizeOf66
 v22:=Try.zeroValue66
 t25:=Try.underlying129
 a25:=Try.isAgg129
 z25:=Try.sizeOf129
 v25:=Try.zeroValue129
 t39:=Try.underlying151
 a39:=Try.isAgg151
 z39:=Try.sizeOf151
 v39:=Try.zeroValue151
 t45:=Try.underlying163
 a45:=Try.isAgg163
 z45:=Try.sizeOf163
 v45:=Try.zeroValue163
 t46:=Try.underlying164
 a46:=Try.isAgg164
 z46:=Try.sizeOf164
 v46:=Try.zeroValue164
 t50:=Try.underlying123
 a50:=Try.isAgg123
 z50:=Try.sizeOf123
 v50:=Try.zeroValue123
 t53:=Try.underlying170
 a53:=Try.isAgg170
 z53:=Try.sizeOf170
 v53:=Try.zeroValue170
 t55:=Try.underlying126
 a55:=Try.isAgg126
 z55:=Try.sizeOf126
 v55:=Try.zeroValue126
 t66:=Try.underlying184
 a66:=Try.isAgg184
 z66:=Try.sizeOf184
 v66:=Try.zeroValue184
 t70:=Try.underlying188
 a70:=Try.isAgg188
 z70:=Try.sizeOf188
 v70:=Try.zeroValue188
 t76:=Try.underlying192
 a76:=Try.isAgg192
 z76:=Try.sizeOf192
 v76:=Try.zeroValue192
 t77:=Try.underlying193
 a77:=Try.isAgg193
 z77:=Try.sizeOf193
 v77:=Try.zeroValue193 }
end Go.Proofs
section
namespace Go.Proofs
open Go Go.Shelf Go.RowKit Go.Lib Go.Sort Go.Own
set_option maxHeartbeats 4000000
set_option maxRecDepth 1000000
set_option linter.unusedVariables false
theorem clN81 (w:World) (n c:Nat):Calls Try.prog 81 #[.slice none n c] w fun e' w'=>e'=.returned (.slice none 0 0)/\w'=w:=by
 have q22:∀ (w:World) (a:Option Addr) (n c n' c':Nat),(binOp .eql 66 (.slice a n c) (.slice none n' c')).run Try.prog w=.ok (.bool a.isNone) w:=fun w a n c n' c'=>Lib.run_eql_slice_nil w _ _ a n c n' c' Try.underlying66
 go_enter Try.func81,Try.ntmps81
 go_wp2
 go_ret
 exact ⟨rfl,rfl⟩
theorem clS81 (w:World) (ad:Addr) (n c:Nat) (news:List Value) (hl:news.length=n * 2) (hn:n<=1000000000000) (hc:∀ j u,news[j]?=some u->w.cell? (ad.add j)=some u) (h1:∀ u∈news,u.oneCell'=true) :
  Calls Try.prog 81 #[.slice (some ad) n c] w fun e' w'=>∃ v' t,e'=.returned v'/\w'.ownsRow 0 t 2 v' n news/\(∀ c,v'.ownBlock=some c->w.heap.size<=c)/\Fr w w' fun _=>False:=by
 have q22:∀ (w:World) (a:Option Addr) (n c n' c':Nat),(binOp .eql 66 (.slice a n c) (.slice none n' c')).run Try.prog w=.ok (.bool a.isNone) w:=fun w a n c n' c'=>Lib.run_eql_slice_nil w _ _ a n c n' c' Try.underlying66
 obtain ⟨i,zv,ht,hi,hz2,hb2,h0,hz,hzs⟩:=appT_spec (P:=Try.prog) (t:=66) (e:=72) (z:=2) (b:=16) (by kernel_rfl)
 have A:Aside (∀ j u,news[j]?=some u->w.cell? (ad.add j)=some u):=hc
 clear hc
 go_enter Try.func81,Try.ntmps81
 go_wp2_with (at_builtin; refine wpList_app_fr rfl _ _ 66 rfl 72 i zv ht hi hz (by rw [hz2]; exact hzs) (by rw [hz2]; exact h0) _ 0 [] rfl ?qc0 ad n c news rfl ?qc1 ?qc2 ?qc3 ?qc4 ?qc5 ?_)
 case qc0=>rw [hz2]; exact World.ownsRow_made w #[] 0 (Nat.zero_le _) (Nat.zero_le _) (by simp)
 case qc1=>rw [hz2]; exact hl
 case qc2 =>
  intro j u hj
  exact Lib.cell?_alloc_some _ (A.out j u hj)
 case qc3=>exact h1
 case qc4=>rw [Nat.zero_add]; simp only [maxLen]; omega
 case qc5=>rw [hb2,Nat.zero_add]; omega
 intro v' w1 e2 hA
 go_wp2
 go_ret
 obtain ⟨_,hnew,hfr,hblk,_⟩:=hA
 refine ⟨v',e2,rfl,by simpa [hz2] using hnew,fun c hc=>?_,?_⟩
 ·rcases hblk c hc with h | h
  ·cases h; exact Nat.le_refl _
  ·exact Nat.le_trans (Fr.alloc w _ (fun _=>False) ⟨_,_,rfl⟩).size h
 ·exact (Fr.alloc w _ _ ⟨_,_,rfl⟩).trans hfr fun b hb hu=>by cases hu; exact absurd hb (Nat.lt_irrefl _)
end Go.Proofs
end
section
namespace Go.Proofs
open Go Go.Shelf Go.RowKit Go.Lib Go.Sort
variable {α:Type} [Inhabited α] [DecidableEq α]
set_option maxHeartbeats 4000000
set_option maxRecDepth 1000000
set_option linter.unusedVariables false
theorem compN72 (w:World) (p:Option Addr) (cap:Nat):Calls Try.prog 72 #[.slice p 0 cap] w fun e' w'=>e'=.returned (.slice p 0 cap)/\w'=w:=by
 go_enter Try.func72,Try.ntmps72
 go_wp2
 go_ret
 exact ⟨rfl,rfl⟩
theorem compS72 (e0 e1:α->Value) (hO0:OneCell e0) (hO1:OneCell e1)
  (heq':∀ (x y:α) (w:World),Sem.run Try.prog (binOp .eql 72 (.agg #[e0 x,e1 x]) (.agg #[e0 y,e1 y])) w=.ok (.bool (decide (x=y))) w)
  (hne':∀ (x y:α) (w:World),Sem.run Try.prog (binOp .neq 72 (.agg #[e0 x,e1 x]) (.agg #[e0 y,e1 y])) w=.ok (.bool (!decide (x=y))) w)
  (hgd':∀ (op:BinOp) (a b:Operand) (x y:α) (w:World),Sem.run Try.prog (eqGuard op 72 a b (.agg #[e0 x,e1 x]) (.agg #[e0 y,e1 y])) w=.ok () w)
  (hz:[e0 default,e1 default]=[.int .i64 0,.int .i64 0])
  (w:World) (blk cap:Nat) (d:Array α) (hpos:0<d.size) (hH:HoldsK (fun x=>[e0 x,e1 x]) 2 w blk 0 d) (hblk:blk<w.heap.size) (hcap:d.size<=cap) (hbig:d.size<4611686018427387904) :
  Calls Try.prog 72 #[.slice (some ⟨blk,0,none⟩) d.size cap] w fun e' w'=>e'=.returned (.slice (some ⟨blk,0,none⟩) (compactUpTo d d.size).length cap)/\∃ q,w'=putRowK (fun x=>[e0 x,e1 x]) 2 (Sort.ahead w q) blk 0 (compactUpTo d d.size++List.replicate (d.size - (compactUpTo d d.size).length) default).toArray:=by
 have hst0:=hO0.store Try.prog
 have hst1:=hO1.store Try.prog
 have mixed:Try.prog.follows .mixedOrders=true:=by kernel_rfl
 have hcell:∀ (W:World) (dk:Array α),dk.size=d.size->HoldsK (fun x=>[e0 x,e1 x]) 2 W blk 0 dk->∀ j,j<d.size->(W.cell? ⟨blk,j * 2,none⟩=some (e0 dk[j]!)/\W.frozen? ⟨blk,j * 2,none⟩=false)/\(W.cell? ⟨blk,j * 2+1,none⟩=some (e1 dk[j]!)/\W.frozen? ⟨blk,j * 2+1,none⟩=false):=by
  intro W dk hs h j hj
  obtain ⟨a1,a2⟩:=h (j * 2) (by simp; omega)
  obtain ⟨b1,b2⟩:=h (j * 2+1) (by simp; omega)
  rw [get_flatK _ _ _ _ (by omega),Nat.zero_add,show j * 2 / 2=j by omega,show j * 2 % 2=0 by omega] at a1
  rw [get_flatK _ _ _ _ (by omega),Nat.zero_add,show (j * 2+1) / 2=j by omega,show (j * 2+1) % 2=1 by omega] at b1
  rw [Nat.zero_add] at a2 b2
  exact ⟨⟨a1,a2⟩,⟨b1,b2⟩⟩
 have same:∀ q,(∀ j,j<d.size->keeps d j=true)->(compactUpTo d d.size).length=d.size/\w.drewN q=putRowK (fun x=>[e0 x,e1 x]) 2 (Sort.ahead w q) blk 0 (compactUpTo d d.size++List.replicate (d.size - (compactUpTo d d.size).length) default).toArray:=by
  intro q hall
  have e:compactUpTo d d.size=d.toList:=by rw [compactUpTo_all d _ hall,range_map_get]
  rw [e]
  refine ⟨by simp,?_⟩
  simp only [Array.length_toList,Nat.sub_self,List.replicate_zero,List.append_nil,Array.toArray_toList]
  exact (putRowK_self _ 2 (Sort.ahead w q) blk 0 d (holdsK_ahead _ 2 w q blk 0 d hH)).symm
 have HS:Aside (∀ q,(∀ j,j<d.size->keeps d j=true)->(compactUpTo d d.size).length=d.size/\w.drewN q=putRowK (fun x=>[e0 x,e1 x]) 2 (Sort.ahead w q) blk 0 (compactUpTo d d.size++List.replicate (d.size - (compactUpTo d d.size).length) default).toArray):=same
 clear same
 by_cases h2:d.size<2
 ·have HH:Aside (HoldsK (fun x=>[e0 x,e1 x]) 2 w blk 0 d):=hH
  clear hH hcell
  go_enter Try.func72,Try.ntmps72
  go_wp2
  go_ret
  obtain ⟨e1,e2⟩:=HS.out 0 (fun j hj=>keeps_lt_one d j (by omega))
  exact ⟨by rw [e1]; rfl,0,e2⟩
 ·go_enter Try.func72,Try.ntmps72
  go_wp2
  go_loopg [3] d.size (fun g s3 wr=>∃ k q:Nat,1<=k/\k<=d.size/\d.size - k<=g/\s3=.int .i64 k/\wr=w.drewN q/\∀ j,j<k->keeps d j=true)
  case atStart=>exact ⟨1,0,Nat.le_refl _,by omega,by omega,rfl,rfl,keeps_lt_one d⟩
  case round =>
   obtain ⟨k,q,hk1,hk,hg,rfl,rfl,hall⟩:=hrel
   by_cases hlt:k<d.size
   ·obtain ⟨⟨c1,f1⟩,⟨c1',f1'⟩⟩:=hcell w d rfl hH k hlt
    obtain ⟨⟨c0,f0⟩,⟨c0',f0'⟩⟩:=hcell w d rfl hH (k - 1) (by omega)
    have A:Aside (∀ j,j<k->keeps d j=true):=hall
    have HH:Aside (HoldsK (fun x=>[e0 x,e1 x]) 2 w blk 0 d):=hH
    have HC:Aside (∀ (W:World) (dk:Array α),dk.size=d.size->HoldsK (fun x=>[e0 x,e1 x]) 2 W blk 0 dk->∀ j,j<d.size->(W.cell? ⟨blk,j * 2,none⟩=some (e0 dk[j]!)/\W.frozen? ⟨blk,j * 2,none⟩=false)/\(W.cell? ⟨blk,j * 2+1,none⟩=some (e1 dk[j]!)/\W.frozen? ⟨blk,j * 2+1,none⟩=false)):=hcell
    clear hall hH hcell
    generalize hx:d[k]! = x at c1 c1'
    generalize hy:d[k - 1]! = y at c0 c0'
    have B:Aside (d[k]! = x/\d[k - 1]! = y):=⟨hx,hy⟩
    clear hx hy
    by_cases hdup:x=y
    ·subst hdup
     go_wp2_with fail
     go_region_o
     go_wp2
     clear c0 c1 f0 f1 c0' c1' f0' f1'
     go_loopg [3,5] d.size (fun g s3 s5 wr=>∃ (kk k2 q2:Nat) (dk:Array α),s3=.int .i64 kk/\s5=.int .i64 k2/\1<=k2/\k+k2<=d.size/\d.size - (k+k2)<=g/\wr=putRowK (fun x=>[e0 x,e1 x]) 2 (Sort.ahead w q2) blk 0 dk/\CompInv d (k+k2) kk dk)
     case atStart=>exact ⟨k,1,q+1,d,rfl,rfl,Nat.le_refl _,by omega,by omega,(putRowK_self _ 2 (Sort.ahead w (q+1)) blk 0 d (holdsK_ahead _ 2 w (q+1) blk 0 d HH.out)).symm,CompInv.start A.out (keeps_neg (by omega) (by rw [B.out.1,B.out.2]))⟩
     case round =>
      obtain ⟨kk,k2,q2,dk,rfl,rfl,h1,hle,hg2,hwr,hI⟩:=hrel
      have hkk:=hI.lt
      have hds:=hI.size
      have hHk:HoldsK (fun x=>[e0 x,e1 x]) 2 wr blk 0 dk:=by rw [hwr]; exact holdsK_putRowK _ 2 _ blk 0 d dk (holdsK_ahead _ 2 w q2 blk 0 d HH.out) hds
      have hck:=HC.out wr dk hds hHk
      have W2:Aside (wr=putRowK (fun x=>[e0 x,e1 x]) 2 (Sort.ahead w q2) blk 0 dk):=hwr
      have I2:Aside (CompInv d (k+k2) kk dk):=hI
      clear hwr
      by_cases hlt2:k+k2<d.size
      ·obtain ⟨⟨cm,_⟩,⟨cm',_⟩⟩:=hck (k+k2) (by omega)
       obtain ⟨⟨cp,_⟩,⟨cp',_⟩⟩:=hck (k+k2 - 1) (by omega)
       obtain ⟨⟨ck,fk⟩,⟨ck',fk'⟩⟩:=hck kk (by omega)
       rw [hI.high (k+k2) (by omega),show (k+k2) * 2=k * 2+k2 * 2 by omega] at cm cm'
       rw [hI.high (k+k2 - 1) (by omega),show (k+k2 - 1) * 2=k * 2+(k2 - 1) * 2 by omega] at cp cp'
       clear hHk hI hck
       generalize hu:d[k+k2]! = u at cm cm'
       generalize hv:d[k+k2 - 1]! = v at cp cp'
       generalize dk[kk]! = old at ck ck'
       have C:Aside (d[k+k2]! = u/\d[k+k2 - 1]! = v):=⟨hu,hv⟩
       clear hu hv
       by_cases huv:u=v
       ·subst huv
        go_wp2_with fail
        go_region_o
        go_wp2
        go_roundg (d.size - (k+(k2+1)))
        case measure=>omega
        case rel=>exact ⟨kk,k2+1,q2+1,dk,rfl,by go_num,by omega,by omega,Nat.le_refl _,by rw [W2.out]; rfl,I2.out.skip (keeps_neg (by omega) (by rw [C.out.1,C.out.2]))⟩
       ·go_wp2_with fail
        go_region_o
        go_wp2
        go_roundg (d.size - (k+(k2+1)))
        case measure=>omega
        case rel =>
         refine ⟨kk+1,k2+1,q2+1,dk.setIfInBounds kk u,by go_num,by go_num,by omega,by omega,Nat.le_refl _,?_,by have:=I2.out.keep hlt2 (keeps_pos (by rw [C.out.1,C.out.2]; exact huv)); rwa [C.out.1] at this⟩
         have:=putRowK_lay (fun x=>[e0 x,e1 x]) (Sort.ahead w (q2+1)) blk dk kk [u] (by simp; omega)
         rw [lay_one,flatK_one] at this
         rw [<- this,W2.out]
         rfl
      ·have hend:k+k2=d.size:=by omega
       have hzc:(Builtin.zeroCells (Value.agg #[.int .i64 0,.int .i64 0]).cells (d.size - kk)).toList=(flatK (fun x=>[e0 x,e1 x]) 2 (List.replicate (d.size - kk) (default:α)).toArray).toList:=by
        rw [show (Value.agg #[.int .i64 0,.int .i64 0]).cells=#[Value.int .i64 0,.int .i64 0] from rfl,zc_two,fk_two _ _ _ hz]
       have hfl:((flatK (fun x=>[e0 x,e1 x]) 2 (List.replicate (d.size - kk) (default:α)).toArray).toList).length=(d.size - kk) * 2:=by simp
       have hone:∀ v∈(flatK (fun x=>[e0 x,e1 x]) 2 (List.replicate (d.size - kk) (default:α)).toArray).toList,v.oneCell'=true:=by
        intro v hv
        rw [fk_two _ _ _ hz] at hv
        rw [List.eq_of_mem_replicate hv]; rfl
       have hcf:∀ j,j<(d.size - kk) * 2->(wr.cell? ⟨blk,kk * 2+j,none⟩).isSome=true/\wr.frozen? ⟨blk,kk * 2+j,none⟩=false:=by
        intro j hj
        obtain ⟨a1,a2⟩:=hHk (kk * 2+j) (by simp; omega)
        rw [Nat.zero_add] at a1 a2
        exact ⟨by rw [a1]; rfl,a2⟩
       have hcl:∀ ty,(Builtin.clear_ #[66] ty #[.slice (some ⟨blk,kk * 2,none⟩) (d.size - kk) (cap - kk)]).run Try.prog wr=.ok (.tuple #[]) (wr.setCells blk (kk * 2) (flatK (fun x=>[e0 x,e1 x]) 2 (List.replicate (d.size - kk) (default:α)).toArray).toList) :=
        fun ty=>run_clear_cells Try.prog wr 66 72 ty (.agg #[.int .i64 0,.int .i64 0]) Try.underlying66 Try.zeroValue72 blk (kk * 2) _ _ _ hzc hone (by omega) (fun j hj=>(hcf j (by rw [<- hfl]; exact hj)).1) (fun j hj=>(hcf j (by rw [<- hfl]; exact hj)).2)
       clear hHk hI hck hzc hone hfl hcf
       go_wp2
       go_ret
       have hI:=I2.out
       rw [hend] at hI
       refine ⟨by rw [hI.len]; rfl,q2,?_⟩
       rw [hI.len,<- hI.done default,<- putRowK_lay _ _ blk dk kk _ (by simp; omega),<- W2.out,List.toArray_replicate]
    ·go_wp2_with fail
     go_region_o
     go_wp2
     go_roundg (d.size - (k+1))
     case measure=>omega
     case rel =>
      refine ⟨k+1,q+1,by omega,by omega,Nat.le_refl _,by go_num,rfl,fun j hj=>?_⟩
      by_cases e:j=k
      ·subst e
       exact keeps_pos (by rw [B.out.1,B.out.2]; exact hdup)
      ·exact A.out j (by omega)
   ·have:k=d.size:=by omega
    subst this
    have HH:Aside (HoldsK (fun x=>[e0 x,e1 x]) 2 w blk 0 d):=hH
    clear hH hcell
    go_wp2
    go_ret
    obtain ⟨e1,e2⟩:=HS.out q hall
    exact ⟨by rw [e1]; rfl,q,e2⟩
end Go.Proofs
end
namespace Go.Proofs
open Go Go.Own
set_option maxRecDepth 100000
set_option linter.unusedVariables false
def pf28 (a0:Int):Option (ByteArray) :=
 ((bif decide (a0<0) then
 some (IntKind.u64.wrap (-(IntKind.u64.wrap a0)))
 else
 some (IntKind.u64.wrap a0))).bind fun j1 =>
 (loopM (R:=ByteArray) (fun (s3:Int × ByteArray) =>
 ((bif decide (0<s3.1) then some true else some (decide (s3.2={ data:=#[] })))).bind fun c7 =>
 (bif c7 then
 (remU s3.1 10).bind fun x9 =>
 (catO (strOfNums [w8 (IntKind.u64.wrap (48+x9))]) s3.2).bind fun x10 =>
 (quoU s3.1 10).bind fun x11 =>
 some (.inl (x11,x10))
 else
 some (.inr s3.2))) (j1,{ data:=#[] })).bind fun x4 =>
 (bif decide (a0<0) then
 (catO ({ data:=#[45] }) x4).bind fun x13 =>
 some x13
 else
 some x4)
def pf144 (a0:Int):Option (Bool) :=
 ((bif decide (97<=a0) then (bif decide (a0<=122) then some true else (bif decide (65<=a0) then (bif decide (a0<=90) then some true else some (decide (a0=95))) else some (decide (a0=95)))) else (bif decide (65<=a0) then (bif decide (a0<=90) then some true else some (decide (a0=95))) else some (decide (a0=95))))).bind fun c7 =>
 some c7
def pf145 (a0:Int):Option (Bool) :=
 ((bif decide (48<=a0) then some (decide (a0<=57)) else some false)).bind fun c2 =>
 some c2
def pf132 (a0:ByteArray) (a1:Int):Option (Int) :=
 (loopM (R:=Int) (fun (s1:Int) =>
 ((bif decide (w64 (a1+s1)<(a0.size:Int)) then ((bidx a0 (w64 (a1+s1))).bind fun x5=>((pf144 x5).bind fun x6=>(bif x6 then some true else (bif decide (0<s1) then ((bidx a0 (w64 (a1+s1))).bind fun x9=>((pf145 x9).bind fun x10=>(bif x10 then some true else ((bidx a0 (w64 (a1+s1))).bind fun x12=>some (decide (x12=46)))))) else some false)))) else some false)).bind fun c13 =>
 (bif c13 then
 some (.inl (w64 (s1+1)))
 else
 some (.inr s1))) 0).bind fun x2 =>
 some x2
def pf105 (a0:ByteArray):Option (Bool) :=
 ((bif decide (1<=(a0.size:Int)) then (bif decide ((a0.size:Int)<=20) then ((pf132 a0 0).bind fun x3=>some (decide (x3=(a0.size:Int)))) else some false) else some false)).bind fun c4 =>
 some c4
def pf130 (a0:Int):Option (Int × Bool) :=
 (bif decide (a0=10) then
 some (110,true)
 else
 (bif decide (a0=9) then
 some (116,true)
 else
 (bif decide (a0=13) then
 some (114,true)
 else
 ((bif decide (a0=92) then
 some (decide (a0=92))
 else
 some (decide (a0=39)))).bind fun j4 =>
 (bif j4 then
 some (a0,true)
 else
 ((bif decide (32<=a0) then some (0,decide (a0<=126)) else some (0,false))).bind fun c8 =>
 some (c8.1,c8.2)))))
structure Sym where
 Name:ByteArray
 Lit:Bool
 Num:Int
 At:Int
 deriving DecidableEq,Inhabited
def pf131 (a0:Sym) (a1:Bool) (a2:Bool):Option (Bool) :=
 (bif a0.Lit then
 ((bif !a2 then some true else (bif !decide ((a0.Name.size:Int)=1) then some true else some (!decide (a0.Num=0))))).bind fun c4 =>
 (bif c4 then
 some false
 else
 (bidx a0.Name 0).bind fun x6 =>
 (pf130 x6).bind fun x7 =>
 some x7.2)
 else
 (((pf105 a0.Name).bind fun x8=>(bif x8 then (bif decide (a0.Num=0) then some true else (bif a1 then (bif decide (1<=a0.Num) then some (decide (a0.Num<=50000)) else some false) else some false)) else some false))).bind fun c13 =>
 some c13)
structure Decl where
 Kind:Int
 Tag:ByteArray
 Syms:(List Sym)
 At:Int
 deriving DecidableEq,Inhabited
def eSym:En Sym:=⟨4,fun x=>[SS x.Name,BB x.Lit,I64 x.Num,I64 x.At],fun _=>rfl,fun _=>NRl.nr⟩
instance:Flat eSym:=⟨fun _=>rfl⟩
instance:OOe eSym:=⟨fun x=>(inferInstance:OOl [SS x.Name,BB x.Lit,I64 x.Num,I64 x.At])⟩
instance:Tw eSym eSym:=⟨rfl,fun x=>(inferInstance:Vws [SS x.Name,BB x.Lit,I64 x.Num,I64 x.At] [SS x.Name,BB x.Lit,I64 x.Num,I64 x.At])⟩
instance {x:Sym}:Vws (eSym.cells x) [SS x.Name,BB x.Lit,I64 x.Num,I64 x.At]:=(inferInstance:Vws [SS x.Name,BB x.Lit,I64 x.Num,I64 x.At] [SS x.Name,BB x.Lit,I64 x.Num,I64 x.At])
def pf104 (a0:Decl):Option (Bool) :=
 ((bif decide (a0.Kind<1) then some true else (bif decide (6<a0.Kind) then some true else (bif decide ((a0.Syms.length:Int)=0) then some true else (bif decide (a0.Kind=6) then (bif !decide ((a0.Syms.length:Int)=1) then some true else (bif !decide (a0.Tag={ data:=#[] }) then some true else (bif decide (a0.Kind=5) then (bif decide (a0.Tag={ data:=#[] }) then some true else some false) else some false))) else (bif decide (a0.Kind=5) then (bif decide (a0.Tag={ data:=#[] }) then some true else (bif !decide (a0.Tag={ data:=#[] }) then ((pf105 a0.Tag).bind fun x12=>some (!x12)) else some false)) else (bif !decide (a0.Tag={ data:=#[] }) then ((pf105 a0.Tag).bind fun x14=>some (!x14)) else some false))))))).bind fun c15 =>
 (bif c15 then
 some false
 else
 (loopM (R:=(Unit) ⊕ (Bool)) (fun (s17:Int) =>
 (bif decide (s17<(a0.Syms.length:Int)) then
 (idx a0.Syms s17).bind fun x22 =>
 (pf131 x22 (decide (a0.Kind=1)) (decide (a0.Kind<5))).bind fun x23 =>
 (bif !x23 then
 some (.inr (.inr false))
 else
 some (.inl (w64 (s17+1))))
 else
 some (.inr (.inl ())))) 0).bind fun x18 =>
 (match x18 with
 | .inl x19 =>
 some true
 | .inr x20 =>
 some x20))
def pf133 (a0:Sym):Option (Bool) :=
 ((bif decide (a0.Name={ data:=#[] }) then (bif !a0.Lit then some (decide (a0.Num=0)) else some false) else some false)).bind fun c3 =>
 some c3
def pf150 (a0:ByteArray) (a1:Int) (a2:ByteArray):Option (Bool) :=
 ((bif decide ((a2.size:Int)<=w64 ((a0.size:Int) - a1)) then ((cutO a0 a1 (w64 (a1+(a2.size:Int)))).bind fun x2=>some (decide (x2=a2))) else some false)).bind fun c3 =>
 some c3
def pf146 (a0:ByteArray) (a1:Int):Option (Int) :=
 (((bidx a0 a1).bind fun x1=>(bif decide (x1=34) then some true else ((bidx a0 a1).bind fun x3=>some (decide (x3=39)))))).bind fun c4 =>
 (bif c4 then
 (loopM (R:=(Unit) ⊕ (Int)) (fun (s6:Int) =>
 ((bif decide (s6<(a0.size:Int)) then ((bidx a0 s6).bind fun x11=>some (!decide (x11=10))) else some false)).bind fun c12 =>
 (bif c12 then
 (bidx a0 s6).bind fun x14 =>
 (bidx a0 a1).bind fun x15 =>
 (bif decide (x14=x15) then
 some (.inr (.inr (w64 (s6+1))))
 else
 (bidx a0 s6).bind fun x17 =>
 (bif decide (x17=92) then
 ((bif decide (w64 (s6+1)<(a0.size:Int)) then ((bidx a0 (w64 (s6+1))).bind fun x20=>some (decide (x20=10))) else some false)).bind fun c21 =>
 (bif c21 then
 some (.inr (.inr (-1)))
 else
 some (.inl (w64 ((w64 (s6+1))+1))))
 else
 some (.inl (w64 (s6+1)))))
 else
 some (.inr (.inl ())))) (w64 (a1+1))).bind fun x7 =>
 (match x7 with
 | .inl x8 =>
 some (-1)
 | .inr x9 =>
 some x9)
 else
 (bidx a0 a1).bind fun x23 =>
 (bif decide (x23=96) then
 (loopM (R:=(Unit) ⊕ (Int)) (fun (s25:Int) =>
 (bif decide (s25<(a0.size:Int)) then
 (bidx a0 s25).bind fun x30 =>
 (bif decide (x30=96) then
 some (.inr (.inr (w64 (s25+1))))
 else
 some (.inl (w64 (s25+1))))
 else
 some (.inr (.inl ())))) (w64 (a1+1))).bind fun x26 =>
 (match x26 with
 | .inl x27 =>
 some (-1)
 | .inr x28 =>
 some x28)
 else
 (pf150 a0 a1 ({ data:=#[47,47] })).bind fun x32 =>
 (bif x32 then
 (loopM (R:=Int) (fun (s34:Int) =>
 ((bif decide (s34<(a0.size:Int)) then ((bidx a0 s34).bind fun x38=>some (!decide (x38=10))) else some false)).bind fun c39 =>
 (bif c39 then
 some (.inl (w64 (s34+1)))
 else
 some (.inr s34))) a1).bind fun x35 =>
 some x35
 else
 (pf150 a0 a1 ({ data:=#[47,42] })).bind fun x41 =>
 (bif x41 then
 (loopM (R:=(Unit) ⊕ (Int)) (fun (s43:Int) =>
 (bif decide (s43<(a0.size:Int)) then
 (pf150 a0 s43 ({ data:=#[42,47] })).bind fun x48 =>
 (bif x48 then
 some (.inr (.inr (w64 (s43+2))))
 else
 some (.inl (w64 (s43+1))))
 else
 some (.inr (.inl ())))) (w64 (a1+2))).bind fun x44 =>
 (match x44 with
 | .inl x45 =>
 some (-1)
 | .inr x46 =>
 some x46)
 else
 some a1))))
def pf134 (a0:ByteArray) (a1:Int):Option (Int) :=
 ((bif decide (a1<0) then some true else (bif decide ((a0.size:Int)<=a1) then some true else ((bidx a0 a1).bind fun x3=>some (!decide (x3=123)))))).bind fun c4 =>
 (bif c4 then
 some (-1)
 else
 (loopM (R:=(Unit) ⊕ (Int)) (fun (s6:Int × Int) =>
 (bif decide (s6.2<(a0.size:Int)) then
 (pf146 a0 s6.2).bind fun x11 =>
 (bif decide (x11<0) then
 some (.inr (.inr (-1)))
 else
 (bif decide (s6.2<x11) then
 some (.inl (s6.1,x11))
 else
 (bidx a0 s6.2).bind fun x14 =>
 ((bif decide (x14=123) then
 some (w64 (s6.1+1))
 else
 some s6.1)).bind fun j15 =>
 (bidx a0 s6.2).bind fun x17 =>
 ((bif decide (x17=125) then
 some (w64 (j15 - 1))
 else
 some j15)).bind fun j18 =>
 (bif decide (j18=0) then
 some (.inr (.inr (w64 (s6.2+1))))
 else
 some (.inl (j18,w64 (s6.2+1))))))
 else
 some (.inr (.inl ())))) (0,a1)).bind fun x7 =>
 (match x7 with
 | .inl x8 =>
 some (-1)
 | .inr x9 =>
 some x9))
structure Part where
 Sym:Sym
 Code:ByteArray
 At:Int
 deriving DecidableEq,Inhabited
structure Alt where
 Parts:(List Part)
 Prec:Sym
 At:Int
 deriving DecidableEq,Inhabited
def ePart:En Part:=⟨6,fun x=>[SS x.Sym.Name,BB x.Sym.Lit,I64 x.Sym.Num,I64 x.Sym.At,SS x.Code,I64 x.At],fun _=>rfl,fun _=>NRl.nr⟩
instance:Flat ePart:=⟨fun _=>rfl⟩
instance:OOe ePart:=⟨fun x=>(inferInstance:OOl [SS x.Sym.Name,BB x.Sym.Lit,I64 x.Sym.Num,I64 x.Sym.At,SS x.Code,I64 x.At])⟩
instance:Tw ePart ePart:=⟨rfl,fun x=>(inferInstance:Vws [SS x.Sym.Name,BB x.Sym.Lit,I64 x.Sym.Num,I64 x.Sym.At,SS x.Code,I64 x.At] [SS x.Sym.Name,BB x.Sym.Lit,I64 x.Sym.Num,I64 x.Sym.At,SS x.Code,I64 x.At])⟩
instance {x:Part}:Vws (ePart.cells x) [SS x.Sym.Name,BB x.Sym.Lit,I64 x.Sym.Num,I64 x.Sym.At,SS x.Code,I64 x.At]:=(inferInstance:Vws [SS x.Sym.Name,BB x.Sym.Lit,I64 x.Sym.Num,I64 x.Sym.At,SS x.Code,I64 x.At] [SS x.Sym.Name,BB x.Sym.Lit,I64 x.Sym.Num,I64 x.Sym.At,SS x.Code,I64 x.At])
def pf106 (a0:Alt):Option (Bool) :=
 (loopM (R:=(Unit) ⊕ (Bool)) (fun (s1:Int) =>
 (bif decide (s1<(a0.Parts.length:Int)) then
 (idx a0.Parts s1).bind fun x6 =>
 ((bif decide (x6.Code={ data:=#[] }) then ((pf131 x6.Sym false true).bind fun x8=>(bif !x8 then some true else (bif !decide (x6.Code={ data:=#[] }) then ((pf133 x6.Sym).bind fun x11=>(bif !x11 then some true else ((pf134 x6.Code 0).bind fun x13=>some (!decide (x13=(x6.Code.size:Int)))))) else some false))) else (bif !decide (x6.Code={ data:=#[] }) then ((pf133 x6.Sym).bind fun x15=>(bif !x15 then some true else ((pf134 x6.Code 0).bind fun x17=>some (!decide (x17=(x6.Code.size:Int)))))) else some false))).bind fun c18 =>
 (bif c18 then
 some (.inr (.inr false))
 else
 some (.inl (w64 (s1+1))))
 else
 some (.inr (.inl ())))) 0).bind fun x2 =>
 (match x2 with
 | .inl x3 =>
 (((pf133 a0.Prec).bind fun x20=>(bif x20 then some true else ((pf131 a0.Prec false true).bind fun x22=>some x22)))).bind fun c23 =>
 some c23
 | .inr x4 =>
 some x4)
structure Rule where
 Left:ByteArray
 Alts:(List Alt)
 At:Int
 deriving DecidableEq,Inhabited
structure Source where
 Pro:ByteArray
 Decls:(List Decl)
 Rules:(List Rule)
 Tail:ByteArray
 deriving DecidableEq,Inhabited
def eDecl_0:En Decl:=⟨4,fun x=>[I64 x.Kind,SS x.Tag,iR eSym x.Syms,I64 x.At],fun _=>rfl,fun _=>NRl.nr⟩
instance:Flat eDecl_0:=⟨fun _=>rfl⟩
instance:Tw eDecl_0 eDecl_0:=⟨rfl,fun x=>(inferInstance:Vws [I64 x.Kind,SS x.Tag,iR eSym x.Syms,I64 x.At] [I64 x.Kind,SS x.Tag,iR eSym x.Syms,I64 x.At])⟩
instance {x:Decl}:Vws (eDecl_0.cells x) [I64 x.Kind,SS x.Tag,iR eSym x.Syms,I64 x.At]:=(inferInstance:Vws [I64 x.Kind,SS x.Tag,iR eSym x.Syms,I64 x.At] [I64 x.Kind,SS x.Tag,iR eSym x.Syms,I64 x.At])
def eAlt_0:En Alt:=⟨6,fun x=>[iR ePart x.Parts,SS x.Prec.Name,BB x.Prec.Lit,I64 x.Prec.Num,I64 x.Prec.At,I64 x.At],fun _=>rfl,fun _=>NRl.nr⟩
instance:Flat eAlt_0:=⟨fun _=>rfl⟩
instance:Tw eAlt_0 eAlt_0:=⟨rfl,fun x=>(inferInstance:Vws [iR ePart x.Parts,SS x.Prec.Name,BB x.Prec.Lit,I64 x.Prec.Num,I64 x.Prec.At,I64 x.At] [iR ePart x.Parts,SS x.Prec.Name,BB x.Prec.Lit,I64 x.Prec.Num,I64 x.Prec.At,I64 x.At])⟩
instance {x:Alt}:Vws (eAlt_0.cells x) [iR ePart x.Parts,SS x.Prec.Name,BB x.Prec.Lit,I64 x.Prec.Num,I64 x.Prec.At,I64 x.At]:=(inferInstance:Vws [iR ePart x.Parts,SS x.Prec.Name,BB x.Prec.Lit,I64 x.Prec.Num,I64 x.Prec.At,I64 x.At] [iR ePart x.Parts,SS x.Prec.Name,BB x.Prec.Lit,I64 x.Prec.Num,I64 x.Prec.At,I64 x.At])
def eRule_0:En Rule:=⟨3,fun x=>[SS x.Left,iR eAlt_0 x.Alts,I64 x.At],fun _=>rfl,fun _=>NRl.nr⟩
instance:Flat eRule_0:=⟨fun _=>rfl⟩
instance:Tw eRule_0 eRule_0:=⟨rfl,fun x=>(inferInstance:Vws [SS x.Left,iR eAlt_0 x.Alts,I64 x.At] [SS x.Left,iR eAlt_0 x.Alts,I64 x.At])⟩
instance {x:Rule}:Vws (eRule_0.cells x) [SS x.Left,iR eAlt_0 x.Alts,I64 x.At]:=(inferInstance:Vws [SS x.Left,iR eAlt_0 x.Alts,I64 x.At] [SS x.Left,iR eAlt_0 x.Alts,I64 x.At])
def pf88 (a0:Source):Option (Bool) :=
 (loopM (R:=(Unit) ⊕ (Bool)) (fun (s1:Int) =>
 (bif decide (w64 (s1+1)<(a0.Pro.size:Int)) then
 (cutO a0.Pro s1 (w64 (s1+2))).bind fun x6 =>
 (bif decide (x6={ data:=#[37,125] }) then
 some (.inr (.inr false))
 else
 some (.inl (w64 (s1+1))))
 else
 some (.inr (.inl ())))) 0).bind fun x2 =>
 (match x2 with
 | .inl x3 =>
 (loopM (R:=(Unit) ⊕ (Bool)) (fun (s8:Int) =>
 (bif decide (s8<(a0.Decls.length:Int)) then
 (idx a0.Decls s8).bind fun x13 =>
 (pf104 x13).bind fun x14 =>
 (bif !x14 then
 some (.inr (.inr false))
 else
 some (.inl (w64 (s8+1))))
 else
 some (.inr (.inl ())))) 0).bind fun x9 =>
 (match x9 with
 | .inl x10 =>
 (loopM (R:=(Unit) ⊕ (Bool)) (fun (s16:Int) =>
 (bif decide (s16<(a0.Rules.length:Int)) then
 (idx a0.Rules s16).bind fun x21 =>
 (((pf105 x21.Left).bind fun x22=>(bif !x22 then some true else some (decide ((x21.Alts.length:Int)=0))))).bind fun c24 =>
 (bif c24 then
 some (.inr (.inr false))
 else
 (loopM (R:=(Unit) ⊕ (Bool)) (fun (s26:Int) =>
 (bif decide (s26<(x21.Alts.length:Int)) then
 (idx x21.Alts s26).bind fun x31 =>
 (pf106 x31).bind fun x32 =>
 (bif !x32 then
 some (.inr (.inr false))
 else
 some (.inl (w64 (s26+1))))
 else
 some (.inr (.inl ())))) 0).bind fun x27 =>
 (match x27 with
 | .inl x28 =>
 some (.inl (w64 (s16+1)))
 | .inr x29 =>
 some (.inr (.inr x29))))
 else
 some (.inr (.inl ())))) 0).bind fun x17 =>
 (match x17 with
 | .inl x18 =>
 some (decide (0<(a0.Rules.length:Int)))
 | .inr x19 =>
 some x19)
 | .inr x11 =>
 some x11)
 | .inr x4 =>
 some x4)
structure Tok where
 Name:ByteArray
 Lit:Bool
 Num:Int
 Level:Int
 Assoc:Int
 Tag:ByteArray
 deriving DecidableEq,Inhabited
structure Non where
 Name:ByteArray
 Tag:ByteArray
 deriving DecidableEq,Inhabited
structure Prod where
 Left:Int
 Right:(List Int)
 Prec:Int
 Code:ByteArray
 Args:(List Int)
 At:Int
 deriving DecidableEq,Inhabited
structure Grammar where
 Toks:(List Tok)
 Nons:(List Non)
 Prods:(List Prod)
 Pro:ByteArray
 Tail:ByteArray
 deriving DecidableEq,Inhabited
structure yuccaref9_maker where
 f_g:Grammar
 f_given:(List Bool)
 f_types:(List Non)
 f_lefts:(List ByteArray)
 f_e:Int
 f_at:Int
 f_name:ByteArray
 f_level:Int
 f_inner:Int
 deriving DecidableEq,Inhabited
def eTok:En Tok:=⟨6,fun x=>[SS x.Name,BB x.Lit,I64 x.Num,I64 x.Level,I64 x.Assoc,SS x.Tag],fun _=>rfl,fun _=>NRl.nr⟩
instance:Flat eTok:=⟨fun _=>rfl⟩
instance:OOe eTok:=⟨fun x=>(inferInstance:OOl [SS x.Name,BB x.Lit,I64 x.Num,I64 x.Level,I64 x.Assoc,SS x.Tag])⟩
instance:Tw eTok eTok:=⟨rfl,fun x=>(inferInstance:Vws [SS x.Name,BB x.Lit,I64 x.Num,I64 x.Level,I64 x.Assoc,SS x.Tag] [SS x.Name,BB x.Lit,I64 x.Num,I64 x.Level,I64 x.Assoc,SS x.Tag])⟩
instance {x:Tok}:Vws (eTok.cells x) [SS x.Name,BB x.Lit,I64 x.Num,I64 x.Level,I64 x.Assoc,SS x.Tag]:=(inferInstance:Vws [SS x.Name,BB x.Lit,I64 x.Num,I64 x.Level,I64 x.Assoc,SS x.Tag] [SS x.Name,BB x.Lit,I64 x.Num,I64 x.Level,I64 x.Assoc,SS x.Tag])
def eNon:En Non:=⟨2,fun x=>[SS x.Name,SS x.Tag],fun _=>rfl,fun _=>NRl.nr⟩
instance:Flat eNon:=⟨fun _=>rfl⟩
instance:OOe eNon:=⟨fun x=>(inferInstance:OOl [SS x.Name,SS x.Tag])⟩
instance:Tw eNon eNon:=⟨rfl,fun x=>(inferInstance:Vws [SS x.Name,SS x.Tag] [SS x.Name,SS x.Tag])⟩
def eProd_0:En Prod:=⟨6,fun x=>[I64 x.Left,iR eI x.Right,I64 x.Prec,SS x.Code,iR eI x.Args,I64 x.At],fun _=>rfl,fun _=>NRl.nr⟩
instance:Flat eProd_0:=⟨fun _=>rfl⟩
instance:Tw eProd_0 eProd_0:=⟨rfl,fun x=>(inferInstance:Vws [I64 x.Left,iR eI x.Right,I64 x.Prec,SS x.Code,iR eI x.Args,I64 x.At] [I64 x.Left,iR eI x.Right,I64 x.Prec,SS x.Code,iR eI x.Args,I64 x.At])⟩
instance {x:Prod}:Vws (eProd_0.cells x) [I64 x.Left,iR eI x.Right,I64 x.Prec,SS x.Code,iR eI x.Args,I64 x.At]:=(inferInstance:Vws [I64 x.Left,iR eI x.Right,I64 x.Prec,SS x.Code,iR eI x.Args,I64 x.At] [I64 x.Left,iR eI x.Right,I64 x.Prec,SS x.Code,iR eI x.Args,I64 x.At])
def eGrammar_0:En Grammar:=⟨5,fun x=>[iR eTok x.Toks,iR eNon x.Nons,iR eProd_0 x.Prods,SS x.Pro,SS x.Tail],fun _=>rfl,fun _=>NRl.nr⟩
instance:Flat eGrammar_0:=⟨fun _=>rfl⟩
instance:Tw eGrammar_0 eGrammar_0:=⟨rfl,fun x=>(inferInstance:Vws [iR eTok x.Toks,iR eNon x.Nons,iR eProd_0 x.Prods,SS x.Pro,SS x.Tail] [iR eTok x.Toks,iR eNon x.Nons,iR eProd_0 x.Prods,SS x.Pro,SS x.Tail])⟩
instance {x:Grammar}:Vws (eGrammar_0.cells x) [iR eTok x.Toks,iR eNon x.Nons,iR eProd_0 x.Prods,SS x.Pro,SS x.Tail]:=(inferInstance:Vws [iR eTok x.Toks,iR eNon x.Nons,iR eProd_0 x.Prods,SS x.Pro,SS x.Tail] [iR eTok x.Toks,iR eNon x.Nons,iR eProd_0 x.Prods,SS x.Pro,SS x.Tail])
def eyuccaref9_maker_0:En yuccaref9_maker:=⟨13,fun x=>[iR eTok x.f_g.Toks,iR eNon x.f_g.Nons,iR eProd_0 x.f_g.Prods,SS x.f_g.Pro,SS x.f_g.Tail,iR eB x.f_given,iR eNon x.f_types,iR eS x.f_lefts,I64 x.f_e,I64 x.f_at,SS x.f_name,I64 x.f_level,I64 x.f_inner],fun _=>rfl,fun _=>NRl.nr⟩
instance:Flat eyuccaref9_maker_0:=⟨fun _=>rfl⟩
instance:Tw eyuccaref9_maker_0 eyuccaref9_maker_0:=⟨rfl,fun x=>(inferInstance:Vws [iR eTok x.f_g.Toks,iR eNon x.f_g.Nons,iR eProd_0 x.f_g.Prods,SS x.f_g.Pro,SS x.f_g.Tail,iR eB x.f_given,iR eNon x.f_types,iR eS x.f_lefts,I64 x.f_e,I64 x.f_at,SS x.f_name,I64 x.f_level,I64 x.f_inner] [iR eTok x.f_g.Toks,iR eNon x.f_g.Nons,iR eProd_0 x.f_g.Prods,SS x.f_g.Pro,SS x.f_g.Tail,iR eB x.f_given,iR eNon x.f_types,iR eS x.f_lefts,I64 x.f_e,I64 x.f_at,SS x.f_name,I64 x.f_level,I64 x.f_inner])⟩
instance {x:yuccaref9_maker}:Vws (eyuccaref9_maker_0.cells x) [iR eTok x.f_g.Toks,iR eNon x.f_g.Nons,iR eProd_0 x.f_g.Prods,SS x.f_g.Pro,SS x.f_g.Tail,iR eB x.f_given,iR eNon x.f_types,iR eS x.f_lefts,I64 x.f_e,I64 x.f_at,SS x.f_name,I64 x.f_level,I64 x.f_inner]:=(inferInstance:Vws [iR eTok x.f_g.Toks,iR eNon x.f_g.Nons,iR eProd_0 x.f_g.Prods,SS x.f_g.Pro,SS x.f_g.Tail,iR eB x.f_given,iR eNon x.f_types,iR eS x.f_lefts,I64 x.f_e,I64 x.f_at,SS x.f_name,I64 x.f_level,I64 x.f_inner] [iR eTok x.f_g.Toks,iR eNon x.f_g.Nons,iR eProd_0 x.f_g.Prods,SS x.f_g.Pro,SS x.f_g.Tail,iR eB x.f_given,iR eNon x.f_types,iR eS x.f_lefts,I64 x.f_e,I64 x.f_at,SS x.f_name,I64 x.f_level,I64 x.f_inner])
def eGrammar_1:En Grammar:=⟨5,fun x=>[oR eTok x.Toks,oR eNon x.Nons,oR eProd_0 x.Prods,SS x.Pro,SS x.Tail],fun _=>rfl,fun _=>NRl.nr⟩
instance:Tw eGrammar_1 eGrammar_0:=⟨rfl,fun x=>(inferInstance:Vws [oR eTok x.Toks,oR eNon x.Nons,oR eProd_0 x.Prods,SS x.Pro,SS x.Tail] [iR eTok x.Toks,iR eNon x.Nons,iR eProd_0 x.Prods,SS x.Pro,SS x.Tail])⟩
instance {x:Grammar}:Vws (eGrammar_1.cells x) [iR eTok x.Toks,iR eNon x.Nons,iR eProd_0 x.Prods,SS x.Pro,SS x.Tail]:=(inferInstance:Vws [oR eTok x.Toks,oR eNon x.Nons,oR eProd_0 x.Prods,SS x.Pro,SS x.Tail] [iR eTok x.Toks,iR eNon x.Nons,iR eProd_0 x.Prods,SS x.Pro,SS x.Tail])
def eyuccaref9_maker_r:En yuccaref9_maker:=⟨13,fun x=>[oR eTok x.f_g.Toks,oR eNon x.f_g.Nons,oR eProd_0 x.f_g.Prods,SS x.f_g.Pro,SS x.f_g.Tail,oR eB x.f_given,oR eNon x.f_types,oR eS x.f_lefts,I64 x.f_e,I64 x.f_at,SS x.f_name,I64 x.f_level,I64 x.f_inner],fun _=>rfl,fun _=>NRl.nr⟩
instance {x:yuccaref9_maker}:Vws (eyuccaref9_maker_r.cells x) [iR eTok x.f_g.Toks,iR eNon x.f_g.Nons,iR eProd_0 x.f_g.Prods,SS x.f_g.Pro,SS x.f_g.Tail,iR eB x.f_given,iR eNon x.f_types,iR eS x.f_lefts,I64 x.f_e,I64 x.f_at,SS x.f_name,I64 x.f_level,I64 x.f_inner]:=(inferInstance:Vws [oR eTok x.f_g.Toks,oR eNon x.f_g.Nons,oR eProd_0 x.f_g.Prods,SS x.f_g.Pro,SS x.f_g.Tail,oR eB x.f_given,oR eNon x.f_types,oR eS x.f_lefts,I64 x.f_e,I64 x.f_at,SS x.f_name,I64 x.f_level,I64 x.f_inner] [iR eTok x.f_g.Toks,iR eNon x.f_g.Nons,iR eProd_0 x.f_g.Prods,SS x.f_g.Pro,SS x.f_g.Tail,iR eB x.f_given,iR eNon x.f_types,iR eS x.f_lefts,I64 x.f_e,I64 x.f_at,SS x.f_name,I64 x.f_level,I64 x.f_inner])
def pf90 (a0:yuccaref9_maker) (a1:Int) (a2:ByteArray):Option (yuccaref9_maker) :=
 ((bif decide (a0.f_e=0) then
 some (⟨a0.f_g,a0.f_given,a0.f_types,a0.f_lefts,3,a1,a2,a0.f_level,a0.f_inner⟩:yuccaref9_maker)
 else
 some a0)).bind fun j1 =>
 some j1
def pf94 (a0:yuccaref9_maker) (a1:ByteArray):Option (Int) :=
 (loopM (R:=(Unit) ⊕ (Int)) (fun (s1:Int) =>
 (bif decide (s1<(a0.f_types.length:Int)) then
 (idx a0.f_types s1).bind fun x6 =>
 (bif decide (x6.Name=a1) then
 some (.inr (.inr s1))
 else
 some (.inl (w64 (s1+1))))
 else
 some (.inr (.inl ())))) 0).bind fun x2 =>
 (match x2 with
 | .inl x3 =>
 some (-1)
 | .inr x4 =>
 some x4)
def pf91 (a0:yuccaref9_maker) (a1:Sym):Option (Int) :=
 (loopM (R:=(Unit) ⊕ (Int)) (fun (s1:Int) =>
 (bif decide (s1<(a0.f_g.Toks.length:Int)) then
 (((idx a0.f_g.Toks s1).bind fun x6=>(bif decide (x6.Name=a1.Name) then ((idx a0.f_g.Toks s1).bind fun x8=>(bif (x8.Lit == a1.Lit) then some (!decide (s1=2)) else some false)) else some false))).bind fun c10 =>
 (bif c10 then
 some (.inr (.inr s1))
 else
 some (.inl (w64 (s1+1))))
 else
 some (.inr (.inl ())))) 1).bind fun x2 =>
 (match x2 with
 | .inl x3 =>
 some (-1)
 | .inr x4 =>
 some x4)
def pf108 (a0:yuccaref9_maker) (a1:Int):Option (Int) :=
 (loopM (R:=(Unit) ⊕ (Int)) (fun (s1:Int) =>
 (bif decide (s1<(a0.f_g.Toks.length:Int)) then
 (idx a0.f_g.Toks s1).bind fun x6 =>
 (bif decide (x6.Num=a1) then
 some (.inr (.inr s1))
 else
 some (.inl (w64 (s1+1))))
 else
 some (.inr (.inl ())))) 3).bind fun x2 =>
 (match x2 with
 | .inl x3 =>
 some (-1)
 | .inr x4 =>
 some x4)
def pf107 (a0:yuccaref9_maker) (a1:Sym):Option (Int × yuccaref9_maker) :=
 (pf91 a0 a1).bind fun x1 =>
 (bif decide (0<=x1) then
 some (x1,a0)
 else
 ((bif a1.Lit then
 (bidx a1.Name 0).bind fun x5 =>
 (pf108 a0 (w64 x5)).bind fun x6 =>
 ((bif decide (0<=x6) then
 (pf90 a0 a1.At a1.Name).bind fun x9 =>
 some x9
 else
 some a0)).bind fun j7 =>
 some (j7,w64 x5)
 else
 some (a0,0))).bind fun j3 =>
 (appO j3.1.f_g.Toks [(⟨a1.Name,a1.Lit,j3.2,0,0,{ data:=#[] }⟩:Tok)]).bind fun x10 =>
 (appO j3.1.f_given [a1.Lit]).bind fun x11 =>
 some (w64 (((j3.1.f_g.Toks++[(⟨a1.Name,a1.Lit,j3.2,0,0,{ data:=#[] }⟩:Tok)]).length:Int) - 1),(⟨(⟨j3.1.f_g.Toks++[(⟨a1.Name,a1.Lit,j3.2,0,0,{ data:=#[] }⟩:Tok)],j3.1.f_g.Nons,j3.1.f_g.Prods,j3.1.f_g.Pro,j3.1.f_g.Tail⟩:Grammar),j3.1.f_given++[a1.Lit],j3.1.f_types,j3.1.f_lefts,j3.1.f_e,j3.1.f_at,j3.1.f_name,j3.1.f_level,j3.1.f_inner⟩:yuccaref9_maker)))
def pf89 (a0:yuccaref9_maker) (a1:Decl) (a2:Sym):Option (yuccaref9_maker) :=
 (bif decide (a1.Kind=5) then
 (pf94 a0 a2.Name).bind fun x2 =>
 ((bif decide (x2<0) then
 (appO a0.f_types [(⟨a2.Name,a1.Tag⟩:Non)]).bind fun x5 =>
 some (⟨a0.f_g,a0.f_given,a0.f_types++[(⟨a2.Name,a1.Tag⟩:Non)],a0.f_lefts,a0.f_e,a0.f_at,a0.f_name,a0.f_level,a0.f_inner⟩:yuccaref9_maker)
 else
 (idx a0.f_types x2).bind fun x6 =>
 ((bif !decide (x6.Tag=a1.Tag) then
 (pf90 a0 a2.At a2.Name).bind fun x9 =>
 some x9
 else
 some a0)).bind fun j7 =>
 some j7)).bind fun j3 =>
 some j3
 else
 (pf107 a0 a2).bind fun x10 =>
 (idx x10.2.f_g.Toks x10.1).bind fun x11 =>
 ((bif !decide (a1.Kind=1) then
 ((bif decide (0<x11.Level) then
 (pf90 x10.2 a2.At a2.Name).bind fun x16 =>
 some (⟨(⟨x10.2.f_g.Toks,x16.f_g.Nons,x16.f_g.Prods,x16.f_g.Pro,x16.f_g.Tail⟩:Grammar),x16.f_given,x16.f_types,x16.f_lefts,x16.f_e,x16.f_at,x16.f_name,x16.f_level,x16.f_inner⟩:yuccaref9_maker)
 else
 some x10.2)).bind fun j14 =>
 (idx j14.f_g.Toks x10.1).bind fun x17 =>
 some (⟨(⟨(j14.f_g.Toks.set x10.1.toNat (⟨x17.Name,x17.Lit,x17.Num,j14.f_level,x17.Assoc,x17.Tag⟩:Tok)).set x10.1.toNat (⟨(⟨x17.Name,x17.Lit,x17.Num,j14.f_level,x17.Assoc,x17.Tag⟩:Tok).Name,(⟨x17.Name,x17.Lit,x17.Num,j14.f_level,x17.Assoc,x17.Tag⟩:Tok).Lit,(⟨x17.Name,x17.Lit,x17.Num,j14.f_level,x17.Assoc,x17.Tag⟩:Tok).Num,(⟨x17.Name,x17.Lit,x17.Num,j14.f_level,x17.Assoc,x17.Tag⟩:Tok).Level,w64 (a1.Kind - 1),(⟨x17.Name,x17.Lit,x17.Num,j14.f_level,x17.Assoc,x17.Tag⟩:Tok).Tag⟩:Tok),j14.f_g.Nons,j14.f_g.Prods,j14.f_g.Pro,j14.f_g.Tail⟩:Grammar),j14.f_given,j14.f_types,j14.f_lefts,j14.f_e,j14.f_at,j14.f_name,j14.f_level,j14.f_inner⟩:yuccaref9_maker)
 else
 some x10.2)).bind fun j12 =>
 (idx j12.f_g.Toks x10.1).bind fun x18 =>
 ((bif decide (0<a2.Num) then
 ((bif decide (x10.1=1) then some true else ((idx j12.f_given x10.1).bind fun x22=>(bif x22 then some true else ((pf108 j12 a2.Num).bind fun x24=>some (decide (0<=x24))))))).bind fun c25 =>
 ((bif c25 then
 (pf90 j12 a2.At a2.Name).bind fun x28 =>
 some (⟨(⟨j12.f_g.Toks,x28.f_g.Nons,x28.f_g.Prods,x28.f_g.Pro,x28.f_g.Tail⟩:Grammar),x28.f_given,x28.f_types,x28.f_lefts,x28.f_e,x28.f_at,x28.f_name,x28.f_level,x28.f_inner⟩:yuccaref9_maker)
 else
 some j12)).bind fun j26 =>
 (idx j26.f_g.Toks x10.1).bind fun x29 =>
 (idx j26.f_given x10.1).bind fun x30 =>
 some (⟨(⟨j26.f_g.Toks.set x10.1.toNat (⟨x29.Name,x29.Lit,a2.Num,x29.Level,x29.Assoc,x29.Tag⟩:Tok),j26.f_g.Nons,j26.f_g.Prods,j26.f_g.Pro,j26.f_g.Tail⟩:Grammar),j26.f_given.set x10.1.toNat true,j26.f_types,j26.f_lefts,j26.f_e,j26.f_at,j26.f_name,j26.f_level,j26.f_inner⟩:yuccaref9_maker)
 else
 some j12)).bind fun j19 =>
 (idx j19.f_g.Toks x10.1).bind fun x31 =>
 ((bif !decide (a1.Tag={ data:=#[] }) then
 ((bif !decide (x31.Tag={ data:=#[] }) then some (!decide (x31.Tag=a1.Tag)) else some false)).bind fun c35 =>
 ((bif c35 then
 (pf90 j19 a2.At a2.Name).bind fun x38 =>
 some (⟨(⟨j19.f_g.Toks,x38.f_g.Nons,x38.f_g.Prods,x38.f_g.Pro,x38.f_g.Tail⟩:Grammar),x38.f_given,x38.f_types,x38.f_lefts,x38.f_e,x38.f_at,x38.f_name,x38.f_level,x38.f_inner⟩:yuccaref9_maker)
 else
 some j19)).bind fun j36 =>
 (idx j36.f_g.Toks x10.1).bind fun x39 =>
 some (⟨(⟨j36.f_g.Toks.set x10.1.toNat (⟨x39.Name,x39.Lit,x39.Num,x39.Level,x39.Assoc,a1.Tag⟩:Tok),j36.f_g.Nons,j36.f_g.Prods,j36.f_g.Pro,j36.f_g.Tail⟩:Grammar),j36.f_given,j36.f_types,j36.f_lefts,j36.f_e,j36.f_at,j36.f_name,j36.f_level,j36.f_inner⟩:yuccaref9_maker)
 else
 some j19)).bind fun j32 =>
 some j32)
def pf92 (a0:yuccaref9_maker) (a1:ByteArray):Option (Int) :=
 (loopM (R:=(Unit) ⊕ (Int)) (fun (s1:Int) =>
 (bif decide (s1<(a0.f_lefts.length:Int)) then
 (idx a0.f_lefts s1).bind fun x6 =>
 (bif decide (x6=a1) then
 some (.inr (.inr s1))
 else
 some (.inl (w64 (s1+1))))
 else
 some (.inr (.inl ())))) 0).bind fun x2 =>
 (match x2 with
 | .inl x3 =>
 some (-1)
 | .inr x4 =>
 some x4)
def pf109 (a0:yuccaref9_maker) (a1:Sym):Option (Int × yuccaref9_maker) :=
 (bif a1.Lit then
 (pf107 a0 a1).bind fun x2 =>
 some (x2.1,x2.2)
 else
 (pf92 a0 a1.Name).bind fun x3 =>
 (bif decide (0<=x3) then
 some (w64 (1001+x3),a0)
 else
 (pf91 a0 a1).bind fun x5 =>
 (bif decide (x5<0) then
 (pf90 a0 a1.At a1.Name).bind fun x7 =>
 some (0,x7)
 else
 some (x5,a0))))
def pf93 (a0:yuccaref9_maker) (a1:ByteArray) (a2:Alt):Option (yuccaref9_maker) :=
 (pf92 a0 a1).bind fun x1 =>
 (loopM (R:=yuccaref9_maker × List Int × ByteArray × Int) (fun (s2:yuccaref9_maker × List Int × ByteArray × Int × Int) =>
 (bif decide (s2.2.2.2.2<(a2.Parts.length:Int)) then
 ((idx a2.Parts s2.2.2.2.2).bind fun x7 =>
 (((bif decide (x7.Code={ data:=#[] }) then
 (pf109 s2.1 x7.Sym).bind fun x11 =>
 (appO s2.2.1 [x11.1]).bind fun x12 =>
 some (x11.2,s2.2.1++[x11.1],s2.2.2.1,s2.2.2.2.1)
 else
 ((bif decide (w64 (s2.2.2.2.2+1)=(a2.Parts.length:Int)) then
 some (s2.1.f_g.Prods,s2.1.f_inner,s2.2.1,x7.Code,x7.At)
 else
 (appO ([]:List Int) s2.2.1).bind fun x15 =>
 (appO s2.1.f_g.Prods [(⟨w64 ((s2.1.f_lefts.length:Int)+(w64 (s2.1.f_inner+1))),([]:List Int),(-1),x7.Code,([]:List Int)++s2.2.1,x7.At⟩:Prod)]).bind fun x16 =>
 (appO s2.2.1 [w64 ((w64 (1000+(s2.1.f_lefts.length:Int)))+(w64 (s2.1.f_inner+1)))]).bind fun x17 =>
 some (s2.1.f_g.Prods++[(⟨w64 ((s2.1.f_lefts.length:Int)+(w64 (s2.1.f_inner+1))),([]:List Int),(-1),x7.Code,([]:List Int)++s2.2.1,x7.At⟩:Prod)],w64 (s2.1.f_inner+1),s2.2.1++[w64 ((w64 (1000+(s2.1.f_lefts.length:Int)))+(w64 (s2.1.f_inner+1)))],s2.2.2.1,s2.2.2.2.1))).bind fun j13 =>
 some ((⟨(⟨s2.1.f_g.Toks,s2.1.f_g.Nons,j13.1,s2.1.f_g.Pro,s2.1.f_g.Tail⟩:Grammar),s2.1.f_given,s2.1.f_types,s2.1.f_lefts,s2.1.f_e,s2.1.f_at,s2.1.f_name,s2.1.f_level,j13.2.1⟩:yuccaref9_maker),j13.2.2.1,j13.2.2.2.1,j13.2.2.2.2))).bind fun j9 =>
 some (j9.1,j9.2.1,j9.2.2.1,j9.2.2.2)).bind fun j8 =>
 some (j8.1,j8.2.1,j8.2.2.1,j8.2.2.2)).bind fun j6 =>
 some (.inl (j6.1,j6.2.1,j6.2.2.1,j6.2.2.2,w64 (s2.2.2.2.2+1)))
 else
 some (.inr (s2.1,s2.2.1,s2.2.2.1,s2.2.2.2.1)))) (a0,([]:List Int),{ data:=#[] },a2.At,0)).bind fun x3 =>
 (loopM (R:=Int) (fun (s18:Int × Int) =>
 (bif decide (s18.2<(x3.2.1.length:Int)) then
 ((idx x3.2.1 s18.2).bind fun x23 =>
 ((bif decide (x23<1000) then
 (idx x3.2.1 s18.2).bind fun x26 =>
 some x26
 else
 some s18.1)).bind fun j24 =>
 some j24).bind fun j22 =>
 some (.inl (j22,w64 (s18.2+1)))
 else
 some (.inr s18.1))) ((-1),0)).bind fun x19 =>
 ((bif !decide (a2.Prec.Name={ data:=#[] }) then
 ((bif a2.Prec.Lit then some true else ((pf92 x3.1 a2.Prec.Name).bind fun x30=>some (decide (x30<0))))).bind fun c31 =>
 ((bif c31 then
 (pf109 x3.1 a2.Prec).bind fun x34 =>
 some (x34.2,x34.1)
 else
 (pf90 x3.1 a2.Prec.At a2.Prec.Name).bind fun x35 =>
 some (x35,(-1)))).bind fun j32 =>
 some (j32.1,j32.2)
 else
 some (x3.1,x19))).bind fun j27 =>
 (appO ([]:List Int) x3.2.1).bind fun x36 =>
 (appO j27.1.f_g.Prods [(⟨w64 (1+x1),x3.2.1,j27.2,x3.2.2.1,([]:List Int)++x3.2.1,x3.2.2.2⟩:Prod)]).bind fun x37 =>
 some (⟨(⟨j27.1.f_g.Toks,j27.1.f_g.Nons,j27.1.f_g.Prods++[(⟨w64 (1+x1),x3.2.1,j27.2,x3.2.2.1,([]:List Int)++x3.2.1,x3.2.2.2⟩:Prod)],j27.1.f_g.Pro,j27.1.f_g.Tail⟩:Grammar),j27.1.f_given,j27.1.f_types,j27.1.f_lefts,j27.1.f_e,j27.1.f_at,j27.1.f_name,j27.1.f_level,j27.1.f_inner⟩:yuccaref9_maker)
def pf61 (a0:Source):Option (Grammar × Int × Int × ByteArray) :=
 (pf88 a0).bind fun x1 =>
 (bif !x1 then
 some ((⟨([]:List Tok),([]:List Non),([]:List Prod),{ data:=#[] },{ data:=#[] }⟩:Grammar),1,0,{ data:=#[] })
 else
 (mkO 3 false).bind fun x3 =>
 (loopM (R:=yuccaref9_maker × ByteArray) (fun (s4:yuccaref9_maker × ByteArray × Int) =>
 (bif decide (s4.2.2<(a0.Decls.length:Int)) then
 (idx a0.Decls s4.2.2).bind fun x8 =>
 ((bif decide (2<=x8.Kind) then some (decide (x8.Kind<=4)) else some false)).bind fun c10 =>
 ((bif c10 then
 some (w64 (s4.1.f_level+1))
 else
 some s4.1.f_level)).bind fun j11 =>
 (loopM (R:=yuccaref9_maker × ByteArray) (fun (s13:yuccaref9_maker × ByteArray × Int) =>
 (bif decide (s13.2.2<(x8.Syms.length:Int)) then
 ((bif !decide (x8.Kind=6) then
 (idx x8.Syms s13.2.2).bind fun x19 =>
 (pf89 s13.1 x8 x19).bind fun x20 =>
 some (x20,s13.2.1)
 else
 ((bif !decide (s13.2.1={ data:=#[] }) then
 (idx x8.Syms s13.2.2).bind fun x23 =>
 (idx x8.Syms s13.2.2).bind fun x24 =>
 (pf90 s13.1 x23.At x24.Name).bind fun x25 =>
 some x25
 else
 some s13.1)).bind fun j21 =>
 (idx x8.Syms s13.2.2).bind fun x26 =>
 some (j21,x26.Name))).bind fun j17 =>
 some (.inl (j17.1,j17.2,w64 (s13.2.2+1)))
 else
 some (.inr (s13.1,s13.2.1)))) ((⟨s4.1.f_g,s4.1.f_given,s4.1.f_types,s4.1.f_lefts,s4.1.f_e,s4.1.f_at,s4.1.f_name,j11,s4.1.f_inner⟩:yuccaref9_maker),s4.2.1,0)).bind fun x14 =>
 some (.inl (x14.1,x14.2,w64 (s4.2.2+1)))
 else
 some (.inr (s4.1,s4.2.1)))) ((⟨(⟨[(⟨{ data:=#[36,101,110,100] },false,0,0,0,{ data:=#[] }⟩:Tok),(⟨{ data:=#[101,114,114,111,114] },false,(-1),0,0,{ data:=#[] }⟩:Tok),(⟨{ data:=#[36,117,110,107] },false,(-1),0,0,{ data:=#[] }⟩:Tok)],[],[],{ data:=#[] },{ data:=#[] }⟩:Grammar),x3,[],[],0,0,{ data:=#[] },0,0⟩:yuccaref9_maker),{ data:=#[] },0)).bind fun x5 =>
 (loopM (R:=yuccaref9_maker) (fun (s27:yuccaref9_maker × Int) =>
 (bif decide (s27.2<(a0.Rules.length:Int)) then
 ((idx a0.Rules s27.2).bind fun x32 =>
 (pf91 s27.1 (⟨x32.Left,false,0,0⟩:Sym)).bind fun x33 =>
 ((bif decide (0<=x33) then
 (pf90 s27.1 x32.At x32.Left).bind fun x36 =>
 some x36
 else
 some s27.1)).bind fun j34 =>
 (pf92 j34 x32.Left).bind fun x37 =>
 ((bif decide (x37<0) then
 (appO j34.f_lefts [x32.Left]).bind fun x40 =>
 some (j34.f_lefts++[x32.Left])
 else
 some j34.f_lefts)).bind fun j38 =>
 some (⟨j34.f_g,j34.f_given,j34.f_types,j38,j34.f_e,j34.f_at,j34.f_name,j34.f_level,j34.f_inner⟩:yuccaref9_maker)).bind fun j31 =>
 some (.inl (j31,w64 (s27.2+1)))
 else
 some (.inr s27.1))) (x5.1,0)).bind fun x28 =>
 (loopM (R:=yuccaref9_maker) (fun (s41:yuccaref9_maker × Int) =>
 (bif decide (s41.2<(a0.Decls.length:Int)) then
 (loopM (R:=yuccaref9_maker) (fun (s45:yuccaref9_maker × Int) =>
 (idx a0.Decls s41.2).bind fun x48 =>
 (bif decide (s45.2<(x48.Syms.length:Int)) then
 ((idx a0.Decls s41.2).bind fun x51 =>
 (idx x51.Syms s45.2).bind fun x52 =>
 (((idx a0.Decls s41.2).bind fun x53=>(bif decide (5<=x53.Kind) then ((pf92 s45.1 x52.Name).bind fun x55=>some (decide (x55<0))) else some false))).bind fun c56 =>
 ((bif c56 then
 (pf90 s45.1 x52.At x52.Name).bind fun x59 =>
 some x59
 else
 some s45.1)).bind fun j57 =>
 some j57).bind fun j50 =>
 some (.inl (j50,w64 (s45.2+1)))
 else
 some (.inr s45.1))) (s41.1,0)).bind fun x46 =>
 some (.inl (x46,w64 (s41.2+1)))
 else
 some (.inr s41.1))) (x28,0)).bind fun x42 =>
 ((bif decide (x5.2={ data:=#[] }) then
 (idx a0.Rules 0).bind fun x62 =>
 some x62.Left
 else
 some x5.2)).bind fun j60 =>
 (pf92 x42 j60).bind fun x63 =>
 (loopM (R:=yuccaref9_maker) (fun (s64:yuccaref9_maker × Int) =>
 (bif decide (s64.2<(a0.Rules.length:Int)) then
 (loopM (R:=yuccaref9_maker) (fun (s68:yuccaref9_maker × Int) =>
 (idx a0.Rules s64.2).bind fun x71 =>
 (bif decide (s68.2<(x71.Alts.length:Int)) then
 (idx a0.Rules s64.2).bind fun x73 =>
 (idx a0.Rules s64.2).bind fun x74 =>
 (idx x74.Alts s68.2).bind fun x75 =>
 (pf93 s68.1 x73.Left x75).bind fun x76 =>
 some (.inl (x76,w64 (s68.2+1)))
 else
 some (.inr s68.1))) (s64.1,0)).bind fun x69 =>
 some (.inl (x69,w64 (s64.2+1)))
 else
 some (.inr s64.1))) ((⟨(⟨x42.f_g.Toks,x42.f_g.Nons,[(⟨0,[w64 (1001+x63)],(-1),{ data:=#[] },([]:List Int),0⟩:Prod)],x42.f_g.Pro,x42.f_g.Tail⟩:Grammar),x42.f_given,x42.f_types,x42.f_lefts,x42.f_e,x42.f_at,x42.f_name,x42.f_level,x42.f_inner⟩:yuccaref9_maker),0)).bind fun x65 =>
 (bif !decide (x65.f_e=0) then
 some ((⟨([]:List Tok),([]:List Non),([]:List Prod),{ data:=#[] },{ data:=#[] }⟩:Grammar),x65.f_e,x65.f_at,x65.f_name)
 else
 (loopM (R:=List Non) (fun (s78:List Non × Int) =>
 (bif decide (s78.2<(x65.f_lefts.length:Int)) then
 (idx x65.f_lefts s78.2).bind fun x82 =>
 (pf94 (⟨(⟨x65.f_g.Toks,s78.1,x65.f_g.Prods,x65.f_g.Pro,x65.f_g.Tail⟩:Grammar),x65.f_given,x65.f_types,x65.f_lefts,x65.f_e,x65.f_at,x65.f_name,x65.f_level,x65.f_inner⟩:yuccaref9_maker) x82).bind fun x83 =>
 ((bif decide (0<=x83) then
 (idx x65.f_types x83).bind fun x86 =>
 some x86.Tag
 else
 some ({ data:=#[] }))).bind fun j84 =>
 (appO s78.1 [(⟨x82,j84⟩:Non)]).bind fun x87 =>
 some (.inl (s78.1++[(⟨x82,j84⟩:Non)],w64 (s78.2+1)))
 else
 some (.inr s78.1))) ([(⟨{ data:=#[36,97,99,99,101,112,116] },{ data:=#[] }⟩:Non)],0)).bind fun x79 =>
 (loopM (R:=List Non) (fun (s88:List Non × Int) =>
 (bif decide (s88.2<=x65.f_inner) then
 (pf28 s88.2).bind fun x92 =>
 (catO ({ data:=#[64] }) x92).bind fun x93 =>
 (appO s88.1 [(⟨x93,{ data:=#[] }⟩:Non)]).bind fun x94 =>
 some (.inl (s88.1++[(⟨x93,{ data:=#[] }⟩:Non)],w64 (s88.2+1)))
 else
 some (.inr s88.1))) (x79,1)).bind fun x89 =>
 (loopM (R:=List Tok) (fun (s95:List Tok × Int × Int) =>
 (bif decide (s95.2.2<(s95.1.length:Int)) then
 ((idx x65.f_given s95.2.2).bind fun x100 =>
 ((bif !x100 then
 (idx s95.1 s95.2.2).bind fun x103 =>
 some (s95.1.set s95.2.2.toNat (⟨x103.Name,x103.Lit,s95.2.1,x103.Level,x103.Assoc,x103.Tag⟩:Tok),w64 (s95.2.1+1))
 else
 some (s95.1,s95.2.1))).bind fun j101 =>
 some (j101.1,j101.2)).bind fun j99 =>
 some (.inl (j99.1,j99.2,w64 (s95.2.2+1)))
 else
 some (.inr s95.1))) (x65.f_g.Toks,57346,3)).bind fun x96 =>
 ((bif decide (40<(x96.length:Int)) then some true else (bif decide (24<(x89.length:Int)) then some true else some (decide (60<(x65.f_g.Prods.length:Int)))))).bind fun c106 =>
 (loopM (R:=Bool) (fun (s107:Bool × Int) =>
 (bif decide (s107.2<(x65.f_g.Prods.length:Int)) then
 ((bif s107.1 then some true else ((idx x65.f_g.Prods s107.2).bind fun x112=>some (decide (8<(x112.Right.length:Int)))))).bind fun c113 =>
 some (.inl (c113,w64 (s107.2+1)))
 else
 some (.inr s107.1))) (c106,0)).bind fun x108 =>
 (bif x108 then
 some ((⟨([]:List Tok),([]:List Non),([]:List Prod),{ data:=#[] },{ data:=#[] }⟩:Grammar),4,0,{ data:=#[] })
 else
 some ((⟨x96,x89,x65.f_g.Prods,a0.Pro,a0.Tail⟩:Grammar),0,0,{ data:=#[] }))))
def pf20 (a0:Source):Option (Grammar × Bool) :=
 (pf61 a0).bind fun x1 =>
 some (x1.1,decide (x1.2.1=0))
structure Pair where
 At:Int
 Val:Int
 deriving DecidableEq,Inhabited
def ePair:En Pair:=⟨2,fun x=>[I64 x.At,I64 x.Val],fun _=>rfl,fun _=>NRl.nr⟩
instance:Flat ePair:=⟨fun _=>rfl⟩
instance:OOe ePair:=⟨fun x=>(inferInstance:OOl [I64 x.At,I64 x.Val])⟩
instance:Tw ePair ePair:=⟨rfl,fun x=>(inferInstance:Vws [I64 x.At,I64 x.Val] [I64 x.At,I64 x.Val])⟩
def pf23 (a0:(List Pair)) (a1:(List Pair)):Option (Bool) :=
 (bif !decide ((a0.length:Int)=(a1.length:Int)) then
 some false
 else
 (loopM (R:=(Unit) ⊕ (Bool)) (fun (s2:Int) =>
 (bif decide (s2<(a0.length:Int)) then
 (idx a0 s2).bind fun x7 =>
 (idx a1 s2).bind fun x8 =>
 (bif !(decide (x7.At=x8.At)&&(decide (x7.Val=x8.Val)&&true)) then
 some (.inr (.inr false))
 else
 some (.inl (w64 (s2+1))))
 else
 some (.inr (.inl ())))) 0).bind fun x3 =>
 (match x3 with
 | .inl x4 =>
 some true
 | .inr x5 =>
 some x5))
def pf97 (a0:Int):Option (Bool) :=
 some (!decide (a0=a0))
def pf65 (a0:Int) (a1:Int):Option (Int) :=
 (pf97 a0).bind fun x1 =>
 (pf97 a1).bind fun x2 =>
 (bif x1 then
 (bif x2 then
 some 0
 else
 some (-1))
 else
 (bif x2 then
 some 1
 else
 (bif decide (a0<a1) then
 some (-1)
 else
 (bif decide (a1<a0) then
 some 1
 else
 some 0))))
def pf64 (a0:Pair) (a1:Pair):Option (Int) :=
 (pf65 a0.At a1.At).bind fun x1 =>
 some x1
def pf24 (a0:Grammar):Option ((List Pair)) :=
 (loopM (R:=List Pair) (fun (s1:List Pair × Int) =>
 (bif decide (s1.2<(a0.Toks.length:Int)) then
 ((idx a0.Toks s1.2).bind fun x6 =>
 ((bif decide (0<x6.Num) then
 (appO s1.1 [(⟨x6.Num,s1.2⟩:Pair)]).bind fun x9 =>
 some (s1.1++[(⟨x6.Num,s1.2⟩:Pair)])
 else
 some s1.1)).bind fun j7 =>
 some j7).bind fun j5 =>
 some (.inl (j5,w64 (s1.2+1)))
 else
 some (.inr s1.1))) (([]:List Pair),0)).bind fun x2 =>
 (sortO (fun a b=>pf64 a b) x2).bind fun x10 =>
 some x10
def pf67 (a0:Pair) (a1:Int):Option (Int) :=
 (pf65 a0.At a1).bind fun x1 =>
 some x1
def pf66_67 (a0:(List Pair)) (a1:Int):Option (Int × Bool) :=
 (loopM (R:=Int) (fun (s1:Int × Int) =>
 (bif decide (s1.1<s1.2) then
 ((idx a0 (w64 (shrK .u64 (IntKind.u64.wrap (w64 (s1.1+s1.2))) 1))).bind fun x6 =>
 (pf67 x6 a1).bind fun x7 =>
 ((bif decide (x7<0) then
 some (w64 ((w64 (shrK .u64 (IntKind.u64.wrap (w64 (s1.1+s1.2))) 1))+1),s1.2)
 else
 some (s1.1,w64 (shrK .u64 (IntKind.u64.wrap (w64 (s1.1+s1.2))) 1)))).bind fun j8 =>
 some (j8.1,j8.2)).bind fun j5 =>
 some (.inl (j5.1,j5.2))
 else
 some (.inr s1.1))) (0,(a0.length:Int))).bind fun x2 =>
 ((bif decide (x2<(a0.length:Int)) then ((idx a0 x2).bind fun x11=>((pf67 x11 a1).bind fun x12=>some (x2,decide (x12=0)))) else some (x2,false))).bind fun c13 =>
 some (c13.1,c13.2)
def pf25 (a0:(List Pair)) (a1:Int):Option (Int) :=
 (bif decide (a1<=0) then
 some 0
 else
 (pf66_67 a0 a1).bind fun x2 =>
 (bif !x2.2 then
 some 2
 else
 (idx a0 x2.1).bind fun x4 =>
 some x4.Val))
def pf17 :Option (Bool) :=
 (pf20 (⟨{ data:=#[] },[(⟨1,{ data:=#[] },[(⟨{ data:=#[65] },false,0,0⟩:Sym),(⟨{ data:=#[43] },true,0,0⟩:Sym)],0⟩:Decl)],[(⟨{ data:=#[115] },[(⟨([]:List Part),(⟨{ data:=#[] },false,0,0⟩:Sym),0⟩:Alt)],0⟩:Rule)],{ data:=#[] }⟩:Source)).bind fun x1 =>
 (pf24 x1.1).bind fun x2 =>
 ((bif x1.2 then ((pf23 x2 [(⟨43,4⟩:Pair),(⟨57346,3⟩:Pair)]).bind fun x4=>(bif x4 then ((pf25 x2 43).bind fun x6=>(bif decide (x6=4) then ((pf25 x2 57346).bind fun x8=>(bif decide (x8=3) then ((pf25 x2 44).bind fun x10=>(bif decide (x10=2) then ((pf25 x2 0).bind fun x12=>(bif decide (x12=0) then ((pf25 x2 (-5)).bind fun x14=>some (decide (x14=0))) else some false)) else some false)) else some false)) else some false)) else some false)) else some false)).bind fun c15 =>
 some c15
def pf55 (a0:ByteArray) (a1:Int):Option (ByteArray) :=
 (bif decide (a1<(a0.size:Int)) then
 (cutO a0 0 a1).bind fun x2 =>
 some x2
 else
 some a0)
def pf56 (a0:Sym):Option (Sym) :=
 (pf55 a0.Name 25).bind fun x1 =>
 some (⟨x1,a0.Lit,a0.Num,a0.At⟩:Sym)
def pf18 (a0:Source):Option (Source) :=
 (pf55 a0.Pro 40).bind fun x1 =>
 (pf55 a0.Tail 40).bind fun x2 =>
 (loopM (R:=List Decl) (fun (s3:List Decl × Int) =>
 ((bif decide (s3.2<(a0.Decls.length:Int)) then some (decide (s3.2<8)) else some false)).bind fun c7 =>
 (bif c7 then
 (idx a0.Decls s3.2).bind fun x9 =>
 (idx a0.Decls s3.2).bind fun x10 =>
 (pf55 x10.Tag 25).bind fun x11 =>
 (idx a0.Decls s3.2).bind fun x12 =>
 (loopM (R:=List Sym) (fun (s13:List Sym × Int) =>
 (((idx a0.Decls s3.2).bind fun x16=>(bif decide (s13.2<(x16.Syms.length:Int)) then some (decide (s13.2<6)) else some false))).bind fun c18 =>
 (bif c18 then
 (idx a0.Decls s3.2).bind fun x20 =>
 (idx x20.Syms s13.2).bind fun x21 =>
 (pf56 x21).bind fun x22 =>
 (appO s13.1 [x22]).bind fun x23 =>
 some (.inl (s13.1++[x22],w64 (s13.2+1)))
 else
 some (.inr s13.1))) (([]:List Sym),0)).bind fun x14 =>
 (appO s3.1 [(⟨x9.Kind,x11,x14,x12.At⟩:Decl)]).bind fun x24 =>
 some (.inl (s3.1++[(⟨x9.Kind,x11,x14,x12.At⟩:Decl)],w64 (s3.2+1)))
 else
 some (.inr s3.1))) (([]:List Decl),0)).bind fun x4 =>
 (loopM (R:=List Rule) (fun (s25:List Rule × Int) =>
 ((bif decide (s25.2<(a0.Rules.length:Int)) then some (decide (s25.2<6)) else some false)).bind fun c29 =>
 (bif c29 then
 (idx a0.Rules s25.2).bind fun x31 =>
 (pf55 x31.Left 25).bind fun x32 =>
 (idx a0.Rules s25.2).bind fun x33 =>
 (loopM (R:=List Alt) (fun (s34:List Alt × Int) =>
 (((idx a0.Rules s25.2).bind fun x37=>(bif decide (s34.2<(x37.Alts.length:Int)) then some (decide (s34.2<5)) else some false))).bind fun c39 =>
 (bif c39 then
 (idx a0.Rules s25.2).bind fun x41 =>
 (idx x41.Alts s34.2).bind fun x42 =>
 (pf56 x42.Prec).bind fun x43 =>
 (idx a0.Rules s25.2).bind fun x44 =>
 (idx x44.Alts s34.2).bind fun x45 =>
 (loopM (R:=List Part) (fun (s46:List Part × Int) =>
 (((idx a0.Rules s25.2).bind fun x49=>((idx x49.Alts s34.2).bind fun x50=>(bif decide (s46.2<(x50.Parts.length:Int)) then some (decide (s46.2<6)) else some false)))).bind fun c52 =>
 (bif c52 then
 (idx a0.Rules s25.2).bind fun x54 =>
 (idx x54.Alts s34.2).bind fun x55 =>
 (idx x55.Parts s46.2).bind fun x56 =>
 (pf56 x56.Sym).bind fun x57 =>
 (pf55 x56.Code 60).bind fun x58 =>
 (appO s46.1 [(⟨x57,x58,x56.At⟩:Part)]).bind fun x59 =>
 some (.inl (s46.1++[(⟨x57,x58,x56.At⟩:Part)],w64 (s46.2+1)))
 else
 some (.inr s46.1))) (([]:List Part),0)).bind fun x47 =>
 (appO s34.1 [(⟨x47,x43,x45.At⟩:Alt)]).bind fun x60 =>
 some (.inl (s34.1++[(⟨x47,x43,x45.At⟩:Alt)],w64 (s34.2+1)))
 else
 some (.inr s34.1))) (([]:List Alt),0)).bind fun x35 =>
 (appO s25.1 [(⟨x32,x35,x33.At⟩:Rule)]).bind fun x61 =>
 some (.inl (s25.1++[(⟨x32,x35,x33.At⟩:Rule)],w64 (s25.2+1)))
 else
 some (.inr s25.1))) (([]:List Rule),0)).bind fun x26 =>
 some (⟨x1,x4,x26,x2⟩:Source)
def pf22 (a0:Int) (a1:Int):Option (Int) :=
 (remO a0 a1).bind fun x1 =>
 ((bif decide (x1<0) then
 some (w64 (x1+a1))
 else
 some x1)).bind fun j2 =>
 some j2
def pf87 :Option (ByteArray) :=
 some ({ data:=#[112,113,114,115] })
def pf60 (a0:Int):Option (Sym) :=
 (pf87 ).bind fun x1 =>
 (remO a0 4).bind fun x2 =>
 (remO a0 4).bind fun x3 =>
 (cutO x1 x2 (w64 (x3+1))).bind fun x4 =>
 some (⟨x4,true,0,0⟩:Sym)
def eDecl_1:En Decl:=⟨4,fun x=>[I64 x.Kind,SS x.Tag,oR eSym x.Syms,I64 x.At],fun _=>rfl,fun _=>NRl.nr⟩
instance:Tw eDecl_1 eDecl_0:=⟨rfl,fun x=>(inferInstance:Vws [I64 x.Kind,SS x.Tag,oR eSym x.Syms,I64 x.At] [I64 x.Kind,SS x.Tag,iR eSym x.Syms,I64 x.At])⟩
instance {x:Decl}:Vws (eDecl_1.cells x) [I64 x.Kind,SS x.Tag,iR eSym x.Syms,I64 x.At]:=(inferInstance:Vws [I64 x.Kind,SS x.Tag,oR eSym x.Syms,I64 x.At] [I64 x.Kind,SS x.Tag,iR eSym x.Syms,I64 x.At])
def pf57 (a0:(List Int)):Option ((List Decl)) :=
 (loopM (R:=List Decl) (fun (s1:List Decl × Int) =>
 ((bif decide (s1.2<(a0.length:Int)) then some (decide (s1.2<4)) else some false)).bind fun c5 =>
 (bif c5 then
 ((idx a0 s1.2).bind fun x8 =>
 (pf22 x8 8).bind fun x9 =>
 (remO x9 4).bind fun x10 =>
 (bif decide (x10=0) then
 some s1.1
 else
 ((bif decide (4<x9) then some (decide (0<(s1.1.length:Int))) else some false)).bind fun c13 =>
 (bif c13 then
 (idx s1.1 (w64 ((s1.1.length:Int) - 1))).bind fun x15 =>
 (pf60 s1.2).bind fun x16 =>
 (appO x15.Syms [x16]).bind fun x17 =>
 some (s1.1.set (w64 ((s1.1.length:Int) - 1)).toNat (⟨x15.Kind,x15.Tag,x15.Syms++[x16],x15.At⟩:Decl))
 else
 (remO x9 4).bind fun x18 =>
 (pf60 s1.2).bind fun x19 =>
 (appO s1.1 [(⟨w64 (1+x18),{ data:=#[] },[x19],0⟩:Decl)]).bind fun x20 =>
 some (s1.1++[(⟨w64 (1+x18),{ data:=#[] },[x19],0⟩:Decl)])))).bind fun j7 =>
 some (.inl (j7,w64 (s1.2+1)))
 else
 some (.inr s1.1))) (([]:List Decl),0)).bind fun x2 =>
 some x2
def pf58 (a0:Int):Option (ByteArray) :=
 some (strOfNums [w8 (w64 (97+a0))])
def pf59 (a0:Int) (a1:Int):Option (Sym) :=
 (pf22 a0 14).bind fun x1 =>
 (bif decide (x1<5) then
 (remO x1 a1).bind fun x3 =>
 (pf58 x3).bind fun x4 =>
 some (⟨x4,false,0,0⟩:Sym)
 else
 (bif decide (x1=13) then
 some (⟨{ data:=#[101,114,114,111,114] },false,0,0⟩:Sym)
 else
 (pf60 (w64 (x1 - 5))).bind fun x6 =>
 some x6))
structure yuccalaw0_Gr where
 Nons:Int
 Rules:(List (List Int))
 Levels:(List Int)
 Inner:(List Int)
 Bare:Bool
 deriving DecidableEq,Inhabited
def eRule_1:En Rule:=⟨3,fun x=>[SS x.Left,oR eAlt_0 x.Alts,I64 x.At],fun _=>rfl,fun _=>NRl.nr⟩
instance:Tw eRule_1 eRule_0:=⟨rfl,fun x=>(inferInstance:Vws [SS x.Left,oR eAlt_0 x.Alts,I64 x.At] [SS x.Left,iR eAlt_0 x.Alts,I64 x.At])⟩
instance {x:Rule}:Vws (eRule_1.cells x) [SS x.Left,iR eAlt_0 x.Alts,I64 x.At]:=(inferInstance:Vws [SS x.Left,oR eAlt_0 x.Alts,I64 x.At] [SS x.Left,iR eAlt_0 x.Alts,I64 x.At])
def pf19 (a0:yuccalaw0_Gr):Option (Source) :=
 (pf22 a0.Nons 4).bind fun x1 =>
 (pf57 a0.Levels).bind fun x2 =>
 (mkO (w64 (1+x1)) false).bind fun x3 =>
 (loopM (R:=List Rule) (fun (s4:List Rule × Int) =>
 (bif decide (s4.2<w64 (1+x1)) then
 (pf58 s4.2).bind fun x8 =>
 (appO s4.1 [(⟨x8,([]:List Alt),0⟩:Rule)]).bind fun x9 =>
 some (.inl (s4.1++[(⟨x8,([]:List Alt),0⟩:Rule)],w64 (s4.2+1)))
 else
 some (.inr s4.1))) (([]:List Rule),0)).bind fun x5 =>
 (loopM (R:=List Rule × List Bool) (fun (s10:List Rule × List Bool × Int) =>
 ((bif decide (s10.2.2<(a0.Rules.length:Int)) then some (decide (s10.2.2<9)) else some false)).bind fun c14 =>
 (bif c14 then
 ((idx a0.Rules s10.2.2).bind fun x17 =>
 (bif decide ((x17.length:Int)=0) then
 some (s10.1,s10.2.1)
 else
 (idx a0.Rules s10.2.2).bind fun x19 =>
 (idx x19 0).bind fun x20 =>
 (pf22 x20 (w64 (1+x1))).bind fun x21 =>
 (loopM (R:=List Part × Bool) (fun (s22:List Part × Bool × Int) =>
 (((idx a0.Rules s10.2.2).bind fun x25=>(bif decide (s22.2.2<(x25.length:Int)) then some (decide (s22.2.2<5)) else some false))).bind fun c27 =>
 (bif c27 then
 ((idx a0.Rules s10.2.2).bind fun x30 =>
 (idx x30 s22.2.2).bind fun x31 =>
 (pf59 x31 (w64 (1+x1))).bind fun x32 =>
 ((bif s22.2.1 then (bif x32.Lit then some true else some (decide (x32.Name={ data:=#[101,114,114,111,114] }))) else some false)).bind fun c35 =>
 (appO s22.1 [(⟨x32,{ data:=#[] },0⟩:Part)]).bind fun x36 =>
 ((bif decide (s10.2.2<(a0.Inner.length:Int)) then (bif decide (s22.2.2=1) then ((idx a0.Inner s10.2.2).bind fun x39=>((remO x39 3).bind fun x40=>some (decide (x40=1)))) else some false) else some false)).bind fun c41 =>
 ((bif c41 then
 (appO (s22.1++[(⟨x32,{ data:=#[] },0⟩:Part)]) [(⟨(⟨{ data:=#[] },false,0,0⟩:Sym),{ data:=#[123,36,36,32,61,32,36,49,125] },0⟩:Part)]).bind fun x44 =>
 some ((s22.1++[(⟨x32,{ data:=#[] },0⟩:Part)])++[(⟨(⟨{ data:=#[] },false,0,0⟩:Sym),{ data:=#[123,36,36,32,61,32,36,49,125] },0⟩:Part)])
 else
 some (s22.1++[(⟨x32,{ data:=#[] },0⟩:Part)]))).bind fun j42 =>
 some (j42,c35)).bind fun j29 =>
 some (.inl (j29.1,j29.2,w64 (s22.2.2+1)))
 else
 some (.inr (s22.1,s22.2.1)))) (([]:List Part),true,1)).bind fun x23 =>
 ((bif decide (s10.2.2<(a0.Inner.length:Int)) then ((idx a0.Inner s10.2.2).bind fun x46=>((remO x46 2).bind fun x47=>some (!decide (x47=0)))) else some false)).bind fun c48 =>
 ((bif c48 then
 (appO x23.1 [(⟨(⟨{ data:=#[] },false,0,0⟩:Sym),{ data:=#[123,102,40,36,36,41,125] },0⟩:Part)]).bind fun x51 =>
 some (x23.1++[(⟨(⟨{ data:=#[] },false,0,0⟩:Sym),{ data:=#[123,102,40,36,36,41,125] },0⟩:Part)])
 else
 some x23.1)).bind fun j49 =>
 (((idx s10.2.1 x21).bind fun x52=>(bif x52 then some (s10.2.1.set x21.toNat true) else some (s10.2.1.set x21.toNat x23.2)))).bind fun c54 =>
 (idx s10.1 x21).bind fun x55 =>
 (appO x55.Alts [(⟨j49,(⟨{ data:=#[] },false,0,0⟩:Sym),0⟩:Alt)]).bind fun x56 =>
 some (s10.1.set x21.toNat (⟨x55.Left,x55.Alts++[(⟨j49,(⟨{ data:=#[] },false,0,0⟩:Sym),0⟩:Alt)],x55.At⟩:Rule),c54))).bind fun j16 =>
 some (.inl (j16.1,j16.2,w64 (s10.2.2+1)))
 else
 some (.inr (s10.1,s10.2.1)))) (x5,x3,0)).bind fun x11 =>
 (loopM (R:=List Rule) (fun (s57:List Rule × Int) =>
 (bif decide (s57.2<w64 (1+x1)) then
 ((((idx s57.1 s57.2).bind fun x62=>(bif decide ((x62.Alts.length:Int)=0) then some true else ((idx x11.2 s57.2).bind fun x64=>(bif !x64 then some (!a0.Bare) else some false))))).bind fun c66 =>
 ((bif c66 then
 (idx s57.1 s57.2).bind fun x69 =>
 (pf60 s57.2).bind fun x70 =>
 (appO x69.Alts [(⟨[(⟨x70,{ data:=#[] },0⟩:Part)],(⟨{ data:=#[] },false,0,0⟩:Sym),0⟩:Alt)]).bind fun x71 =>
 some (s57.1.set s57.2.toNat (⟨x69.Left,x69.Alts++[(⟨[(⟨x70,{ data:=#[] },0⟩:Part)],(⟨{ data:=#[] },false,0,0⟩:Sym),0⟩:Alt)],x69.At⟩:Rule))
 else
 some s57.1)).bind fun j67 =>
 some j67).bind fun j61 =>
 some (.inl (j61,w64 (s57.2+1)))
 else
 some (.inr s57.1))) (x11.1,0)).bind fun x58 =>
 some (⟨{ data:=#[] },x2,x58,{ data:=#[] }⟩:Source)
def pf62 (a0:(List Int)) (a1:Int):Option ((List Int)) :=
 (loopM (R:=Int) (fun (s1:Int) =>
 ((bif decide (0<s1) then ((idx a0 (w64 (s1 - 1))).bind fun x5=>some (decide (a1<x5))) else some false)).bind fun c6 =>
 (bif c6 then
 some (.inl (w64 (s1 - 1)))
 else
 some (.inr s1))) (a0.length:Int)).bind fun x2 =>
 ((bif decide (0<x2) then ((idx a0 (w64 (x2 - 1))).bind fun x9=>some (decide (x9=a1))) else some false)).bind fun c10 =>
 (bif c10 then
 some a0
 else
 (subO a0 0 x2).bind fun x12 =>
 (appO ([]:List Int) x12).bind fun x13 =>
 (appO (([]:List Int)++x12) [a1]).bind fun x14 =>
 (subO a0 x2 a0.length).bind fun x15 =>
 (appO ((([]:List Int)++x12)++[a1]) x15).bind fun x16 =>
 some ((([]:List Int)++x12)++[a1]++x15))
def pf21 (a0:Grammar):Option ((List Pair)) :=
 (loopM (R:=List Int) (fun (s1:List Int × Int) =>
 (bif decide (s1.2<(a0.Toks.length:Int)) then
 ((idx a0.Toks s1.2).bind fun x6 =>
 ((bif decide (0<x6.Num) then
 (idx a0.Toks s1.2).bind fun x9 =>
 (pf62 s1.1 x9.Num).bind fun x10 =>
 some x10
 else
 some s1.1)).bind fun j7 =>
 some j7).bind fun j5 =>
 some (.inl (j5,w64 (s1.2+1)))
 else
 some (.inr s1.1))) (([]:List Int),0)).bind fun x2 =>
 (loopM (R:=List Pair) (fun (s11:List Pair × Int) =>
 (bif decide (s11.2<(x2.length:Int)) then
 (loopM (R:=List Pair) (fun (s15:List Pair × Int) =>
 (bif decide (s15.2<(a0.Toks.length:Int)) then
 ((idx a0.Toks s15.2).bind fun x20 =>
 (idx x2 s11.2).bind fun x21 =>
 ((bif decide (x20.Num=x21) then
 (idx x2 s11.2).bind fun x24 =>
 (appO s15.1 [(⟨x24,s15.2⟩:Pair)]).bind fun x25 =>
 some (s15.1++[(⟨x24,s15.2⟩:Pair)])
 else
 some s15.1)).bind fun j22 =>
 some j22).bind fun j19 =>
 some (.inl (j19,w64 (s15.2+1)))
 else
 some (.inr s15.1))) (s11.1,0)).bind fun x16 =>
 some (.inl (x16,w64 (s11.2+1)))
 else
 some (.inr s11.1))) (([]:List Pair),0)).bind fun x12 =>
 some x12
def pf26 (a0:Grammar) (a1:Int):Option (Int) :=
 (bif decide (a1<=0) then
 some 0
 else
 (loopM (R:=(Unit) ⊕ (Int)) (fun (s2:Int) =>
 (bif decide (s2<(a0.Toks.length:Int)) then
 (idx a0.Toks s2).bind fun x7 =>
 (bif decide (x7.Num=a1) then
 some (.inr (.inr s2))
 else
 some (.inl (w64 (s2+1))))
 else
 some (.inr (.inl ())))) 0).bind fun x3 =>
 (match x3 with
 | .inl x4 =>
 some 2
 | .inr x5 =>
 some x5))
def eSource_0:En Source:=⟨4,fun x=>[SS x.Pro,iR eDecl_0 x.Decls,iR eRule_0 x.Rules,SS x.Tail],fun _=>rfl,fun _=>NRl.nr⟩
instance:Flat eSource_0:=⟨fun _=>rfl⟩
instance:Tw eSource_0 eSource_0:=⟨rfl,fun x=>(inferInstance:Vws [SS x.Pro,iR eDecl_0 x.Decls,iR eRule_0 x.Rules,SS x.Tail] [SS x.Pro,iR eDecl_0 x.Decls,iR eRule_0 x.Rules,SS x.Tail])⟩
instance {x:Source}:Vws (eSource_0.cells x) [SS x.Pro,iR eDecl_0 x.Decls,iR eRule_0 x.Rules,SS x.Tail]:=(inferInstance:Vws [SS x.Pro,iR eDecl_0 x.Decls,iR eRule_0 x.Rules,SS x.Tail] [SS x.Pro,iR eDecl_0 x.Decls,iR eRule_0 x.Rules,SS x.Tail])
def pf3 (a0:Source) (a1:yuccalaw0_Gr) (a2:Int) (a3:Int):Option (Bool) :=
 (pf17 ).bind fun x1 =>
 (bif !x1 then
 some false
 else
 (pf18 a0).bind fun x3 =>
 (pf19 a1).bind fun x4 =>
 (loopM (R:=(Unit) ⊕ (Bool)) (fun (s5:Int) =>
 (bif decide (s5<([x3,x4].length:Int)) then
 (idx [x3,x4] s5).bind fun x10 =>
 (pf20 x10).bind fun x11 =>
 (bif !x11.2 then
 some (.inl (w64 (s5+1)))
 else
 (pf21 x11.1).bind fun x13 =>
 (pf22 a3 140).bind fun x14 =>
 (((pf24 x11.1).bind fun x15=>((pf23 x15 x13).bind fun x16=>(bif !x16 then some true else ((pf25 x13 a2).bind fun x18=>((pf26 x11.1 a2).bind fun x19=>(bif !decide (x18=x19) then some true else ((pf25 x13 x14).bind fun x21=>((pf26 x11.1 x14).bind fun x22=>(bif !decide (x21=x22) then some true else ((pf25 x13 (w64 (57340+x14))).bind fun x24=>((pf26 x11.1 (w64 (57340+x14))).bind fun x25=>some (!decide (x24=x25)))))))))))))).bind fun c26 =>
 (bif c26 then
 some (.inr (.inr false))
 else
 some (.inl (w64 (s5+1)))))
 else
 some (.inr (.inl ())))) 0).bind fun x6 =>
 (match x6 with
 | .inl x7 =>
 some true
 | .inr x8 =>
 some x8))
def pf4 (a0:Source):Option (Bool) :=
 (pf17 ).bind fun x1 =>
 (bif !x1 then
 some false
 else
 (pf18 a0).bind fun x3 =>
 (pf20 x3).bind fun x4 =>
 (bif !x4.2 then
 some true
 else
 (pf24 x4.1).bind fun x6 =>
 (bif !decide ((x6.length:Int)=w64 ((x4.1.Toks.length:Int) - 3)) then
 some false
 else
 (loopM (R:=(Unit) ⊕ (Bool)) (fun (s8:Int) =>
 (bif decide (s8<(x6.length:Int)) then
 ((bif decide (0<s8) then ((idx x6 s8).bind fun x14=>((idx x6 (w64 (s8 - 1))).bind fun x15=>(bif decide (x14.At<=x15.At) then some true else ((idx x6 s8).bind fun x17=>(bif decide (x17.Val<3) then some true else ((idx x6 s8).bind fun x19=>(bif decide ((x4.1.Toks.length:Int)<=x19.Val) then some true else ((idx x6 s8).bind fun x21=>((idx x4.1.Toks x21.Val).bind fun x22=>((idx x6 s8).bind fun x23=>(bif !decide (x22.Num=x23.At) then some true else ((idx x6 s8).bind fun x25=>((pf25 x6 x25.At).bind fun x26=>((idx x6 s8).bind fun x27=>some (!decide (x26=x27.Val)))))))))))))))) else ((idx x6 s8).bind fun x28=>(bif decide (x28.Val<3) then some true else ((idx x6 s8).bind fun x30=>(bif decide ((x4.1.Toks.length:Int)<=x30.Val) then some true else ((idx x6 s8).bind fun x32=>((idx x4.1.Toks x32.Val).bind fun x33=>((idx x6 s8).bind fun x34=>(bif !decide (x33.Num=x34.At) then some true else ((idx x6 s8).bind fun x36=>((pf25 x6 x36.At).bind fun x37=>((idx x6 s8).bind fun x38=>some (!decide (x37=x38.Val))))))))))))))).bind fun c39 =>
 (bif c39 then
 some (.inr (.inr false))
 else
 some (.inl (w64 (s8+1))))
 else
 some (.inr (.inl ())))) 0).bind fun x9 =>
 (match x9 with
 | .inl x10 =>
 (loopM (R:=(Unit) ⊕ (Bool)) (fun (s41:Int) =>
 (bif decide (s41<(x4.1.Toks.length:Int)) then
 (idx x4.1.Toks s41).bind fun x46 =>
 (pf25 x6 x46.Num).bind fun x47 =>
 (bif !decide (x47=s41) then
 some (.inr (.inr false))
 else
 some (.inl (w64 (s41+1))))
 else
 some (.inr (.inl ())))) 3).bind fun x42 =>
 (match x42 with
 | .inl x43 =>
 some true
 | .inr x44 =>
 some x44)
 | .inr x11 =>
 some x11))))
def pf27 (a0:(List Int)) (a1:Int):Option (Bool) :=
 (loopM (R:=(Unit) ⊕ (Bool)) (fun (s1:Int) =>
 (bif decide (s1<(a0.length:Int)) then
 (idx a0 s1).bind fun x6 =>
 (bif decide (x6=a1) then
 some (.inr (.inr true))
 else
 some (.inl (w64 (s1+1))))
 else
 some (.inr (.inl ())))) 0).bind fun x2 =>
 (match x2 with
 | .inl x3 =>
 some false
 | .inr x4 =>
 some x4)
def pf5 (a0:(List Int)) (a1:Int):Option (Bool) :=
 (pf17 ).bind fun x1 =>
 (bif !x1 then
 some false
 else
 (loopM (R:=List Sym × List Int) (fun (s3:List Sym × List Int × Int) =>
 ((bif decide (s3.2.2<(a0.length:Int)) then some (decide (s3.2.2<20)) else some false)).bind fun c7 =>
 (bif c7 then
 ((idx a0 s3.2.2).bind fun x10 =>
 (pf22 x10 30).bind fun x11 =>
 (pf27 s3.2.1 (w64 (1+x11))).bind fun x12 =>
 ((bif !x12 then
 (appO s3.2.1 [w64 (1+x11)]).bind fun x15 =>
 (pf28 (w64 (1+x11))).bind fun x16 =>
 (catO ({ data:=#[116] }) x16).bind fun x17 =>
 (appO s3.1 [(⟨x17,false,w64 (1+x11),0⟩:Sym)]).bind fun x18 =>
 some (s3.1++[(⟨x17,false,w64 (1+x11),0⟩:Sym)],s3.2.1++[w64 (1+x11)])
 else
 some (s3.1,s3.2.1))).bind fun j13 =>
 some (j13.1,j13.2)).bind fun j9 =>
 some (.inl (j9.1,j9.2,w64 (s3.2.2+1)))
 else
 some (.inr (s3.1,s3.2.1)))) (([]:List Sym),([]:List Int),0)).bind fun x4 =>
 ((bif decide (0<(x4.2.length:Int)) then
 some [(⟨1,{ data:=#[] },x4.1,0⟩:Decl)]
 else
 some ([]:List Decl))).bind fun j19 =>
 (pf20 (⟨{ data:=#[] },j19,[(⟨{ data:=#[115] },[(⟨([]:List Part),(⟨{ data:=#[] },false,0,0⟩:Sym),0⟩:Alt)],0⟩:Rule)],{ data:=#[] }⟩:Source)).bind fun x21 =>
 (pf24 x21.1).bind fun x22 =>
 (loopM (R:=(Unit) ⊕ (Bool)) (fun (s23:Int) =>
 (bif decide (s23<34) then
 (pf25 x22 s23).bind fun x28 =>
 ((bif decide (s23<=0) then some (!decide (x28=0)) else some false)).bind fun c30 =>
 (bif c30 then
 some (.inr (.inr false))
 else
 ((bif decide (0<s23) then ((pf27 x4.2 s23).bind fun x33=>(bif !x33 then some (!decide (x28=2)) else some false)) else some false)).bind fun c35 =>
 (bif c35 then
 some (.inr (.inr false))
 else
 (((pf27 x4.2 s23).bind fun x37=>(bif x37 then (bif decide (x28<3) then some true else (bif decide ((x21.1.Toks.length:Int)<=x28) then some true else ((idx x21.1.Toks x28).bind fun x41=>((pf28 s23).bind fun x42=>((catO ({ data:=#[116] }) x42).bind fun x43=>some (!decide (x41.Name=x43))))))) else some false))).bind fun c44 =>
 (bif c44 then
 some (.inr (.inr false))
 else
 some (.inl (w64 (s23+1))))))
 else
 some (.inr (.inl ())))) (-3)).bind fun x24 =>
 (match x24 with
 | .inl x25 =>
 ((bif x21.2 then ((pf25 x22 a1).bind fun x47=>some ((decide (a1<=0)) == (decide (x47=0)))) else some false)).bind fun c48 =>
 some c48
 | .inr x26 =>
 some x26))
structure Item where
 Prod:Int
 Dot:Int
 deriving DecidableEq,Inhabited
def pf68 (a0:Grammar) (a1:Item):Option (Bool) :=
 ((bif decide (0<=a1.Prod) then (bif decide (a1.Prod<(a0.Prods.length:Int)) then (bif decide (0<=a1.Dot) then ((idx a0.Prods a1.Prod).bind fun x4=>some (decide (a1.Dot<=(x4.Right.length:Int)))) else some false) else some false) else some false)).bind fun c5 =>
 some c5
def pf32 (a0:Grammar) (a1:Item):Option (Int) :=
 (((pf68 a0 a1).bind fun x1=>(bif !x1 then some true else ((idx a0.Prods a1.Prod).bind fun x3=>some (decide (a1.Dot=(x3.Right.length:Int))))))).bind fun c4 =>
 (bif c4 then
 some (-1)
 else
 (idx a0.Prods a1.Prod).bind fun x6 =>
 (idx x6.Right a1.Dot).bind fun x7 =>
 some x7)
def eItem:En Item:=⟨2,fun x=>[I64 x.Prod,I64 x.Dot],fun _=>rfl,fun _=>NRl.nr⟩
instance:Flat eItem:=⟨fun _=>rfl⟩
instance:OOe eItem:=⟨fun x=>(inferInstance:OOl [I64 x.Prod,I64 x.Dot])⟩
instance:Tw eItem eItem:=⟨rfl,fun x=>(inferInstance:Vws [I64 x.Prod,I64 x.Dot] [I64 x.Prod,I64 x.Dot])⟩
def pf35 (a0:(List Item)) (a1:(List Item)):Option (Bool) :=
 (bif !decide ((a0.length:Int)=(a1.length:Int)) then
 some false
 else
 (loopM (R:=(Unit) ⊕ (Bool)) (fun (s2:Int) =>
 (bif decide (s2<(a0.length:Int)) then
 (idx a0 s2).bind fun x7 =>
 (idx a1 s2).bind fun x8 =>
 (bif !(decide (x7.Prod=x8.Prod)&&(decide (x7.Dot=x8.Dot)&&true)) then
 some (.inr (.inr false))
 else
 some (.inl (w64 (s2+1))))
 else
 some (.inr (.inl ())))) 0).bind fun x3 =>
 (match x3 with
 | .inl x4 =>
 some true
 | .inr x5 =>
 some x5))
def pf99 (a0:(List Int)):Option (Int) :=
 (loopM (R:=(Unit) ⊕ (Int)) (fun (s1:Int) =>
 (bif decide (s1<(a0.length:Int)) then
 (idx a0 s1).bind fun x6 =>
 (bif !decide (x6=0) then
 some (.inr (.inr x6))
 else
 some (.inl (w64 (s1+1))))
 else
 some (.inr (.inl ())))) 0).bind fun x2 =>
 (match x2 with
 | .inl x3 =>
 some 0
 | .inr x4 =>
 some x4)
def pf71 (a0:Item) (a1:Item):Option (Int) :=
 (pf65 a0.Prod a1.Prod).bind fun x1 =>
 (pf65 a0.Dot a1.Dot).bind fun x2 =>
 (pf99 [x1,x2]).bind fun x3 =>
 some x3
def pf36 (a0:Grammar) (a1:(List Item)):Option ((List Item)) :=
 (loopM (R:=List Item) (fun (s1:List Item × Int) =>
 (bif decide (s1.2<(a1.length:Int)) then
 ((idx a1 s1.2).bind fun x6 =>
 (pf68 a0 x6).bind fun x7 =>
 ((bif x7 then
 (appO s1.1 [x6]).bind fun x10 =>
 some (s1.1++[x6])
 else
 some s1.1)).bind fun j8 =>
 some j8).bind fun j5 =>
 some (.inl (j5,w64 (s1.2+1)))
 else
 some (.inr s1.1))) (([]:List Item),0)).bind fun x2 =>
 (mkO (a0.Nons.length:Int) false).bind fun x11 =>
 (loopM (R:=List Item) (fun (s12:List Item × List Bool × Int) =>
 (bif decide (s12.2.2<(s12.1.length:Int)) then
 ((idx s12.1 s12.2.2).bind fun x17 =>
 (pf32 a0 x17).bind fun x18 =>
 ((bif decide (w64 (x18 - 1000)<0) then some true else ((idx s12.2.1 (w64 (x18 - 1000))).bind fun x20=>some x20))).bind fun c21 =>
 (bif c21 then
 some (s12.1,s12.2.1)
 else
 (idx s12.2.1 (w64 (x18 - 1000))).bind fun x23 =>
 (loopM (R:=List Item) (fun (s24:List Item × Int) =>
 (bif decide (s24.2<(a0.Prods.length:Int)) then
 ((idx a0.Prods s24.2).bind fun x29 =>
 ((bif decide (x29.Left=w64 (x18 - 1000)) then
 (appO s24.1 [(⟨s24.2,0⟩:Item)]).bind fun x32 =>
 some (s24.1++[(⟨s24.2,0⟩:Item)])
 else
 some s24.1)).bind fun j30 =>
 some j30).bind fun j28 =>
 some (.inl (j28,w64 (s24.2+1)))
 else
 some (.inr s24.1))) (s12.1,0)).bind fun x25 =>
 some (x25,s12.2.1.set (w64 (x18 - 1000)).toNat true))).bind fun j16 =>
 some (.inl (j16.1,j16.2,w64 (s12.2.2+1)))
 else
 some (.inr s12.1))) (x2,x11,0)).bind fun x13 =>
 (sortO (fun a b=>pf71 a b) x13).bind fun x33 =>
 (compO x33).bind fun x34 =>
 some x34
def pf75 (a0:Grammar) (a1:(List Item)) (a2:Int):Option ((List Item)) :=
 (loopM (R:=List Item) (fun (s1:List Item × Int) =>
 (bif decide (s1.2<(a1.length:Int)) then
 ((idx a1 s1.2).bind fun x6 =>
 (pf32 a0 x6).bind fun x7 =>
 ((bif decide (0<=x7) then some (decide (x7=a2)) else some false)).bind fun c9 =>
 ((bif c9 then
 (appO s1.1 [(⟨x6.Prod,w64 (x6.Dot+1)⟩:Item)]).bind fun x12 =>
 some (s1.1++[(⟨x6.Prod,w64 (x6.Dot+1)⟩:Item)])
 else
 some s1.1)).bind fun j10 =>
 some j10).bind fun j5 =>
 some (.inl (j5,w64 (s1.2+1)))
 else
 some (.inr s1.1))) (([]:List Item),0)).bind fun x2 =>
 some x2
def pf38 (a0:Grammar) (a1:(List Item)) (a2:Int):Option ((List Item)) :=
 (pf36 a0 a1).bind fun x1 =>
 (pf75 a0 x1 a2).bind fun x2 =>
 some x2
def pf30 (a0:Grammar) (a1:(List Int)) (a2:Int):Option ((List Item)) :=
 (loopM (R:=List Item) (fun (s1:List Item × Int) =>
 ((bif decide (s1.2<(a1.length:Int)) then some (decide (s1.2<a2)) else some false)).bind fun c5 =>
 (bif c5 then
 (idx a1 s1.2).bind fun x7 =>
 (pf22 x7 (w64 (8 * (w64 ((a0.Prods.length:Int)+1))))).bind fun x8 =>
 (quoO x8 8).bind fun x9 =>
 (remO x8 8).bind fun x10 =>
 (appO s1.1 [(⟨x9,x10⟩:Item)]).bind fun x11 =>
 some (.inl (s1.1++[(⟨x9,x10⟩:Item)],w64 (s1.2+1)))
 else
 some (.inr s1.1))) (([]:List Item),0)).bind fun x2 =>
 some x2
def pf31 (a0:(List Item)) (a1:Int):Option ((List Item)) :=
 (bif decide (a1<(a0.length:Int)) then
 (subO a0 0 a1).bind fun x2 =>
 some x2
 else
 some a0)
def pf69 (a0:Grammar) (a1:Item):Option (Bool) :=
 ((bif decide (0<=a1.Prod) then (bif decide (a1.Prod<(a0.Prods.length:Int)) then (bif decide (0<=a1.Dot) then ((idx a0.Prods a1.Prod).bind fun x4=>some (decide (a1.Dot<=(x4.Right.length:Int)))) else some false) else some false) else some false)).bind fun c5 =>
 some c5
def pf33 (a0:Grammar) (a1:Item):Option (Int) :=
 (((pf69 a0 a1).bind fun x1=>(bif !x1 then some true else ((idx a0.Prods a1.Prod).bind fun x3=>some (decide (a1.Dot=(x3.Right.length:Int))))))).bind fun c4 =>
 (bif c4 then
 some (-1)
 else
 (idx a0.Prods a1.Prod).bind fun x6 =>
 (idx x6.Right a1.Dot).bind fun x7 =>
 some x7)
def pf74 (a0:(List Item)) (a1:Item):Option ((List Item)) :=
 (loopM (R:=Int) (fun (s1:Int) =>
 ((bif decide (0<s1) then ((idx a0 (w64 (s1 - 1))).bind fun x5=>(bif decide (a1.Prod<x5.Prod) then some true else ((idx a0 (w64 (s1 - 1))).bind fun x7=>(bif decide (x7.Prod=a1.Prod) then ((idx a0 (w64 (s1 - 1))).bind fun x9=>some (decide (a1.Dot<x9.Dot))) else some false)))) else some false)).bind fun c10 =>
 (bif c10 then
 some (.inl (w64 (s1 - 1)))
 else
 some (.inr s1))) (a0.length:Int)).bind fun x2 =>
 ((bif decide (0<x2) then ((idx a0 (w64 (x2 - 1))).bind fun x13=>some (decide (x13.Prod=a1.Prod)&&(decide (x13.Dot=a1.Dot)&&true))) else some false)).bind fun c14 =>
 (bif c14 then
 some a0
 else
 (subO a0 0 x2).bind fun x16 =>
 (appO ([]:List Item) x16).bind fun x17 =>
 (appO (([]:List Item)++x16) [a1]).bind fun x18 =>
 (subO a0 x2 a0.length).bind fun x19 =>
 (appO ((([]:List Item)++x16)++[a1]) x19).bind fun x20 =>
 some ((([]:List Item)++x16)++[a1]++x19))
def pf73 (a0:Grammar) (a1:(List Item)):Option ((List Item)) :=
 (loopM (R:=List Item) (fun (s1:List Item × Int) =>
 (bif decide (s1.2<(a1.length:Int)) then
 ((idx a1 s1.2).bind fun x6 =>
 (pf69 a0 x6).bind fun x7 =>
 ((bif x7 then
 (idx a1 s1.2).bind fun x10 =>
 (pf74 s1.1 x10).bind fun x11 =>
 some x11
 else
 some s1.1)).bind fun j8 =>
 some j8).bind fun j5 =>
 some (.inl (j5,w64 (s1.2+1)))
 else
 some (.inr s1.1))) (([]:List Item),0)).bind fun x2 =>
 some x2
def pf37 (a0:Grammar) (a1:(List Item)):Option ((List Item)) :=
 (pf73 a0 a1).bind fun x1 =>
 (loopM (R:=List Item) (fun (s2:List Item × Int) =>
 (bif !decide (s2.2=(s2.1.length:Int)) then
 (((loopM (R:=List Item) (fun (s8:List Item × Int) =>
 (bif decide (s8.2<(s2.1.length:Int)) then
 (idx s8.1 s8.2).bind fun x12 =>
 (pf33 a0 x12).bind fun x13 =>
 (loopM (R:=List Item) (fun (s14:List Item × Int) =>
 ((bif decide (s14.2<(a0.Prods.length:Int)) then some (decide (1000<=x13)) else some false)).bind fun c18 =>
 (bif c18 then
 ((idx a0.Prods s14.2).bind fun x21 =>
 ((bif decide (x21.Left=w64 (x13 - 1000)) then
 (pf74 s14.1 (⟨s14.2,0⟩:Item)).bind fun x24 =>
 some x24
 else
 some s14.1)).bind fun j22 =>
 some j22).bind fun j20 =>
 some (.inl (j20,w64 (s14.2+1)))
 else
 some (.inr s14.1))) (s8.1,0)).bind fun x15 =>
 (bif !decide ((x15.length:Int)=(s2.1.length:Int)) then
 some (.inr x15)
 else
 some (.inl (x15,w64 (s8.2+1))))
 else
 some (.inr s8.1))) (s2.1,0)).bind fun x9 =>
 some x9).bind fun j7 =>
 some (j7,(s2.1.length:Int))).bind fun j6 =>
 some (.inl (j6.1,j6.2))
 else
 some (.inr s2.1))) (x1,(-1))).bind fun x3 =>
 some x3
def pf39 (a0:Grammar) (a1:(List Item)) (a2:Int):Option ((List Item)) :=
 (pf37 a0 a1).bind fun x1 =>
 (loopM (R:=List Item) (fun (s2:List Item × Int) =>
 (bif decide (s2.2<(x1.length:Int)) then
 ((idx x1 s2.2).bind fun x7 =>
 (pf33 a0 x7).bind fun x8 =>
 ((bif decide (0<=x8) then some (decide (x8=a2)) else some false)).bind fun c10 =>
 ((bif c10 then
 (idx x1 s2.2).bind fun x13 =>
 (idx x1 s2.2).bind fun x14 =>
 (pf74 s2.1 (⟨x13.Prod,w64 (x14.Dot+1)⟩:Item)).bind fun x15 =>
 some x15
 else
 some s2.1)).bind fun j11 =>
 some j11).bind fun j6 =>
 some (.inl (j6,w64 (s2.2+1)))
 else
 some (.inr s2.1))) (([]:List Item),0)).bind fun x3 =>
 some x3
def pf81 (a0:List Item):Option (List Item):=cloneO a0
structure Move where
 Sym:Int
 To:Int
 deriving DecidableEq,Inhabited
structure State where
 Kernel:(List Item)
 Moves:(List Move)
 deriving DecidableEq,Inhabited
def eMove:En Move:=⟨2,fun x=>[I64 x.Sym,I64 x.To],fun _=>rfl,fun _=>NRl.nr⟩
instance:Flat eMove:=⟨fun _=>rfl⟩
instance:OOe eMove:=⟨fun x=>(inferInstance:OOl [I64 x.Sym,I64 x.To])⟩
instance:Tw eMove eMove:=⟨rfl,fun x=>(inferInstance:Vws [I64 x.Sym,I64 x.To] [I64 x.Sym,I64 x.To])⟩
def eState_0:En State:=⟨2,fun x=>[iR eItem x.Kernel,iR eMove x.Moves],fun _=>rfl,fun _=>NRl.nr⟩
instance:Flat eState_0:=⟨fun _=>rfl⟩
instance:Tw eState_0 eState_0:=⟨rfl,fun x=>(inferInstance:Vws [iR eItem x.Kernel,iR eMove x.Moves] [iR eItem x.Kernel,iR eMove x.Moves])⟩
def pf84 (a0:(List Item)) (a1:(List Item)):Option (Bool) :=
 (bif !decide ((a0.length:Int)=(a1.length:Int)) then
 some false
 else
 (loopM (R:=(Unit) ⊕ (Bool)) (fun (s2:Int) =>
 (bif decide (s2<(a0.length:Int)) then
 (idx a0 s2).bind fun x7 =>
 (idx a1 s2).bind fun x8 =>
 (bif !(decide (x7.Prod=x8.Prod)&&(decide (x7.Dot=x8.Dot)&&true)) then
 some (.inr (.inr false))
 else
 some (.inl (w64 (s2+1))))
 else
 some (.inr (.inl ())))) 0).bind fun x3 =>
 (match x3 with
 | .inl x4 =>
 some true
 | .inr x5 =>
 some x5))
def pf83 (a0:State) (c0:(List Item)):Option (Bool) :=
 (pf84 a0.Kernel c0).bind fun x1 =>
 some x1
def pf82_83 (a0:(List State)) (a1_0:(List Item)):Option (Int) :=
 (loopM (R:=(Unit) ⊕ (Int)) (fun (s1:Int) =>
 (bif decide (s1<(a0.length:Int)) then
 (idx a0 s1).bind fun x6 =>
 (pf83 x6 a1_0).bind fun x7 =>
 (bif x7 then
 some (.inr (.inr s1))
 else
 some (.inl (w64 (s1+1))))
 else
 some (.inr (.inl ())))) 0).bind fun x2 =>
 (match x2 with
 | .inl x3 =>
 some (-1)
 | .inr x4 =>
 some x4)
def pf48 (a0:(List State)) (a1:(List Item)):Option (Int) :=
 (pf81 a1).bind fun x1 =>
 (sortO (fun a b=>pf71 a b) x1).bind fun x2 =>
 (compO x2).bind fun x3 =>
 (pf82_83 a0 x3).bind fun x4 =>
 some x4
def pf79 (a0:Grammar):Option ((List Int)) :=
 (loopM (R:=List Int) (fun (s1:List Int × Int) =>
 (bif decide (s1.2<(a0.Toks.length:Int)) then
 (appO s1.1 [s1.2]).bind fun x5 =>
 some (.inl (s1.1++[s1.2],w64 (s1.2+1)))
 else
 some (.inr s1.1))) (([]:List Int),0)).bind fun x2 =>
 (loopM (R:=List Int) (fun (s6:List Int × Int) =>
 (bif decide (s6.2<(a0.Nons.length:Int)) then
 (appO s6.1 [w64 (1000+s6.2)]).bind fun x10 =>
 some (.inl (s6.1++[w64 (1000+s6.2)],w64 (s6.2+1)))
 else
 some (.inr s6.1))) (x2,0)).bind fun x7 =>
 some x7
def eState_m:En State:=⟨2,fun x=>[iR eItem x.Kernel,oR eMove x.Moves],fun _=>rfl,fun _=>NRl.nr⟩
instance:Tw eState_m eState_0:=⟨rfl,fun x=>(inferInstance:Vws [iR eItem x.Kernel,oR eMove x.Moves] [iR eItem x.Kernel,iR eMove x.Moves])⟩
def pf44 (a0:Grammar):Option ((List State) × Int) :=
 (pf79 a0).bind fun x1 =>
 (loopM (R:=(List State) ⊕ (List State × Int)) (fun (s2:List State × Int) =>
 (bif decide (s2.2<(s2.1.length:Int)) then
 (idx s2.1 s2.2).bind fun x7 =>
 (pf36 a0 x7.Kernel).bind fun x8 =>
 (loopM (R:=(List State) ⊕ (List State × Int)) (fun (s9:List State × Int) =>
 (bif decide (s9.2<(x1.length:Int)) then
 (idx x1 s9.2).bind fun x14 =>
 (pf75 a0 x8 x14).bind fun x15 =>
 (bif decide ((x15.length:Int)=0) then
 some (.inl (s9.1,w64 (s9.2+1)))
 else
 (pf48 s9.1 x15).bind fun x17 =>
 ((bif decide (x17<0) then
 (appO s9.1 [(⟨x15,([]:List Move)⟩:State)]).bind fun x20 =>
 some (s9.1++[(⟨x15,([]:List Move)⟩:State)],(s9.1.length:Int))
 else
 some (s9.1,x17))).bind fun j18 =>
 (bif decide (150<=j18.2) then
 some (.inr (.inr (([]:List State),4)))
 else
 (idx j18.1 s2.2).bind fun x22 =>
 (appO x22.Moves [(⟨x14,j18.2⟩:Move)]).bind fun x23 =>
 some (.inl (j18.1.set s2.2.toNat (⟨x22.Kernel,x22.Moves++[(⟨x14,j18.2⟩:Move)]⟩:State),w64 (s9.2+1)))))
 else
 some (.inr (.inl s9.1)))) (s2.1,0)).bind fun x10 =>
 (match x10 with
 | .inl x11 =>
 some (.inl (x11,w64 (s2.2+1)))
 | .inr x12 =>
 some (.inr (.inr (x12.1,x12.2))))
 else
 some (.inr (.inl s2.1)))) ([(⟨[(⟨0,0⟩:Item)],([]:List Move)⟩:State)],0)).bind fun x3 =>
 (match x3 with
 | .inl x4 =>
 some (x4,0)
 | .inr x5 =>
 some (x5.1,x5.2))
def pf103 (a0:(List State)) (a1:Int) (a2:Int):Option (Int) :=
 (idx a0 a1).bind fun x1 =>
 (loopM (R:=(Unit) ⊕ (Int)) (fun (s2:Int) =>
 (bif decide (s2<(x1.Moves.length:Int)) then
 (idx x1.Moves s2).bind fun x7 =>
 (bif decide (x7.Sym=a2) then
 some (.inr (.inr x7.To))
 else
 some (.inl (w64 (s2+1))))
 else
 some (.inr (.inl ())))) 0).bind fun x3 =>
 (match x3 with
 | .inl x4 =>
 some (-1)
 | .inr x5 =>
 some x5)
def pf85 (a0:(List State)) (a1:Int) (a2:(List Int)):Option (Int) :=
 (loopM (R:=(Int) ⊕ (Int)) (fun (s1:Int × Int) =>
 (bif decide (s1.2<(a2.length:Int)) then
 (idx a2 s1.2).bind fun x6 =>
 (pf103 a0 s1.1 x6).bind fun x7 =>
 (bif decide (x7<0) then
 some (.inr (.inr (-1)))
 else
 some (.inl (x7,w64 (s1.2+1))))
 else
 some (.inr (.inl s1.1)))) (a1,0)).bind fun x2 =>
 (match x2 with
 | .inl x3 =>
 some x3
 | .inr x4 =>
 some x4)
def pf52 (a0:(List State)) (a1:(List Int)):Option (Int) :=
 (pf85 a0 0 a1).bind fun x1 =>
 some x1
def pf78 (a0:(List Move)) (a1:(List Move)):Option (Bool) :=
 (bif !decide ((a0.length:Int)=(a1.length:Int)) then
 some false
 else
 (loopM (R:=(Unit) ⊕ (Bool)) (fun (s2:Int) =>
 (bif decide (s2<(a0.length:Int)) then
 (idx a0 s2).bind fun x7 =>
 (idx a1 s2).bind fun x8 =>
 (bif !(decide (x7.Sym=x8.Sym)&&(decide (x7.To=x8.To)&&true)) then
 some (.inr (.inr false))
 else
 some (.inl (w64 (s2+1))))
 else
 some (.inr (.inl ())))) 0).bind fun x3 =>
 (match x3 with
 | .inl x4 =>
 some true
 | .inr x5 =>
 some x5))
def pf43 :Option (Bool) :=
 (pf20 (⟨{ data:=#[] },([]:List Decl),[(⟨{ data:=#[115] },[(⟨[(⟨(⟨{ data:=#[120] },true,0,0⟩:Sym),{ data:=#[] },0⟩:Part)],(⟨{ data:=#[] },false,0,0⟩:Sym),0⟩:Alt)],0⟩:Rule)],{ data:=#[] }⟩:Source)).bind fun x1 =>
 (pf44 x1.1).bind fun x2 =>
 ((bif x1.2 then (bif decide (x2.2=0) then (bif decide ((x2.1.length:Int)=3) then ((idx x2.1 0).bind fun x6=>((pf78 x6.Moves [(⟨3,1⟩:Move),(⟨1001,2⟩:Move)]).bind fun x7=>(bif x7 then ((idx x2.1 2).bind fun x9=>((pf35 x9.Kernel [(⟨0,1⟩:Item)]).bind fun x10=>(bif x10 then ((pf48 x2.1 [(⟨1,1⟩:Item),(⟨1,1⟩:Item)]).bind fun x12=>(bif decide (x12=1) then ((pf48 x2.1 ([]:List Item)).bind fun x14=>(bif decide (x14=(-1)) then ((pf52 x2.1 [1001]).bind fun x16=>(bif decide (x16=2) then ((pf52 x2.1 [3,3]).bind fun x18=>(bif decide (x18=(-1)) then ((pf52 x2.1 ([]:List Int)).bind fun x20=>some (decide (x20=0))) else some false)) else some false)) else some false)) else some false)) else some false))) else some false))) else some false) else some false) else some false)).bind fun c21 =>
 some c21
def pf54 (a0:Grammar):Option ((List Int)) :=
 (loopM (R:=List Int) (fun (s1:List Int × Int) =>
 (bif decide (s1.2<(a0.Toks.length:Int)) then
 (appO s1.1 [s1.2]).bind fun x5 =>
 some (.inl (s1.1++[s1.2],w64 (s1.2+1)))
 else
 some (.inr s1.1))) (([]:List Int),0)).bind fun x2 =>
 (loopM (R:=List Int) (fun (s6:List Int × Int) =>
 (bif decide (s6.2<(a0.Nons.length:Int)) then
 (appO s6.1 [w64 (1000+s6.2)]).bind fun x10 =>
 some (.inl (s6.1++[w64 (1000+s6.2)],w64 (s6.2+1)))
 else
 some (.inr s6.1))) (x2,0)).bind fun x7 =>
 some x7
def pf80 (a0:(List State)) (a1:(List Item)):Option (Int) :=
 (loopM (R:=(Unit) ⊕ (Int)) (fun (s1:Int) =>
 (bif decide (s1<(a0.length:Int)) then
 (idx a0 s1).bind fun x6 =>
 (pf35 x6.Kernel a1).bind fun x7 =>
 (bif x7 then
 some (.inr (.inr s1))
 else
 some (.inl (w64 (s1+1))))
 else
 some (.inr (.inl ())))) 0).bind fun x2 =>
 (match x2 with
 | .inl x3 =>
 some (-1)
 | .inr x4 =>
 some x4)
def pf45 (a0:Grammar):Option ((List State) × Int) :=
 (pf54 a0).bind fun x1 =>
 (loopM (R:=(List State) ⊕ (List State × Int)) (fun (s2:List State × Int) =>
 (bif decide (s2.2<(s2.1.length:Int)) then
 (idx s2.1 s2.2).bind fun x7 =>
 (pf37 a0 x7.Kernel).bind fun x8 =>
 (loopM (R:=List Int) (fun (s9:List Int × Int) =>
 (bif decide (s9.2<(x8.length:Int)) then
 ((idx x8 s9.2).bind fun x14 =>
 (pf33 a0 x14).bind fun x15 =>
 ((bif decide (0<=x15) then
 (pf62 s9.1 x15).bind fun x18 =>
 some x18
 else
 some s9.1)).bind fun j16 =>
 some j16).bind fun j13 =>
 some (.inl (j13,w64 (s9.2+1)))
 else
 some (.inr s9.1))) (([]:List Int),0)).bind fun x10 =>
 (loopM (R:=(List State) ⊕ (List State × Int)) (fun (s19:List State × Int) =>
 (bif decide (s19.2<(x1.length:Int)) then
 (idx x1 s19.2).bind fun x24 =>
 (pf27 x10 x24).bind fun x25 =>
 (bif !x25 then
 some (.inl (s19.1,w64 (s19.2+1)))
 else
 (idx s19.1 s2.2).bind fun x27 =>
 (idx x1 s19.2).bind fun x28 =>
 (pf39 a0 x27.Kernel x28).bind fun x29 =>
 (pf80 s19.1 x29).bind fun x30 =>
 (bif decide (x30<0) then
 (bif decide ((s19.1.length:Int)=150) then
 some (.inr (.inr (([]:List State),4)))
 else
 (appO s19.1 [(⟨x29,([]:List Move)⟩:State)]).bind fun x33 =>
 (idx (s19.1++[(⟨x29,([]:List Move)⟩:State)]) s2.2).bind fun x34 =>
 (idx x1 s19.2).bind fun x35 =>
 (appO x34.Moves [(⟨x35,(s19.1.length:Int)⟩:Move)]).bind fun x36 =>
 some (.inl ((s19.1++[(⟨x29,([]:List Move)⟩:State)]).set s2.2.toNat (⟨x34.Kernel,x34.Moves++[(⟨x35,(s19.1.length:Int)⟩:Move)]⟩:State),w64 (s19.2+1))))
 else
 (idx s19.1 s2.2).bind fun x37 =>
 (idx x1 s19.2).bind fun x38 =>
 (appO x37.Moves [(⟨x38,x30⟩:Move)]).bind fun x39 =>
 some (.inl (s19.1.set s2.2.toNat (⟨x37.Kernel,x37.Moves++[(⟨x38,x30⟩:Move)]⟩:State),w64 (s19.2+1)))))
 else
 some (.inr (.inl s19.1)))) (s2.1,0)).bind fun x20 =>
 (match x20 with
 | .inl x21 =>
 some (.inl (x21,w64 (s2.2+1)))
 | .inr x22 =>
 some (.inr (.inr (x22.1,x22.2))))
 else
 some (.inr (.inl s2.1)))) ([(⟨[(⟨0,0⟩:Item)],([]:List Move)⟩:State)],0)).bind fun x3 =>
 (match x3 with
 | .inl x4 =>
 some (x4,0)
 | .inr x5 =>
 some (x5.1,x5.2))
def pf14 (a0:(List Int)):Option (Bool) :=
 (pf43 ).bind fun x1 =>
 (bif !x1 then
 some false
 else
 (loopM (R:=List Alt × Int) (fun (s3:List Alt × Int × Int) =>
 ((bif decide (s3.2.2<(a0.length:Int)) then some (decide (s3.2.2<24)) else some false)).bind fun c7 =>
 (bif c7 then
 (idx a0 s3.2.2).bind fun x9 =>
 (pf22 x9 8).bind fun x10 =>
 (loopM (R:=List Part) (fun (s11:List Part × Int) =>
 (bif decide (s11.2<x10) then
 (appO s11.1 [(⟨(⟨{ data:=#[43] },true,0,0⟩:Sym),{ data:=#[] },0⟩:Part)]).bind fun x15 =>
 some (.inl (s11.1++[(⟨(⟨{ data:=#[43] },true,0,0⟩:Sym),{ data:=#[] },0⟩:Part)],w64 (s11.2+1)))
 else
 some (.inr s11.1))) ([(⟨(⟨strOfNums [w8 (w64 (97+s3.2.2))],true,0,0⟩:Sym),{ data:=#[] },0⟩:Part)],0)).bind fun x12 =>
 (appO s3.1 [(⟨x12,(⟨{ data:=#[] },false,0,0⟩:Sym),0⟩:Alt)]).bind fun x16 =>
 some (.inl (s3.1++[(⟨x12,(⟨{ data:=#[] },false,0,0⟩:Sym),0⟩:Alt)],w64 (s3.2.1+(w64 (x10+1))),w64 (s3.2.2+1)))
 else
 some (.inr (s3.1,s3.2.1)))) (([]:List Alt),2,0)).bind fun x4 =>
 ((bif decide ((x4.1.length:Int)=0) then
 some [(⟨([]:List Part),(⟨{ data:=#[] },false,0,0⟩:Sym),0⟩:Alt)]
 else
 some x4.1)).bind fun j17 =>
 (pf20 (⟨{ data:=#[] },([]:List Decl),[(⟨{ data:=#[115] },j17,0⟩:Rule)],{ data:=#[] }⟩:Source)).bind fun x19 =>
 (pf44 x19.1).bind fun x20 =>
 (bif decide (150<x4.2) then
 ((bif x19.2 then (bif decide (x20.2=4) then some (decide ((x20.1.length:Int)=0)) else some false) else some false)).bind fun c24 =>
 some c24
 else
 ((bif x19.2 then (bif decide (x20.2=0) then some (decide ((x20.1.length:Int)=x4.2)) else some false) else some false)).bind fun c27 =>
 some c27))
theorem w17:pf17=some true:=by kernel_rfl
end Go.Proofs
namespace Go.Own
open Go
variable {α β S R:Type}
abbrev LR (p:S->Prop) (q:R->Prop) (x:S ⊕ R):Prop:=Sum.elim p q x
def Tot (x:Option α) (Φ:α->Prop):Prop:=∃ a,x=some a/\Φ a
namespace Tot
variable {Φ Ψ:α->Prop}
theorem so {a:α}(h:Φ a):Tot (some a) Φ:=⟨a,rfl,h⟩
theorem bi {x:Option β}{f:β->Option α}(h:Tot x fun a=>Tot (f a) Φ):Tot (x.bind f) Φ:=by
 obtain ⟨a,rfl,b,hb,hΦ⟩:=h
 exact ⟨b,hb,hΦ⟩
theorem sm {f:β->Option α}{a:β}(h:Tot (f a) Φ):Tot ((some a).bind f) Φ:=h
theorem use {x:Option α}(h:Tot x Ψ) (hi:∀ a,Ψ a->Φ a):Tot x Φ:=by
 obtain ⟨a,ha,hΨ⟩:=h
 exact ⟨a,ha,hi a hΨ⟩
theorem by' {x:Option β}{f:β->Option α}{Ξ:β->Prop}(h:Tot x Ξ) (hk:∀ a,Ξ a->Tot (f a) Φ):Tot (x.bind f) Φ:=bi (h.use hk)
theorem cd {c:Bool}{a b:Option α}(ht:c=true->Tot a Φ) (hf:c=false->Tot b Φ):Tot (cond c a b) Φ:=by
 cases c
 ·exact hf rfl
 ·exact ht rfl
theorem cp {p:Prop} [Decidable p] {a b:Option α}(ht:p->Tot a Φ) (hf:¬ p->Tot b Φ):Tot (cond (decide p) a b) Φ :=
 cd (fun h=>ht (of_decide_eq_true h)) (fun h=>hf (of_decide_eq_false h))
theorem cn {p:Prop} [Decidable p] {a b:Option α}(ht:¬ p->Tot a Φ) (hf:p->Tot b Φ):Tot (cond (!decide p) a b) Φ :=
 cd (fun h=>ht (of_decide_eq_false (by simpa using h))) (fun h=>hf (of_decide_eq_true (by simpa using h)))
theorem ix {l:List α}{i:Int}(h0:0<=i) (h1:i<l.length) (hk:∀ y,idx l i=some y->y∈l->Φ y):Tot (idx l i) Φ:=by
 have hlt:i.toNat<l.length:=by omega
 have:idx l i=some l[i.toNat]:=by simp [idx,h0,hlt]
 exact ⟨_,this,hk _ this (List.getElem_mem hlt)⟩
theorem ap {Φ:List α->Prop}{l m:List α}(h:l.length+m.length<=lim) (hk:Φ (l++m)):Tot (appO l m) Φ:=by
 refine ⟨l++m,?_,hk⟩
 unfold appO
 rw [if_pos h]
theorem loop {f:S->Option (S ⊕ R)}{s0:S}{Ψ:R->Prop}(Inv:S->Prop) (μ:S->Nat) (h0:Inv s0) (hμ:μ s0<fuel)
  (hs:∀ s,Inv s->Tot (f s) (LR (fun s'=>Inv s'/\μ s'<μ s) Ψ)):Tot (loopM f s0) Ψ:=by
 have key:∀ n s,Inv s->μ s<n->Tot (iter f n s) Ψ:=by
  intro n
  induction n with
  | zero=>intro s _ h; omega
  | succ n ih =>
   intro s hI hm
   obtain ⟨x,hx,hP⟩:=hs s hI
   cases x with
   | inl s' =>
    obtain ⟨h1,h2⟩:=hP
    simp only [iter,hx]
    exact ih s' h1 (by omega)
   | inr r =>
    simp only [iter,hx]
    exact ⟨r,rfl,hP⟩
 exact key fuel s0 h0 hμ
theorem count {f:S->Option (S ⊕ R)}{s0:S}{Ψ:R->Prop}(i:S->Int) (n:Int) (Inv:S->Prop) (h0:Inv s0) (hn:n - i s0<1000000000000000000)
  (hs:∀ s,Inv s->Tot (f s) (LR (fun s'=>Inv s'/\i s<i s'/\i s'<=n) Ψ)):Tot (loopM f s0) Ψ:=by
 refine loop Inv (fun s=>(n - i s).toNat) h0 (by show (n - i s0).toNat<1000000000000000000; omega) fun s hI=>(hs s hI).use fun x hx=>?_
 cases x with
 | inl s'=>exact ⟨hx.1,by have:=hx.2; show (n - i s').toNat<(n - i s).toNat; omega⟩
 | inr r=>exact hx
end Tot
theorem w64_eq (n:Int):w64 n=(n+9223372036854775808) % 18446744073709551616 - 9223372036854775808:=IntKind.wrap_i64 n
namespace Tot
theorem cat {Φ:ByteArray->Prop}{s u:ByteArray}(h:s.size+u.size<=4611686018427387904) (hk:Φ (s++u)):Tot (catO s u) Φ:=by
 refine ⟨s++u,?_,hk⟩
 unfold catO
 rw [if_pos h]
theorem cut {Φ:ByteArray->Prop}{s:ByteArray}{m n:Int}(h:0<=m/\m<=n/\n<=s.size) (hk:Φ (cutS s m n)):Tot (cutO s m n) Φ:=by
 refine ⟨_,?_,hk⟩
 unfold cutO
 rw [if_pos h]
theorem bx {Φ:Int->Prop}{s:ByteArray}{m:Int}(h:0<=m/\m<s.size) (hk:Φ (byteAt s m)):Tot (bidx s m) Φ:=by
 refine ⟨_,?_,hk⟩
 unfold bidx
 rw [if_pos h]
theorem sub {Φ:List α->Prop}{l:List α}{m n:Int}(h:0<=m/\m<=n/\n<=l.length) (hk:Φ ((l.drop m.toNat).take (n - m).toNat)):Tot (subO l m n) Φ:=by
 refine ⟨_,?_,hk⟩
 unfold subO
 rw [if_pos h]
theorem rem {Φ:Int->Prop}{m n:Int}(h:n≠0) (hk:Φ (m.tmod n)):Tot (remO m n) Φ:=by
 refine ⟨_,?_,hk⟩
 unfold remO
 rw [if_neg h]
theorem quo {Φ:Int->Prop}{m n:Int}(h:n≠0) (hk:Φ (w64 (m.tdiv n))):Tot (quoO m n) Φ:=by
 refine ⟨_,?_,hk⟩
 unfold quoO
 rw [if_neg h]
theorem remU {Φ:Int->Prop}{m n:Int}(h:n≠0) (hk:Φ (m.tmod n)):Tot (Own.remU m n) Φ:=by
 refine ⟨_,?_,hk⟩
 unfold Own.remU
 rw [if_neg h]
theorem quoU {Φ:Int->Prop}{m n:Int}(h:n≠0) (hk:Φ (IntKind.u64.wrap (m.tdiv n))):Tot (Own.quoU m n) Φ:=by
 refine ⟨_,?_,hk⟩
 unfold Own.quoU
 rw [if_neg h]
theorem mk {Φ:List α->Prop}{m:Int}{z:α}(h:0<=m/\m<=lim) (hk:Φ (List.replicate m.toNat z)):Tot (mkO m z) Φ:=by
 refine ⟨_,?_,hk⟩
 unfold mkO
 rw [if_pos h]
theorem eq {x:Option α}{Φ:α->Prop}{a:α}(h:Tot x Φ) (e:x=some a):Φ a:=by
 obtain ⟨b,hb,hΦ⟩:=h
 rw [e] at hb; cases hb; exact hΦ
theorem ex {x:Option α}{Φ:α->Prop}(h:Tot x Φ):∃ a,x=some a/\Φ a:=h
end Tot
namespace Tot
theorem scan {f:Int->Option (Int ⊕ (Unit ⊕ R))}(l:List β) (P:β->Prop) (Q:R->Prop) (hl:l.length<=100000000000000000)
  (hs:∀ (s:Int) (y:β),0<=s->s<l.length->idx l s=some y->y∈l->Tot (f s) (LR (fun s'=>s'=s+1/\P y) (LR (fun _=>False) Q)))
  (he:∀ s:Int,¬ s<l.length->f s=some (.inr (.inl ()))):Tot (loopM f 0) (LR (fun _=>∀ y∈l,P y) Q):=by
 refine count (fun s=>s) l.length (fun s=>0<=s/\s<=l.length/\∀ (j:Nat) (y:β),(j:Int)<s->l[j]?=some y->P y) ⟨by omega,by omega,fun j y h=>by omega⟩ (by show (l.length:Int) - 0<_; omega) fun s hI=>?_
 obtain ⟨h0,h1,h2⟩:=hI
 by_cases hlt:s<l.length
 ·have hlt':s.toNat<l.length:=by omega
  have hi:idx l s=some l[s.toNat]:=by simp [idx,h0,hlt']
  refine (hs s _ h0 hlt hi (List.getElem_mem hlt')).use fun x hx=>?_
  rcases x with s' | ⟨⟨⟩⟩ | r
  ·obtain ⟨rfl,hP⟩:=hx
   refine ⟨⟨by omega,by omega,fun j y hj hy=>?_⟩,by show s<s+1; omega,by show s+1<=_; omega⟩
   by_cases hjs:(j:Int)<s
   ·exact h2 j y hjs hy
   ·have:j=s.toNat:=by omega
    subst this
    rw [List.getElem?_eq_getElem hlt'] at hy
    cases hy; exact hP
  ·exact hx.elim
  ·exact hx
 ·rw [he s hlt]
  refine so fun y hy=>?_
  obtain ⟨j,hj,rfl⟩:=List.mem_iff_getElem.1 hy
  exact h2 j _ (by omega) (List.getElem?_eq_getElem hj)
end Tot
end Go.Own
namespace Go.Proofs
open Go Go.Own
set_option maxRecDepth 100000
set_option linter.unusedVariables false
theorem t144 (c:Int):Tot (pf144 c) fun _=>True:=by
 unfold pf144
 repeat' first | apply Tot.bi | refine Tot.cd (fun _=>?_) (fun _=>?_) | exact Tot.so trivial | apply Tot.so
theorem t145 (c:Int):Tot (pf145 c) fun _=>True:=by
 unfold pf145
 repeat' first | apply Tot.bi | refine Tot.cd (fun _=>?_) (fun _=>?_) | exact Tot.so trivial | apply Tot.so
theorem t130 (c:Int):Tot (pf130 c) fun _=>True:=by
 unfold pf130
 repeat' first | apply Tot.bi | refine Tot.cd (fun _=>?_) (fun _=>?_) | exact Tot.so trivial | apply Tot.so
theorem t133 (x:Sym):Tot (pf133 x) fun r=>r=true->x.Name={ data:=#[] }/\x.Lit=false:=by
 unfold pf133
 apply Tot.bi
 refine Tot.cp (fun h=>Tot.cd (fun h2=>?_) (fun h2=>?_)) (fun h=>?_) <;> apply Tot.so <;> apply Tot.so
 ·exact fun _=>⟨h,by simpa using h2⟩
 ·exact fun h=>by cases h
 ·exact fun h=>by cases h
abbrev big:Nat:=1000000000000
theorem t132 (s:ByteArray) (h:s.size<=big):Tot (pf132 s 0) fun n=>0<=n/\n<=s.size:=by
 unfold pf132
 refine Tot.by' (Ξ:=fun n=>0<=n/\n<=s.size) ?_ fun a ha=>.so ha
 refine Tot.count (fun i=>i) s.size (fun i=>0<=i/\i<=s.size) ⟨by omega,by omega⟩ (by show (s.size:Int) - 0<_; simp only [big] at h; omega) fun i ⟨h0,h1⟩=>?_
 simp only [big] at h
 have e:w64 (0+i)=i:=by rw [w64_eq]; omega
 rw [e]
 have go:∀ c:Bool,(c=true->i<s.size)->Tot (bif c then some (.inl (w64 (i+1))) else some (.inr i)) (LR (fun s':Int=>(0<=s'/\s'<=s.size)/\i<s'/\s'<=s.size) (fun r:Int=>0<=r/\r<=s.size)):=by
  intro c hc
  refine Tot.cd (fun h2=>.so ?_) (fun _=>.so ⟨h0,h1⟩)
  have:=hc h2
  have e:w64 (i+1)=i+1:=by rw [w64_eq]; omega
  show (0<=w64 (i+1)/\w64 (i+1)<=s.size)/\i<w64 (i+1)/\w64 (i+1)<=s.size
  rw [e]; omega
 apply Tot.bi
 refine Tot.cp (fun h2=>?_) (fun h2=>.so (go false (by simp)))
 apply Tot.bi
 refine Tot.bx ⟨h0,h2⟩ (Tot.by' (t144 _) fun c _=>?_)
 refine Tot.cd (fun _=>.so (go _ fun _=>h2)) (fun _=>Tot.cd (fun _=>?_) (fun _=>.so (go _ fun _=>h2)))
 apply Tot.bi
 refine Tot.bx ⟨h0,h2⟩ (Tot.by' (t145 _) fun c _=>?_)
 refine Tot.cd (fun _=>.so (go _ fun _=>h2)) (fun _=>?_)
 apply Tot.bi
 exact Tot.bx ⟨h0,h2⟩ (.so (go _ fun _=>h2))
theorem t105 (s:ByteArray) (h:s.size<=big):Tot (pf105 s) fun r=>r=true->1<=s.size/\s.size<=20:=by
 unfold pf105
 apply Tot.bi
 refine Tot.cp (fun h1=>Tot.cp (fun h2=>?_) (fun h2=>?_)) (fun h1=>?_)
 ·exact .by' (t132 s h) fun n hn=>.so (.so fun _=>by omega)
 ·exact .so (.so fun h=>by cases h)
 ·exact .so (.so fun h=>by cases h)
theorem t150 (s:ByteArray) (i:Int) (t:ByteArray) (h:s.size<=big) (h0:0<=i) (h1:i<=4 * big) (ht:t.size<=big):Tot (pf150 s i t) fun r=>r=true->i+t.size<=s.size:=by
 unfold pf150
 simp only [big] at *
 apply Tot.bi
 refine Tot.cp (fun h2=>?_) (fun h2=>.so (.so fun h=>by cases h))
 apply Tot.bi
 rw [w64_eq] at h2
 have e:w64 (i+t.size)=i+t.size:=by rw [w64_eq]; omega
 refine Tot.cut (by rw [e]; omega) (.so (.so fun _=>by omega))
theorem t146 (s:ByteArray) (i:Int) (h:s.size<=big) (h0:0<=i) (h1:i<s.size):Tot (pf146 s i) fun r=>r<=s.size:=by
 unfold pf146
 have hb:(s.size:Int)<=1000000000000:=by simp only [big] at h; omega
 have e1:w64 (i+1)=i+1:=by rw [w64_eq]; omega
 have e2:w64 (i+2)=i+2:=by rw [w64_eq]; omega
 rw [e1,e2]
 have hbx:=Tot.bx (Φ:=fun _=>True) (s:=s) (m:=i) ⟨h0,h1⟩ trivial
 refine Tot.by' (Ξ:=fun _=>True) ?_ fun c _=>Tot.cd (fun _=>?_) (fun _=>?_)
 ·refine Tot.by' hbx fun _ _=>Tot.cd (fun _=>.so trivial) (fun _=>Tot.by' hbx fun _ _=>.so trivial)
 ·refine Tot.by' (Ξ:=LR (fun _=>True) (fun r=>r<=s.size)) ?_ fun x hx=>?_
  ·refine Tot.count (fun j=>j) (s.size+1) (fun j=>0<=j) (by show (0:Int)<=i+1; omega) (by show (s.size:Int)+1 - (i+1)<_; omega) fun j hj=>?_
   refine Tot.by' (Ξ:=fun c=>c=true->j<s.size) ?_ fun c hc=>Tot.cd (fun h2=>?_) (fun _=>.so trivial)
   ·refine Tot.cp (fun h2=>?_) (fun _=>.so fun h=>by cases h)
    exact .by' (Ξ:=fun _=>True) (Tot.bx ⟨hj,h2⟩ trivial) fun _ _=>.so fun _=>h2
   ·have hj2:=hc h2
    have hbj:=Tot.bx (Φ:=fun _=>True) (s:=s) (m:=j) ⟨hj,hj2⟩ trivial
    have e3:w64 (j+1)=j+1:=by rw [w64_eq]; omega
    have e4:w64 (j+1+1)=j+1+1:=by rw [w64_eq]; omega
    rw [e3,e4]
    refine .by' hbj fun _ _=>.by' hbx fun _ _=>Tot.cd (fun _=>.so ?_) (fun _=>.by' hbj fun _ _=>Tot.cd (fun _=>?_) (fun _=>.so ?_))
    ·show j+1<=s.size; omega
    ·refine Tot.by' (Ξ:=fun _=>True) ?_ fun c _=>Tot.cd (fun _=>.so ?_) (fun _=>.so ?_)
     ·refine Tot.cp (fun h3=>?_) (fun _=>.so trivial)
      exact .by' (Ξ:=fun _=>True) (Tot.bx ⟨by omega,h3⟩ trivial) fun _ _=>.so trivial
     ·show (-1:Int)<=s.size; omega
     ·show (0:Int)<=j+1+1/\j<j+1+1/\j+1+1<=s.size+1; omega
    ·show (0:Int)<=j+1/\j<j+1/\j+1<=s.size+1; omega
  ·rcases x with _ | r
   ·exact .so (by show (-1:Int)<=s.size; omega)
   ·exact .so hx
 ·refine .by' hbx fun _ _=>Tot.cd (fun _=>?_) (fun _=>?_)
  ·refine Tot.by' (Ξ:=LR (fun _=>True) (fun r=>r<=s.size)) ?_ fun x hx=>?_
   ·refine Tot.count (fun j=>j) (s.size+1) (fun j=>0<=j) (by show (0:Int)<=i+1; omega) (by show (s.size:Int)+1 - (i+1)<_; omega) fun j hj=>?_
    refine Tot.cp (fun h2=>?_) (fun _=>.so trivial)
    have e3:w64 (j+1)=j+1:=by rw [w64_eq]; omega
    rw [e3]
    refine .by' (Ξ:=fun _=>True) (Tot.bx ⟨hj,h2⟩ trivial) fun _ _=>Tot.cd (fun _=>.so ?_) (fun _=>.so ?_)
    ·show j+1<=s.size; omega
    ·show (0:Int)<=j+1/\j<j+1/\j+1<=s.size+1; omega
   ·rcases x with _ | r
    ·exact .so (by show (-1:Int)<=s.size; omega)
    ·exact .so hx
  ·refine .by' (t150 s i _ h h0 (by simp only [big]; omega) (by decide)) fun c _=>Tot.cd (fun _=>?_) (fun _=>?_)
   ·refine Tot.by' (Ξ:=fun r=>r<=s.size) ?_ fun x hx=>.so hx
    refine Tot.count (fun j=>j) s.size (fun j=>0<=j/\j<=s.size) ⟨h0,by omega⟩ (by show (s.size:Int) - i<_; omega) fun j hj=>?_
    refine Tot.by' (Ξ:=fun c=>c=true->j<s.size) ?_ fun c hc=>Tot.cd (fun h2=>?_) (fun _=>.so hj.2)
    ·refine Tot.cp (fun h2=>?_) (fun _=>.so fun h=>by cases h)
     exact .by' (Ξ:=fun _=>True) (Tot.bx ⟨hj.1,h2⟩ trivial) fun _ _=>.so fun _=>h2
    ·have:=hc h2
     have e3:w64 (j+1)=j+1:=by rw [w64_eq]; omega
     rw [e3]
     exact .so (by show ((0:Int)<=j+1/\j+1<=s.size)/\j<j+1/\j+1<=s.size; omega)
   ·refine .by' (t150 s i _ h h0 (by simp only [big]; omega) (by decide)) fun c hc=>Tot.cd (fun hc1=>?_) (fun _=>.so (by omega))
    refine Tot.by' (Ξ:=LR (fun _=>True) (fun r=>r<=s.size)) ?_ fun x hx=>?_
    ·refine Tot.count (fun j=>j) (s.size+1) (fun j=>0<=j) (by show (0:Int)<=i+2; omega) (by show (s.size:Int)+1 - (i+2)<_; omega) fun j hj=>?_
     refine Tot.cp (fun h2=>?_) (fun _=>.so trivial)
     have e3:w64 (j+1)=j+1:=by rw [w64_eq]; omega
     have e4:w64 (j+2)=j+2:=by rw [w64_eq]; omega
     rw [e3,e4]
     refine .by' (t150 s j _ h hj (by simp only [big]; omega) (by decide)) fun c hc=>Tot.cd (fun hc2=>.so ?_) (fun _=>.so ?_)
     ·have:=hc hc2
      have e5:({ data:=#[42,47] }:ByteArray).size=2:=rfl
      rw [e5] at this
      show j+2<=s.size; omega
     ·show (0:Int)<=j+1/\j<j+1/\j+1<=s.size+1; omega
    ·rcases x with _ | r
     ·exact .so (by show (-1:Int)<=s.size; omega)
     ·exact .so hx
theorem t134 (s:ByteArray) (h:s.size<=big):Tot (pf134 s 0) fun _=>True:=by
 unfold pf134
 have hb:(s.size:Int)<=1000000000000:=by simp only [big] at h; omega
 refine Tot.by' (Ξ:=fun _=>True) ?_ fun c _=>Tot.cd (fun _=>.so trivial) (fun _=>?_)
 ·refine Tot.cp (fun h=>.so trivial) (fun h0=>Tot.cp (fun h=>.so trivial) (fun h2=>?_))
  exact .by' (Ξ:=fun _=>True) (Tot.bx (by omega) trivial) fun _ _=>.so trivial
 ·refine Tot.by' (Ξ:=fun _=>True) ?_ fun x _=>by rcases x with _ | r <;> exact .so trivial
  refine Tot.count (fun j=>j.2) s.size (fun j=>0<=j.2/\j.2<=s.size) ⟨by show (0:Int)<=0; omega,by show (0:Int)<=s.size; omega⟩ (by show (s.size:Int) - 0<_; omega) fun j hj=>?_
  refine Tot.cp (fun h2=>?_) (fun _=>.so trivial)
  refine .by' (t146 s j.2 h hj.1 h2) fun n hn=>Tot.cp (fun _=>.so trivial) (fun h3=>Tot.cp (fun h4=>.so ?_) (fun h4=>?_))
  ·show ((0:Int)<=n/\n<=s.size)/\j.2<n/\n<=s.size; omega
  ·have hbx:=Tot.bx (Φ:=fun _=>True) (s:=s) (m:=j.2) ⟨hj.1,h2⟩ trivial
   have e3:w64 (j.2+1)=j.2+1:=by rw [w64_eq]; omega
   rw [e3]
   refine .by' hbx fun _ _=>.by' (Ξ:=fun _=>True) (Tot.cd (fun _=>.so trivial) (fun _=>.so trivial)) fun _ _=>.by' hbx fun _ _=>.by' (Ξ:=fun _=>True) (Tot.cd (fun _=>.so trivial) (fun _=>.so trivial)) fun _ _=>Tot.cd (fun _=>.so trivial) (fun _=>.so ?_)
   show ((0:Int)<=j.2+1/\j.2+1<=s.size)/\j.2<j.2+1/\j.2+1<=s.size; omega
def LitOk (x:Sym):Prop:=x.Lit=true->x.Name.size=1
structure DeclB (d:Decl):Prop where
 tag:d.Tag.size<=big
 n:d.Syms.length<=1000
 syms:∀ x∈d.Syms,x.Name.size<=big
structure AltB (a:Alt):Prop where
 n:a.Parts.length<=1000
 parts:∀ p∈a.Parts,p.Sym.Name.size<=big/\p.Code.size<=big
 prec:a.Prec.Name.size<=big
structure RuleB (r:Rule):Prop where
 left:r.Left.size<=big
 n:r.Alts.length<=1000
 alts:∀ a∈r.Alts,AltB a
structure SrcB (s:Source):Prop where
 pro:s.Pro.size<=big
 dn:s.Decls.length<=1000
 decls:∀ d∈s.Decls,DeclB d
 rn:s.Rules.length<=1000
 rules:∀ r∈s.Rules,RuleB r
theorem t131 (x:Sym) (a b:Bool) (h:x.Name.size<=big):Tot (pf131 x a b) fun r=>r=true->LitOk x:=by
 unfold pf131
 refine Tot.cd (fun hl=>?_) (fun hl=>?_)
 ·refine Tot.by' (Ξ:=fun c=>c=false->x.Name.size=1) ?_ fun c hc=>Tot.cd (fun _=>.so fun h=>by cases h) (fun h2=>?_)
  ·refine Tot.cd (fun _=>.so fun h=>by cases h) (fun _=>Tot.cn (fun _=>.so fun h=>by cases h) (fun h1=>.so fun _=>by omega))
  ·have h1:=hc h2
   refine .by' (Ξ:=fun _=>True) (Tot.bx (by omega) trivial) fun _ _=>.by' (t130 _) fun _ _=>.so fun _ _=>h1
 ·have hok:LitOk x:=fun h=>by rw [hl] at h; cases h
  refine Tot.by' (Ξ:=fun _=>True) ?_ fun c hc=>.so fun _=>hok
  refine .by' (t105 _ h) fun c _=>?_
  repeat' first | refine Tot.cd (fun _=>?_) (fun _=>?_) | exact Tot.so trivial
theorem t104 (d:Decl) (h:DeclB d):Tot (pf104 d) fun r=>r=true->∀ x∈d.Syms,LitOk x:=by
 unfold pf104
 refine Tot.by' (Ξ:=fun _=>True) ?_ fun c _=>Tot.cd (fun _=>.so fun h=>by cases h) (fun _=>?_)
 ·have ht:=(t105 _ h.tag).use (Φ:=fun _=>True) fun _ _=>trivial
  repeat' first | refine Tot.cd (fun _=>?_) (fun _=>?_) | exact Tot.so trivial | refine .by' ht fun _ _=>?_
 ·refine Tot.by' (Tot.scan d.Syms (fun x=>LitOk x) (fun r=>r=false) (by have:=h.n; omega) (fun s y h0 h1 hi hm=>?_) (fun s hs=>by simp [hs])) fun x hx=>?_
  ·refine Tot.cp (fun _=>?_) (fun h=>absurd h1 h)
   rw [hi]
   refine Tot.sm ?_
   refine .by' (t131 _ _ _ (h.syms _ hm)) fun c hc=>Tot.cd (fun _=>.so rfl) (fun h2=>.so ⟨?_,hc (by simpa using h2)⟩)
   have:=h.n
   rw [w64_eq]; omega
  ·rcases x with _ | r
   ·exact .so fun _=>hx
   ·exact .so fun h=>by have:r=false:=hx; rw [this] at h; cases h
theorem t106 (a:Alt) (h:AltB a):Tot (pf106 a) fun r=>r=true->(∀ p∈a.Parts,LitOk p.Sym)/\LitOk a.Prec:=by
 unfold pf106
 refine Tot.by' (Tot.scan a.Parts (fun p=>LitOk p.Sym) (fun r=>r=false) (by have:=h.n; omega) (fun s y h0 h1 hi hm=>?_) (fun s hs=>by simp [hs])) fun x hx=>?_
 ·refine Tot.cp (fun _=>?_) (fun h=>absurd h1 h)
  rw [hi]
  refine Tot.sm ?_
  have hp:=h.parts _ hm
  have t1:=t131 y.Sym false true hp.1
  have t2:=t133 y.Sym
  have t3o:=t134 y.Code hp.2
  have hw:w64 (s+1)=s+1:=by have:=h.n; rw [w64_eq]; omega
  rw [hw]
  have n133:(y.Sym.Name={ data:=#[] }/\y.Sym.Lit=false)->LitOk y.Sym:=fun h hl=>by rw [h.2] at hl; cases hl
  refine Tot.by' (Ξ:=fun c=>c=false->LitOk y.Sym) ?_ fun c hc=>Tot.cd (fun _=>.so rfl) (fun h2=>.so ⟨rfl,hc h2⟩)
  refine Tot.cp (fun _=>?_) (fun hne=>?_)
  ·refine .by' t1 fun c hc=>Tot.cd (fun _=>.so fun h=>by cases h) (fun h2=>?_)
   have hok:=hc (by simpa using h2)
   refine Tot.cd (fun _=>?_) (fun _=>.so fun _=>hok)
   refine .by' t2 fun c _=>Tot.cd (fun _=>.so fun _=>hok) (fun _=>?_)
   exact .by' t3o fun _ _=>.so fun _=>hok
  ·refine Tot.cn (fun _=>?_) (fun h=>.so fun _=>?_)
   ·refine .by' t2 fun c hc=>Tot.cd (fun _=>.so fun h=>by cases h) (fun h2=>?_)
    have hok:=n133 (hc (by simpa using h2))
    exact .by' t3o fun _ _=>.so fun _=>hok
   ·exact absurd h hne
 ·rcases x with _ | r
  ·have hx:∀ p∈a.Parts,LitOk p.Sym:=hx
   refine Tot.by' (Ξ:=fun c=>c=true->LitOk a.Prec) ?_ fun c hc=>.so fun h=>⟨hx,hc h⟩
   refine .by' (t133 _) fun c hc=>Tot.cd (fun h2=>.so fun _=>?_) (fun _=>.by' (t131 _ _ _ h.prec) fun c hc=>.so hc)
   intro hl; rw [(hc h2).2] at hl; cases hl
  ·exact .so fun h=>by have:r=false:=hx; rw [this] at h; cases h
structure AltOk (a:Alt):Prop where
 parts:∀ p∈a.Parts,LitOk p.Sym
 prec:LitOk a.Prec
structure SrcOk (s:Source):Prop where
 decls:∀ d∈s.Decls,∀ x∈d.Syms,LitOk x
 rules:∀ r∈s.Rules,∀ a∈r.Alts,AltOk a
 pos:0<s.Rules.length
theorem t88 (s:Source) (h:SrcB s):Tot (pf88 s) fun r=>r=true->SrcOk s:=by
 unfold pf88
 refine Tot.by' (Ξ:=LR (fun _=>True) (fun r=>r=false)) ?_ fun x hx=>?_
 ·have hp:(s.Pro.size:Int)<=1000000000000:=by have:=h.pro; simp only [big] at this; omega
  refine Tot.count (fun j=>j) s.Pro.size (fun j=>0<=j/\j<=s.Pro.size) ⟨by omega,by omega⟩ (by show (s.Pro.size:Int) - 0<_; omega) fun j hj=>?_
  have e1:w64 (j+1)=j+1:=by rw [w64_eq]; omega
  have e2:w64 (j+2)=j+2:=by rw [w64_eq]; omega
  rw [e1,e2]
  refine Tot.cp (fun h2=>?_) (fun _=>.so trivial)
  refine .by' (Ξ:=fun _=>True) (Tot.cut (by omega) trivial) fun _ _=>Tot.cd (fun _=>.so rfl) (fun _=>.so ?_)
  show ((0:Int)<=j+1/\j+1<=s.Pro.size)/\j<j+1/\j+1<=s.Pro.size; omega
 ·rcases x with _ | r
  ·refine Tot.by' (Tot.scan s.Decls (fun d=>∀ x∈d.Syms,LitOk x) (fun r=>r=false) (by have:=h.dn; omega) (fun i y h0 h1 hi hm=>?_) (fun s hs=>by simp [hs])) fun x hx=>?_
   ·refine Tot.cp (fun _=>?_) (fun h=>absurd h1 h)
    rw [hi]
    refine Tot.sm ?_
    refine .by' (t104 _ (h.decls _ hm)) fun c hc=>Tot.cd (fun _=>.so rfl) (fun h2=>.so ⟨?_,hc (by simpa using h2)⟩)
    have:=h.dn
    rw [w64_eq]; omega
   ·rcases x with _ | r
    ·have hx:∀ d∈s.Decls,∀ x∈d.Syms,LitOk x:=hx
     refine Tot.by' (Tot.scan s.Rules (fun r=>∀ a∈r.Alts,AltOk a) (fun r=>r=false) (by have:=h.rn; omega) (fun i y h0 h1 hi hm=>?_) (fun s hs=>by simp [hs])) fun x hx2=>?_
     ·refine Tot.cp (fun _=>?_) (fun h=>absurd h1 h)
      rw [hi]
      refine Tot.sm ?_
      have hr:=h.rules _ hm
      have hw:w64 (i+1)=i+1:=by have:=h.rn; rw [w64_eq]; omega
      rw [hw]
      refine .by' (Ξ:=fun _=>True) (.by' (t105 _ hr.left) fun c _=>Tot.cd (fun _=>.so trivial) (fun _=>.so trivial)) fun c _=>Tot.cd (fun _=>.so rfl) (fun _=>?_)
      refine Tot.by' (Tot.scan y.Alts AltOk (fun r=>r=false) (by have:=hr.n; omega) (fun k a h0 h1 hi hm=>?_) (fun s hs=>by simp [hs])) fun x hx3=>?_
      ·refine Tot.cp (fun _=>?_) (fun h=>absurd h1 h)
       rw [hi]
       refine Tot.sm ?_
       refine .by' (t106 _ (hr.alts _ hm)) fun c hc=>Tot.cd (fun _=>.so rfl) (fun h2=>.so ⟨?_,⟨(hc (by simpa using h2)).1,(hc (by simpa using h2)).2⟩⟩)
       have:=hr.n
       rw [w64_eq]; omega
      ·rcases x with _ | r
       ·exact .so ⟨rfl,hx3⟩
       ·exact .so hx3
     ·rcases x with _ | r
      ·exact .so fun h=>⟨hx,hx2,by have:=of_decide_eq_true h; omega⟩
      ·exact .so fun h=>by have:r=false:=hx2; rw [this] at h; cases h
    ·exact .so fun h=>by have:r=false:=hx; rw [this] at h; cases h
  ·exact .so fun h=>by have:r=false:=hx; rw [this] at h; cases h
abbrev Mk:=yuccaref9_maker
structure Same (m m':Mk):Prop where
 g:m'.f_g=m.f_g
 gv:m'.f_given=m.f_given
 ty:m'.f_types=m.f_types
 lf:m'.f_lefts=m.f_lefts
 lv:m'.f_level=m.f_level
 inn:m'.f_inner=m.f_inner
theorem t90 (m:Mk) (a:Int) (n:ByteArray):Tot (pf90 m a n) fun m'=>Same m m'/\m'.f_e≠0:=by
 unfold pf90
 apply Tot.bi
 refine Tot.cp (fun _=>.so (.so ⟨⟨rfl,rfl,rfl,rfl,rfl,rfl⟩,?_⟩)) (fun h=>.so (.so ⟨⟨rfl,rfl,rfl,rfl,rfl,rfl⟩,h⟩))
 show (3:Int)≠0; decide
theorem t94 (m:Mk) (n:ByteArray) (h:m.f_types.length<=big):Tot (pf94 m n) fun r=>r=-1\/(0<=r/\r<m.f_types.length):=by
 unfold pf94
 simp only [big] at h
 refine Tot.by' (Tot.scan m.f_types (fun _=>True) (fun r:Int=>0<=r/\r<m.f_types.length) (by omega) (fun s y h0 h1 hi hm=>?_) (fun s hs=>by simp [hs])) fun x hx=>?_
 ·refine Tot.cp (fun _=>?_) (fun h=>absurd h1 h)
  rw [hi]
  refine Tot.sm ?_
  refine Tot.cd (fun _=>.so ⟨h0,h1⟩) (fun _=>.so ⟨?_,trivial⟩)
  rw [w64_eq]; omega
 ·rcases x with _ | r
  ·exact .so (.inl rfl)
  ·exact .so (.inr hx)
theorem t92 (m:Mk) (n:ByteArray) (h:m.f_lefts.length<=big):Tot (pf92 m n) fun r=>(r=-1/\∀ x∈m.f_lefts,x≠n)\/(0<=r/\r<m.f_lefts.length/\m.f_lefts[r.toNat]?=some n):=by
 unfold pf92
 simp only [big] at h
 refine Tot.by' (Tot.scan m.f_lefts (fun x=>x≠n) (fun r:Int=>0<=r/\r<m.f_lefts.length/\m.f_lefts[r.toNat]?=some n) (by omega) (fun s y h0 h1 hi hm=>?_) (fun s hs=>by simp [hs])) fun x hx=>?_
 ·refine Tot.cp (fun _=>?_) (fun h=>absurd h1 h)
  rw [hi]
  refine Tot.sm ?_
  refine Tot.cp (fun e=>.so ⟨h0,h1,by rw [<- e]; exact (idx_spec hi).2.2⟩) (fun e=>.so ⟨?_,e⟩)
  rw [w64_eq]; omega
 ·rcases x with _ | r
  ·exact .so (.inl ⟨rfl,hx⟩)
  ·exact .so (.inr hx)
theorem t91 (m:Mk) (x:Sym) (h:m.f_g.Toks.length<=big):Tot (pf91 m x) fun r=>r=-1\/(1<=r/\r<m.f_g.Toks.length):=by
 unfold pf91
 simp only [big] at h
 refine Tot.by' (Ξ:=LR (fun _=>True) (fun r=>1<=r/\r<m.f_g.Toks.length)) ?_ fun x hx=>?_
 ·refine Tot.count (fun j=>j) m.f_g.Toks.length (fun j=>1<=j) (by omega) (by show (m.f_g.Toks.length:Int) - 1<_; omega) fun j hj=>?_
  refine Tot.cp (fun h2=>?_) (fun _=>.so trivial)
  have e:w64 (j+1)=j+1:=by rw [w64_eq]; omega
  rw [e]
  refine .by' (Ξ:=fun _=>True) ?_ fun c _=>Tot.cd (fun _=>.so ⟨hj,h2⟩) (fun _=>.so ?_)
  ·refine .by' (Ξ:=fun _=>True) (Tot.ix (by omega) h2 fun _ _ _=>trivial) fun _ _=>Tot.cd (fun _=>?_) (fun _=>.so trivial)
   exact .by' (Ξ:=fun _=>True) (Tot.ix (by omega) h2 fun _ _ _=>trivial) fun _ _=>Tot.cd (fun _=>.so trivial) (fun _=>.so trivial)
  ·show (1:Int)<=j+1/\j<j+1/\j+1<=m.f_g.Toks.length; omega
 ·rcases x with _ | r
  ·exact .so (.inl rfl)
  ·exact .so (.inr hx)
theorem t108 (m:Mk) (n:Int) (h:m.f_g.Toks.length<=big):Tot (pf108 m n) fun _=>True:=by
 unfold pf108
 simp only [big] at h
 refine Tot.by' (Ξ:=fun _=>True) ?_ fun x hx=>?_
 ·refine Tot.count (fun j=>j) m.f_g.Toks.length (fun j=>1<=j) (by decide) (by show (m.f_g.Toks.length:Int) - 3<_; omega) fun j hj=>?_
  refine Tot.cp (fun h2=>?_) (fun _=>.so trivial)
  have e:w64 (j+1)=j+1:=by rw [w64_eq]; omega
  rw [e]
  refine .by' (Ξ:=fun _=>True) (Tot.ix (by omega) h2 fun _ _ _=>trivial) fun c _=>Tot.cd (fun _=>.so trivial) (fun _=>.so ?_)
  show (1:Int)<=j+1/\j<j+1/\j+1<=m.f_g.Toks.length; omega
 ·rcases x with _ | r <;> exact .so trivial
structure Grow (m m':Mk) (k:Nat):Prop where
 gv:m'.f_given.length=m'.f_g.Toks.length
 lo:m.f_g.Toks.length<=m'.f_g.Toks.length
 hi:m'.f_g.Toks.length<=m.f_g.Toks.length+k
 ty:m'.f_types.length<=m.f_types.length+k
 lf:m'.f_lefts=m.f_lefts
 pr:m'.f_g.Prods=m.f_g.Prods
 inn:m'.f_inner=m.f_inner
 lvl:m'.f_level=m.f_level
 lv:0<=m.f_level->(∀ t∈m.f_g.Toks,0<=t.Level)->∀ t∈m'.f_g.Toks,0<=t.Level
theorem Same.grow {m m':Mk}(h:Same m m') (hg:m.f_given.length=m.f_g.Toks.length) (k:Nat):Grow m m' k:=by
 obtain ⟨h1,h2,h3,h4,h5,h6⟩:=h
 exact ⟨by rw [h1,h2]; exact hg,by rw [h1]; omega,by rw [h1]; omega,by rw [h3]; omega,h4,by rw [h1],h6,h5,by rw [h1]; exact fun _ h=>h⟩
theorem t107 (m:Mk) (x:Sym) (hg:m.f_given.length=m.f_g.Toks.length) (h:m.f_g.Toks.length<=100000000000) (hx:LitOk x) :
  Tot (pf107 m x) fun r=>Grow m r.2 1/\0<=r.1/\r.1<r.2.f_g.Toks.length:=by
 unfold pf107
 refine .by' (t91 m x (by simp only [big]; omega)) fun t ht=>Tot.cp (fun h0=>.so ⟨⟨hg,Nat.le_refl _,Nat.le_succ _,Nat.le_succ _,rfl,rfl,rfl,rfl,fun _ h=>h⟩,h0,?_⟩) (fun _=>?_)
 ·rcases ht with rfl | ht
  ·exact absurd h0 (by decide)
  ·exact ht.2
 ·refine Tot.by' (Ξ:=fun j=>Same m j.1) ?_ fun j hj=>?_
  ·refine Tot.cd (fun hl=>?_) (fun _=>.so ⟨rfl,rfl,rfl,rfl,rfl,rfl⟩)
   have:=hx hl
   refine .by' (Ξ:=fun _=>True) (Tot.bx (by omega) trivial) fun b _=>.by' (t108 m _ (by simp only [big]; omega)) fun o _=>?_
   refine Tot.by' (Ξ:=fun j=>Same m j) ?_ fun j hj=>.so hj
   exact Tot.cd (fun _=>.by' (t90 m _ _) fun m' hm=>.so hm.1) (fun _=>.so ⟨rfl,rfl,rfl,rfl,rfl,rfl⟩)
  ·obtain ⟨h1,h2,h3,h4,h5,h6⟩:=hj
   have hlt:j.1.f_g.Toks.length=m.f_g.Toks.length:=by rw [h1]
   have hlg:j.1.f_given.length=m.f_given.length:=by rw [h2]
   refine .by' (Ξ:=fun _=>True) (Tot.ap (by rw [hlt]; simp [lim]; omega) trivial) fun _ _=>.by' (Ξ:=fun _=>True) (Tot.ap (by rw [hlg]; simp [lim]; omega) trivial) fun _ _=>.so ?_
   refine ⟨⟨?_,?_,?_,?_,h4,by show j.1.f_g.Prods=_; rw [h1],h6,h5,?_⟩,?_,?_⟩
   ·show (j.1.f_given++[x.Lit]).length=(j.1.f_g.Toks++[_]).length
    simp [hlt,hlg,hg]
   ·show _<=(j.1.f_g.Toks++[_]).length
    simp [hlt]
   ·show (j.1.f_g.Toks++[_]).length<=_
    simp [hlt]
   ·show j.1.f_types.length<=_
    rw [h3]; omega
   ·intro _ hl t ht
    rcases List.mem_append.1 ht with ht | ht
    ·rw [h1] at ht; exact hl t ht
    ·rw [List.mem_singleton.1 ht]; exact Int.le_refl 0
   ·show 0<=w64 (((j.1.f_g.Toks++[_]).length:Int) - 1)
    rw [w64_eq]; simp [hlt]; omega
   ·show w64 (((j.1.f_g.Toks++[_]).length:Int) - 1)<((j.1.f_g.Toks++[_]).length:Int)
    rw [w64_eq]; simp [hlt]; omega
structure Tk (m m':Mk):Prop where
 tk:m'.f_g.Toks.length=m.f_g.Toks.length
 gv:m'.f_given.length=m.f_given.length
 ty:m'.f_types=m.f_types
 lf:m'.f_lefts=m.f_lefts
 pr:m'.f_g.Prods=m.f_g.Prods
 inn:m'.f_inner=m.f_inner
 lvl:m'.f_level=m.f_level
 lv:0<=m.f_level->(∀ t∈m.f_g.Toks,0<=t.Level)->∀ t∈m'.f_g.Toks,0<=t.Level
theorem Tk.refl (m:Mk):Tk m m:=⟨rfl,rfl,rfl,rfl,rfl,rfl,rfl,fun _ h=>h⟩
theorem Tk.trans {m m' m'':Mk}(h:Tk m m') (h':Tk m' m''):Tk m m'':=⟨h'.tk.trans h.tk,h'.gv.trans h.gv,h'.ty.trans h.ty,h'.lf.trans h.lf,h'.pr.trans h.pr,h'.inn.trans h.inn,h'.lvl.trans h.lvl,fun h0 hl=>h'.lv (by rw [h.lvl]; exact h0) (h.lv h0 hl)⟩
theorem Same.tk {m m':Mk}(h:Same m m'):Tk m m':=⟨by rw [h.g],by rw [h.gv],h.ty,h.lf,by rw [h.g],h.inn,h.lv,by rw [h.g]; exact fun _ h=>h⟩
theorem Grow.tk {m m' m'':Mk}{k:Nat}(h:Grow m m' k) (h':Tk m' m''):Grow m m'' k :=
 ⟨by rw [h'.gv,h'.tk]; exact h.gv,by rw [h'.tk]; exact h.lo,by rw [h'.tk]; exact h.hi,by rw [h'.ty]; exact h.ty,h'.lf.trans h.lf,h'.pr.trans h.pr,h'.inn.trans h.inn,h'.lvl.trans h.lvl,fun h0 hl=>h'.lv (by rw [h.lvl]; exact h0) (h.lv h0 hl)⟩
theorem mem_set2 {α:Type}{l:List α}{i:Nat}{x y:α}(h:y∈l.set i x):y∈l\/y=x:=List.mem_or_eq_of_mem_set h
theorem t89 (m:Mk) (d:Decl) (x:Sym) (hg:m.f_given.length=m.f_g.Toks.length) (h:m.f_g.Toks.length<=100000000000) (ht:m.f_types.length<=100000000000) (hx:LitOk x) :
  Tot (pf89 m d x) fun m'=>Grow m m' 1:=by
 unfold pf89
 refine Tot.cd (fun _=>?_) (fun _=>?_)
 ·refine .by' (t94 m x.Name (by simp only [big]; omega)) fun k hk=>Tot.by' (Ξ:=fun m'=>Grow m m' 1) ?_ fun m' hm=>.so hm
  refine Tot.cp (fun _=>?_) (fun h0=>?_)
  ·refine .by' (Ξ:=fun _=>True) (Tot.ap (by simp [lim]; omega) trivial) fun _ _=>.so ⟨hg,Nat.le_refl _,Nat.le_succ _,?_,rfl,rfl,rfl,rfl,fun _ h=>h⟩
   show (m.f_types++[_]).length<=_
   simp
  ·refine .by' (Ξ:=fun _=>True) (Tot.ix (by omega) (by omega) fun _ _ _=>trivial) fun _ _=>Tot.by' (Ξ:=fun m'=>Grow m m' 1) ?_ fun m' hm=>.so hm
   exact Tot.cd (fun _=>.by' (t90 m _ _) fun m' hm=>.so (hm.1.grow hg 1)) (fun _=>.so ⟨hg,Nat.le_refl _,Nat.le_succ _,Nat.le_succ _,rfl,rfl,rfl,rfl,fun _ h=>h⟩)
 ·refine .by' (t107 m x hg h hx) fun r ⟨hr,h0,h1⟩=>?_
  have ix:∀ {m':Mk},Tk r.2 m'->Tot (idx m'.f_g.Toks r.1) fun y=>y∈m'.f_g.Toks:=fun hm=>Tot.ix h0 (by rw [hm.tk]; exact h1) fun _ _ h=>h
  have ixg:∀ {m':Mk},Tk r.2 m'->Tot (idx m'.f_given r.1) fun _=>True:=fun hm=>Tot.ix h0 (by rw [hm.gv,hr.gv]; exact h1) fun _ _ _=>trivial
  refine .by' (ix (.refl _)) fun y _=>?_
  refine Tot.by' (Ξ:=fun m'=>Tk r.2 m') ?_ fun j12 h12=>?_
  ·refine Tot.cd (fun _=>?_) (fun _=>.so (.refl _))
   refine Tot.by' (Ξ:=fun m'=>Tk r.2 m') ?_ fun j14 h14=>?_
   ·exact Tot.cd (fun _=>.by' (t90 r.2 _ _) fun m' hm=>.so ⟨rfl,hm.1.tk.gv,hm.1.tk.ty,hm.1.tk.lf,hm.1.tk.pr,hm.1.tk.inn,hm.1.tk.lvl,fun _ h=>h⟩) (fun _=>.so (.refl _))
   ·refine .by' (ix h14) fun _ _=>.so (h14.trans ⟨?_,rfl,rfl,rfl,rfl,rfl,rfl,fun hl ht t hh=>?_⟩)
    ·show ((j14.f_g.Toks.set _ _).set _ _).length=_
     simp
    ·rcases mem_set2 hh with hh | rfl
     ·rcases mem_set2 hh with hh | rfl
      ·exact ht t hh
      ·exact hl
     ·exact hl
  ·refine .by' (ix h12) fun _ _=>?_
   refine Tot.by' (Ξ:=fun m'=>Tk r.2 m') ?_ fun j19 h19=>?_
   ·refine Tot.cd (fun _=>?_) (fun _=>.so h12)
    refine .by' (Ξ:=fun _=>True) ?_ fun c _=>?_
    ·refine Tot.cd (fun _=>.so trivial) (fun _=>.by' (ixg h12) fun _ _=>Tot.cd (fun _=>.so trivial) (fun _=>.by' (t108 j12 _ ?_) fun _ _=>.so trivial))
     have:=h12.tk; have:=hr.hi; simp only [big]; omega
    ·refine Tot.by' (Ξ:=fun m'=>Tk r.2 m') ?_ fun j26 h26=>?_
     ·exact Tot.cd (fun _=>.by' (t90 j12 _ _) fun m' hm=>.so (h12.trans ⟨rfl,hm.1.tk.gv,hm.1.tk.ty,hm.1.tk.lf,hm.1.tk.pr,hm.1.tk.inn,hm.1.tk.lvl,fun _ h=>h⟩)) (fun _=>.so h12)
     ·refine .by' (ix h26) fun y hy=>.by' (ixg h26) fun _ _=>.so (h26.trans ⟨?_,?_,rfl,rfl,rfl,rfl,rfl,fun hl ht t hh=>?_⟩)
      ·show (j26.f_g.Toks.set _ _).length=_; simp
      ·show (j26.f_given.set _ _).length=_; simp
      ·rcases mem_set2 hh with hh | rfl
       ·exact ht t hh
       ·exact (ht y hy:0<=y.Level)
   ·refine .by' (ix h19) fun _ _=>?_
    refine Tot.by' (Ξ:=fun m'=>Tk r.2 m') ?_ fun j32 h32=>.so (hr.tk h32)
    refine Tot.cd (fun _=>?_) (fun _=>.so h19)
    refine .by' (Ξ:=fun _=>True) (Tot.cd (fun _=>.so trivial) (fun _=>.so trivial)) fun c _=>?_
    refine Tot.by' (Ξ:=fun m'=>Tk r.2 m') ?_ fun j36 h36=>?_
    ·exact Tot.cd (fun _=>.by' (t90 j19 _ _) fun m' hm=>.so (h19.trans ⟨rfl,hm.1.tk.gv,hm.1.tk.ty,hm.1.tk.lf,hm.1.tk.pr,hm.1.tk.inn,hm.1.tk.lvl,fun _ h=>h⟩)) (fun _=>.so h19)
    ·refine .by' (ix h36) fun y hy=>.so (h36.trans ⟨?_,rfl,rfl,rfl,rfl,rfl,rfl,fun hl ht t hh=>?_⟩)
     ·show (j36.f_g.Toks.set _ _).length=_; simp
     ·rcases mem_set2 hh with hh | rfl
      ·exact ht t hh
      ·exact (ht y hy:0<=y.Level)
def SyOk (T:Nat) (N:Int) (s:Int):Prop:=(0<=s/\s<T)\/(1000<=s/\s<=1000+N)
theorem SyOk.mono {T T':Nat}{N N' s:Int}(h:SyOk T N s) (hT:T<=T') (hN:N<=N'):SyOk T' N' s:=by
 rcases h with h | h
 ·exact .inl (by omega)
 ·exact .inr (by omega)
theorem t109 (m:Mk) (x:Sym) (hg:m.f_given.length=m.f_g.Toks.length) (h3:3<=m.f_g.Toks.length) (h:m.f_g.Toks.length<=100000000000) (hl:m.f_lefts.length<=100000000000) (hx:LitOk x) :
  Tot (pf109 m x) fun r=>Grow m r.2 1/\SyOk r.2.f_g.Toks.length m.f_lefts.length r.1:=by
 unfold pf109
 have hgr:Grow m m 1:=⟨hg,Nat.le_refl _,Nat.le_succ _,Nat.le_succ _,rfl,rfl,rfl,rfl,fun _ h=>h⟩
 refine Tot.cd (fun _=>?_) (fun _=>?_)
 ·exact .by' (t107 m x hg h hx) fun r ⟨hr,h0,h1⟩=>.so ⟨hr,.inl ⟨h0,h1⟩⟩
 ·refine .by' (t92 m x.Name (by simp only [big]; omega)) fun k hk=>Tot.cp (fun h0=>.so ⟨hgr,.inr ?_⟩) (fun _=>?_)
  ·show 1000<=w64 (1001+k)/\w64 (1001+k)<=1000+(m.f_lefts.length:Int)
   rw [w64_eq]
   rcases hk with hk | hk <;> omega
  ·refine .by' (t91 m x (by simp only [big]; omega)) fun t ht=>Tot.cp (fun _=>?_) (fun h0=>.so ⟨hgr,.inl ?_⟩)
   ·refine .by' (t90 m _ _) fun m' hm=>.so ⟨hm.1.grow hg 1,.inl ⟨Int.le_refl 0,?_⟩⟩
    show (0:Int)<(m'.f_g.Toks.length:Int)
    rw [hm.1.g]; omega
   ·show 0<=t/\t<(m.f_g.Toks.length:Int)
    rcases ht with ht | ht <;> omega
theorem t109t (m:Mk) (x:Sym) (hg:m.f_given.length=m.f_g.Toks.length) (h3:3<=m.f_g.Toks.length) (h:m.f_g.Toks.length<=100000000000) (hl:m.f_lefts.length<=100000000000) (hx:LitOk x) (ht:x.Lit=true\/∀ y∈m.f_lefts,y≠x.Name) :
  Tot (pf109 m x) fun r=>Grow m r.2 1/\0<=r.1/\r.1<r.2.f_g.Toks.length:=by
 unfold pf109
 have hgr:Grow m m 1:=⟨hg,Nat.le_refl _,Nat.le_succ _,Nat.le_succ _,rfl,rfl,rfl,rfl,fun _ h=>h⟩
 refine Tot.cd (fun _=>?_) (fun hlit=>?_)
 ·exact .by' (t107 m x hg h hx) fun r ⟨hr,h0,h1⟩=>.so ⟨hr,h0,h1⟩
 ·have ht:∀ y∈m.f_lefts,y≠x.Name:=ht.resolve_left (by rw [hlit]; decide)
  refine .by' (t92 m x.Name (by simp only [big]; omega)) fun k hk=>Tot.cp (fun h0=>?_) (fun _=>?_)
  ·rcases hk with ⟨rfl,_⟩ | ⟨h1,h2,h3⟩
   ·exact absurd h0 (by decide)
   ·exact absurd rfl (ht _ (List.mem_of_getElem? h3))
  ·refine .by' (t91 m x (by simp only [big]; omega)) fun t ht=>Tot.cp (fun _=>?_) (fun h0=>.so ⟨hgr,?_⟩)
   ·refine .by' (t90 m _ _) fun m' hm=>.so ⟨hm.1.grow hg 1,Int.le_refl 0,?_⟩
    show (0:Int)<(m'.f_g.Toks.length:Int)
    rw [hm.1.g]; omega
   ·show 0<=t/\t<(m.f_g.Toks.length:Int)
    rcases ht with ht | ht <;> omega
structure PrOk (T:Nat) (N:Int) (p:Prod):Prop where
 left:0<=p.Left/\p.Left<=N
 right:∀ s∈p.Right,SyOk T N s
 prec:-1<=p.Prec/\p.Prec<T
theorem PrOk.mono {T T':Nat}{N N':Int}{p:Prod}(h:PrOk T N p) (hT:T<=T') (hN:N<=N'):PrOk T' N' p :=
 ⟨⟨h.left.1,by have:=h.left.2; omega⟩,fun s hs=>(h.right s hs).mono hT hN,⟨h.prec.1,by have:=h.prec.2; omega⟩⟩
structure MJ (m:Mk) (T L I Q:Nat):Prop where
 gv:m.f_given.length=m.f_g.Toks.length
 lo:3<=m.f_g.Toks.length
 hi:m.f_g.Toks.length<=T
 ty:m.f_types.length<=T
 lf:m.f_lefts.length=L
 inn:0<=m.f_inner/\m.f_inner<=I
 prn:m.f_g.Prods.length<=Q
 pr:∀ p∈m.f_g.Prods,PrOk m.f_g.Toks.length (L+m.f_inner) p
 lvl:0<=m.f_level
 lv:∀ t∈m.f_g.Toks,0<=t.Level
theorem MJ.mono {m:Mk}{T L I Q T' I' Q':Nat}(h:MJ m T L I Q) (hT:T<=T') (hI:I<=I') (hQ:Q<=Q'):MJ m T' L I' Q' :=
 ⟨h.gv,h.lo,by have:=h.hi; omega,by have:=h.ty; omega,h.lf,⟨h.inn.1,by have:=h.inn.2; omega⟩,by have:=h.prn; omega,h.pr,h.lvl,h.lv⟩
theorem MJ.grow {m m':Mk}{T L I Q k:Nat}(h:MJ m T L I Q) (g:Grow m m' k):MJ m' (T+k) L I Q :=
 ⟨g.gv,by have:=h.lo; have:=g.lo; omega,by have:=h.hi; have:=g.hi; omega,by have:=h.ty; have:=g.ty; omega,by rw [g.lf]; exact h.lf,by rw [g.inn]; exact h.inn,by rw [g.pr]; exact h.prn,
  by rw [g.pr,g.inn]; exact fun p hp=>(h.pr p hp).mono g.lo (by omega),by rw [g.lvl]; exact h.lvl,g.lv h.lvl h.lv⟩
theorem t93 (m:Mk) (left:ByteArray) (a:Alt) {T L I Q:Nat}(hm:MJ m T L I Q) (hT:T<=10000000000) (hL:L<=10000000000) (hI:I<=10000000000) (hQ:Q<=10000000000) (hb:AltB a) (hok:AltOk a) :
  Tot (pf93 m left a) fun m'=>MJ m' (T+1001) L (I+1000) (Q+1001)/\1<=m'.f_g.Prods.length:=by
 unfold pf93
 have hn:=hb.n
 refine .by' (t92 m left (by rw [hm.lf]; simp only [big]; omega)) fun x1 hx1=>?_
 have hx1':-1<=x1/\x1<L:=by rw [<- hm.lf]; rcases hx1 with h | h <;> omega
 refine Tot.by' (Ξ:=fun x3=>MJ x3.1 (T+1000) L (I+1000) (Q+1000)/\(∀ s∈x3.2.1,SyOk x3.1.f_g.Toks.length (L+x3.1.f_inner) s)/\x3.2.1.length<=1000) ?_ fun x3 hx3=>?_
 ·refine Tot.count (fun s=>s.2.2.2.2) a.Parts.length (fun s=>0<=s.2.2.2.2/\s.2.2.2.2<=a.Parts.length/\MJ s.1 (T+s.2.2.2.2.toNat) L (I+s.2.2.2.2.toNat) (Q+s.2.2.2.2.toNat)/\(∀ y∈s.2.1,SyOk s.1.f_g.Toks.length (L+s.1.f_inner) y)/\s.2.1.length<=s.2.2.2.2.toNat) ⟨by show (0:Int)<=0; omega,by show (0:Int)<=_; omega,hm,by simp,Nat.le_refl 0⟩ (by show (a.Parts.length:Int) - 0<_; omega) fun s hs=>?_
  obtain ⟨m1,rt,cd,at_,i⟩:=s
  obtain ⟨h0,h1,hj,hr,hl⟩:=hs
  simp only at h0 h1 hj hr hl ⊢
  have hw:w64 (i+1)=i+1:=by rw [w64_eq]; omega
  have e1:(i+1).toNat=i.toNat+1:=by omega
  refine Tot.cp (fun hlt=>?_) (fun _=>.so ⟨hj.mono (by omega) (by omega) (by omega),hr,by show rt.length<=1000; omega⟩)
  refine Tot.by' (Ξ:=fun j=>MJ j.1 (T+(i.toNat+1)) L (I+(i.toNat+1)) (Q+(i.toNat+1))/\(∀ y∈j.2.1,SyOk j.1.f_g.Toks.length (L+j.1.f_inner) y)/\j.2.1.length<=i.toNat+1) ?_ fun j hj6=>?_
  ·refine Tot.by' (Tot.ix (Φ:=fun y=>y∈a.Parts) h0 hlt fun y _ hy=>hy) fun y hy=>?_
   refine Tot.by' (Ξ:=fun j=>MJ j.1 (T+(i.toNat+1)) L (I+(i.toNat+1)) (Q+(i.toNat+1))/\(∀ y∈j.2.1,SyOk j.1.f_g.Toks.length (L+j.1.f_inner) y)/\j.2.1.length<=i.toNat+1) ?_ fun j hj8=>.so hj8
   refine Tot.by' (Ξ:=fun j=>MJ j.1 (T+(i.toNat+1)) L (I+(i.toNat+1)) (Q+(i.toNat+1))/\(∀ y∈j.2.1,SyOk j.1.f_g.Toks.length (L+j.1.f_inner) y)/\j.2.1.length<=i.toNat+1) ?_ fun j hj8=>.so hj8
   refine Tot.cd (fun _=>?_) (fun _=>?_)
   ·have hh:=hj.hi
    refine .by' (t109 m1 y.Sym hj.gv hj.lo (by omega) (by rw [hj.lf]; omega) (hok.parts y hy)) fun r ⟨hg,hsy⟩=>?_
    refine .by' (Ξ:=fun _=>True) (Tot.ap (by simp [lim]; omega) trivial) fun _ _=>.so ⟨(hj.grow hg).mono (by omega) (by omega) (by omega),fun z hz=>?_,by simp; omega⟩
    rcases List.mem_append.1 hz with hz | hz
    ·exact (hr z hz).mono hg.lo (by show (L:Int)+m1.f_inner<=L+r.2.f_inner; rw [hg.inn]; omega)
    ·rw [List.mem_singleton.1 hz]
     rw [hj.lf] at hsy
     exact hsy.mono (Nat.le_refl _) (by show (L:Int)<=L+r.2.f_inner; rw [hg.inn]; have:=hj.inn.1; omega)
   ·refine Tot.by' (Ξ:=fun j=>MJ (⟨(⟨m1.f_g.Toks,m1.f_g.Nons,j.1,m1.f_g.Pro,m1.f_g.Tail⟩:Grammar),m1.f_given,m1.f_types,m1.f_lefts,m1.f_e,m1.f_at,m1.f_name,m1.f_level,j.2.1⟩:yuccaref9_maker) (T+(i.toNat+1)) L (I+(i.toNat+1)) (Q+(i.toNat+1))/\(∀ y∈j.2.2.1,SyOk m1.f_g.Toks.length (L+j.2.1) y)/\j.2.2.1.length<=i.toNat+1) ?_ fun j hj9=>.so hj9
    refine Tot.cd (fun _=>.so ⟨⟨hj.gv,hj.lo,by have:=hj.hi; show m1.f_g.Toks.length<=_; omega,by have:=hj.ty; show m1.f_types.length<=_; omega,hj.lf,⟨hj.inn.1,by have:=hj.inn.2; show m1.f_inner<=_; omega⟩,by have:=hj.prn; show m1.f_g.Prods.length<=_; omega,hj.pr,hj.lvl,hj.lv⟩,hr,by show rt.length<=_; omega⟩) (fun _=>?_)
    have hin:=hj.inn
    have hlf:=hj.lf
    have hpn:=hj.prn
    have w1:w64 (m1.f_inner+1)=m1.f_inner+1:=by rw [w64_eq]; omega
    have w2:w64 (((m1.f_lefts.length:Int))+(m1.f_inner+1))=L+(m1.f_inner+1):=by rw [w64_eq,hlf]; omega
    have w3:w64 (1000+(m1.f_lefts.length:Int))=1000+L:=by rw [w64_eq,hlf]; omega
    have w4:w64 (1000+(L:Int)+(m1.f_inner+1))=1000+(L:Int)+(m1.f_inner+1):=by rw [w64_eq]; omega
    rw [w1,w2,w3,w4]
    refine .by' (Ξ:=fun _=>True) (Tot.ap (by simp [lim]; omega) trivial) fun _ _=>.by' (Ξ:=fun _=>True) (Tot.ap (by simp [lim]; omega) trivial) fun _ _=>.by' (Ξ:=fun _=>True) (Tot.ap (by simp [lim]; omega) trivial) fun _ _=>.so ⟨⟨hj.gv,hj.lo,?_,?_,hj.lf,?_,?_,?_,hj.lvl,hj.lv⟩,?_,?_⟩
    ·have:=hj.hi; show m1.f_g.Toks.length<=_; omega
    ·have:=hj.ty; show m1.f_types.length<=_; omega
    ·show 0<=m1.f_inner+1/\m1.f_inner+1<=((I+(i.toNat+1):Nat):Int); omega
    ·show (m1.f_g.Prods++[_]).length<=_; simp; omega
    ·intro p hp
     rcases List.mem_append.1 hp with hp | hp
     ·exact (hj.pr p hp).mono (Nat.le_refl _) (by show (L:Int)+m1.f_inner<=L+(m1.f_inner+1); omega)
     ·rw [List.mem_singleton.1 hp]
      refine ⟨?_,by simp,?_⟩
      ·show 0<=(L:Int)+(m1.f_inner+1)/\(L:Int)+(m1.f_inner+1)<=L+(m1.f_inner+1); omega
      ·have:=hj.lo; show (-1:Int)<=-1/\(-1:Int)<(m1.f_g.Toks.length:Int); omega
    ·intro z hz
     rcases List.mem_append.1 hz with hz | hz
     ·exact (hr z hz).mono (Nat.le_refl _) (by show (L:Int)+m1.f_inner<=L+(m1.f_inner+1); omega)
     ·rw [List.mem_singleton.1 hz]
      exact .inr (by show 1000<=1000+(L:Int)+(m1.f_inner+1)/\1000+(L:Int)+(m1.f_inner+1)<=1000+((L:Int)+(m1.f_inner+1)); omega)
    ·show (rt++[_]).length<=_; simp; omega
  ·rw [hw]
   refine .so ⟨⟨?_,?_,?_,hj6.2.1,?_⟩,?_,?_⟩
   ·show (0:Int)<=i+1; omega
   ·show i+1<=(a.Parts.length:Int); omega
   ·show MJ j.1 (T+(i+1).toNat) L (I+(i+1).toNat) (Q+(i+1).toNat)
    rw [e1]; exact hj6.1
   ·show j.2.1.length<=(i+1).toNat
    rw [e1]; exact hj6.2.2
   ·show i<i+1; omega
   ·show i+1<=(a.Parts.length:Int); omega
 ·obtain ⟨hj,hr,hl⟩:=hx3
  have hlo:=hj.lo
  have hin:=hj.inn
  refine Tot.by' (Ξ:=fun p=>-1<=p/\p<(x3.1.f_g.Toks.length:Int)) ?_ fun pr hpr=>?_
  ·refine Tot.count (fun s=>s.2) x3.2.1.length (fun s=>0<=s.2/\s.2<=x3.2.1.length/\-1<=s.1/\s.1<(x3.1.f_g.Toks.length:Int)) ⟨by show (0:Int)<=0; omega,by show (0:Int)<=_; omega,by show (-1:Int)<=-1; omega,by show (-1:Int)<_; omega⟩ (by show (x3.2.1.length:Int) - 0<_; omega) fun s hs=>?_
   obtain ⟨h0,h1,h2,h3⟩:=hs
   have hw:w64 (s.2+1)=s.2+1:=by rw [w64_eq]; omega
   rw [hw]
   refine Tot.cp (fun hlt=>?_) (fun _=>.so ⟨h2,h3⟩)
   refine Tot.by' (Ξ:=fun p=>-1<=p/\p<(x3.1.f_g.Toks.length:Int)) ?_ fun p hp=>.so ⟨⟨?_,?_,hp.1,hp.2⟩,?_,?_⟩
   ·refine .by' (Tot.ix (Φ:=fun y=>idx x3.2.1 s.2=some y/\y∈x3.2.1) h0 hlt fun y h1 h2=>⟨h1,h2⟩) fun y hy=>?_
    refine .by' (Ξ:=fun p=>-1<=p/\p<(x3.1.f_g.Toks.length:Int)) ?_ fun p hp=>.so hp
    refine Tot.cp (fun hlt=>?_) (fun _=>.so ⟨h2,h3⟩)
    rw [hy.1]
    refine Tot.sm (.so ?_)
    rcases hr y hy.2 with h | h
    ·omega
    ·omega
   ·show (0:Int)<=s.2+1; omega
   ·show s.2+1<=(x3.2.1.length:Int); omega
   ·show s.2<s.2+1; omega
   ·show s.2+1<=(x3.2.1.length:Int); omega
  ·refine Tot.by' (Ξ:=fun j=>Grow x3.1 j.1 1/\-1<=j.2/\j.2<(j.1.f_g.Toks.length:Int)) ?_ fun j hj27=>?_
   ·have hgr:Grow x3.1 x3.1 1:=⟨hj.gv,Nat.le_refl _,Nat.le_succ _,Nat.le_succ _,rfl,rfl,rfl,rfl,fun _ h=>h⟩
    refine Tot.cd (fun _=>?_) (fun _=>.so ⟨hgr,hpr⟩)
    refine Tot.by' (Ξ:=fun c=>c=true->a.Prec.Lit=true\/∀ y∈x3.1.f_lefts,y≠a.Prec.Name) ?_ fun c hc=>?_
    ·refine Tot.cd (fun h=>.so fun _=>.inl h) (fun _=>?_)
     refine .by' (t92 x3.1 a.Prec.Name (by rw [hj.lf]; simp only [big]; omega)) fun k hk=>.so fun hlt=>?_
     have hlt:=of_decide_eq_true hlt
     rcases hk with ⟨_,h⟩ | h
     ·exact .inr h
     ·omega
    ·refine Tot.by' (Ξ:=fun j=>Grow x3.1 j.1 1/\-1<=j.2/\j.2<(j.1.f_g.Toks.length:Int)) ?_ fun j hj=>.so hj
     have hh:=hj.hi
     refine Tot.cd (fun h=>?_) (fun _=>?_)
     ·refine .by' (t109t x3.1 a.Prec hj.gv hj.lo (by omega) (by rw [hj.lf]; omega) hok.prec (hc h)) fun r hr=>.so ⟨hr.1,?_,hr.2.2⟩
      have:=hr.2.1; show -1<=r.1; omega
     ·refine .by' (t90 x3.1 _ _) fun m' hm'=>.so ⟨hm'.1.grow hj.gv 1,by show (-1:Int)<=-1; omega,?_⟩
      show (-1:Int)<(m'.f_g.Toks.length:Int); omega
   ·have hm':=hj.grow hj27.1
    have hpn:=hm'.prn
    refine .by' (Ξ:=fun _=>True) (Tot.ap (by simp [lim]; omega) trivial) fun _ _=>.by' (Ξ:=fun _=>True) (Tot.ap (by simp [lim]; omega) trivial) fun _ _=>.so ⟨⟨hm'.gv,hm'.lo,?_,?_,hm'.lf,⟨hm'.inn.1,?_⟩,?_,?_,hm'.lvl,hm'.lv⟩,by simp⟩
    ·have:=hm'.hi; show j.1.f_g.Toks.length<=_; omega
    ·have:=hm'.ty; show j.1.f_types.length<=_; omega
    ·have:=hm'.inn.2; show j.1.f_inner<=_; omega
    ·show (j.1.f_g.Prods++[_]).length<=_; simp; omega
    ·intro p hp
     rcases List.mem_append.1 hp with hp | hp
     ·exact hm'.pr p hp
     ·rw [List.mem_singleton.1 hp]
      have hin2:=hm'.inn
      refine ⟨?_,fun z hz=>?_,hj27.2⟩
      ·show 0<=w64 (1+x1)/\w64 (1+x1)<=(L:Int)+j.1.f_inner
       rw [w64_eq]; omega
      ·exact (hr z hz).mono hj27.1.lo (by show (L:Int)+x3.1.f_inner<=L+j.1.f_inner; rw [hj27.1.inn]; omega)
theorem size_nums (l:List Int):(strOfNums l).size=l.length:=strOfNums_size ..
theorem t28 (n:Int) (h0:0<=n) (h1:n<=1000000000000):Tot (pf28 n) fun s=>s.size<=2000000000000:=by
 unfold pf28
 have hu:IntKind.u64.wrap n=n:=by rw [IntKind.wrap_u64]; omega
 refine Tot.by' (Ξ:=fun j=>j=n) (Tot.cp (fun h=>absurd h (by omega)) (fun _=>.so hu)) fun j hj=>?_
 subst hj
 refine Tot.by' (Ξ:=fun s=>s.size<=1000000000001) ?_ fun s hs=>Tot.cp (fun h=>absurd h (by omega)) (fun _=>.so (by omega))
 refine Tot.loop (fun s=>0<=s.1/\s.1+s.2.size<=1000000000000+1/\(s.2.size=0->s.1<=1000000000000)) (fun s=>s.1.toNat+(if s.2.size=0 then 1 else 0)) ⟨h0,by show j+((0:Nat):Int)<=_; omega,fun _=>h1⟩ (by show j.toNat+(if (0:Nat)=0 then 1 else 0)<1000000000000000000; simp; omega) fun s hs=>?_
 obtain ⟨m,t⟩:=s
 obtain ⟨g0,g1,g2⟩:=hs
 simp only at g0 g1 g2 ⊢
 refine Tot.by' (Ξ:=fun c=>c=true->0<m\/t.size=0) ?_ fun c hc=>Tot.cd (fun hc1=>?_) (fun _=>.so ?_)
 ·refine Tot.cp (fun h=>.so fun _=>.inl h) (fun _=>.so fun h=>.inr ?_)
  have:=of_decide_eq_true h
  rw [this]; rfl
 ·have hc:=hc hc1
  refine .by' (Ξ:=fun x=>x=m.tmod 10) (Tot.remU (by decide) rfl) fun x hx=>?_
  refine .by' (Ξ:=fun y=>y.size=t.size+1) (Tot.cat ?_ ?_) fun y hy=>.by' (Ξ:=fun z=>z=m / 10) (Tot.quoU (by decide) ?_) fun z hz=>.so ?_
  ·rw [size_nums]; simp; omega
  ·rw [ByteArray.size_append,size_nums]; simp; omega
  ·rw [Int.tdiv_eq_ediv_of_nonneg g0,IntKind.wrap_u64]; omega
  ·subst hz
   refine ⟨⟨?_,?_,?_⟩,?_⟩
   ·show 0<=m / 10; omega
   ·show m / 10+(y.size:Int)<=_; rw [hy]; omega
   ·intro h; have h:y.size=0:=h; omega
   ·show (m / 10).toNat+(if y.size=0 then 1 else 0)<m.toNat+(if t.size=0 then 1 else 0)
    rw [if_neg (by omega)]
    split <;> omega
 ·show t.size<=1000000000001; omega
structure GOk (g:Grammar):Prop where
 tn:3<=g.Toks.length/\g.Toks.length<=40
 nn:1<=g.Nons.length/\g.Nons.length<=24
 pn:1<=g.Prods.length/\g.Prods.length<=60
 pr:∀ p∈g.Prods,PrOk g.Toks.length (g.Nons.length - 1) p
 rn:∀ p∈g.Prods,p.Right.length<=8
 lv:∀ t∈g.Toks,0<=t.Level
structure M0 (m:Mk) (T L:Nat):Prop where
 gv:m.f_given.length=m.f_g.Toks.length
 lo:3<=m.f_g.Toks.length
 hi:m.f_g.Toks.length<=3+T
 ty:m.f_types.length<=T
 lf:m.f_lefts.length<=L
 pr:m.f_g.Prods=[]
 inn:m.f_inner=0
 lvl:0<=m.f_level
 lv:∀ t∈m.f_g.Toks,0<=t.Level
theorem M0.mono {m:Mk}{T L T' L':Nat}(h:M0 m T L) (hT:T<=T') (hL:L<=L'):M0 m T' L' :=
 ⟨h.gv,h.lo,by have:=h.hi; omega,by have:=h.ty; omega,by have:=h.lf; omega,h.pr,h.inn,h.lvl,h.lv⟩
theorem M0.grow {m m':Mk}{T L k:Nat}(h:M0 m T L) (g:Grow m m' k):M0 m' (T+k) L :=
 ⟨g.gv,by have:=h.lo; have:=g.lo; omega,by have:=h.hi; have:=g.hi; omega,by have:=h.ty; have:=g.ty; omega,by rw [g.lf]; exact h.lf,g.pr.trans h.pr,g.inn.trans h.inn,by rw [g.lvl]; exact h.lvl,g.lv h.lvl h.lv⟩
theorem M0.same {m m':Mk}{T L:Nat}(h:M0 m T L) (g:Same m m'):M0 m' T L:=by
 have:=h.grow (g.grow h.gv 0)
 exact this
theorem M0.mj {m:Mk}{T L:Nat}(h:M0 m T L):MJ m (3+T) m.f_lefts.length 0 0 :=
 ⟨h.gv,h.lo,h.hi,by have:=h.ty; omega,rfl,by rw [h.inn]; decide,by rw [h.pr]; exact Nat.le_refl 0,by rw [h.pr]; exact fun p hp=>absurd hp (by simp),h.lvl,h.lv⟩
theorem t61 (s:Source) (hb:SrcB s):Tot (pf61 s) fun r=>r.2.1=0->GOk r.1:=by
 unfold pf61
 refine .by' (t88 s hb) fun c hc=>Tot.cd (fun _=>.so fun h=>absurd h (by decide)) (fun hc1=>?_)
 have ok:SrcOk s:=hc (by simpa using hc1)
 refine .by' (Tot.mk (by decide) (rfl:List.replicate (3:Int).toNat false=List.replicate (3:Int).toNat false)) fun x3 hx3=>?_
 have hdn:=hb.dn
 have hrn:=hb.rn
 -- declarations
 refine Tot.by' (Ξ:=fun r=>M0 r.1 (1001 * 1000) 0) ?_ fun x5 h5=>?_
 ·refine Tot.count (fun z=>z.2.2) s.Decls.length (fun z=>0<=z.2.2/\z.2.2<=s.Decls.length/\M0 z.1 (1001 * z.2.2.toNat) 0/\z.1.f_level<=z.2.2) ⟨Int.le_refl 0,by show (0:Int)<=_; omega,⟨by show x3.length=3; rw [<- hx3]; rfl,Nat.le_refl 3,Nat.le_refl 3,Nat.le_refl 0,Nat.le_refl 0,rfl,rfl,Int.le_refl 0,by show ∀ t∈[_,_,_],0<=Tok.Level t; simp⟩,Int.le_refl 0⟩ (by show (s.Decls.length:Int) - 0<_; omega) fun z hz=>?_
  obtain ⟨m,st,i⟩:=z
  obtain ⟨h0,h1,hm,hlv⟩:=hz
  simp only at h0 h1 hm hlv ⊢
  have hw:w64 (i+1)=i+1:=by rw [w64_eq]; omega
  rw [hw]
  have hl0:=hm.lvl
  refine Tot.cp (fun hlt=>?_) (fun _=>.so (hm.mono (by omega) (Nat.le_refl _)))
  refine .by' (Tot.ix (Φ:=fun y=>y∈s.Decls) h0 hlt fun y _ hy=>hy) fun d hd=>?_
  have hD:=hb.decls d hd
  have hdk:=hD.n
  refine .by' (Ξ:=fun _=>True) (Tot.cd (fun _=>.so trivial) (fun _=>.so trivial)) fun c10 _=>.by' (Ξ:=fun j=>0<=j/\j<=i+1) (Tot.cd (fun _=>.so (by rw [w64_eq]; omega)) (fun _=>.so (by omega))) fun j11 h11=>?_
  refine Tot.by' (Ξ:=fun r=>M0 r.1 (1001 * i.toNat+1000) 0/\r.1.f_level<=i+1) ?_ fun x14 h14=>.so ⟨⟨?_,?_,?_,?_⟩,?_,?_⟩
  ·refine Tot.count (fun z=>z.2.2) d.Syms.length (fun z=>0<=z.2.2/\z.2.2<=d.Syms.length/\M0 z.1 (1001 * i.toNat+z.2.2.toNat) 0/\z.1.f_level<=i+1) ⟨Int.le_refl 0,by show (0:Int)<=_; omega,⟨hm.gv,hm.lo,hm.hi,hm.ty,hm.lf,hm.pr,hm.inn,h11.1,hm.lv⟩,h11.2⟩ (by show (d.Syms.length:Int) - 0<_; omega) fun z hz=>?_
   obtain ⟨m,st,k⟩:=z
   obtain ⟨g0,g1,hm,hlv⟩:=hz
   simp only at g0 g1 hm hlv ⊢
   have hwk:w64 (k+1)=k+1:=by rw [w64_eq]; omega
   rw [hwk]
   refine Tot.cp (fun hltk=>?_) (fun _=>.so ⟨hm.mono (by omega) (Nat.le_refl _),hlv⟩)
   have ixs:Tot (idx d.Syms k) fun y=>y∈d.Syms:=Tot.ix g0 hltk fun y _ hy=>hy
   refine Tot.by' (Ξ:=fun j=>M0 j.1 (1001 * i.toNat+k.toNat+1) 0/\j.1.f_level<=i+1) ?_ fun j hj=>.so ⟨⟨?_,?_,?_,hj.2⟩,?_,?_⟩
   ·refine Tot.cd (fun _=>?_) (fun _=>?_)
    ·refine .by' ixs fun x hx=>.by' (t89 m d x hm.gv (by have:=hm.hi; omega) (by have:=hm.ty; omega) (ok.decls d hd x hx)) fun m' hg=>.so ⟨hm.grow hg,by show m'.f_level<=_; rw [hg.lvl]; exact hlv⟩
    ·refine Tot.by' (Ξ:=fun j=>M0 j (1001 * i.toNat+k.toNat+1) 0/\j.f_level<=i+1) ?_ fun j hj=>.by' ixs fun _ _=>.so hj
     refine Tot.cd (fun _=>?_) (fun _=>.so ⟨hm.mono (by omega) (Nat.le_refl _),hlv⟩)
     exact .by' ixs fun _ _=>.by' ixs fun _ _=>.by' (t90 m _ _) fun m' hm'=>.so ⟨(hm.same hm'.1).mono (by omega) (Nat.le_refl _),by rw [hm'.1.lv]; exact hlv⟩
   ·show 0<=k+1; omega
   ·show k+1<=(d.Syms.length:Int); omega
   ·show M0 j.1 (1001 * i.toNat+(k+1).toNat) 0
    exact hj.1.mono (by omega) (Nat.le_refl _)
   ·show k<k+1; omega
   ·show k+1<=(d.Syms.length:Int); omega
  ·show 0<=i+1; omega
  ·show i+1<=(s.Decls.length:Int); omega
  ·show M0 x14.1 (1001 * (i+1).toNat) 0
   exact h14.1.mono (by omega) (Nat.le_refl _)
  ·exact h14.2
  ·show i<i+1; omega
  ·show i+1<=(s.Decls.length:Int); omega
 -- what stands on the left
 refine Tot.by' (Ξ:=fun r=>M0 r (1001 * 1000) 1000) ?_ fun x28 h28=>?_
 ·refine Tot.count (fun z=>z.2) s.Rules.length (fun z=>0<=z.2/\z.2<=s.Rules.length/\M0 z.1 (1001 * 1000) z.2.toNat) ⟨Int.le_refl 0,by show (0:Int)<=_; omega,h5⟩ (by show (s.Rules.length:Int) - 0<_; omega) fun z hz=>?_
  obtain ⟨m,i⟩:=z
  obtain ⟨h0,h1,hm⟩:=hz
  simp only at h0 h1 hm ⊢
  have hw:w64 (i+1)=i+1:=by rw [w64_eq]; omega
  rw [hw]
  refine Tot.cp (fun hlt=>?_) (fun _=>.so (hm.mono (Nat.le_refl _) (by omega)))
  have hhi:=hm.hi
  have hlf:=hm.lf
  refine Tot.by' (Ξ:=fun j=>M0 j (1001 * 1000) (i.toNat+1)) ?_ fun j hj=>.so ⟨⟨?_,?_,?_⟩,?_,?_⟩
  ·refine .by' (Tot.ix (Φ:=fun _=>True) h0 hlt fun y _ hy=>trivial) fun r hr=>.by' (t91 m _ (by simp only [big]; omega)) fun t _=>?_
   refine Tot.by' (Ξ:=fun j=>M0 j (1001 * 1000) i.toNat) ?_ fun j34 h34=>?_
   ·exact Tot.cd (fun _=>.by' (t90 m _ _) fun m' hm'=>.so (hm.same hm'.1)) (fun _=>.so hm)
   ·have hl34:=h34.lf
    refine .by' (t92 j34 _ (by simp only [big]; omega)) fun k _=>?_
    refine Tot.by' (Ξ:=fun l=>l.length<=i.toNat+1) ?_ fun l hl=>.so ⟨h34.gv,h34.lo,h34.hi,h34.ty,hl,h34.pr,h34.inn,h34.lvl,h34.lv⟩
    refine Tot.cd (fun _=>?_) (fun _=>.so (by omega))
    exact .by' (Ξ:=fun _=>True) (Tot.ap (by simp [lim]; omega) trivial) fun _ _=>.so (by simp; omega)
  ·show 0<=i+1; omega
  ·show i+1<=(s.Rules.length:Int); omega
  ·show M0 j (1001 * 1000) (i+1).toNat
   exact hj.mono (Nat.le_refl _) (by omega)
  ·show i<i+1; omega
  ·show i+1<=(s.Rules.length:Int); omega
 -- types and starts
 refine Tot.by' (Ξ:=fun r=>M0 r (1001 * 1000) 1000) ?_ fun x42 h42=>?_
 ·refine Tot.count (fun z=>z.2) s.Decls.length (fun z=>0<=z.2/\z.2<=s.Decls.length/\M0 z.1 (1001 * 1000) 1000) ⟨Int.le_refl 0,by show (0:Int)<=_; omega,h28⟩ (by show (s.Decls.length:Int) - 0<_; omega) fun z hz=>?_
  obtain ⟨m,i⟩:=z
  obtain ⟨h0,h1,hm⟩:=hz
  simp only at h0 h1 hm ⊢
  have hw:w64 (i+1)=i+1:=by rw [w64_eq]; omega
  rw [hw]
  refine Tot.cp (fun hlt=>?_) (fun _=>.so hm)
  refine Tot.by' (Ξ:=fun r=>M0 r (1001 * 1000) 1000) ?_ fun x46 h46=>.so ⟨⟨?_,?_,h46⟩,?_,?_⟩
  ·have hlt':i.toNat<s.Decls.length:=by omega
   have hi:idx s.Decls i=some s.Decls[i.toNat]:=by simp [idx,h0,hlt']
   rw [hi]
   generalize hd:s.Decls[i.toNat]=d
   have hdm:d∈s.Decls:=by rw [<- hd]; exact List.getElem_mem hlt'
   have hdk:=(hb.decls d hdm).n
   refine Tot.count (fun z=>z.2) d.Syms.length (fun z=>0<=z.2/\z.2<=d.Syms.length/\M0 z.1 (1001 * 1000) 1000) ⟨Int.le_refl 0,by show (0:Int)<=_; omega,hm⟩ (by show (d.Syms.length:Int) - 0<_; omega) fun z hz=>?_
   obtain ⟨m,k⟩:=z
   obtain ⟨g0,g1,hm⟩:=hz
   simp only at g0 g1 hm ⊢
   have hwk:w64 (k+1)=k+1:=by rw [w64_eq]; omega
   rw [hwk]
   refine Tot.sm (Tot.cp (fun hltk=>?_) (fun _=>.so hm))
   have hlf:=hm.lf
   refine Tot.by' (Ξ:=fun j=>M0 j (1001 * 1000) 1000) ?_ fun j hj=>.so ⟨⟨?_,?_,hj⟩,?_,?_⟩
   ·refine Tot.sm (.by' (Tot.ix (Φ:=fun _=>True) g0 hltk fun _ _ _=>trivial) fun x _=>?_)
    refine .by' (Ξ:=fun _=>True) (Tot.sm (Tot.cd (fun _=>.by' (t92 m _ (by simp only [big]; omega)) fun _ _=>.so trivial) (fun _=>.so trivial))) fun c _=>?_
    refine Tot.by' (Ξ:=fun j=>M0 j (1001 * 1000) 1000) ?_ fun j hj=>.so hj
    exact Tot.cd (fun _=>.by' (t90 m _ _) fun m' hm'=>.so (hm.same hm'.1)) (fun _=>.so hm)
   ·show 0<=k+1; omega
   ·show k+1<=(d.Syms.length:Int); omega
   ·show k<k+1; omega
   ·show k+1<=(d.Syms.length:Int); omega
  ·show 0<=i+1; omega
  ·show i+1<=(s.Decls.length:Int); omega
  ·show i<i+1; omega
  ·show i+1<=(s.Decls.length:Int); omega
 -- the start
 have hpos:=ok.pos
 refine Tot.by' (Ξ:=fun _=>True) (Tot.cd (fun _=>.by' (Ξ:=fun _=>True) (Tot.ix (by decide) (by omega) fun _ _ _=>trivial) fun _ _=>.so trivial) (fun _=>.so trivial)) fun j60 _=>?_
 have hlf42:=h42.lf
 refine .by' (t92 x42 j60 (by simp only [big]; omega)) fun x63 h63=>?_
 have h63':-1<=x63/\x63<x42.f_lefts.length:=by rcases h63 with h | h <;> omega
 -- the alternatives
 have hL:x42.f_lefts.length<=1000:=h42.lf
 generalize hLd:x42.f_lefts.length=L at hL h63'
 refine Tot.by' (Ξ:=fun r=>MJ r (3+1001 * 1000+1001 * 1000000) L (1001 * 1000000) (1+1001 * 1000000)/\1<=r.f_g.Prods.length) ?_ fun x65 h65p1=>?_
 ·have hmj:=h42.mj
  rw [hLd] at hmj
  refine Tot.count (fun z=>z.2) s.Rules.length (fun z=>0<=z.2/\z.2<=s.Rules.length/\MJ z.1 (3+1001 * 1000+1001 * (1000 * z.2.toNat)) L (1001 * (1000 * z.2.toNat)) (1+1001 * (1000 * z.2.toNat))/\1<=z.1.f_g.Prods.length) ⟨Int.le_refl 0,by show (0:Int)<=_; omega,⟨hmj.gv,hmj.lo,hmj.hi,hmj.ty,hmj.lf,hmj.inn,Nat.le_refl 1,fun p hp=>?_,hmj.lvl,hmj.lv⟩,Nat.le_refl 1⟩ (by show (s.Rules.length:Int) - 0<_; omega) fun z hz=>?_
  ·rw [List.mem_singleton.1 hp]
   have hi0:=h42.inn
   have hlo:=h42.lo
   refine ⟨⟨Int.le_refl 0,by show (0:Int)<=L+x42.f_inner; omega⟩,fun y hy=>?_,⟨by show (-1:Int)<=-1; omega,by show (-1:Int)<_; omega⟩⟩
   have hy:y∈[w64 (1001+x63)]:=hy
   rw [List.mem_singleton.1 hy]
   have:w64 (1001+x63)=1001+x63:=by rw [w64_eq]; omega
   rw [this]
   exact .inr (by show 1000<=1001+x63/\1001+x63<=1000+((L:Int)+x42.f_inner); omega)
  ·obtain ⟨m,i⟩:=z
   obtain ⟨h0,h1,hm,hp1⟩:=hz
   simp only at h0 h1 hm hp1 ⊢
   have hw:w64 (i+1)=i+1:=by rw [w64_eq]; omega
   rw [hw]
   refine Tot.cp (fun hlt=>?_) (fun _=>.so ⟨hm.mono (by omega) (by omega) (by omega),hp1⟩)
   refine Tot.by' (Ξ:=fun r=>MJ r (3+1001 * 1000+1001 * (1000 * (i.toNat+1))) L (1001 * (1000 * (i.toNat+1))) (1+1001 * (1000 * (i.toNat+1)))/\1<=r.f_g.Prods.length) ?_ fun x69 h69=>.so ⟨⟨?_,?_,?_,h69.2⟩,?_,?_⟩
   ·have hlt':i.toNat<s.Rules.length:=by omega
    have hi:idx s.Rules i=some s.Rules[i.toNat]:=by simp [idx,h0,hlt']
    rw [hi]
    generalize hd:s.Rules[i.toNat]=d
    have hdm:d∈s.Rules:=by rw [<- hd]; exact List.getElem_mem hlt'
    have hdk:=(hb.rules d hdm).n
    refine Tot.count (fun z=>z.2) d.Alts.length (fun z=>0<=z.2/\z.2<=d.Alts.length/\MJ z.1 (3+1001 * 1000+1001 * (1000 * i.toNat+z.2.toNat)) L (1001 * (1000 * i.toNat+z.2.toNat)) (1+1001 * (1000 * i.toNat+z.2.toNat))/\1<=z.1.f_g.Prods.length) ⟨Int.le_refl 0,by show (0:Int)<=_; omega,hm,hp1⟩ (by show (d.Alts.length:Int) - 0<_; omega) fun z hz=>?_
    obtain ⟨m,k⟩:=z
    obtain ⟨g0,g1,hm,hp1⟩:=hz
    simp only at g0 g1 hm hp1 ⊢
    have hwk:w64 (k+1)=k+1:=by rw [w64_eq]; omega
    rw [hwk]
    refine Tot.sm (Tot.cp (fun hltk=>?_) (fun _=>.so ⟨hm.mono (by omega) (by omega) (by omega),hp1⟩))
    refine Tot.sm (Tot.sm (.by' (Tot.ix (Φ:=fun y=>y∈d.Alts) g0 hltk fun _ _ h=>h) fun a ha=>?_))
    refine .by' (t93 m d.Left a hm (by omega) (by omega) (by omega) (by omega) ((hb.rules d hdm).alts a ha) (ok.rules d hdm a ha)) fun m' hm'=>.so ⟨⟨?_,?_,?_,hm'.2⟩,?_,?_⟩
    ·show 0<=k+1; omega
    ·show k+1<=(d.Alts.length:Int); omega
    ·show MJ m' (3+1001 * 1000+1001 * (1000 * i.toNat+(k+1).toNat)) L (1001 * (1000 * i.toNat+(k+1).toNat)) (1+1001 * (1000 * i.toNat+(k+1).toNat))
     exact hm'.1.mono (by omega) (by omega) (by omega)
    ·show k<k+1; omega
    ·show k+1<=(d.Alts.length:Int); omega
   ·show 0<=i+1; omega
   ·show i+1<=(s.Rules.length:Int); omega
   ·show MJ x69 (3+1001 * 1000+1001 * (1000 * (i+1).toNat)) L (1001 * (1000 * (i+1).toNat)) (1+1001 * (1000 * (i+1).toNat))
    exact h69.1.mono (by omega) (by omega) (by omega)
   ·show i<i+1; omega
   ·show i+1<=(s.Rules.length:Int); omega
 obtain ⟨h65,h65q⟩:=h65p1
 refine Tot.cn (fun h=>.so fun h'=>absurd h' h) (fun he=>?_)
 have h65l:=h65.lf
 have h65h:=h65.hi
 have h65t:=h65.ty
 have h65i:=h65.inn
 have h65p:=h65.prn
 -- nonterminals
 refine Tot.by' (Ξ:=fun l=>l.length=1+L) ?_ fun x79 h79=>?_
 ·refine Tot.count (fun z=>z.2) x65.f_lefts.length (fun z=>0<=z.2/\z.2<=x65.f_lefts.length/\z.1.length=1+z.2.toNat) ⟨Int.le_refl 0,by show (0:Int)<=_; omega,rfl⟩ (by show (x65.f_lefts.length:Int) - 0<_; omega) fun z hz=>?_
  obtain ⟨l,i⟩:=z
  obtain ⟨h0,h1,hl⟩:=hz
  simp only at h0 h1 hl ⊢
  have hw:w64 (i+1)=i+1:=by rw [w64_eq]; omega
  rw [hw]
  refine Tot.cp (fun hlt=>?_) (fun _=>.so (by show l.length=1+L; omega))
  refine .by' (Tot.ix (Φ:=fun _=>True) h0 hlt fun _ _ _=>trivial) fun x82 _=>.by' (t94 _ _ (by show x65.f_types.length<=_; simp only [big]; omega)) fun x83 h83=>?_
  have h83':x83=-1\/(0<=x83/\x83<x65.f_types.length):=h83
  refine .by' (Ξ:=fun _=>True) (Tot.cp (fun h=>.by' (Ξ:=fun _=>True) (Tot.ix h (by omega) fun _ _ _=>trivial) fun _ _=>.so trivial) (fun _=>.so trivial)) fun j84 _=>?_
  refine .by' (Ξ:=fun _=>True) (Tot.ap (by simp [lim]; omega) trivial) fun _ _=>.so ⟨⟨?_,?_,?_⟩,?_,?_⟩
  ·show 0<=i+1; omega
  ·show i+1<=(x65.f_lefts.length:Int); omega
  ·show (l++[_]).length=1+(i+1).toNat
   simp; omega
  ·show i<i+1; omega
  ·show i+1<=(x65.f_lefts.length:Int); omega
 refine Tot.by' (Ξ:=fun l=>(l.length:Int)=1+L+x65.f_inner) ?_ fun x89 h89=>?_
 ·refine Tot.count (fun z=>z.2) (x65.f_inner+1) (fun z=>1<=z.2/\z.2<=x65.f_inner+1/\(z.1.length:Int)=1+L+(z.2 - 1)) ⟨Int.le_refl 1,by show (1:Int)<=_; omega,by show (x79.length:Int)=1+L+(1 - 1); omega⟩ (by show x65.f_inner+1 - 1<_; omega) fun z hz=>?_
  obtain ⟨l,i⟩:=z
  obtain ⟨h0,h1,hl⟩:=hz
  simp only at h0 h1 hl ⊢
  have hw:w64 (i+1)=i+1:=by rw [w64_eq]; omega
  rw [hw]
  refine Tot.cp (fun hlt=>?_) (fun _=>.so (by show (l.length:Int)=1+L+x65.f_inner; omega))
  refine .by' (t28 i (by omega) (by omega)) fun x92 h92=>.by' (Ξ:=fun _=>True) (Tot.cat (by show 1+x92.size<=_; omega) trivial) fun x93 _=>?_
  refine .by' (Ξ:=fun _=>True) (Tot.ap (by simp [lim]; omega) trivial) fun _ _=>.so ⟨⟨?_,?_,?_⟩,?_,?_⟩
  ·show 1<=i+1; omega
  ·show i+1<=x65.f_inner+1; omega
  ·show ((l++[_]).length:Int)=1+L+(i+1 - 1)
   simp; omega
  ·show i<i+1; omega
  ·show i+1<=x65.f_inner+1; omega
 -- numbers
 have hgv:=h65.gv
 refine Tot.by' (Ξ:=fun l=>l.length=x65.f_g.Toks.length/\∀ t∈l,0<=t.Level) ?_ fun x96 h96p=>?_
 ·refine Tot.count (fun z=>z.2.2) x65.f_g.Toks.length (fun z=>3<=z.2.2/\z.2.2<=x65.f_g.Toks.length/\z.1.length=x65.f_g.Toks.length/\∀ t∈z.1,0<=t.Level) ⟨Int.le_refl 3,by have:=h65.lo; show (3:Int)<=_; omega,rfl,h65.lv⟩ (by show (x65.f_g.Toks.length:Int) - 3<_; omega) fun z hz=>?_
  obtain ⟨l,n,i⟩:=z
  obtain ⟨h0,h1,hl,hv⟩:=hz
  simp only at h0 h1 hl hv ⊢
  have hw:w64 (i+1)=i+1:=by rw [w64_eq]; omega
  rw [hw]
  refine Tot.cp (fun hlt=>?_) (fun _=>.so ⟨hl,hv⟩)
  refine Tot.by' (Ξ:=fun j=>j.1.length=x65.f_g.Toks.length/\∀ t∈j.1,0<=t.Level) ?_ fun j hj=>.so ⟨⟨?_,?_,hj⟩,?_,?_⟩
  ·refine .by' (Tot.ix (Φ:=fun _=>True) (by omega) (by rw [hgv]; omega) fun _ _ _=>trivial) fun _ _=>?_
   refine Tot.by' (Ξ:=fun j=>j.1.length=x65.f_g.Toks.length/\∀ t∈j.1,0<=t.Level) ?_ fun j hj=>.so hj
   refine Tot.cd (fun _=>?_) (fun _=>.so ⟨hl,hv⟩)
   refine .by' (Tot.ix (Φ:=fun y=>y∈l) (by omega) hlt fun _ _ h=>h) fun y hy=>.so ⟨by show (l.set _ _).length=_; simp [hl],fun t ht=>?_⟩
   rcases mem_set2 ht with ht | rfl
   ·exact hv t ht
   ·exact (hv y hy:0<=y.Level)
  ·show 3<=i+1; omega
  ·show i+1<=(x65.f_g.Toks.length:Int); omega
  ·show i<i+1; omega
  ·show i+1<=(x65.f_g.Toks.length:Int); omega
 -- limits
 obtain ⟨h96,h96v⟩:=h96p
 refine Tot.by' (Ξ:=fun c=>c=false->x96.length<=40/\x89.length<=24/\x65.f_g.Prods.length<=60) ?_ fun c106 h106=>?_
 ·refine Tot.cp (fun _=>.so fun h=>by cases h) (fun h1=>Tot.cp (fun _=>.so fun h=>by cases h) (fun h2=>.so fun h=>?_))
  have h3:=of_decide_eq_false h
  omega
 refine Tot.by' (Ξ:=fun c=>c=false->c106=false/\∀ p∈x65.f_g.Prods,p.Right.length<=8) ?_ fun x108 h108=>?_
 ·refine Tot.count (fun z=>z.2) x65.f_g.Prods.length (fun z=>0<=z.2/\z.2<=x65.f_g.Prods.length/\(z.1=false->c106=false/\∀ (j:Nat) (p:Prod),(j:Int)<z.2->x65.f_g.Prods[j]?=some p->p.Right.length<=8)) ⟨Int.le_refl 0,by show (0:Int)<=_; omega,fun h=>⟨h,fun j p hj=>by have hj:(j:Int)<0:=hj; omega⟩⟩ (by show (x65.f_g.Prods.length:Int) - 0<_; omega) fun z hz=>?_
  obtain ⟨c,i⟩:=z
  obtain ⟨h0,h1,hl⟩:=hz
  simp only at h0 h1 hl ⊢
  have hw:w64 (i+1)=i+1:=by rw [w64_eq]; omega
  rw [hw]
  refine Tot.cp (fun hlt=>?_) (fun hge=>.so fun h=>⟨(hl h).1,fun p hp=>?_⟩)
  ·refine Tot.by' (Ξ:=fun c'=>c'=false->c=false/\∀ p,x65.f_g.Prods[i.toNat]?=some p->p.Right.length<=8) ?_ fun c' hc'=>.so ⟨⟨?_,?_,fun h=>?_⟩,?_,?_⟩
   ·refine Tot.cd (fun _=>.so fun h=>by cases h) (fun hcf=>.by' (Tot.ix (Φ:=fun y=>idx x65.f_g.Prods i=some y) h0 hlt fun _ h _=>h) fun y hy=>.so fun h=>⟨hcf,fun p hp=>?_⟩)
    have h2:=(idx_spec hy).2.2
    rw [hp] at h2; cases h2
    have:=of_decide_eq_false h
    omega
   ·show 0<=i+1; omega
   ·show i+1<=(x65.f_g.Prods.length:Int); omega
   ·obtain ⟨a1,a2⟩:=hc' h
    obtain ⟨b1,b2⟩:=hl a1
    refine ⟨b1,fun j p hj hp=>?_⟩
    have hj:(j:Int)<i+1:=hj
    by_cases hji:(j:Int)<i
    ·exact b2 j p hji hp
    ·have:j=i.toNat:=by omega
     subst this
     exact a2 p hp
   ·show i<i+1; omega
   ·show i+1<=(x65.f_g.Prods.length:Int); omega
  ·obtain ⟨j,hj,rfl⟩:=List.mem_iff_getElem.1 hp
   exact (hl h).2 j _ (by omega) (List.getElem?_eq_getElem hj)
 refine Tot.cd (fun _=>.so fun h=>absurd h (by decide)) (fun hc=>.so fun _=>?_)
 obtain ⟨a1,a2⟩:=h108 hc
 obtain ⟨b1,b2,b3⟩:=h106 a1
 have hlo:=h65.lo
 refine ⟨⟨?_,b1⟩,⟨?_,b2⟩,⟨h65q,b3⟩,fun p hp=>?_,a2,h96v⟩
 ·show 3<=x96.length; omega
 ·show 1<=x89.length; omega
 ·have:=h65.pr p hp
  exact this.mono (by show _<=x96.length; omega) (by show (L:Int)+x65.f_inner<=((x89.length:Nat):Int) - 1; omega)
theorem cutS_le (s:ByteArray) (m n:Int) (h:0<=m/\m<=n/\n<=s.size):(cutS s m n).size<=(n - m).toNat:=by
 unfold cutS
 simp [ByteArray.size_extract]
 omega
theorem t55 (s:ByteArray) (n:Int) (h0:0<=n):Tot (pf55 s n) fun t=>(t.size:Int)<=n:=by
 unfold pf55
 refine Tot.cp (fun h=>?_) (fun h=>.so (by omega))
 refine .by' (Ξ:=fun t=>(t.size:Int)<=n) (Tot.cut (by omega) ?_) fun t ht=>.so ht
 have:=cutS_le s 0 n (by omega)
 omega
theorem t56 (x:Sym):Tot (pf56 x) fun y=>y.Name.size<=big:=by
 unfold pf56
 refine .by' (t55 _ 25 (by decide)) fun t ht=>.so ?_
 show t.size<=1000000000000; omega
theorem Tot.make {β:Type}{f:List β × Int->Option ((List β × Int) ⊕ List β)}(n:Int) (P:β->Prop) (hn:0<=n/\n<=1000000)
  (hs:∀ (l:List β) (i:Int),0<=i->i<=n->(l.length:Int)=i->(∀ y∈l,P y)->Tot (f (l,i)) (LR (fun s'=>i<n/\s'.2=i+1/\∃ y,s'.1=l++[y]/\P y) (fun r=>r=l))) :
  Tot (loopM f ([],0)) fun l=>(l.length:Int)<=n/\∀ y∈l,P y:=by
 refine Tot.count (fun s=>s.2) n (fun s=>0<=s.2/\s.2<=n/\(s.1.length:Int)=s.2/\∀ y∈s.1,P y) ⟨Int.le_refl 0,hn.1,rfl,by simp⟩ (by show n - 0<_; omega) fun s hI=>?_
 obtain ⟨l,i⟩:=s
 obtain ⟨h0,h1,h2,h3⟩:=hI
 refine (hs l i h0 h1 h2 h3).use fun x hx=>?_
 rcases x with s' | r
 ·obtain ⟨a1,a2,y,a3,a4⟩:=hx
  refine ⟨⟨by rw [a2]; omega,by rw [a2]; omega,by rw [a2,a3]; simp at h2 ⊢; omega,fun z hz=>?_⟩,by show i<s'.2; rw [a2]; omega,by rw [a2]; omega⟩
  rw [a3] at hz
  rcases List.mem_append.1 hz with hz | hz
  ·exact h3 z hz
  ·rw [List.mem_singleton.1 hz]; exact a4
 ·have:r=l:=hx
  subst this
  exact ⟨by simp at h2; omega,h3⟩
theorem t18 (s:Source):Tot (pf18 s) SrcB:=by
 unfold pf18
 refine .by' (t55 s.Pro 40 (by decide)) fun x1 h1=>.by' (t55 s.Tail 40 (by decide)) fun x2 h2=>?_
 refine .by' (Tot.make 8 DeclB (by decide) fun l i h0 hin hl hP=>?_) fun x4 h4=>?_
 ·refine .by' (Ξ:=fun c=>c=true->i<s.Decls.length/\i<8) (Tot.cp (fun h=>.so fun h2=>⟨h,of_decide_eq_true h2⟩) (fun _=>.so fun h=>by cases h)) fun c hc=>Tot.cd (fun hc1=>?_) (fun _=>.so rfl)
  obtain ⟨hi,hi8⟩:=hc hc1
  have hlt':i.toNat<s.Decls.length:=by omega
  have hidx:idx s.Decls i=some s.Decls[i.toNat]:=by simp [idx,h0,hlt']
  rw [hidx]
  generalize s.Decls[i.toNat]=d
  have hw:w64 (i+1)=i+1:=by rw [w64_eq]; omega
  refine Tot.sm (Tot.sm (.by' (t55 d.Tag 25 (by decide)) fun x11 h11=>Tot.sm ?_))
  refine .by' (Tot.make 6 (fun x=>x.Name.size<=big) (by decide) fun l' k g0 gin gl gP=>?_) fun x14 h14=>?_
  ·refine .by' (Ξ:=fun c=>c=true->k<d.Syms.length/\k<6) (Tot.sm (Tot.cp (fun h=>.so fun h2=>⟨h,of_decide_eq_true h2⟩) (fun _=>.so fun h=>by cases h))) fun c hc=>Tot.cd (fun hc1=>?_) (fun _=>.so rfl)
   obtain ⟨hk,hk6⟩:=hc hc1
   refine Tot.sm (.by' (Tot.ix (Φ:=fun _=>True) g0 hk fun _ _ _=>trivial) fun x21 _=>.by' (t56 x21) fun x22 h22=>.by' (Ξ:=fun _=>True) (Tot.ap (by simp [lim]; omega) trivial) fun _ _=>.so ⟨hk6,?_,_,rfl,h22⟩)
   show w64 (k+1)=k+1; rw [w64_eq]; omega
  ·refine .by' (Ξ:=fun _=>True) (Tot.ap (by simp [lim]; omega) trivial) fun _ _=>.so ⟨hi8,hw,_,rfl,⟨?_,?_,h14.2⟩⟩
   ·show x11.size<=1000000000000; omega
   ·have:=h14.1; show x14.length<=1000; omega
 ·refine .by' (Tot.make 6 RuleB (by decide) fun l i h0 hin hl hP=>?_) fun x26 h26=>.so ⟨?_,?_,h4.2,?_,h26.2⟩
  ·refine .by' (Ξ:=fun c=>c=true->i<s.Rules.length/\i<6) (Tot.cp (fun h=>.so fun h2=>⟨h,of_decide_eq_true h2⟩) (fun _=>.so fun h=>by cases h)) fun c hc=>Tot.cd (fun hc1=>?_) (fun _=>.so rfl)
   obtain ⟨hi,hi8⟩:=hc hc1
   have hlt':i.toNat<s.Rules.length:=by omega
   have hidx:idx s.Rules i=some s.Rules[i.toNat]:=by simp [idx,h0,hlt']
   rw [hidx]
   generalize s.Rules[i.toNat]=d
   have hw:w64 (i+1)=i+1:=by rw [w64_eq]; omega
   refine Tot.sm (.by' (t55 d.Left 25 (by decide)) fun x32 h32=>Tot.sm ?_)
   refine .by' (Tot.make 5 AltB (by decide) fun l' k g0 gin gl gP=>?_) fun x35 h35=>?_
   ·refine .by' (Ξ:=fun c=>c=true->k<d.Alts.length/\k<5) (Tot.sm (Tot.cp (fun h=>.so fun h2=>⟨h,of_decide_eq_true h2⟩) (fun _=>.so fun h=>by cases h))) fun c hc=>Tot.cd (fun hc1=>?_) (fun _=>.so rfl)
    obtain ⟨hk,hk6⟩:=hc hc1
    have hkt':k.toNat<d.Alts.length:=by omega
    have hkdx:idx d.Alts k=some d.Alts[k.toNat]:=by simp [idx,g0,hkt']
    simp only [Option.bind_some,hkdx]
    generalize d.Alts[k.toNat]=a
    have hwk:w64 (k+1)=k+1:=by rw [w64_eq]; omega
    refine .by' (t56 a.Prec) fun x43 h43=>?_
    refine .by' (Tot.make 6 (fun p=>p.Sym.Name.size<=big/\p.Code.size<=big) (by decide) fun l2 j e0 ein el eP=>?_) fun x47 h47=>?_
    ·refine .by' (Ξ:=fun c=>c=true->j<a.Parts.length/\j<6) (Tot.cp (fun h=>.so fun h2=>⟨h,of_decide_eq_true h2⟩) (fun _=>.so fun h=>by cases h)) fun c hc=>Tot.cd (fun hc1=>?_) (fun _=>.so rfl)
     obtain ⟨hj,hj6⟩:=hc hc1
     refine .by' (Tot.ix (Φ:=fun _=>True) e0 hj fun _ _ _=>trivial) fun x56 _=>.by' (t56 x56.Sym) fun x57 h57=>.by' (t55 x56.Code 60 (by decide)) fun x58 h58=>.by' (Ξ:=fun _=>True) (Tot.ap (by simp [lim]; omega) trivial) fun _ _=>.so ⟨hj6,?_,_,rfl,h57,?_⟩
     ·show w64 (j+1)=j+1; rw [w64_eq]; omega
     ·show x58.size<=1000000000000; omega
    ·refine .by' (Ξ:=fun _=>True) (Tot.ap (by simp [lim]; omega) trivial) fun _ _=>.so ⟨hk6,hwk,_,rfl,⟨?_,h47.2,h43⟩⟩
     have:=h47.1; show x47.length<=1000; omega
   ·refine .by' (Ξ:=fun _=>True) (Tot.ap (by simp [lim]; omega) trivial) fun _ _=>.so ⟨hi8,hw,_,rfl,⟨?_,?_,h35.2⟩⟩
    ·show x32.size<=1000000000000; omega
    ·have:=h35.1; show x35.length<=1000; omega
  ·show x1.size<=1000000000000; omega
  ·have:=h4.1; show x4.length<=1000; omega
  ·have:=h26.1; show x26.length<=1000; omega
theorem t22 (a n:Int) (h:0<n) (hn:n<=9223372036854775807):Tot (pf22 a n) fun r=>0<=r/\r<n:=by
 unfold pf22
 have h1:-n<a.tmod n:=by
  by_cases ha:0<=a
  ·have:=Int.tmod_nonneg n ha; omega
  ·have h2:(-a).tmod n<n:=Int.tmod_lt_of_pos _ h
   rw [Int.neg_tmod] at h2
   omega
 have h2:a.tmod n<n:=Int.tmod_lt_of_pos a h
 refine .by' (Ξ:=fun x=>x=a.tmod n) (Tot.rem (by omega) rfl) fun x hx=>?_
 subst hx
 refine Tot.by' (Ξ:=fun r=>0<=r/\r<n) (Tot.cp (fun h3=>.so ?_) (fun h3=>.so (by omega))) fun r hr=>.so hr
 rw [w64_eq]; omega
theorem t60 (k:Int) (h:0<=k):Tot (pf60 k) fun x=>x.Name.size=1/\x.Lit=true/\x.Num=0:=by
 unfold pf60
 refine .by' (Ξ:=fun x=>x.size=4) (.so rfl) fun x1 h1=>.by' (Ξ:=fun r=>r=k.tmod 4) (Tot.rem (by decide) rfl) fun x2 h2=>.by' (Ξ:=fun r=>r=k.tmod 4) (Tot.rem (by decide) rfl) fun x3 h3=>?_
 subst h2 h3
 have e:k.tmod 4=k % 4:=Int.tmod_eq_emod_of_nonneg h
 rw [e]
 have hw:w64 (k % 4+1)=k % 4+1:=by rw [w64_eq]; omega
 rw [hw]
 refine .by' (Ξ:=fun x=>x.size=1) (Tot.cut (by rw [h1]; omega) ?_) fun x4 h4=>.so ⟨h4,rfl,rfl⟩
 have:=cutS_size (s:=x1) (m:=k % 4) (n:=k % 4+1) (by rw [h1]; omega)
 omega
theorem t58 (k:Int):Tot (pf58 k) fun x=>x.size=1:=by
 unfold pf58
 exact .so (by rw [size_nums]; rfl)
theorem t59 (k n:Int) (h:0<n) (hn:n<=100):Tot (pf59 k n) fun x=>x.Name.size<=5:=by
 unfold pf59
 refine .by' (t22 k 14 (by decide) (by decide)) fun x1 h1=>Tot.cp (fun h5=>?_) (fun h5=>Tot.cd (fun _=>.so ?_) (fun _=>?_))
 ·refine .by' (Ξ:=fun _=>True) (Tot.rem (by omega) trivial) fun x3 _=>.by' (t58 x3) fun x4 h4=>.so ?_
  show x4.size<=5; omega
 ·show (5:Nat)<=5; omega
 ·refine .by' (t60 _ ?_) fun x hx=>.so (by omega)
  rw [w64_eq]; omega
structure DclB (n:Nat) (d:Decl):Prop where
 tag:d.Tag.size=0
 n:d.Syms.length<=n
 syms:∀ x∈d.Syms,x.Name.size<=big
theorem t57 (l:List Int):Tot (pf57 l) fun r=>r.length<=4/\∀ d∈r,DclB 10 d:=by
 unfold pf57
 refine Tot.by' (Ξ:=fun r=>r.length<=4/\∀ d∈r,DclB 10 d) ?_ fun r hr=>.so hr
 refine Tot.count (fun s=>s.2) 4 (fun s=>0<=s.2/\s.2<=4/\s.1.length<=s.2.toNat/\∀ d∈s.1,DclB (1+s.2.toNat) d) ⟨Int.le_refl 0,by decide,Nat.le_refl 0,fun d hd=>absurd hd (by simp)⟩ (by decide) fun s hs=>?_
 obtain ⟨r,i⟩:=s
 obtain ⟨h0,h4,hl,hd⟩:=hs
 simp only at h0 h4 hl hd ⊢
 have hw:w64 (i+1)=i+1:=by rw [w64_eq]; omega
 rw [hw]
 refine .by' (Ξ:=fun c=>c=true->i<l.length/\i<4) (Tot.cp (fun h=>.so fun h2=>⟨h,of_decide_eq_true h2⟩) (fun _=>.so fun h=>by cases h)) fun c hc=>Tot.cd (fun hc1=>?_) (fun _=>.so ⟨by omega,fun d hdm=>⟨(hd d hdm).tag,by have:=(hd d hdm).n; omega,(hd d hdm).syms⟩⟩)
 obtain ⟨hi,hi4⟩:=hc hc1
 refine Tot.by' (Ξ:=fun j=>j.length<=i.toNat+1/\∀ d∈j,DclB (1+(i.toNat+1)) d) ?_ fun j hj=>.so ⟨⟨?_,?_,?_,?_⟩,?_,?_⟩
 ·refine .by' (Tot.ix (Φ:=fun _=>True) h0 hi fun _ _ _=>trivial) fun x8 _=>.by' (t22 x8 8 (by decide) (by decide)) fun x9 h9=>.by' (Ξ:=fun _=>True) (Tot.rem (by decide) trivial) fun x10 _=>?_
  have hd':∀ d∈r,DclB (1+(i.toNat+1)) d:=fun d hdm=>⟨(hd d hdm).tag,by have:=(hd d hdm).n; omega,(hd d hdm).syms⟩
  refine Tot.cd (fun _=>.so ⟨by omega,hd'⟩) (fun _=>?_)
  refine .by' (Ξ:=fun c=>c=true->0<(r.length:Int)) (Tot.cd (fun _=>.so fun h=>of_decide_eq_true h) (fun _=>.so fun h=>by cases h)) fun c hc=>Tot.cd (fun hc2=>?_) (fun _=>?_)
  ·have hpos:=hc hc2
   have hwl:w64 ((r.length:Int) - 1)=(r.length:Int) - 1:=by rw [w64_eq]; omega
   rw [hwl]
   refine .by' (Tot.ix (Φ:=fun y=>y∈r) (by omega) (by omega) fun _ _ h=>h) fun d hdm=>.by' (t60 i h0) fun x hx=>.by' (Ξ:=fun _=>True) (Tot.ap (by have:=(hd d hdm).n; simp [lim]; omega) trivial) fun _ _=>.so ⟨by simp; omega,fun d' hd2=>?_⟩
   rcases mem_set2 hd2 with h | rfl
   ·exact hd' d' h
   ·refine ⟨(hd d hdm).tag,?_,fun y hy=>?_⟩
    ·have:=(hd d hdm).n; show (d.Syms++[x]).length<=_; simp; omega
    ·rcases List.mem_append.1 hy with hy | hy
     ·exact (hd d hdm).syms y hy
     ·rw [List.mem_singleton.1 hy,hx.1]; decide
  ·refine .by' (Ξ:=fun _=>True) (Tot.rem (by decide) trivial) fun x18 _=>.by' (t60 i h0) fun x hx=>.by' (Ξ:=fun _=>True) (Tot.ap (by simp [lim]; omega) trivial) fun _ _=>.so ⟨by simp; omega,fun d' hd2=>?_⟩
   rcases List.mem_append.1 hd2 with h | h
   ·exact hd' d' h
   ·rw [List.mem_singleton.1 h]
    refine ⟨rfl,by show 1<=_; omega,fun y hy=>?_⟩
    have hy:y∈[x]:=hy
    rw [List.mem_singleton.1 hy,hx.1]; decide
 ·show 0<=i+1; omega
 ·show i+1<=4; omega
 ·show j.length<=(i+1).toNat; omega
 ·intro d hdm
  have e:(i+1).toNat=i.toNat+1:=by omega
  show DclB (1+(i+1).toNat) d
  rw [e]; exact hj.2 d hdm
 ·show i<i+1; omega
 ·show i+1<=4; omega
structure RlB (n:Nat) (r:Rule):Prop where
 left:r.Left.size<=big
 n:r.Alts.length<=n
 alts:∀ a∈r.Alts,AltB a
theorem RlB.mono {n m:Nat}{r:Rule}(h:RlB n r) (hm:n<=m):RlB m r:=⟨h.left,Nat.le_trans h.n hm,h.alts⟩
theorem RlB.add {n:Nat}{r:Rule}{a:Alt}(h:RlB n r) (ha:AltB a):RlB (n+1) (⟨r.Left,r.Alts++[a],r.At⟩:Rule):=by
 refine ⟨h.left,by have:=h.n; show (r.Alts++[a]).length<=_; simp; omega,fun b hb=>?_⟩
 rcases List.mem_append.1 hb with hb | hb
 ·exact h.alts b hb
 ·rw [List.mem_singleton.1 hb]; exact ha
theorem all_set {l:List Rule}{i n:Nat}{r:Rule}(h:∀ x∈l,RlB n x) (hr:RlB n r):∀ x∈l.set i r,RlB n x:=fun x hx=>by
 rcases mem_set2 hx with h' | rfl
 ·exact h x h'
 ·exact hr
theorem t19 (x:yuccalaw0_Gr):Tot (pf19 x) SrcB:=by
 unfold pf19
 refine .by' (t22 x.Nons 4 (by decide) (by decide)) fun x1 h1=>.by' (t57 x.Levels) fun x2 h2=>?_
 have hw1:w64 (1+x1)=1+x1:=by rw [w64_eq]; omega
 rw [hw1]
 refine .by' (Ξ:=fun l=>l=List.replicate (1+x1).toNat false) (Tot.mk (by simp [lim]; omega) rfl) fun x3 h3=>?_
 have h3l:x3.length=(1+x1).toNat:=by rw [h3]; simp
 refine Tot.by' (Ξ:=fun l=>(l.length:Int)=1+x1/\∀ r∈l,RlB 0 r) ?_ fun x5 h5=>?_
 ·refine Tot.count (fun s=>s.2) (1+x1) (fun s=>0<=s.2/\s.2<=1+x1/\(s.1.length:Int)=s.2/\∀ r∈s.1,RlB 0 r) ⟨Int.le_refl 0,by show 0<=1+x1; omega,rfl,fun d hd=>absurd hd (by simp)⟩ (by show 1+x1 - 0<_; omega) fun s hs=>?_
  obtain ⟨l,i⟩:=s
  obtain ⟨g0,g1,hl,hP⟩:=hs
  simp only at g0 g1 hl hP ⊢
  have hw:w64 (i+1)=i+1:=by rw [w64_eq]; omega
  rw [hw]
  refine Tot.cp (fun hlt=>?_) (fun _=>.so ⟨by omega,hP⟩)
  refine .by' (t58 i) fun x8 h8=>.by' (Ξ:=fun _=>True) (Tot.ap (by simp [lim]; omega) trivial) fun _ _=>.so ⟨⟨?_,?_,?_,fun r hr=>?_⟩,?_,?_⟩
  ·show 0<=i+1; omega
  ·show i+1<=1+x1; omega
  ·show ((l++[_]).length:Int)=i+1
   simp; omega
  ·rcases List.mem_append.1 hr with hr | hr
   ·exact hP r hr
   ·rw [List.mem_singleton.1 hr]
    exact ⟨by show x8.size<=_; rw [h8]; decide,Nat.le_refl 0,fun a ha=>absurd ha (by simp)⟩
  ·show i<i+1; omega
  ·show i+1<=1+x1; omega
 refine Tot.by' (Ξ:=fun r=>(r.1.length:Int)=1+x1/\(r.2.length:Int)=1+x1/\∀ y∈r.1,RlB 9 y) ?_ fun x11 h11=>?_
 ·refine Tot.count (fun s=>s.2.2) 9 (fun s=>0<=s.2.2/\s.2.2<=9/\(s.1.length:Int)=1+x1/\(s.2.1.length:Int)=1+x1/\∀ y∈s.1,RlB s.2.2.toNat y) ⟨Int.le_refl 0,by show (0:Int)<=9; decide,h5.1,by show (x3.length:Int)=_; omega,h5.2⟩ (by show (9:Int) - 0<_; decide) fun s hs=>?_
  obtain ⟨l,hb,i⟩:=s
  obtain ⟨g0,g1,hl,hhb,hP⟩:=hs
  simp only at g0 g1 hl hhb hP ⊢
  have hw:w64 (i+1)=i+1:=by rw [w64_eq]; omega
  rw [hw]
  refine .by' (Ξ:=fun c=>c=true->i<x.Rules.length/\i<9) (Tot.cp (fun h=>.so fun h2=>⟨h,of_decide_eq_true h2⟩) (fun _=>.so fun h=>by cases h)) fun c hc=>Tot.cd (fun hc1=>?_) (fun _=>.so ⟨hl,hhb,fun y hy=>(hP y hy).mono (by omega)⟩)
  obtain ⟨hi,hi9⟩:=hc hc1
  have hlt':i.toNat<x.Rules.length:=by omega
  have hidx:idx x.Rules i=some x.Rules[i.toNat]:=by simp [idx,g0,hlt']
  rw [hidx]
  generalize x.Rules[i.toNat]=d
  have hP':∀ y∈l,RlB (i.toNat+1) y:=fun y hy=>(hP y hy).mono (by omega)
  refine Tot.by' (Ξ:=fun j=>(j.1.length:Int)=1+x1/\(j.2.length:Int)=1+x1/\∀ y∈j.1,RlB (i.toNat+1) y) ?_ fun j hj=>.so ⟨⟨?_,?_,hj.1,hj.2.1,?_⟩,?_,?_⟩
  ·refine Tot.sm (Tot.cp (fun _=>.so ⟨hl,hhb,hP'⟩) (fun hne=>Tot.sm ?_))
   refine .by' (Tot.ix (Φ:=fun _=>True) (by decide) (by omega) fun _ _ _=>trivial) fun x20 _=>.by' (t22 x20 (1+x1) (by omega) (by omega)) fun x21 h21=>?_
   have bx:∀ c:ByteArray,c.size<=big->((⟨(⟨{ data:=#[] },false,0,0⟩:Sym),c,0⟩:Part).Sym.Name.size<=big/\(⟨(⟨{ data:=#[] },false,0,0⟩:Sym),c,0⟩:Part).Code.size<=big):=fun c hc=>⟨by show 0<=_; exact Nat.zero_le _,hc⟩
   refine Tot.by' (Ξ:=fun r=>r.1.length<=10/\∀ p∈r.1,p.Sym.Name.size<=big/\p.Code.size<=big) ?_ fun x23 h23=>?_
   ·refine Tot.count (fun s=>s.2.2) 5 (fun s=>1<=s.2.2/\s.2.2<=5/\(s.1.length:Int)<=2 * (s.2.2 - 1)/\∀ p∈s.1,p.Sym.Name.size<=big/\p.Code.size<=big) ⟨Int.le_refl 1,by decide,by decide,fun p hp=>absurd hp (by simp)⟩ (by decide) fun s hs=>?_
    obtain ⟨ps,pl,k⟩:=s
    obtain ⟨k0,k1,kl,kP⟩:=hs
    simp only at k0 k1 kl kP ⊢
    have hwk:w64 (k+1)=k+1:=by rw [w64_eq]; omega
    rw [hwk]
    refine .by' (Ξ:=fun c=>c=true->k<d.length/\k<5) (Tot.sm (Tot.cp (fun h=>.so fun h2=>⟨h,of_decide_eq_true h2⟩) (fun _=>.so fun h=>by cases h))) fun c hc=>Tot.cd (fun hc1=>?_) (fun _=>.so ⟨by show ps.length<=10; omega,kP⟩)
    obtain ⟨hk,hk5⟩:=hc hc1
    refine Tot.by' (Ξ:=fun j=>(j.1.length:Int)<=2 * k/\∀ p∈j.1,p.Sym.Name.size<=big/\p.Code.size<=big) ?_ fun j hj=>.so ⟨⟨?_,?_,?_,hj.2⟩,?_,?_⟩
    ·refine Tot.sm (.by' (Tot.ix (Φ:=fun _=>True) (by omega) hk fun _ _ _=>trivial) fun x31 _=>.by' (t59 x31 (1+x1) (by omega) (by omega)) fun x32 h32=>?_)
     refine .by' (Ξ:=fun _=>True) (Tot.cd (fun _=>Tot.cd (fun _=>.so trivial) (fun _=>.so trivial)) (fun _=>.so trivial)) fun _ _=>.by' (Ξ:=fun _=>True) (Tot.ap (by simp [lim]; omega) trivial) fun _ _=>?_
     have hq:∀ p∈ps++[(⟨x32,{ data:=#[] },0⟩:Part)],p.Sym.Name.size<=big/\p.Code.size<=big:=fun p hp=>by
      rcases List.mem_append.1 hp with hp | hp
      ·exact kP p hp
      ·rw [List.mem_singleton.1 hp]
       exact ⟨by show x32.Name.size<=1000000000000; omega,Nat.zero_le _⟩
     refine .by' (Ξ:=fun _=>True) ?_ fun c41 _=>?_
     ·refine Tot.cp (fun h=>Tot.cd (fun _=>.by' (Tot.ix (Φ:=fun _=>True) g0 h fun _ _ _=>trivial) fun _ _=>.by' (Ξ:=fun _=>True) (Tot.rem (by decide) trivial) fun _ _=>.so trivial) (fun _=>.so trivial)) (fun _=>.so trivial)
     ·refine Tot.by' (Ξ:=fun l=>(l.length:Int)<=2 * k/\∀ p∈l,p.Sym.Name.size<=big/\p.Code.size<=big) ?_ fun j hj=>.so hj
      refine Tot.cd (fun _=>?_) (fun _=>.so ⟨by simp; omega,hq⟩)
      refine .by' (Ξ:=fun _=>True) (Tot.ap (by simp [lim]; omega) trivial) fun _ _=>.so ⟨by simp; omega,fun p hp=>?_⟩
      rcases List.mem_append.1 hp with hp | hp
      ·exact hq p hp
      ·rw [List.mem_singleton.1 hp]; exact bx _ (by decide)
    ·show 1<=k+1; omega
    ·show k+1<=5; omega
    ·show (j.1.length:Int)<=2 * (k+1 - 1); omega
    ·show k<k+1; omega
    ·show k+1<=5; omega
   ·refine .by' (Ξ:=fun _=>True) (Tot.cp (fun h=>.by' (Tot.ix (Φ:=fun _=>True) g0 h fun _ _ _=>trivial) fun _ _=>.by' (Ξ:=fun _=>True) (Tot.rem (by decide) trivial) fun _ _=>.so trivial) (fun _=>.so trivial)) fun c48 _=>?_
    refine Tot.by' (Ξ:=fun l=>l.length<=20/\∀ p∈l,p.Sym.Name.size<=big/\p.Code.size<=big) ?_ fun j49 h49=>?_
    ·refine Tot.cd (fun _=>?_) (fun _=>.so ⟨by omega,h23.2⟩)
     refine .by' (Ξ:=fun _=>True) (Tot.ap (by simp [lim]; omega) trivial) fun _ _=>.so ⟨by simp; omega,fun p hp=>?_⟩
     rcases List.mem_append.1 hp with hp | hp
     ·exact h23.2 p hp
     ·rw [List.mem_singleton.1 hp]; exact bx _ (by decide)
    ·refine Tot.by' (Ξ:=fun l=>(l.length:Int)=1+x1) ?_ fun c54 h54=>?_
     ·refine .by' (Tot.ix (Φ:=fun _=>True) h21.1 (by omega) fun _ _ _=>trivial) fun _ _=>Tot.cd (fun _=>.so (by simp; omega)) (fun _=>.so (by simp; omega))
     ·refine .by' (Tot.ix (Φ:=fun y=>y∈l) h21.1 (by omega) fun _ _ h=>h) fun x55 h55=>?_
      have hx55:=hP x55 h55
      refine .by' (Ξ:=fun _=>True) (Tot.ap (by have:=hx55.n; simp [lim]; omega) trivial) fun _ _=>.so ⟨by show ((l.set _ _).length:Int)=_; simp; omega,h54,all_set hP' (hx55.add ⟨by show j49.length<=_; omega,h49.2,Nat.zero_le _⟩)⟩
  ·show 0<=i+1; omega
  ·show i+1<=9; omega
  ·intro y hy
   have e:(i+1).toNat=i.toNat+1:=by omega
   show RlB (i+1).toNat y
   rw [e]; exact hj.2.2 y hy
  ·show i<i+1; omega
  ·show i+1<=9; omega
 refine Tot.by' (Ξ:=fun l=>(l.length:Int)=1+x1/\∀ y∈l,RlB 20 y) ?_ fun x58 h58=>.so ⟨Nat.zero_le _,?_,fun d hd=>?_,?_,fun r hr=>?_⟩
 ·refine Tot.count (fun s=>s.2) (1+x1) (fun s=>0<=s.2/\s.2<=1+x1/\(s.1.length:Int)=1+x1/\∀ y∈s.1,RlB (9+s.2.toNat) y) ⟨Int.le_refl 0,by show 0<=1+x1; omega,h11.1,h11.2.2⟩ (by show 1+x1 - 0<_; omega) fun s hs=>?_
  obtain ⟨l,i⟩:=s
  obtain ⟨g0,g1,hl,hP⟩:=hs
  simp only at g0 g1 hl hP ⊢
  have hw:w64 (i+1)=i+1:=by rw [w64_eq]; omega
  rw [hw]
  refine Tot.cp (fun hlt=>?_) (fun _=>.so ⟨hl,fun y hy=>(hP y hy).mono (by omega)⟩)
  refine Tot.by' (Ξ:=fun l=>(l.length:Int)=1+x1/\∀ y∈l,RlB (9+i.toNat+1) y) ?_ fun j hj=>.so ⟨⟨?_,?_,hj.1,?_⟩,?_,?_⟩
  ·refine .by' (Ξ:=fun _=>True) ?_ fun c66 _=>?_
   ·refine .by' (Tot.ix (Φ:=fun _=>True) g0 (by omega) fun _ _ _=>trivial) fun x62 _=>Tot.cd (fun _=>.so trivial) (fun _=>.by' (Tot.ix (Φ:=fun _=>True) g0 (by omega) fun _ _ _=>trivial) fun _ _=>Tot.cd (fun _=>.so trivial) (fun _=>.so trivial))
   ·refine Tot.by' (Ξ:=fun l=>(l.length:Int)=1+x1/\∀ y∈l,RlB (9+i.toNat+1) y) ?_ fun j hj=>.so hj
    refine Tot.cd (fun _=>?_) (fun _=>.so ⟨hl,fun y hy=>(hP y hy).mono (by omega)⟩)
    refine .by' (Tot.ix (Φ:=fun y=>y∈l) g0 (by omega) fun _ _ h=>h) fun x69 h69=>.by' (t60 i g0) fun x70 h70=>?_
    have hx:=hP x69 h69
    refine .by' (Ξ:=fun _=>True) (Tot.ap (by have:=hx.n; simp [lim]; omega) trivial) fun _ _=>.so ⟨by simp; omega,all_set (fun y hy=>(hP y hy).mono (by omega)) (hx.add ⟨by show 1<=_; omega,fun p hp=>?_,Nat.zero_le _⟩)⟩
    have hp:p∈[(⟨x70,{ data:=#[] },0⟩:Part)]:=hp
    rw [List.mem_singleton.1 hp]
    exact ⟨by show x70.Name.size<=1000000000000; omega,Nat.zero_le _⟩
  ·show 0<=i+1; omega
  ·show i+1<=1+x1; omega
  ·intro y hy
   have e:9+(i+1).toNat=9+i.toNat+1:=by omega
   show RlB (9+(i+1).toNat) y
   rw [e]; exact hj.2 y hy
  ·show i<i+1; omega
  ·show i+1<=1+x1; omega
 ·have:=h2.1; show x2.length<=1000; omega
 ·have:=h2.2 d hd
  exact ⟨by rw [this.tag]; exact Nat.zero_le _,by have:=this.n; omega,this.syms⟩
 ·show x58.length<=1000; omega
 ·have:=h58.2 r hr
  exact ⟨this.left,by have:=this.n; omega,this.alts⟩
theorem t20 (s:Source) (hb:SrcB s):Tot (pf20 s) fun r=>r.2=true->GOk r.1:=by
 unfold pf20
 exact .by' (t61 s hb) fun r hr=>.so fun h=>hr (of_decide_eq_true h)
end Go.Proofs
namespace Go.Own
open Go
variable {α β S R:Type}
def Par (x:Option α) (Φ:α->Prop):Prop:=∀ a,x=some a->Φ a
set_option linter.unusedVariables false
namespace Par
variable {Φ Ψ:α->Prop}
theorem so {a:α}(h:Φ a):Par (some a) Φ:=fun b e=>by cases e; exact h
theorem no:Par (none:Option α) Φ:=fun b e=>by cases e
theorem use {x:Option α}(h:Par x Ψ) (hi:∀ a,Ψ a->Φ a):Par x Φ:=fun a e=>hi a (h a e)
theorem by' {x:Option β}{f:β->Option α}{Ξ:β->Prop}(h:Par x Ξ) (hk:∀ a,Ξ a->Par (f a) Φ):Par (x.bind f) Φ:=fun a e=>by
 cases x with
 | none=>cases e
 | some b=>exact hk b (h b rfl) a e
theorem go {x:Option β}{f:β->Option α}(hk:∀ a,x=some a->Par (f a) Φ):Par (x.bind f) Φ:=fun a e=>by
 cases x with
 | none=>cases e
 | some b=>exact hk b rfl a e
theorem cd {c:Bool}{a b:Option α}(ht:c=true->Par a Φ) (hf:c=false->Par b Φ):Par (cond c a b) Φ:=by
 cases c
 ·exact hf rfl
 ·exact ht rfl
theorem cp {p:Prop} [Decidable p] {a b:Option α}(ht:p->Par a Φ) (hf:¬ p->Par b Φ):Par (cond (decide p) a b) Φ :=
 cd (fun h=>ht (of_decide_eq_true h)) (fun h=>hf (of_decide_eq_false h))
theorem cn {p:Prop} [Decidable p] {a b:Option α}(ht:¬ p->Par a Φ) (hf:p->Par b Φ):Par (cond (!decide p) a b) Φ :=
 cd (fun h=>ht (of_decide_eq_false (by simpa using h))) (fun h=>hf (of_decide_eq_true (by simpa using h)))
theorem ap {l m:List β}{f:List β->Option α}(hk:l.length+m.length<=lim->Par (f (l++m)) Φ):Par ((appO l m).bind f) Φ:=by
 unfold appO
 split
 ·rename_i h; exact hk h
 ·exact no
theorem cat {s u:ByteArray}{f:ByteArray->Option α}(hk:Par (f (s++u)) Φ):Par ((catO s u).bind f) Φ:=by
 unfold catO
 split
 ·exact hk
 ·exact no
theorem loop {f:S->Option (S ⊕ R)}{s0:S}{Ψ:R->Prop}(Inv:S->Prop) (h0:Inv s0) (hs:∀ s,Inv s->Par (f s) (LR Inv Ψ)):Par (loopM f s0) Ψ:=by
 have key:∀ n s,Inv s->Par (iter f n s) Ψ:=by
  intro n
  induction n with
  | zero=>intro s _ a e; cases e
  | succ n ih =>
   intro s hI a e
   simp only [iter] at e
   cases hx:f s with
   | none=>rw [hx] at e; cases e
   | some x =>
    have hP:=hs s hI x hx
    rw [hx] at e
    cases x with
    | inl s'=>exact ih s' hP a e
    | inr r=>cases e; exact hP
 exact key fuel s0 h0
theorem tot {x:Option α}(h:Tot x Φ) (h':Par x Ψ):Tot x fun a=>Φ a/\Ψ a:=by
 obtain ⟨a,ha,hΦ⟩:=h
 exact ⟨a,ha,hΦ,h' a ha⟩
theorem of {x:Option α}(h:Tot x Φ):Par x Φ:=fun a e=>h.eq e
theorem scan {f:Int->Option (Int ⊕ (Unit ⊕ R))}(l:List β) (hl:l.length<=100000000000000000) (P:β->Prop) (Q:R->Prop)
  (hs:∀ (s:Int) (y:β),0<=s->s<l.length->idx l s=some y->y∈l->Par (f s) (LR (fun s'=>s'=s+1/\P y) (LR (fun _=>False) Q)))
  (he:∀ s:Int,¬ s<l.length->f s=some (.inr (.inl ()))):Par (loopM f 0) (LR (fun _=>∀ y∈l,P y) Q):=by
 refine loop (fun s=>0<=s/\s<=l.length/\∀ (j:Nat) (y:β),(j:Int)<s->l[j]?=some y->P y) ⟨by omega,by omega,fun j y h=>by omega⟩ fun s hI=>?_
 obtain ⟨h0,h1,h2⟩:=hI
 by_cases hlt:s<l.length
 ·have hlt':s.toNat<l.length:=by omega
  have hi:idx l s=some l[s.toNat]:=by simp [idx,h0,hlt']
  refine (hs s _ h0 hlt hi (List.getElem_mem hlt')).use fun x hx=>?_
  rcases x with s' | ⟨⟨⟩⟩ | r
  ·obtain ⟨rfl,hP⟩:=hx
   refine ⟨by omega,by omega,fun j y hj hy=>?_⟩
   by_cases hjs:(j:Int)<s
   ·exact h2 j y hjs hy
   ·have:j=s.toNat:=by omega
    subst this
    rw [List.getElem?_eq_getElem hlt'] at hy
    cases hy; exact hP
  ·exact hx.elim
  ·exact hx
 ·rw [he s hlt]
  refine so fun y hy=>?_
  obtain ⟨j,hj,rfl⟩:=List.mem_iff_getElem.1 hy
  exact h2 j _ (by omega) (List.getElem?_eq_getElem hj)
end Par
end Go.Own
namespace Go.Proofs
open Go Go.Own
set_option maxRecDepth 100000
set_option linter.unusedVariables false
structure SymN (x:Sym):Prop where
 lit:x.Lit=true->x.Name.size=1/\0<byteAt x.Name 0/\byteAt x.Name 0<=255/\x.Num=0
 num:0<=x.Num/\x.Num<=50000
theorem p131 (x:Sym) (a b:Bool):Par (pf131 x a b) fun r=>r=true->SymN x:=by
 unfold pf131
 refine Par.cd (fun hl=>?_) (fun hl=>?_)
 ·refine .by' (Ξ:=fun c=>c=false->x.Name.size=1/\x.Num=0) ?_ fun c hc=>Par.cd (fun _=>.so fun h=>by cases h) (fun h2=>?_)
  ·refine Par.cd (fun _=>.so fun h=>by cases h) (fun _=>Par.cn (fun _=>.so fun h=>by cases h) (fun h1=>.so fun h2=>⟨by omega,?_⟩))
   simpa using h2
  ·obtain ⟨h1,h3⟩:=hc h2
   refine .by' (Ξ:=fun c=>c=byteAt x.Name 0) (fun c hc=>?_) fun c hc=>?_
   ·unfold bidx at hc
    split at hc
    ·exact (Option.some.inj hc).symm
    ·cases hc
   ·subst hc
    refine .by' (Ξ:=fun r=>r.2=true->0<byteAt x.Name 0/\byteAt x.Name 0<=255) ?_ fun r hr=>.so fun h=>⟨fun _=>⟨h1,(hr h).1,(hr h).2,h3⟩,by omega⟩
    unfold pf130
    refine Par.cp (fun h=>.so fun _=>by omega) (fun _=>Par.cp (fun h=>.so fun _=>by omega) (fun _=>Par.cp (fun h=>.so fun _=>by omega) (fun _=>?_)))
    refine .by' (Ξ:=fun c=>c=true->byteAt x.Name 0=92\/byteAt x.Name 0=39) (Par.cp (fun h=>.so fun _=>.inl h) (fun _=>.so fun h=>.inr (of_decide_eq_true h))) fun c hc=>Par.cd (fun h=>.so fun _=>by rcases hc h with h | h <;> omega) (fun _=>?_)
    refine .by' (Ξ:=fun r:Int × Bool=>r.2=true->0<byteAt x.Name 0/\byteAt x.Name 0<=255) (Par.cp (fun h=>.so fun h'=>?_) (fun _=>.so fun h=>by cases h)) fun r hr=>.so hr
    have:byteAt x.Name 0<=126:=of_decide_eq_true h'
    omega
 ·refine .by' (Ξ:=fun c=>c=true->0<=x.Num/\x.Num<=50000) ?_ fun c hc=>.so fun h=>⟨fun h'=>(by rw [hl] at h'; cases h'),hc h⟩
  refine .by' (Ξ:=fun _=>True) (fun _ _=>trivial) fun c _=>Par.cd (fun _=>Par.cp (fun h=>.so fun _=>by omega) (fun _=>Par.cd (fun _=>Par.cp (fun h=>.so fun h'=>⟨by omega,of_decide_eq_true h'⟩) (fun _=>.so fun h=>by cases h)) (fun _=>.so fun h=>by cases h))) (fun _=>.so fun h=>by cases h)
theorem p133 (x:Sym):Par (pf133 x) fun r=>r=true->SymN x:=by
 unfold pf133
 refine .by' (Ξ:=fun r=>r=true->SymN x) ?_ fun r hr=>.so hr
 refine Par.cd (fun _=>Par.cd (fun h=>.so fun h'=>?_) (fun _=>.so fun h=>by cases h)) (fun _=>.so fun h=>by cases h)
 have h1:x.Lit=false:=by simpa using h
 have h2:x.Num=0:=of_decide_eq_true h'
 exact ⟨fun h=>(by rw [h1] at h; cases h),by omega⟩
theorem p104 (d:Decl) (hn:d.Syms.length<=1000000):Par (pf104 d) fun r=>r=true->∀ x∈d.Syms,SymN x:=by
 unfold pf104
 refine .by' (Ξ:=fun _=>True) (fun _ _=>trivial) fun c _=>Par.cd (fun _=>.so fun h=>by cases h) (fun _=>?_)
 refine .by' (Par.scan d.Syms (by omega) (fun x=>SymN x) (fun r=>r=false) (fun s y h0 h1 hi hm=>?_) (fun s hs=>by simp [hs])) fun x hx=>?_
 ·refine Par.cp (fun _=>?_) (fun h=>absurd h1 h)
  rw [hi]
  have hw:w64 (s+1)=s+1:=by rw [w64_eq]; omega
  rw [hw]
  exact .by' (Ξ:=fun z=>z=y) (.so rfl) fun z hz=>by
   subst hz
   exact .by' (p131 _ _ _) fun c hc=>Par.cd (fun _=>.so rfl) (fun h2=>.so ⟨rfl,hc (by simpa using h2)⟩)
 ·rcases x with _ | r
  ·exact .so fun _=>hx
  ·exact .so fun h=>by have:r=false:=hx; rw [this] at h; cases h
theorem p106 (a:Alt) (hn:a.Parts.length<=1000000):Par (pf106 a) fun r=>r=true->(∀ p∈a.Parts,SymN p.Sym)/\SymN a.Prec:=by
 unfold pf106
 refine .by' (Par.scan a.Parts (by omega) (fun p=>SymN p.Sym) (fun r=>r=false) (fun s y h0 h1 hi hm=>?_) (fun s hs=>by simp [hs])) fun x hx=>?_
 ·refine Par.cp (fun _=>?_) (fun h=>absurd h1 h)
  rw [hi]
  have hw:w64 (s+1)=s+1:=by rw [w64_eq]; omega
  rw [hw]
  refine .by' (Ξ:=fun z=>z=y) (.so rfl) fun z hz=>?_
  subst hz
  refine .by' (Ξ:=fun c=>c=false->SymN z.Sym) ?_ fun c hc=>Par.cd (fun _=>.so rfl) (fun h2=>.so ⟨rfl,hc h2⟩)
  refine Par.cp (fun he=>?_) (fun hne=>?_)
  ·refine .by' (p131 _ _ _) fun c hc=>Par.cd (fun _=>.so fun h=>by cases h) (fun h2=>?_)
   have hok:=hc (by simpa using h2)
   exact fun _ _ _=>hok
  ·refine Par.cn (fun _=>?_) (fun h=>absurd h hne)
   refine .by' (p133 _) fun c hc=>Par.cd (fun _=>.so fun h=>by cases h) (fun h2=>?_)
   have hok:=hc (by simpa using h2)
   exact fun _ _ _=>hok
 ·rcases x with _ | r
  ·have hx:∀ p∈a.Parts,SymN p.Sym:=hx
   refine .by' (Ξ:=fun c=>c=true->SymN a.Prec) ?_ fun c hc=>.so fun h=>⟨hx,hc h⟩
   refine .by' (p133 _) fun c hc=>Par.cd (fun h2=>.so fun _=>hc h2) (fun _=>.by' (p131 _ _ _) fun c hc=>.so hc)
  ·exact .so fun h=>by have:r=false:=hx; rw [this] at h; cases h
structure SrcM (s:Source):Prop where
 decls:∀ d∈s.Decls,∀ x∈d.Syms,SymN x
 rules:∀ r∈s.Rules,∀ a∈r.Alts,(∀ p∈a.Parts,SymN p.Sym)/\SymN a.Prec
theorem p88 (s:Source) (hb:SrcB s):Par (pf88 s) fun r=>r=true->SrcM s:=by
 unfold pf88
 refine .by' (Ξ:=LR (fun _=>True) (fun r=>r=false)) ?_ fun x hx=>?_
 ·refine Par.loop (fun _=>True) trivial fun j _=>?_
  refine Par.cp (fun _=>.by' (Ξ:=fun _=>True) (fun _ _=>trivial) fun _ _=>Par.cd (fun _=>.so rfl) (fun _=>.so trivial)) (fun _=>.so trivial)
 ·rcases x with _ | r
  ·refine .by' (Par.scan s.Decls (by have:=hb.dn; omega) (fun d=>∀ x∈d.Syms,SymN x) (fun r=>r=false) (fun i y h0 h1 hi hm=>?_) (fun s hs=>by simp [hs])) fun x hx=>?_
   ·refine Par.cp (fun _=>?_) (fun h=>absurd h1 h)
    rw [hi]
    have hw:w64 (i+1)=i+1:=by have:=hb.dn; rw [w64_eq]; omega
    rw [hw]
    refine .by' (Ξ:=fun z=>z=y) (.so rfl) fun z hz=>?_
    subst hz
    exact .by' (p104 z (by have:=(hb.decls z hm).n; omega)) fun c hc=>Par.cd (fun _=>.so rfl) (fun h2=>.so ⟨rfl,hc (by simpa using h2)⟩)
   ·rcases x with _ | r
    ·have hd:∀ d∈s.Decls,∀ x∈d.Syms,SymN x:=hx
     refine .by' (Par.scan s.Rules (by have:=hb.rn; omega) (fun r=>∀ a∈r.Alts,(∀ p∈a.Parts,SymN p.Sym)/\SymN a.Prec) (fun r=>r=false) (fun i y h0 h1 hi hm=>?_) (fun s hs=>by simp [hs])) fun x hx=>?_
     ·refine Par.cp (fun _=>?_) (fun h=>absurd h1 h)
      rw [hi]
      have hw:w64 (i+1)=i+1:=by have:=hb.rn; rw [w64_eq]; omega
      rw [hw]
      refine .by' (Ξ:=fun z=>z=y) (.so rfl) fun z hz=>?_
      subst hz
      have hrl:=(hb.rules z hm)
      refine .by' (Ξ:=fun _=>True) (fun _ _=>trivial) fun c _=>Par.cd (fun _=>.so rfl) (fun _=>?_)
      refine .by' (Par.scan z.Alts (by have:=hrl.n; omega) (fun a=>(∀ p∈a.Parts,SymN p.Sym)/\SymN a.Prec) (fun r=>r=false) (fun k y h0 h1 hi hm=>?_) (fun s hs=>by simp [hs])) fun x hx=>?_
      ·refine Par.cp (fun _=>?_) (fun h=>absurd h1 h)
       rw [hi]
       have hw:w64 (k+1)=k+1:=by have:=hrl.n; rw [w64_eq]; omega
       rw [hw]
       refine .by' (Ξ:=fun z=>z=y) (.so rfl) fun z hz=>?_
       subst hz
       exact .by' (p106 z (by have:=(hrl.alts z hm).n; omega)) fun c hc=>Par.cd (fun _=>.so rfl) (fun h2=>.so ⟨rfl,hc (by simpa using h2)⟩)
      ·rcases x with _ | r
       ·exact .so ⟨rfl,hx⟩
       ·exact .so hx
     ·rcases x with _ | r
      ·exact .so fun _=>⟨hd,hx⟩
      ·exact .so fun h=>by have:r=false:=hx; rw [this] at h; cases h
    ·exact .so fun h=>by have:r=false:=hx; rw [this] at h; cases h
  ·exact .so fun h=>by have:r=false:=hx; rw [this] at h; cases h
structure TI0 (T:List Tok) (G:List Bool):Prop where
 gl:G.length=T.length
 lo:3<=T.length
 hi:T.length<=lim
 nm:∀ t∈T,t.Name.size<=big/\(t.Lit=true->t.Name.size=1)
 le:∀ t∈T,t.Num<=50000
structure TI1 (T:List Tok) (G:List Bool):Prop where
 hd:∀ (i:Nat) (t:Tok),i<3->T[i]?=some t->t.Num<=0
 un:∀ (i j:Nat) (s t:Tok),T[i]?=some s->T[j]?=some t->0<s.Num->s.Num=t.Num->i=j
 gv:∀ (i:Nat) (t:Tok),3<=i->T[i]?=some t->(G[i]?=some true->0<t.Num)/\(G[i]?=some false->t.Num=0)
structure TI (m:Mk):Prop where
 a:TI0 m.f_g.Toks m.f_given
 b:m.f_e=0->TI1 m.f_g.Toks m.f_given
 lf:∀ y∈m.f_lefts,y.size<=big
theorem idx_at {α:Type}{l:List α}{i:Int}{y:α}(h:idx l i=some y):0<=i/\i.toNat<l.length/\l[i.toNat]?=some y:=by
 unfold idx at h
 split at h
 ·rename_i h0
  exact ⟨h0,(List.getElem?_eq_some_iff.1 h).1,h⟩
 ·cases h
theorem TI0.set {T:List Tok}{G:List Bool}(h:TI0 T G) {k:Nat}{t t':Tok}(hk:T[k]?=some t) (hn:t'.Name=t.Name) (hl:t'.Lit=t.Lit) (hu:t'.Num<=50000) {G':List Bool}(hG:G'.length=G.length):TI0 (T.set k t') G':=by
 have hm:=List.mem_of_getElem? hk
 have key:∀ {P:Tok->Prop},(∀ s∈T,P s)->P t'->∀ s∈T.set k t',P s:=fun h1 h2 s hs=>by
  rcases List.mem_or_eq_of_mem_set hs with h | h
  ·exact h1 s h
  ·rw [h]; exact h2
 exact ⟨by rw [hG,List.length_set]; exact h.gl,by rw [List.length_set]; exact h.lo,by rw [List.length_set]; exact h.hi,key h.nm (by rw [hn,hl]; exact h.nm t hm),key h.le hu⟩
theorem set_get {α:Type}{l:List α}{k:Nat}{x:α}(hk:k<l.length) (i:Nat):(l.set k x)[i]?=if i=k then some x else l[i]?:=by
 rw [List.getElem?_set]
 by_cases e:k=i
 ·subst e; simp [hk]
 ·simp [e,Ne.symm e]
theorem TI1.setL {T:List Tok}{G:List Bool}(h:TI1 T G) {k:Nat}{t t':Tok}(hk:T[k]?=some t) (hu:t'.Num=t.Num):TI1 (T.set k t') G:=by
 have hlt:=(List.getElem?_eq_some_iff.1 hk).1
 have key:∀ (i:Nat) (s:Tok),(T.set k t')[i]?=some s->∃ s',T[i]?=some s'/\s'.Num=s.Num:=by
  intro i s hs
  rw [set_get hlt] at hs
  by_cases e:i=k
  ·rw [if_pos e] at hs
   cases hs
   exact ⟨t,by rw [e]; exact hk,hu.symm⟩
  ·rw [if_neg e] at hs
   exact ⟨s,hs,rfl⟩
 refine ⟨fun i s hi hs=>?_,fun i j s s2 hs hs2 h0 he=>?_,fun i s hi hs=>?_⟩
 ·obtain ⟨s',h1,h2⟩:=key i s hs
  rw [<- h2]; exact h.hd i s' hi h1
 ·obtain ⟨s',h1,h2⟩:=key i s hs
  obtain ⟨s2',h3,h4⟩:=key j s2 hs2
  exact h.un i j s' s2' h1 h3 (by omega) (by omega)
 ·obtain ⟨s',h1,h2⟩:=key i s hs
  rw [<- h2]; exact h.gv i s' hi h1
theorem TI1.setN {T:List Tok}{G:List Bool}(h:TI1 T G) {k:Nat}{t t':Tok}(hk:T[k]?=some t) (h3:3<=k) (hg:k<G.length) (h0:0<t'.Num) (hn:∀ (i:Nat) (s:Tok),T[i]?=some s->s.Num≠t'.Num):TI1 (T.set k t') (G.set k true):=by
 have hlt:=(List.getElem?_eq_some_iff.1 hk).1
 refine ⟨fun i s hi hs=>?_,fun i j s s2 hs hs2 hp he=>?_,fun i s hi hs=>?_⟩
 ·rw [set_get hlt,if_neg (by omega)] at hs
  exact h.hd i s hi hs
 ·rw [set_get hlt] at hs hs2
  by_cases e1:i=k
  ·rw [if_pos e1] at hs; cases hs
   by_cases e2:j=k
   ·omega
   ·rw [if_neg e2] at hs2
    exact absurd he.symm (hn j s2 hs2)
  ·rw [if_neg e1] at hs
   by_cases e2:j=k
   ·rw [if_pos e2] at hs2; cases hs2
    exact absurd he (hn i s hs)
   ·rw [if_neg e2] at hs2
    exact h.un i j s s2 hs hs2 hp he
 ·rw [set_get hlt] at hs
  rw [set_get hg]
  by_cases e1:i=k
  ·rw [if_pos e1] at hs ⊢
   cases hs
   exact ⟨fun _=>h0,fun h=>by cases h⟩
  ·rw [if_neg e1] at hs ⊢
   exact h.gv i s hi hs
theorem p90 (m:Mk) (a:Int) (n:ByteArray):Par (pf90 m a n) fun m'=>Same m m'/\m'.f_e≠0:=.of (t90 m a n)
theorem TI.fail {m m':Mk}(h:TI m) (hs:Same m m'/\m'.f_e≠0):TI m':=⟨by rw [hs.1.g,hs.1.gv]; exact h.a,fun e=>absurd e hs.2,by rw [hs.1.lf]; exact h.lf⟩
theorem p91 (m:Mk) (x:Sym) (h3:3<=m.f_g.Toks.length) (h:m.f_g.Toks.length<=lim):Par (pf91 m x) fun r=>r=-1\/(1<=r/\r≠2):=by
 have hl:lim=1000000000000\/lim<=1000000000000000:=by unfold lim; omega
 unfold pf91
 refine .by' (Ξ:=LR (fun _=>True) (fun r:Int=>1<=r/\r≠2)) ?_ fun r hr=>?_
 ·refine Par.loop (fun s=>1<=s/\s<=m.f_g.Toks.length) ⟨by decide,by omega⟩ fun s hs=>?_
  ·refine Par.cp (fun hlt=>?_) (fun _=>.so trivial)
   refine .by' (Ξ:=fun c=>c=true->s≠2) ?_ fun c hc=>Par.cd (fun h'=>.so ⟨hs.1,hc h'⟩) (fun _=>.so ⟨by rw [w64_eq]; omega,by rw [w64_eq]; omega⟩)
   refine .go fun y _=>Par.cd (fun _=>.go fun z _=>Par.cd (fun _=>.so fun h'=>by simpa using h') (fun _=>.so fun h=>by cases h)) (fun _=>.so fun h=>by cases h)
 ·rcases r with _ | r
  ·exact .so (.inl rfl)
  ·exact .so (.inr hr)
theorem p108 (m:Mk) (n:Int) (h3:3<=m.f_g.Toks.length) (h:m.f_g.Toks.length<=lim):Par (pf108 m n) fun r=>r<0->∀ (i:Nat) (t:Tok),3<=i->m.f_g.Toks[i]?=some t->t.Num≠n:=by
 have hl:lim=1000000000000\/lim<=1000000000000000:=by unfold lim; omega
 unfold pf108
 refine .by' (Ξ:=LR (fun _=>∀ (i:Nat) (t:Tok),3<=i->m.f_g.Toks[i]?=some t->t.Num≠n) (fun r:Int=>0<=r)) ?_ fun r hr=>?_
 ·refine Par.loop (fun s=>3<=s/\s<=m.f_g.Toks.length/\∀ (i:Nat) (t:Tok),3<=i->(i:Int)<s->m.f_g.Toks[i]?=some t->t.Num≠n) ⟨by decide,by omega,fun i t h1 h2=>by omega⟩ fun s hs=>?_
  obtain ⟨h1,h2,hs⟩:=hs
  refine Par.cp (fun hlt=>?_) (fun hge=>.so fun i t hi ht=>hs i t hi ?_ ht)
  ·refine .go fun y hy=>?_
   obtain ⟨_,_,hy⟩:=idx_at hy
   have hw:w64 (s+1)=s+1:=by rw [w64_eq]; omega
   rw [hw]
   refine Par.cp (fun e=>.so (show (0:Int)<=s by omega)) (fun e=>.so ⟨by omega,by omega,fun i t hi hlt2 ht=>?_⟩)
   by_cases e2:i=s.toNat
   ·subst e2
    rw [hy] at ht; cases ht; exact e
   ·exact hs i t hi (by omega) ht
  ·have:=(List.getElem?_eq_some_iff.1 ht).1
   omega
 ·rcases r with _ | r
  ·exact .so fun _=>hr
  ·exact .so fun h=>by have:(0:Int)<=r:=hr; omega
theorem snoc_get {α:Type}{l:List α}{x:α}(i:Nat) {y:α}(h:(l++[x])[i]?=some y):(i<l.length/\l[i]?=some y)\/(i=l.length/\y=x):=by
 by_cases hi:i<l.length
 ·rw [List.getElem?_append_left hi] at h
  exact .inl ⟨hi,h⟩
 ·rw [List.getElem?_append_right (by omega)] at h
  by_cases e:i - l.length=0
  ·rw [e] at h
   simp at h
   exact .inr ⟨by omega,h.symm⟩
  ·have:([x]:List α)[i - l.length]?=none:=by rw [List.getElem?_eq_none]; simp; omega
   rw [this] at h; cases h
theorem p107 (m:Mk) (x:Sym) (hm:TI m) (hx:SymN x) (hs:x.Name.size<=big):Par (pf107 m x) fun r=>TI r.2/\(r.1=1\/3<=r.1):=by
 unfold pf107
 have hl:lim<=1000000000000000:=by unfold lim; omega
 refine .by' (p91 m x hm.a.lo hm.a.hi) fun r hr=>Par.cp (fun h=>.so ⟨hm,?_⟩) (fun _=>?_)
 ·show r=1\/3<=r
  omega
 refine .by' (Ξ:=fun j:Mk × Int=>j.1.f_g=m.f_g/\j.1.f_given=m.f_given/\j.1.f_lefts=m.f_lefts/\TI j.1/\j.2<=50000/\(j.1.f_e=0->(x.Lit=true->0<j.2/\∀ (i:Nat) (t:Tok),m.f_g.Toks[i]?=some t->t.Num≠j.2)/\(x.Lit=false->j.2=0))) ?_ fun j hj=>?_
 ·refine Par.cd (fun hlit=>?_) (fun hlit=>.so ⟨rfl,rfl,rfl,hm,by show (0:Int)<=_; decide,fun _=>⟨fun h=>(by rw [hlit] at h; cases h),fun _=>rfl⟩⟩)
  obtain ⟨_,h1,h2,_⟩:=hx.lit hlit
  refine .by' (Ξ:=fun c=>c=byteAt x.Name 0) (fun c hc=>?_) fun c hc=>?_
  ·unfold bidx at hc
   split at hc
   ·exact (Option.some.inj hc).symm
   ·cases hc
  subst hc
  have hw:w64 (byteAt x.Name 0)=byteAt x.Name 0:=by rw [w64_eq]; omega
  rw [hw]
  refine .by' (p108 m (byteAt x.Name 0) hm.a.lo hm.a.hi) fun o ho=>?_
  refine .by' (Ξ:=fun j:Mk=>j.f_g=m.f_g/\j.f_given=m.f_given/\j.f_lefts=m.f_lefts/\TI j/\(j.f_e=0->m.f_e=0/\o<0)) (Par.cp (fun h=>.by' (p90 m x.At x.Name) fun m' h'=>.so ⟨h'.1.g,h'.1.gv,h'.1.lf,hm.fail h',fun e=>absurd e h'.2⟩) (fun h=>.so ⟨rfl,rfl,rfl,hm,fun e=>⟨e,by omega⟩⟩)) fun j hj=>.so ⟨hj.1,hj.2.1,hj.2.2.1,hj.2.2.2.1,by show byteAt x.Name 0<=_; omega,fun e=>⟨fun _=>⟨h1,fun i t ht=>?_⟩,fun h=>(by rw [hlit] at h; cases h)⟩⟩
  obtain ⟨e1,e2⟩:=hj.2.2.2.2 e
  by_cases h3:3<=i
  ·exact ho e2 i t h3 ht
  ·have:=(hm.b e1).hd i t (by omega) ht
   show t.Num≠byteAt x.Name 0
   omega
 ·obtain ⟨hg,hgv,hlf,hT,hle,he⟩:=hj
  have hb0:j.1.f_e=0->TI1 m.f_g.Toks m.f_given:=fun e=>by have:=hT.b e; rwa [hg,hgv] at this
  refine Par.ap fun hlim=>Par.ap fun _=>.so ?_
  rw [hg] at hlim
  rw [hg,hgv,hlf]
  simp only [List.length_cons,List.length_nil] at hlim
  have h3:=hm.a.lo
  have hgl:=hm.a.gl
  refine ⟨⟨⟨by simp [hgl],by show 3<=(m.f_g.Toks++[_]).length; simp; omega,by show (m.f_g.Toks++[_]).length<=_; simp; omega,fun t ht=>?_,fun t ht=>?_⟩,fun e0=>?_,hm.lf⟩,?_⟩
  ·rcases List.mem_append.1 ht with ht | ht
   ·exact hm.a.nm t ht
   ·rw [List.mem_singleton.1 ht]
    exact ⟨hs,fun h=>(hx.lit h).1⟩
  ·rcases List.mem_append.1 ht with ht | ht
   ·exact hm.a.le t ht
   ·rw [List.mem_singleton.1 ht]; exact hle
  ·have e0':j.1.f_e=0:=e0
   have hb:=hb0 e0'
   obtain ⟨he1,he2⟩:=he e0'
   refine ⟨fun i t hi ht=>?_,fun i k s t hs ht h0 heq=>?_,fun i t hi ht=>?_⟩
   ·rcases snoc_get i ht with ⟨h1,h2⟩ | ⟨h1,_⟩
    ·exact hb.hd i t hi h2
    ·omega
   ·rcases snoc_get i hs with ⟨h1,h2⟩ | ⟨h1,h2⟩
    ·rcases snoc_get k ht with ⟨h4,h5⟩ | ⟨h4,h5⟩
     ·exact hb.un i k s t h2 h5 h0 heq
     ·subst h5
      have heq:s.Num=j.2:=heq
      cases hlit:x.Lit with
      | true=>exact absurd heq ((he1 hlit).2 i s h2)
      | false=>have:=he2 hlit; omega
    ·subst h2
     rcases snoc_get k ht with ⟨h4,h5⟩ | ⟨h4,h5⟩
     ·have heq:j.2=t.Num:=heq
      have h0:0<j.2:=h0
      cases hlit:x.Lit with
      | true=>exact absurd heq.symm ((he1 hlit).2 k t h5)
      | false=>have:=he2 hlit; omega
     ·omega
   ·have hGg:(m.f_given++[x.Lit])[i]?=if i=m.f_g.Toks.length then some x.Lit else m.f_given[i]?:=by
     by_cases e:i=m.f_g.Toks.length
     ·rw [if_pos e,e,<- hgl,List.getElem?_append_right (Nat.le_refl _)]; simp
     ·have:=(List.getElem?_eq_some_iff.1 ht).1
      simp at this
      rw [if_neg e,List.getElem?_append_left (by omega)]
    show ((m.f_given++[x.Lit])[i]?=some true->0<t.Num)/\((m.f_given++[x.Lit])[i]?=some false->t.Num=0)
    rw [hGg]
    rcases snoc_get i ht with ⟨h1,h2⟩ | ⟨h1,h2⟩
    ·rw [if_neg (by omega)]
     exact hb.gv i t hi h2
    ·rw [if_pos h1]
     subst h2
     exact ⟨fun h=>(he1 (Option.some.inj h)).1,fun h=>he2 (Option.some.inj h)⟩
  ·right
   show 3<=w64 (((m.f_g.Toks++[_]).length:Int) - 1)
   simp only [List.length_append,List.length_cons,List.length_nil]
   rw [w64_eq]; omega
end Go.Proofs
namespace Go.Own
open Go
variable {α β S R:Type}
namespace Tot
theorem upto {f:S->Option (S ⊕ R)}{s0:S}{Ψ:R->Prop}(i:S->Int) (n:Nat) (Inv:Nat->S->Prop) (hi:i s0=0) (hn:n<=100000000000000000) (h0:Inv 0 s0)
  (hs:∀ (k:Nat) (s:S),k<=n->i s=(k:Int)->Inv k s->Tot (f s) (LR (fun s'=>k<n/\i s'=((k+1:Nat):Int)/\Inv (k+1) s') Ψ)):Tot (loopM f s0) Ψ:=by
 refine count i n (fun s=>∃ k:Nat,k<=n/\i s=(k:Int)/\Inv k s) ⟨0,Nat.zero_le _,hi,h0⟩ (by rw [hi]; omega) fun s ⟨k,hk,he,hI⟩=>(hs k s hk he hI).use fun x hx=>?_
 rcases x with s' | r
 ·obtain ⟨h1,h2,h3⟩:=hx
  exact ⟨⟨k+1,by omega,h2,h3⟩,by omega,by omega⟩
 ·exact hx
end Tot
namespace Par
theorem upto {f:S->Option (S ⊕ R)}{s0:S}{Ψ:R->Prop}(i:S->Int) (n:Nat) (Inv:Nat->S->Prop) (hi:i s0=0) (h0:Inv 0 s0)
  (hs:∀ (k:Nat) (s:S),k<=n->i s=(k:Int)->Inv k s->Par (f s) (LR (fun s'=>k<n/\i s'=((k+1:Nat):Int)/\Inv (k+1) s') Ψ)):Par (loopM f s0) Ψ:=by
 refine loop (fun s=>∃ k:Nat,k<=n/\i s=(k:Int)/\Inv k s) ⟨0,Nat.zero_le _,hi,h0⟩ fun s ⟨k,hk,he,hI⟩=>(hs k s hk he hI).use fun x hx=>?_
 rcases x with s' | r
 ·obtain ⟨h1,h2,h3⟩:=hx
  exact ⟨k+1,by omega,h2,h3⟩
 ·exact hx
end Par
theorem w64c (k:Nat) (h:k<=1000000000000000000):w64 ((k:Int)+1)=((k+1:Nat):Int):=by rw [w64_eq]; omega
end Go.Own
