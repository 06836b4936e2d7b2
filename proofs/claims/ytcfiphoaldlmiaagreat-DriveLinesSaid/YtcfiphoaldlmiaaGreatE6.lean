/- Parts of the proof that the last text states. -/
import Derived.Deep.Draws
import Derived.Deep.LoopGhost
import Derived.Ground.SlsfProg
import Derived.KernelRfl
import Derived.Laws.Externs
import Derived.Lib.SliceRun
import Derived.Lib.SlicesCompact
import Derived.Lib.Walk
import Derived.Shelf.RegionOpenPlain
import Derived.Shelf.SlGeneric
import Derived.Shelf.SlLaysQ
import Derived.Shelf.SlSortCmp.NoneTotal
import Derived.Shelf.SlicesE.Kit
import Derived.Shelf.SlicesQ.Load
import Derived.Shelf.Strings.BuilderK
import Derived.Sort.WalkB12
import Derived.Test.YtcfiphoaldlmiaaGreatRows
import Derived.WalkKit
import Derived.Test.YtcfiphoaldlmiaaGreatE5
namespace Go.Own
open Go
set_option linter.unusedSectionVars false
variable [TB]
set_option linter.unusedVariables false
inductive HT:Type 1
 | e
 | b (x y:HT)
 | lp {S R:Type}(F:S->List (Nat × AV)) (ks:List Nat) (id:Nat) (X:R->List (Nat × AV)) (kx:List Nat) (x y:HT)
 | l2 {S R R2:Type}(F:S->List (Nat × AV)) (ks:List Nat) (id:Nat) (X:R->List (Nat × AV)) (kx:List Nat) (Y:R2->List (Nat × AV)) (ky:List Nat) (x y z:HT)
 | jn {α:Type}(ks:List Nat) (L:α->List (Nat × AV)) (x y:HT)
 | rj {α:Type}(id:Nat) (ks:List Nat) (L:α->List (Nat × AV)) (y:HT)
 | rd (id:Nat) (AT:List (List Nat)) (y:HT)
 | rk {α:Type}(id:Nat) (AT:List (List Nat)) (ks:List Nat) (L:α->List (Nat × AV)) (y:HT)
 | p (y:HT)
 | fz {α:Type}(id s:Nat) (i:Option Nat) (en:En α) (y:HT)
 | fl {α:Type}(s:Nat) (i:Option Nat) (en:En α) (y:HT)
def keepB:AV->Bool
 | .lit _ | .nils | .imm .. | .own .. | .obj _ | .iptr _ | .clo .. | .mp _ | .imp _=>true
 | .agg cs=>cs.all fun x=>match x with | .ptr .. | .brw .. | .sub .. | .mref _ | .pend .. | .dead=>false | _=>true
 | _=>false
def ksX (ex:List Nat):List (Nat × AV)->Option (List Nat)
 | []=>some []
 | (k,x)::l=>match ksX (k::ex) l with
  | none=>none
  | some r=>match !ex.elem k&&keepB x with
   | true=>some (k::r)
   | false=>some r
def ksE (E ex:List Nat):List (Nat × AV)->Option (List Nat)
 | []=>some []
 | (k,x)::l=>match ksE E (k::ex) l with
  | none=>none
  | some r=>match E.elem k&&(!ex.elem k&&keepB x) with
   | true=>some (k::r)
   | false=>some r
def roots (G:List (Nat × AV)):Operand->List Nat
 | .tmp s=>match get G s with
  | some (.own ..)=>[s]
  | some (.obj _)=>[s]
  | some (.brw _ p _)=>[s,p.root]
  | some (.ptr p _)=>[s,p.root]
  | some (.pend _ q _ _ _)=>match get G q.root with
   | some (.pend _ q2 _ _ _)=>[s,q.root,q2.root]
   | _=>[s,q.root]
  | _=>[s]
 | _=>[]
def ovC (F:List (Nat × AV)) (s:Nat):Nat->List AV->Option (List AV)
 | _,[]=>some []
 | i,x::l=>match ovC F s (i+1) l with
  | none=>none
  | some r=>match get F (1000 * (i+1)+s) with
   | some y=>some (y::r)
   | none=>some (x::r)
def ov (F G:List (Nat × AV)):Gst:=fun s=>match get F s with
 | some x=>some x
 | none=>match get G s with
  | some (.obj cs)=>match ovC F s 0 cs with
   | some r=>some (.obj r)
   | none=>none
  | x=>x
def WH (E:List Nat) (t:HT) (P:Program) (N:Rm) (c:Code) (G:List (Nat × AV)) (Φ:Exit->Gst->Prop):Prop:=W P N c (get G) Φ
def PH (E:List Nat) (t:HT) (e:Exit) (Φ:Exit->Gst->Prop) (G:List (Nat × AV)):Prop:=Px e Φ G
def Kc (E:List Nat) (t:HT) (Ψ:HT->List (Nat × AV)->Prop) (g':Gst):Prop:=∃ G1,Wk g' (get G1)/\Ψ t G1
def Jn {α:Type}(F:α->List (Nat × AV)) (j:α) (e:Exit) (g:Gst):Prop:=e=.normal/\Be g (F j)
def Lx {R:Type}(id:Nat) (X:R->List (Nat × AV)) (r:R) (e:Exit) (g:Gst):Prop:=e=.exit id/\Be g (X r)
def Ly {R R2:Type}(id:Nat) (X:R->List (Nat × AV)) (Y:R2->List (Nat × AV)) (r:R ⊕ R2) (e:Exit) (g:Gst):Prop:=match r with | .inl r=>e=.exit id/\Be g (X r) | .inr r=>e=.ret/\Be g (Y r)
class CF (P:Program) (f:FuncId) (p:Prop) (args:outParam (List AV)) (outs:outParam (List (Option AV))) (res:outParam AV):Prop where go:p->Con P f args outs res
section
variable {P:Program}{N:Rm}{E:List Nat}{t x y z:HT}{A B c:Code}{G G1:List (Nat × AV)}{Φ Φ':Exit->Gst->Prop}{Ψ:Gst->Prop}{id k s:Nat}{b:Bool}{α β:Type}{l:List Oper}
theorem WH.rg (h:RunL P N l.toArray l (get G) (Kc E t fun t G1=>WH E t P N B G1 Φ)):WH E t P N (.seq (.region id l.toArray false) B) G Φ :=
 W.seq (W.reg fun i hi=>by
  obtain ⟨g',h1,G1,h2,h3⟩:=h i hi
  exact ⟨g',h1,W.weaken h2 h3⟩)
theorem WH.rt (h:RunL P N l.toArray l (get G) (Kc E t fun t G1=>PH E t .normal Φ G1)):WH E t P N (.region id l.toArray false) G Φ :=
 W.reg fun i hi=>by
  obtain ⟨g',h1,G1,h2,h3⟩:=h i hi
  exact ⟨g',h1,h3 g' (.wk h2 .rf)⟩
theorem WH.sq (h:WH E t P N A G (thenP (fun g1=>W P N B g1 Φ) Φ)):WH E t P N (.seq A B) G Φ:=W.seq h
theorem WH.bk (h:WH E t P N A G (inB id Φ)):WH E t P N (.block id A) G Φ:=W.bk h
theorem WH.bp (h:WH E t P N A G (inB id Φ)):WH E (.p t) P N (.block id A) G Φ:=W.bk h
theorem WH.sk (h:PH E t .normal Φ G):WH E t P N .skip G Φ:=W.sk h
theorem WH.xi (h:PH E t (.exit k) Φ G):WH E t P N (.exit k) G Φ:=W.xi h
theorem WH.re (h:PH E t .ret Φ G):WH E t P N .ret G Φ:=W.rt h
theorem WH.ch {X Y o:α}(h:(bif b then X else Y)=o) (hT:b=true->X=o->WH E x P N A G Φ) (hF:b=false->Y=o->WH E y P N B G Φ) (hc:get G s=some (BB b):=by rfl):WH E (.b x y) P N (.cond (.tmp s) A B) G Φ:=W.ch h hc hT hF
theorem WH.ce {X Y o:α}(h:(bif b then X else Y)=o) (hT:b=true->X=o->WH E .e P N A G Φ) (hF:b=false->Y=o->WH E .e P N B G Φ) (hc:get G s=some (BB b):=by rfl):WH E .e P N (.cond (.tmp s) A B) G Φ:=W.ch h hc hT hF
theorem WH.cT (h:WH E t P N A G Φ) (hc:get G s=some (BB b):=by rfl) (hb:b=true:=by (first | rfl | assumption)):WH E t P N (.cond (.tmp s) A B) G Φ:=W.cnd hc (fun _=>h) (fun e=>by rw [hb] at e; cases e)
theorem WH.cF (h:WH E t P N B G Φ) (hc:get G s=some (BB b):=by rfl) (hb:b=false:=by (first | rfl | assumption)):WH E t P N (.cond (.tmp s) A B) G Φ:=W.cnd hc (fun e=>by rw [hb] at e; cases e) (fun _=>h)
theorem WH.jc {o:Operand}{m:Option α}{f:α->Option β}{r:β}{ks:List Nat}{L F':α->List (Nat × AV)}(h:m.bind f=some r) (h1:∀ j,m=some j->WH E x P N (.cond o A B) G (Jn F' j)) (h2:∀ j,m=some j->f j=some r->PH E y .normal Φ (F' j))
  (hF:∀ j,pick (ov (L j) G) ks=some (F' j):=by intro j; rfl):WH E (.jn ks L x y) P N (.cond o A B) G Φ:=by
 obtain ⟨j,hj,h⟩:=bnd h
 exact W.jn _ (h1 j hj) (h2 j hj h)
theorem WH.jb {m:Option α}{f:α->Option β}{r:β}{ks:List Nat}{L F':α->List (Nat × AV)}(h:m.bind f=some r) (h1:∀ j,m=some j->WH E x P N (.block id A) G (Jn F' j)) (h2:∀ j,m=some j->f j=some r->PH E y .normal Φ (F' j))
  (hF:∀ j,pick (ov (L j) G) ks=some (F' j):=by intro j; rfl):WH E (.jn ks L x y) P N (.block id A) G Φ:=by
 obtain ⟨j,hj,h⟩:=bnd h
 exact W.jn _ (h1 j hj) (h2 j hj h)
theorem WH.lp {S R:Type}{f:S->Option (S ⊕ R)}{s:S}{g:R->Option β}{r:β}{F F':S->List (Nat × AV)}{ks kx:List Nat}{X X':R->List (Nat × AV)}(h:(loopM f s).bind g=some r)
  (hb:∀ s o,f s=some o->WH E x P N c (F' s) (Rd2 F' (Lx id X') o)) (hk:∀ r',loopM f s=some r'->g r'=some r->PH E y (.exit id) Φ (X' r'))
  (hF:∀ s,pick (ov (F s) G) ks=some (F' s):=by intro s; rfl) (hX:∀ s,pick (ov (X s) G) kx=some (X' s):=by intro s; rfl) (ht:Trim true (get G) (get (F' s)) (F' s):=by (repeat' first | exact .nil | refine .n rfl ?_ | refine .w rfl rfl .nilOwn ?_ | refine .w rfl rfl .nilImm ?_ | refine .w rfl rfl (WkL.obj (by (repeat' first | exact .nil | refine .f ?_ | refine .o ?_ | refine .i ?_))) ?_)) :
  WH E (.lp F ks id X kx x y) P N (.loop c) G Φ:=by
 obtain ⟨r',hl,h⟩:=bnd h
 exact W.tr ht (W.lp1 F' id X' hl hb (hk r' hl h))
theorem PH.sq (h:WH E t P N B G Φ):PH E t .normal (thenP (fun g1=>W P N B g1 Φ) Φ') G:=Px.sq h
theorem PH.sqE (h:PH E t (.exit k) Φ G):PH E t (.exit k) (thenP Ψ Φ) G:=Px.sqE h
theorem PH.sqR (h:PH E t .ret Φ G):PH E t .ret (thenP Ψ Φ) G:=Px.sqR h
theorem PH.bk (h:PH E t .normal Φ G):PH E t .normal (inB id Φ) G:=Px.bk h
theorem PH.bkH (h:PH E t .normal Φ G):PH E t (.exit id) (inB id Φ) G:=Px.bkH h
theorem PH.bkM (h:PH E t (.exit k) Φ G) (hk:Nat.beq k id=false:=by rfl):PH E t (.exit k) (inB id Φ) G:=Px.bkM hk h
theorem PH.bkR (h:PH E t .ret Φ G):PH E t .ret (inB id Φ) G:=Px.bkR h
theorem PH.jn {F:α->List (Nat × AV)}{j v:α}(h:some v=some j) (ht:Trim true (get G) (get (F v)) (F v)):PH E t .normal (Jn F j) G:=by
 cases h; exact Px.jn ht
theorem PH.go {S R:Type}{s:S}{o:S ⊕ R}{F:S->List (Nat × AV)}{Ψ:R->Exit->Gst->Prop}(h:some (.inl s)=some o) (ht:Trim true (get G) (get (F s)) (F s)):PH E t .normal (Rd2 F Ψ o) G:=by
 cases h; exact Px.go ht
theorem PH.x1 {S R:Type}{r:R}{o:S ⊕ R}{F:S->List (Nat × AV)}{X:R->List (Nat × AV)}(h:some (.inr r)=some o) (ht:Trim true (get G) (get (X r)) (X r)):PH E t (.exit id) (Rd2 F (Lx id X) o) G:=by
 cases h; exact Px.x1 ht
variable {ops:Array Oper}{K:Gst->Prop}{d:Nat}{op:Op}{ty:TypeId}{pos:String}{after:Array Edge}{v v2:AV}{ks:List Nat}{g:Gst}{j s':Nat}{cc:Bool}
theorem getc {G:List (Nat × AV)}{d:Nat}{v:AV}:upd (get G) d v=get ((d,v)::G):=get_cons.symm
theorem Vq (hp:PS P (get G) op ty v) (hk:RunL P N ops l (get ((d,v)::G)) K) (hN:N.ok d=true:=by rfl) (hf:get G d=none:=by rfl):RunL P N ops (⟨some d,op,ty,pos,after,none⟩::l) (get G) K:=Rv hp (getc ▸ hk) hN hf
theorem Vo (hk0:ksX [d] G=some ks) (hg:pick (get G) ks=some G1) [hn:NRg G1] (hp:PS P (get G1) op ty v) (hk:RunL P N ops l (get ((d,v)::G1)) K) (hN:N.ok d=true:=by rfl) (hf:get G1 d=none:=by rfl):RunL P N ops (⟨some d,op,ty,pos,after,none⟩::l) (get G) K:=RunL.rk ks hg (Rv hp (getc ▸ hk) hN hf)
theorem Vc (hp:PC P (get G) op v) (hk:RunL P N ops l (get ((d,v)::G)) K) (hN:N.ok d=true:=by rfl) (hf:get G d=none:=by rfl):RunL P N ops (⟨some d,op,ty,pos,after,none⟩::l) (get G) K:=Rc hp (getc ▸ hk) hN hf
theorem Gy (hp:PS P (get G) op ty v) (hk:RunL P N ops l (get ((d,v)::G)) K) (h:(ops[j]?).bind (·.dst)=some s':=by rfl) (hg:get G s'=some (.lit (.bool cc)):=by rfl) (hb:cc=b:=by (first | rfl | assumption)) (hN:N.ok d=true:=by rfl) (hf:get G d=none:=by rfl):RunL P N ops (⟨some d,op,ty,pos,after,some (j,b)⟩::l) (get G) K:=.v hp hN hf (.yb h hg hb) (getc ▸ hk)
theorem Gc (hp:PC P (get G) op v) (hk:RunL P N ops l (get ((d,v)::G)) K) (h:(ops[j]?).bind (·.dst)=some s':=by rfl) (hg:get G s'=some (.lit (.bool cc)):=by rfl) (hb:cc=b:=by (first | rfl | assumption)) (hN:N.ok d=true:=by rfl) (hf:get G d=none:=by rfl):RunL P N ops (⟨some d,op,ty,pos,after,some (j,b)⟩::l) (get G) K:=.c hp hN hf (.yb h hg hb) (getc ▸ hk)
theorem Gs (hk:RunL P N ops l (get ((d,.tup [])::G)) K) (h:(ops[j]?).bind (·.dst)=some s':=by rfl) (hg:get G s'=some (.lit (.bool cc)):=by rfl) (hb:cc=!b:=by (first | rfl | assumption)) (hN:N.ok d=true:=by rfl) (hf:get G d=none:=by rfl):RunL P N ops (⟨some d,op,ty,pos,after,some (j,b)⟩::l) (get G) K:=.ps h hg hb hN hf (getc ▸ hk)
theorem Gu (hk:RunL P N ops l (get ((d,.tup [])::G)) K) (h:(ops[j]?).bind (·.dst)=some s':=by rfl) (hg:get G s'=some (.tup []):=by rfl) (hN:N.ok d=true:=by rfl) (hf:get G d=none:=by rfl):RunL P N ops (⟨some d,op,ty,pos,after,some (j,b)⟩::l) (get G) K:=.pu h hg hN hf (getc ▸ hk)
theorem cdS {p:Prop}{X Y o:α}(h:(bif b then X else Y)=o) (hT:b=true->X=o->p) (hF:b=false->Y=o->p):p:=by
 cases b
 ·exact hF rfl h
 ·exact hT rfl h
theorem Fq {ΨK:HT->List (Nat × AV)->Prop}(hk0:ksE E [] G=some ks) (hp:pick (get G) ks=some G1) [hn:NRg G1] (hk:ΨK t G1):RunL P N ops [] (get G) (Kc E t ΨK):=.nil ⟨G1,(pick_trim (c:=true) (g2:=get G1) hp hn.p).wk,hk⟩
theorem WH.rj {m:Option α}{f:α->Option β}{r:β}{ks:List Nat}{L F':α->List (Nat × AV)}(h:m.bind f=some r) (h1:∀ j,m=some j->RunL P N l.toArray l (get G) (Jn F' j .normal)) (h2:∀ j,m=some j->f j=some r->WH E y P N B (F' j) Φ)
  (hF:∀ j,pick (ov (L j) G) ks=some (F' j):=by intro j; rfl):WH E (.rj id ks L y) P N (.seq (.region id l.toArray false) B) G Φ:=by
 obtain ⟨j,hj,h⟩:=bnd h
 exact W.seq (W.reg fun i hi=>by
  obtain ⟨g',e1,_,e3⟩:=h1 j hj i hi
  exact ⟨g',e1,W.be (h2 j hj h) e3⟩)
theorem Fj {F:α->List (Nat × AV)}{j v:α}(h:some v=some j) (ht:Trim true (get G) (get (F v)) (F v)):RunL P N ops [] (get G) (Jn F j .normal):=by
 cases h; exact .nil ⟨rfl,.wk ht.wk .rf⟩
end
end Go.Own
namespace Go.Own
open Go Go.Lib
set_option linter.unusedSectionVars false
variable [TB]
section
variable {P:Program}{w:World}
theorem run_appS (t u ty e:TypeId) (i:TypeInfo) (ht:P.underlying t=some (.slice e)) (hu:P.underlying u=some .string) (hi:P.info? e=some i) (hz:i.zero=some (.int .u8 0)) (hsize:i.size=1) (hby:i.bytes=1)
  {bv:Value}{n:Nat}{us:List Value}(hob:w.ownsRow 0 e 1 bv n us) (s:ByteArray) (h63:n+s.size<=maxLen) (hbytes:n+s.size<=140737488355328) :
  ∃ v' w',(Builtin.append_ #[t,u] ty #[bv,.string s]).run P w=.ok v' w'/\AppRun w w' bv v' e e 1 n s.size us (strCells s):=by
 have hus:us.length=n:=by simpa using hob.1
 have hl:=strCells_length s
 have hsmall:n+s.size<=9223372036854775807:=by simp only [maxLen] at h63; omega
 have hlen:(us++strCells s).length=(n+s.size) * 1:=by rw [List.length_append,hus,hl,Nat.mul_one]
 have hf:=fun w=>run_firstCells_string (P:=P) w 1 s
 by_cases hm:s.size=0
 ·have hn:strCells s=[]:=List.eq_nil_of_length_eq_zero (by rw [hl,hm])
  refine ⟨bv,w,?_,.same hob (fun _ _=>rfl) (Nat.le_refl _) rfl rfl rfl (by simpa [hm,hn] using hob) (fun c hc=>.inl hc) fun _=>rfl⟩
  have hf':=hf w
  rw [hm] at hf'
  obtain ⟨_,hh⟩:=hob
  rcases hh with ⟨rfl,rfl⟩ | ⟨b,cap,cur,rfl,_,hg,hle,_⟩
  ·simp [Builtin.append_,run_underlying ht,run_underlying hu,sizeOf,typeInfo,hi,hsize,Builtin.lenOf,hm,hf']
  ·simp [Builtin.append_,run_underlying ht,run_underlying hu,sizeOf,typeInfo,hi,hsize,Builtin.lenOf,hm,hf',hn,hle,storeCells]
 have grown:∀ old:Nat,old<n+s.size ->
   (w.drew.alloc (.cells (us.toArray++(strCells s).toArray++Builtin.zeroCells (Value.int .u8 0).cells (grownCap w (n+s.size) old e - (n+s.size))) e)).ownsRow 0 e 1
    (.slice (some ⟨w.heap.size,0,none⟩) (n+s.size) (grownCap w (n+s.size) old e)) (n+s.size) (us++strCells s):=by
  intro old ho
  refine ⟨hlen,.inr ⟨w.heap.size,_,_,rfl,Nat.zero_le _,alloc_new w.drew _,grownCap_ge w (n+s.size) old e,grownCap_le_maxLen w (n+s.size) old e h63,?_,?_⟩⟩
  ·have hge:=grownCap_ge w (n+s.size) old e
   have hz1:(Value.int IntKind.u8 0).cells.size=1:=rfl
   simp only [Array.size_append,List.size_toArray,size_zeroCells,hz1,hus,hl]
   omega
  ·simp only [Array.toList_append,List.append_assoc]
   rw [<- List.append_assoc,<- hlen]
   exact List.take_left
 have hob0:=hob
 obtain ⟨_,hh⟩:=hob
 rcases hh with ⟨rfl,rfl⟩ | ⟨b,cap,cur,rfl,_,hg,hle,hcm,hcs,htake⟩
 ·have hx:us=[]:=List.eq_nil_of_length_eq_zero hus
  subst hx
  have hr:=run_append_nil_string (P:=P) w t u ty e i (.int .u8 0) ht hu hi hz s (by omega) (by omega) (by rw [hby]; omega)
  have hgr:=grown 0 (by omega)
  simp only [Nat.zero_add,List.nil_append,Array.empty_append] at hgr ⊢
  have e1:(s.data.map fun b=>Value.int .u8 b.toNat)=(strCells s).toArray:=by
   apply Array.ext'
   simp [strCells]
  rw [e1] at hr
  exact ⟨_,_,hr,.same hob0 (fun c hc=>alloc_old w.drew _ c hc) (by simp) rfl rfl rfl (by simpa using hgr) (fun c hc=>.inr (by simp [Value.ownBlock] at hc; omega)) (fun a=>fz_alloc w.drew _ _ a)⟩
 ·have hcs':cur.size=cap:=by simpa using hcs
  have htk':cur.toList.take n=us:=by simpa using htake
  by_cases hroom:n+s.size<=cap
  ·have hst:=run_storeCells_at P b n e (strCells s) 0 cur w hg (by rw [hl]; omega) (strCells_oneCell s)
   simp only [Nat.add_zero,hl] at hst
   have hr:(Builtin.append_ #[t,u] ty #[.slice (some ⟨b,0,none⟩) n cap,.string s]).run P w =
     .ok (.slice (some ⟨b,0,none⟩) (n+s.size) cap) (w.setRow b (cur.toList.take n++strCells s++cur.toList.drop (n+s.size)).toArray):=by
    simp [Builtin.append_,run_underlying ht,run_underlying hu,sizeOf,typeInfo,hi,hsize,Builtin.lenOf,hroom,hf,Addr.add_lit,hst]
   have hsz:(cur.toList.take n++strCells s++cur.toList.drop (n+s.size)).toArray.size=cur.size:=by
    simp only [List.size_toArray,List.length_append,List.length_take,List.length_drop,Array.length_toList,hl]
    omega
   have htk:(cur.toList.take n++strCells s++cur.toList.drop (n+s.size)).take (n * 1)=cur.toList.take (n * 1):=by
    rw [List.append_assoc,Nat.mul_one]
    exact List.take_left' (by simp; omega)
   refine ⟨_,_,hr,⟨⟨by rw [hus,Nat.mul_one],.inr ⟨b,cap,_,rfl,Nat.zero_le _,setRow_heap w b cur _ e _ hg,hle,hcm,hsz.trans hcs,?_⟩⟩,⟨hlen,.inr ⟨b,cap,_,rfl,Nat.zero_le _,setRow_heap w b cur _ e _ hg,hroom,hcm,hsz.trans hcs,?_⟩⟩,
    ⟨rfl,rfl,rfl,by simp,fun k _ hk=>setRow_other w b k _ (fun e=>hk (by simp [Value.ownBlock,e])),fun a _ _=>fz_setRow w b _ a,Nat.le_refl _⟩,fun c hc=>.inl hc,fun c hc=>?_⟩⟩
   ·rw [<- htake]; exact htk
   ·rw [htk',<- hlen]
    exact List.take_left
   ·simp only [Value.ownBlock,Option.some.injEq] at hc
    subst hc
    exact ⟨cur,_,hg,setRow_heap w b cur _ e _ hg,hsz,htk⟩
  ·have holds:∀ (j:Nat) (u:Value),us[j]?=some u->w.cell? ((⟨b,0,none⟩:Addr).add j)=some u:=hob0.cells (g:=b) rfl
   have hr:=run_append_grow_string (P:=P) w t u ty e i (.int .u8 0) ht hu hi hz ⟨b,0,none⟩ n cap us (by rw [hsize]; simpa using hus) holds s (by omega) (by omega) (by rw [hby]; exact growslice_fits (by omega) (by omega))
   have hgr:=grown cap (by omega)
   exact ⟨_,_,hr,.same hob0 (fun c hc=>alloc_old w.drew _ c hc) (by simp) rfl rfl rfl hgr (fun c hc=>.inr (by simp [Value.ownBlock] at hc; omega)) (fun a=>fz_alloc w.drew _ _ a)⟩
theorem wpList_appS {ops:Array Oper}{rest:List Oper}{o:Oper}{a:Act}{Q:Exit->Act->World->Prop}(hgd:o.guard=none) (sl x:Operand) (t u:TypeId)
  (ho:o.op=.call { callee:=.builtin .append,args:=#[sl,x],argTypes:=#[t,u] }) 
  (e:TypeId) (i:TypeInfo) (ht:P.underlying t=some (.slice e)) (hu:P.underlying u=some .string) (hi:P.info? e=some i) (hz:i.zero=some (.int .u8 0)) (hsize:i.size=1) (hby:i.bytes=1)
  (v:Value) (n:Nat) (xs:List Value) (hs:a.eval sl=v) (hown:w.ownsRow 0 e 1 v n xs) (s:ByteArray) (hx:a.eval x=.string s) (h63:n+s.size<=maxLen) (hbytes:n+s.size<=140737488355328)
  (h:∀ v' w',AppRun w w' v v' e e 1 n s.size xs (strCells s)->wpList P ops Q rest (a.put o.dst v') w'):wpList P ops Q (o::rest) a w:=by
 refine wpList_plain hgd fun K hK=>?_
 obtain ⟨v',w',hr,h2⟩:=run_appS (P:=P) (w:=w) t u o.type e i ht hu hi hz hsize hby hown s h63 hbytes
 unfold Oper.wp execOp
 simp only [ho,resolve,invoke,builtin,Sem.run_bind,Sem.run_pure,Result.andThen_ok,List.map_toArray,List.map_cons,List.map_nil,hs,hx,hr]
 exact hK _ _ (h v' w' h2)
end
end Go.Own
namespace Go.Proofs
open Go.Shelf Go.RowKit Go.Own
set_option linter.unusedSectionVars false
variable [TB]
variable {P:Program}{ρ:Ren}
structure BWrote (t:TypeId) (w w':World) (b k:Nat) (e:TypeId) (arr:Array Value) (v:Value) (n m:Nat) (us news:List Value):Prop where
 fr:Fr w w' (fun c=>c=b\/v.ownBlock=some c)
 row:∃ v',w'.ownsRow 0 t 1 v' (n+m) (us++news)/\w'.heap[b]?=some (.cells ((arr.setIfInBounds k (.pointer (some ⟨b,k,none⟩))).setIfInBounds (k+1) v') e (0,0))/\v'.ownBlock≠some b/\(∀ c,v'.ownBlock=some c->v.ownBlock=some c\/w.heap.size<=c)
set_option maxHeartbeats 1000000 in
set_option maxRecDepth 100000 in
theorem bcu (L:Lays.n240 P ρ) (X:Builder.X72 P ρ) (b k:Nat) (w:World) (h0:w.cell? ⟨b,k,none⟩=some (.pointer (some ⟨b,k,none⟩))) :
  Calls P (ρ.f 240) #[.pointer (some ⟨b,k,none⟩)] w fun e w'=>e=.returned (.tuple #[])/\w'=w:=by
 obtain ⟨j,hj,_⟩:=Option.map_eq_some_iff.1 X.sizeBuilder
 have mixed:=L.mixed
 have t72:=L.t72; have a72:=L.a72; have z72:=L.z72; have v72:=L.v72; have u72:=run_underlying L.t72
 have t70:=L.t70; have a70:=L.a70; have z70:=L.z70; have v70:=L.v70; have u70:=run_underlying L.t70
 have t9:=L.t9; have a9:=L.a9; have z9:=L.z9; have v9:=L.v9; have u9:=run_underlying L.t9
 have t4:=L.t4; have a4:=L.a4; have z4:=L.z4; have v4:=L.v4; have u4:=run_underlying L.t4
 have t164:=L.t164; have a164:=L.a164; have z164:=L.z164; have v164:=L.v164; have u164:=run_underlying L.t164
 go_enter L.f240,Body.n240_ntmps ρ
 go_wp2
 rw [Lib.run_neq_ptr_same w _ L.t70 hj]
 go_wp2
 go_end0
 exact ⟨rfl,rfl⟩
set_option maxHeartbeats 2000000 in
set_option maxRecDepth 100000 in
theorem bcc (L:Lays.n240 P ρ) (X:Builder.X72 P ρ) {b k:Nat}{arr:Array Value}{e:TypeId}{p:Value}(w:World)
  (hb:w.heap[b]?=some (.cells arr e (0,0))) (h0:arr[k]?=some p) (hp:(p=.pointer none/\liesAt P P.depth e (arr.size / P.cellsOf e) k (ρ.t 72) 1=true)\/p=.pointer (some ⟨b,k,none⟩)) :
  Calls P (ρ.f 240) #[.pointer (some ⟨b,k,none⟩)] w fun e' w'=>e'=.returned (.tuple #[])/\Fr w w' (fun c=>c=b)/\w'.heap[b]?=some (.cells (arr.setIfInBounds k (.pointer (some ⟨b,k,none⟩))) e (0,0)):=by
 obtain ⟨j,hj,hjs⟩:=Option.map_eq_some_iff.1 X.sizeBuilder
 have mixed:=L.mixed
 have t72:=L.t72; have a72:=L.a72; have z72:=L.z72; have v72:=L.v72; have u72:=run_underlying L.t72
 have t70:=L.t70; have a70:=L.a70; have z70:=L.z70; have v70:=L.v70; have u70:=run_underlying L.t70
 have t9:=L.t9; have a9:=L.a9; have z9:=L.z9; have v9:=L.v9; have u9:=run_underlying L.t9
 have t4:=L.t4; have a4:=L.a4; have z4:=L.z4; have v4:=L.v4; have u4:=run_underlying L.t4
 have t164:=L.t164; have a164:=L.a164; have z164:=L.z164; have v164:=L.v164; have u164:=run_underlying L.t164
 have hk:k<arr.size:=(Array.getElem?_eq_some_iff.1 h0).1
 have hc0:w.cell? ⟨b,k,none⟩=some p:=by rw [Lib.cell_of_heap hb]; exact h0
 have hfz:w.frozen? ⟨b,k,none⟩=false:=Lib.frozen_of_heap hb k
 have hsh:w.shape? b=some (e,arr.size):=by simp [World.shape?,hb]
 rcases hp with ⟨rfl,hl⟩ | rfl
 ·go_enter L.f240,Body.n240_ntmps ρ
  go_wp2
  rw [Lib.run_to_unsafe w ⟨b,k,none⟩ L.t70 L.t164 hj (by rw [hjs]; decide) hsh hk]
  simp only [Result.andThen]
  rw [Oper.upon_value]
  go_wp2
  rw [run_callFunc_extern L.f276 (by kernel_rfl) (by kernel_rfl) (by kernel_rfl) (e:=Extern.AbiNoEscape.same) (by kernel_rfl)]
  rw [Lib.run_noEscape]
  simp only [Result.andThen]
  rw [Oper.upon_value]
  go_wp2
  rw [Lib.run_from_unsafe w ⟨b,k,none⟩ L.t164 L.t70 hj hsh hl]
  simp only [Result.andThen]
  rw [Oper.upon_value]
  go_wp2
  go_end0
  refine ⟨rfl,⟨rfl,rfl,rfl,by simp [World.setCell],fun c _ hc=>?_,fun a _ hn=>?_,Nat.le_refl _⟩,?_⟩
  ·simp only [World.setCell,Array.getElem?_modify,if_neg (Ne.symm hc)]
  ·have hc:a.block≠b:=hn
   simp only [World.frozen?,World.setCell,Array.getElem?_modify,if_neg (Ne.symm hc)]
  ·simp [World.setCell,Array.getElem?_modify,hb]
 ·refine (bcu L X b k w hc0).mono ?_
  rintro e' w' ⟨rfl,rfl⟩
  refine ⟨rfl,Fr.refl _ _,?_⟩
  rw [hb]
  congr 2
  apply Array.ext_getElem?
  intro i
  by_cases hi:i=k
  ·subst hi; rw [h0,Array.getElem?_setIfInBounds_self_of_lt hk]
  ·rw [Array.getElem?_setIfInBounds_ne (Ne.symm hi)]
set_option maxHeartbeats 2000000 in
set_option maxRecDepth 100000 in
theorem bws (L:Lays.n166 P ρ) (X:Builder.Extra P ρ) {b k:Nat}{arr:Array Value}{e:TypeId}{p v:Value}{n:Nat}{us:List Value}(s:ByteArray) (w:World)
  (hb:w.heap[b]?=some (.cells arr e (0,0))) (h0:arr[k]?=some p) (h1:arr[k+1]?=some v) (hp:(p=.pointer none/\liesAt P P.depth e (arr.size / P.cellsOf e) k (ρ.t 72) 1=true)\/p=.pointer (some ⟨b,k,none⟩))
  (hown:w.ownsRow 0 (ρ.t 5) 1 v n us) (hne:v.ownBlock≠some b) (hlen:n+s.size<=140737488355328) :
  Calls P (ρ.f 166) #[.pointer (some ⟨b,k,none⟩),.string s] w fun e' w'=>e'=.returned (.tuple #[.int .i64 s.size,.nilIface])/\BWrote (ρ.t 5) w w' b k e arr v n s.size us (Lib.strCells s):=by
 obtain ⟨i0,hi,hz0,hz1,hz2⟩:=info_parts X.infoByte
 have mixed:=L.mixed
 have t72:=L.t72; have a72:=L.a72; have z72:=L.z72; have v72:=L.v72; have u72:=run_underlying L.t72
 have t70:=L.t70; have a70:=L.a70; have z70:=L.z70; have v70:=L.v70; have u70:=run_underlying L.t70
 have t37:=L.t37; have a37:=L.a37; have z37:=L.z37; have v37:=L.v37; have u37:=run_underlying L.t37
 have t3:=L.t3; have a3:=L.a3; have z3:=L.z3; have v3:=L.v3; have u3:=run_underlying L.t3
 have t9:=L.t9; have a9:=L.a9; have z9:=L.z9; have v9:=L.v9; have u9:=run_underlying L.t9
 have t4:=L.t4; have a4:=L.a4; have z4:=L.z4; have v4:=L.v4; have u4:=run_underlying L.t4
 have t164:=L.t164; have a164:=L.a164; have z164:=L.z164; have v164:=L.v164; have u164:=run_underlying L.t164
 have t5:=X.t5; have a5:=X.a5; have z5:=X.z5; have v5:=X.v5; have u5:=run_underlying X.t5
 have e240:∀ args w,(callFunc (ρ.f 240) args).run P w=.ok (.enter (ρ.f 240) args) w:=enters_of L.f240 (by kernel_rfl) rfl
 have hk:k<arr.size:=(Array.getElem?_eq_some_iff.1 h0).1
 have hk1:k+1<arr.size:=(Array.getElem?_eq_some_iff.1 h1).1
 go_enter L.f166,Body.n166_ntmps ρ
 go_wp2_with (go_at_fn (ρ.f 240); refine (bcc { L with } X.toX72 w hb h0 hp).mono ?_)
 rintro e' w1 ⟨rfl,hf1,hb1⟩
 have hown1:w1.ownsRow 0 (ρ.t 5) 1 v n us:=ownsRow_of_block hown fun c hc=>hf1.block c (hown.lt c hc).2 fun h=>hne (h ▸ hc)
 have c0:w1.cell? ⟨b,k,none⟩=some (.pointer (some ⟨b,k,none⟩)):=by rw [Lib.cell_of_heap hb1,Array.getElem?_setIfInBounds_self_of_lt hk]
 have c1:w1.cell? ⟨b,k+1,none⟩=some v:=by rw [Lib.cell_of_heap hb1,Array.getElem?_setIfInBounds_ne (by omega)]; exact h1
 go_wp2_with (at_builtin; refine wpList_appS rfl _ _ (ρ.t 37) (ρ.t 9) rfl (ρ.t 5) i0 L.t37 L.t9 hi hz0 hz1 hz2 _ _ _ rfl hown1 s rfl ?c3 ?c4 ?_)
 case c3=>unfold maxLen; omega
 case c4=>omega
 intro v' w2 hA
 have hlt1:b<w1.heap.size:=by
  rcases Nat.lt_or_ge b w1.heap.size with h' | h'
  ·exact h'
  ·simp [Array.getElem?_eq_none h'] at hb1
 have hb2:w2.heap[b]?=some (.cells (arr.setIfInBounds k (.pointer (some ⟨b,k,none⟩))) e (0,0)):=(hA.fr.block b hlt1 fun h=>hne h).trans hb1
 have hsz:(arr.setIfInBounds k (.pointer (some ⟨b,k,none⟩))).size=arr.size:=by simp
 have d0:w2.cell? ⟨b,k,none⟩=some (.pointer (some ⟨b,k,none⟩)):=by rw [Lib.cell_of_heap hb2,Array.getElem?_setIfInBounds_self_of_lt hk]
 have d1:w2.cell? ⟨b,k+1,none⟩=some v:=by rw [Lib.cell_of_heap hb2,Array.getElem?_setIfInBounds_ne (by omega)]; exact h1
 have f1:w2.frozen? ⟨b,k+1,none⟩=false:=Lib.frozen_of_heap hb2 (k+1)
 obtain ⟨ao,n',cap,rfl⟩:∃ ao n' cap,v'=.slice ao n' cap:=by
  rcases hA.new.2 with ⟨hv,_⟩ | ⟨g,cap,cur,hv,_⟩
  ·exact ⟨_,_,_,hv⟩
  ·exact ⟨_,_,_,hv⟩
 have hne2:(Value.slice ao n' cap).ownBlock≠some b:=fun h=>by
  rcases hA.blk b h with h | h
  ·exact hne h
  ·omega
 have hb3:(w2.setCell ⟨b,k+1,none⟩ (.slice ao n' cap)).heap[b]?=some (.cells ((arr.setIfInBounds k (.pointer (some ⟨b,k,none⟩))).setIfInBounds (k+1) (.slice ao n' cap)) e (0,0)):=by
  simp [World.setCell,Array.getElem?_modify,hb2]
 have ho3:∀ c,c≠b->(w2.setCell ⟨b,k+1,none⟩ (.slice ao n' cap)).heap[c]?=w2.heap[c]?:=fun c hc=>by
  simp only [World.setCell,Array.getElem?_modify,if_neg (Ne.symm hc)]
 have hfr:Fr w (w2.setCell ⟨b,k+1,none⟩ (.slice ao n' cap)) (fun c=>c=b\/v.ownBlock=some c):=by
  have h12:=(hf1.mono (U':=fun c=>c=b\/v.ownBlock=some c) fun c _ h=>.inl h).trans hA.fr fun c _ h=>.inr h
  refine ⟨h12.os,h12.tape,h12.output,by simpa [World.setCell] using h12.size,fun c hc hn=>(ho3 c fun h=>hn (.inl h)).trans (h12.block c hc hn),fun a ha hn=>?_,h12.dr⟩
  have:(w2.setCell ⟨b,k+1,none⟩ (.slice ao n' cap)).frozen? a=w2.frozen? a:=by
   unfold World.frozen?
   rw [ho3 a.block fun h=>hn (.inl h)]
  exact this.trans (h12.fz a ha hn)
 go_wp2
 go_ret2
 refine ⟨rfl,hfr,_,ownsRow_of_block hA.new fun c hc=>ho3 c fun h=>hne2 (h ▸ hc),hb3,hne2,fun c hc=>?_⟩
 rcases hA.blk c hc with h | h
 ·exact .inl h
 ·exact .inr (Nat.le_trans hf1.size h)
set_option maxHeartbeats 1000000 in
set_option maxRecDepth 100000 in
theorem bst (L:Lays.n169 P ρ) (X:Builder.Extra P ρ) {b k:Nat}{arr:Array Value}{e:TypeId}{v:Value}(l:List UInt8) (w:World)
  (hb:w.heap[b]?=some (.cells arr e (0,0))) (h1:arr[k+1]?=some v) (hown:w.ownsRow 0 (ρ.t 5) 1 v l.length (Lib.byteCells l)) (h0:l≠[]) :
  Calls P (ρ.f 169) #[.pointer (some ⟨b,k,none⟩)] w fun e' w'=>e'=.returned (.string ⟨l.toArray⟩)/\Fr w w' (fun c=>v.ownBlock=some c):=by
 have hl0:l.length≠0:=by simpa using h0
 have hown0:=hown
 obtain ⟨g,cap,cur,rfl,_,hg,hnc,hcm,hcs,htake⟩:∃ g cap cur,v=.slice (some ⟨g,0,none⟩) l.length cap/\0<=g/\w.heap[g]?=some (.cells cur (ρ.t 5) (0,0))/\l.length<=cap/\cap<=maxLen/\cur.size=cap * 1/\cur.toList.take (l.length * 1)=Lib.byteCells l:=by
  rcases hown.2 with ⟨_,hz⟩ | ⟨g,cap,cur,hv,r⟩
  ·exact absurd hz hl0
  ·exact ⟨g,cap,cur,hv,r⟩
 have c1:w.drew.cell? ⟨b,k+1,none⟩=some (.slice (some ⟨g,0,none⟩) l.length cap):=by
  have:w.drew.heap[b]?=some (.cells arr e (0,0)):=hb
  rw [Lib.cell_of_heap this]; exact h1
 have hSD:(Builtin.unsafeSliceData_ #[(ρ.t 37)] (ρ.t 127) #[.slice (some ⟨g,0,none⟩) l.length cap]).run P w.drew=.ok (.pointer (some ⟨g,0,none⟩)) w.drew :=
  Lib.run_unsafeSliceData_row _ _ _ _ _ _ (by omega)
 have hUS:(Builtin.unsafeString_ #[(ρ.t 127),(ρ.t 3)] (ρ.t 9) #[.pointer (some ⟨g,0,none⟩),.int .i64 l.length]).run P w.drew=.ok (.string ⟨l.toArray⟩) (w.drew.freeze ⟨g,0,none⟩ l.length):=by
  refine Lib.run_unsafeString_row w.drew (ρ.t 127) (ρ.t 3) (ρ.t 9) (ρ.t 5) L.t127 X.cellsByte g cur.size (by have hg':w.drew.heap[g]?=some (.cells cur (ρ.t 5) (0,0)):=hg; simp [World.shape?,hg']) l h0 (by omega) (by unfold maxLen at hcm; omega) ?_
  intro j x hx
  have:=hown0.cells (g:=g) rfl j (.int .u8 x.toNat) (by simp [Lib.byteCells,hx])
  exact this
 have mixed:=L.mixed
 have t72:=L.t72; have a72:=L.a72; have z72:=L.z72; have v72:=L.v72; have u72:=run_underlying L.t72
 have t70:=L.t70; have a70:=L.a70; have z70:=L.z70; have v70:=L.v70; have u70:=run_underlying L.t70
 have t37:=L.t37; have a37:=L.a37; have z37:=L.z37; have v37:=L.v37; have u37:=run_underlying L.t37
 have t127:=L.t127; have a127:=L.a127; have z127:=L.z127; have v127:=L.v127; have u127:=run_underlying L.t127
 have t3:=L.t3; have a3:=L.a3; have z3:=L.z3; have v3:=L.v3; have u3:=run_underlying L.t3
 have t9:=L.t9; have a9:=L.a9; have z9:=L.z9; have v9:=L.v9; have u9:=run_underlying L.t9
 have t5:=X.t5; have a5:=X.a5; have z5:=X.z5; have v5:=X.v5; have u5:=run_underlying X.t5
 have hfr:Fr w (w.drew.freeze ⟨g,0,none⟩ l.length) (fun c=>(Value.slice (some ⟨g,0,none⟩) l.length cap).ownBlock=some c):=by
  have ho:∀ c,c≠g->(w.drew.freeze ⟨g,0,none⟩ l.length).heap[c]?=w.heap[c]?:=fun c hc=>by
   unfold World.freeze
   rw [if_neg hl0]
   simp only [Array.getElem?_modify,if_neg (Ne.symm hc)]
   rfl
  refine ⟨by unfold World.freeze; split <;> rfl,by unfold World.freeze; split <;> rfl,by unfold World.freeze; split <;> rfl,by unfold World.freeze; split <;> simp,fun c _ hc=>ho c fun h=>hc (by simp [Value.ownBlock,h]),fun a _ hn=>?_,by unfold World.freeze; split <;> exact Nat.le_succ _⟩
  unfold World.frozen?
  rw [ho a.block fun h=>hn (by simp [Value.ownBlock,h])]
 go_enter L.f169,Body.n169_ntmps ρ
 go_wp2
 go_region_o
 all_goals (go_wp2; go_ret; exact ⟨rfl,hfr⟩)
end Go.Proofs
namespace Go.Own
open Go Go.Proofs Go.Shelf Go.Lib
set_option linter.unusedSectionVars false
variable [TB]
def bwO (x s:ByteArray):Option ByteArray:=if x.size+s.size<=140737488355328 then some (x++s) else none
def bsO (x:ByteArray):Option ByteArray:=if x.size=0 then none else some x
theorem strCells_append (x s:ByteArray):strCells x++strCells s=strCells (x++s):=by
 unfold strCells
 rw [<- List.map_append]
 congr 1
section
variable {P:Program}{ρ:Ren}
theorem Con.bw (L:Lays.n166 P ρ) (X:Builder.Extra P ρ) {x s y:ByteArray}(h:bwO x s=some y) :
  Con P (ρ.f 166) [.obj [.self (0,ρ.t 72),.brow (ρ.t 5) (strCells x)],SS s] [some (.obj [.self (0,ρ.t 72),.brow (ρ.t 5) (strCells y)]),none] (.tup [I64 s.size,.lit .nilIface]):=by
 refine ⟨rfl,fun w I vs Fs hlv hS=>?_⟩
 match vs,hlv with
 | [v0,v1],_ =>
 obtain ⟨u0,hu0,hR0⟩:=hS.rel 0 _ rfl
 obtain ⟨u1,hu1,hR1⟩:=hS.rel 1 _ rfl
 cases hu0; cases hu1
 have hv1:=(hR1.isTree (by simp)).inv_lit.1
 subst hv1
 unfold bwO at h
 split at h <;> cases h
 rename_i hsz
 have hR:=hR0.isTree (by simp)
 cases hR with
 | ref hx=>simp [AV.isRef] at hx
 | @obj _ b e arr Fk _ ho hl h1 hr hd hb hF hs =>
  have hl2:arr.size=2:=hl.symm
  have ha0:arr[0]?=some arr[0]:=Array.getElem?_eq_getElem (by omega)
  have ha1:arr[1]?=some arr[1]:=Array.getElem?_eq_getElem (by omega)
  have hp:=hs 0 _ _ rfl ha0
  have hRb:=hr 1 _ _ rfl ha1
  cases hRb with
  | ref hx=>simp [AV.isRef] at hx
  | brow hrow hone hFb =>
   have hne:arr[1].ownBlock≠some b:=fun h=>hb 1 (by simp) ((hFb b).2 h)
   rw [strCells_length] at hrow
   refine (bws L X s w ho ha0 ha1 (hp.imp (fun ⟨h1,h2⟩=>⟨h1,by rw [h2,hl2]; exact X.liesBuilder⟩) id) hrow hne hsz).mono ?_
   rintro e' w' ⟨rfl,hfr,v',hown,hbk,hne',hblk⟩
   rw [strCells_append] at hown
   have hlt:∀ c,v'.ownBlock=some c->c<w'.heap.size:=fun c hc=>(hown.lt c hc).2
   have hn:x.size+s.size=(strCells (x++s)).length:=by rw [strCells_length]; simp [ByteArray.size_append]
   rw [hn] at hown
   have hone':v'.oneCell'=true:=by
    rcases hown.2 with ⟨hv,_⟩ | ⟨g,cap,cur,hv,_⟩ <;> rw [hv] <;> rfl
   have hF0:∀ c,(c=b\/v'.ownBlock=some c)->Fs 0 c\/w.heap.size<=c:=by
    rintro c (rfl | hc)
    ·exact .inl ((hF _).2 (.inl rfl))
    ·rcases hblk c hc with h | h
     ·exact .inl ((hF c).2 (.inr ⟨1,by simp,(hFb c).2 h⟩))
     ·exact .inr h
   refine ⟨_,I,fun t c=>t=0/\(c=b\/v'.ownBlock=some c),rfl,⟨fun t x hx=>?_,fun t ht c hc=>?_,fun t t' c hc hc'=>hc.1.trans hc'.1.symm,fun t c hc hi=>?_,fun c hc=>Nat.lt_of_lt_of_le (hS.lt c hc) hfr.size,fun t t' z p n m new z' n' m' new' h1 _=>?_,TB.keep hS.tb (fun c hc=>hfr.block c (hS.lt c hc) fun h=>hS.imm 0 c (h.elim (fun h=>h ▸ (hF b).2 (.inl rfl)) fun h=>(hF c).2 (.inr ⟨1,by simp,(hFb c).2 h⟩)) hc) fun _ h=>h⟩,⟨?_,fun _ h=>h,fun _ h=>.inl h,fun c hc=>?_⟩⟩
   ·match t,hx with
    | 0,hx =>
     cases hx
     refine ⟨_,rfl,.tree ?_⟩
     refine .obj (Fs:=fun k c=>k=1/\v'.ownBlock=some c) hbk (by simp [hl2]) (fun k u hu=>?_) (fun k y u hy hu=>?_) (fun j k c _ _ h1 h2=>h1.1.trans h2.1.symm) (fun k _ h=>hne' h.2) (fun c=>⟨fun h=>h.2.imp id fun h=>⟨1,by simp,rfl,h⟩,fun h=>⟨rfl,h.imp id fun ⟨_,_,_,h⟩=>h⟩⟩) (fun k j u hy hu=>?_)
     ·match k,hu with
      | 0,hu=>simp [hl2] at hu; subst hu; rfl
      | 1,hu=>simp [hl2] at hu; subst hu; exact hone'
      | k+2,hu=>simp [hl2] at hu
     ·match k,hy,hu with
      | 0,hy,hu=>cases hy; exact .slf fun c h=>by cases h.1
      | 1,hy,hu =>
       cases hy
       simp [hl2] at hu
       subst hu
       exact .brow hown hone' fun c=>⟨fun h=>h.2,fun h=>⟨rfl,h⟩⟩
      | k+2,hy,hu=>cases hy
     ·match k,hy,hu with
      | 0,hy,hu =>
       cases hy
       simp [hl2] at hu
       exact .inr hu.symm
      | 1,hy,hu=>cases hy
      | k+2,hy,hu=>cases hy
    | 1,hx=>cases hx
    | 2,hx =>
     cases hx
     refine ⟨_,rfl,.tree (.tup (Fs:=fun _=>E0) rfl (fun k y u hy hu=>?_) (fun _ _ _ _ _ h=>h.elim) (fun c=>⟨fun h=>(by cases h.1),fun ⟨_,_,h⟩=>h.elim⟩))⟩
     match k,hy,hu with
     | 0,hy,hu=>cases hy; cases hu; exact .lit rfl fun _ h=>h
     | 1,hy,hu=>cases hy; cases hu; exact .lit rfl fun _ h=>h
     | k+2,hy,hu=>cases hy
    | t+3,hx=>simp [outG] at hx
   ·rw [hc.1] at ht; cases ht
   ·rcases hF0 c hc.2 with h | h
    ·exact hS.imm 0 c h hi
    ·have:=hS.lt c hi; omega
   ·match t,h1 with
    | 0,h1=>cases h1
    | 1,h1=>cases h1
    | 2,h1=>cases h1
    | t+3,h1=>simp [outG] at h1
   ·refine hfr.mono fun c _ h=>⟨0,?_⟩
    rcases h with rfl | h
    ·exact (hF _).2 (.inl rfl)
    ·exact (hF c).2 (.inr ⟨1,by simp,(hFb c).2 h⟩)
   ·obtain ⟨t,_,hc⟩:=hc
    rcases hF0 c hc with h | h
    ·exact .inl ⟨0,h⟩
    ·exact .inr h
theorem Con.bs (L:Lays.n169 P ρ) (X:Builder.Extra P ρ) {x y:ByteArray}(h:bsO x=some y) :
  Con P (ρ.f 169) [.obj [.self (0,ρ.t 72),.brow (ρ.t 5) (strCells x)]] [some (.obj [.self (0,ρ.t 72),.dead])] (SS y):=by
 refine ⟨rfl,fun w I vs Fs hlv hS=>?_⟩
 match vs,hlv with
 | [v0],_ =>
 obtain ⟨u0,hu0,hR0⟩:=hS.rel 0 _ rfl
 cases hu0
 unfold bsO at h
 split at h <;> cases h
 rename_i hsz
 have hR:=hR0.isTree (by simp)
 cases hR with
 | ref hx=>simp [AV.isRef] at hx
 | @obj _ b e arr Fk _ ho hl h1 hr hd hb hF hs =>
  have hl2:arr.size=2:=hl.symm
  have ha0:arr[0]?=some arr[0]:=Array.getElem?_eq_getElem (by omega)
  have ha1:arr[1]?=some arr[1]:=Array.getElem?_eq_getElem (by omega)
  have hRb:=hr 1 _ _ rfl ha1
  cases hRb with
  | ref hx=>simp [AV.isRef] at hx
  | brow hrow hone hFb =>
   have hne:arr[1].ownBlock≠some b:=fun h=>hb 1 (by simp) ((hFb b).2 h)
   have hby:strCells x=byteCells x.data.toList:=rfl
   have hlen:(strCells x).length=x.data.toList.length:=by unfold strCells; rw [List.length_map]
   rw [hlen,hby] at hrow
   refine (bst L X (k:=0) x.data.toList w ho ha1 hrow (fun e=>hsz (by rw [<- strCells_length]; unfold strCells; rw [e]; rfl))).mono ?_
   rintro e' w' ⟨rfl,hfr⟩
   have hblt:b<w.heap.size:=(Array.getElem?_eq_some_iff.1 ho).1
   have hbk:w'.heap[b]?=some (.cells arr e (0,0)):=(hfr.block b hblt hne).trans ho
   refine ⟨_,I,fun t c=>t=0/\c=b,rfl,⟨fun t x hx=>?_,fun t ht c hc=>?_,fun t t' c hc hc'=>hc.1.trans hc'.1.symm,fun t c hc hi=>?_,fun c hc=>Nat.lt_of_lt_of_le (hS.lt c hc) hfr.size,fun t t' z p n m new z' n' m' new' h1 _=>?_,TB.keep hS.tb (fun c hc=>hfr.block c (hS.lt c hc) fun h=>hS.imm 0 c ((hF c).2 (.inr ⟨1,by simp,(hFb c).2 h⟩)) hc) fun _ h=>h⟩,⟨?_,fun _ h=>h,fun _ h=>.inl h,fun c hc=>?_⟩⟩
   ·match t,hx with
    | 0,hx =>
     cases hx
     refine ⟨_,rfl,.tree (.obj (Fs:=fun _=>E0) hbk hl h1 (fun k y u hy hu=>?_) (fun _ _ _ _ _ h=>h.elim) (fun _ _ h=>h) (fun c=>⟨fun h=>.inl h.2,fun h=>⟨rfl,h.elim id fun ⟨_,_,h⟩=>h.elim⟩⟩) (fun k j u hy hu=>?_))⟩
     ·match k,hy with
      | 0,hy=>cases hy; exact .slf fun _ h=>h
      | 1,hy=>cases hy; exact .dead fun _ h=>h
      | k+2,hy=>cases hy
     ·match k,hy with
      | 0,hy=>cases hy; exact hs 0 _ u rfl hu
      | 1,hy=>cases hy
      | k+2,hy=>cases hy
    | 1,hx =>
     cases hx
     refine ⟨_,rfl,.tree (.lit rfl fun c h=>by cases h.1)⟩
    | t+2,hx=>simp [outG] at hx
   ·rw [hc.1] at ht; cases ht
   ·rw [hc.2] at hi
    exact hS.imm 0 b ((hF b).2 (.inl rfl)) hi
   ·match t,h1 with
    | 0,h1=>cases h1
    | 1,h1=>cases h1
    | t+2,h1=>simp [outG] at h1
   ·exact hfr.mono fun c _ h=>⟨0,(hF c).2 (.inr ⟨1,by simp,(hFb c).2 h⟩)⟩
   ·obtain ⟨t,_,rfl⟩:=hc
    exact .inl ⟨0,(hF _).2 (.inl rfl)⟩
end
end Go.Own
namespace Go.Own
open Go
set_option linter.unusedSectionVars false
variable [TB]
set_option linter.unusedVariables false
def nfv0:AV->Option AV
 | .lit v=>some (.lit v)
 | .nils=>some .nils
 | .imm z n cs=>some (.imm z n cs)
 | .own z n cs=>some (.own z n cs)
 | .obj cs=>some (.obj cs)
 | .agg cs=>some (.agg cs)
 | .tup cs=>some (.tup cs)
 | .iptr cs=>some (.iptr cs)
 | .ptr p k=>some (.ptr p k)
 | .brw z p n=>some (.brw z p n)
 | .sub z p l n=>some (.sub z p l n)
 | .pend z p n m c=>some (.pend z p n m c)
 | .clo f a b=>some (.clo f a b)
 | .mp p=>some (.mp p)
 | .mref p=>some (.mref p)
 | .imp p=>some (.imp p)
 | .dead=>some .dead
 | .self k=>some (.self k)
 | .brow t us=>some (.brow t us)
theorem nfv0_eq {x y:AV}(h:nfv0 x=some y):x=y:=by cases x <;> (cases h; rfl)
def nfs0:List AV->Option (List AV)
 | []=>some []
 | x::l=>match nfs0 l with
  | none=>none
  | some r=>match nfv0 x with
   | none=>none
   | some y=>some (y::r)
theorem nfs0_eq:∀ {l r:List AV},nfs0 l=some r->l=r
 | [],r,h=>by cases h; rfl
 | x::l,r,h=>by
  unfold nfs0 at h
  split at h
  ·cases h
  ·rename_i r' hr
   split at h
   ·cases h
   ·rename_i y hy
    cases h; rw [nfs0_eq hr,nfv0_eq hy]
def nfv:AV->Option AV
 | .agg cs=>match nfs0 cs with
  | some r=>some (.agg r)
  | none=>none
 | x=>nfv0 x
theorem nfv_eq {x y:AV}(h:nfv x=some y):x=y:=by
 unfold nfv at h
 split at h
 ·split at h
  ·rename_i hr
   cases h; rw [nfs0_eq hr]
  ·cases h
 ·exact nfv0_eq h
def nfs:List AV->Option (List AV)
 | []=>some []
 | x::l=>match nfs l with
  | none=>none
  | some r=>match nfv x with
   | none=>none
   | some y=>some (y::r)
theorem nfs_eq:∀ {l r:List AV},nfs l=some r->l=r
 | [],r,h=>by cases h; rfl
 | x::l,r,h=>by
  unfold nfs at h
  split at h
  ·cases h
  ·rename_i r' hr
   split at h
   ·cases h
   ·rename_i y hy
    cases h; rw [nfs_eq hr,nfv_eq hy]
def rfS (f:Nat->AV->AV):Nat->List Nat->List AV->Option (List AV)
 | _,_,[]=>some []
 | _,[],_::_=>none
 | k,j::js,x::l=>match rfS f (k+1) js l with
  | none=>none
  | some r=>match Nat.beq j k,nfv (f j x) with
   | true,some y=>some (y::r)
   | _,_=>none
theorem rfS_eq {f:Nat->AV->AV}:∀ {l:List AV}{js:List Nat}{k:Nat}{r:List AV},rfS f k js l=some r->(l.mapIdx fun i x=>f (k+i) x)=r
 | [],js,k,r,h=>by cases js <;> (cases h; rfl)
 | x::l,[],k,r,h=>by cases h
 | x::l,j::js,k,r,h=>by
  unfold rfS at h
  split at h
  ·cases h
  ·rename_i r' hr
   split at h
   ·rename_i y hj hy
    cases h
    have:=Nat.eq_of_beq_eq_true hj
    subst this
    rw [List.mapIdx_cons,<- rfS_eq hr,<- nfv_eq hy]
    simp [Nat.add_comm,Nat.add_left_comm]
   ·cases h
def num:List Nat:=0::1::2::3::4::5::6::7::8::9::10::11::12::13::14::15::16::17::18::19::20::21::22::23::24::25::26::27::28::29::30::31::32::33::34::35::36::37::38::39::40::41::42::43::44::45::46::47::48::49::50::51::52::53::54::55::56::57::58::59::60::61::62::63::64::65::66::67::68::69::70::71::72::73::74::75::76::77::78::79::[]
def rdF (g:Gst):Operand->Option AV
 | .tmp t=>match g t with
  | some (.lit v)=>some (.lit v)
  | some .nils=>some .nils
  | some (.imm z n cs)=>some (.imm z n cs)
  | some (.own z n _)=>some (.brw z ⟨t,[]⟩ n)
  | some (.obj (_::_))=>some (.ptr ⟨t,[]⟩ 0)
  | some (.iptr cs)=>some (.iptr cs)
  | some (.agg cs)=>match rfS (fun i x=>refIn 1 ⟨t,[i]⟩ x) 0 num cs with
   | some r=>some (.agg r)
   | none=>none
  | some (.tup cs)=>match rfS (fun i x=>refIn 1 ⟨t,[i]⟩ x) 0 num cs with
   | some r=>some (.tup r)
   | none=>none
  | some (.ptr p k)=>some (.ptr p k)
  | some (.brw z p n)=>some (.brw z p n)
  | some (.sub z p l n)=>some (.sub z p l n)
  | some (.pend z _ n m _)=>some (.brw z ⟨t,[]⟩ (n+m))
  | some (.clo fn [] cs)=>some (.clo fn [] cs)
  | some (.mp _)=>some (.mref ⟨t,[]⟩)
  | some (.mref p)=>some (.mref p)
  | some (.imp q)=>some (.imp q)
  | _=>none
 | .const v=>match ofConst v with
  | .lit v=>some (.lit v)
  | .agg cs=>some (.agg cs)
  | .nils=>match v with
   | .slice none 0 0=>some .nils
   | _=>none
  | _=>none
 | .func f=>some (.clo (.func f) [] [])
 | .global _=>none
theorem ofConst_lit {v u:Value}(h:ofConst v=.lit u):u=v:=by
 cases v <;> simp only [ofConst,ofCell] at h <;> first | (cases h; rfl) | (split at h <;> cases h <;> rfl) | cases h
theorem Rd.q {g:Gst}{a:Operand}{y:AV}(h:rdF g a=some y:=by rfl):Rd g a y:=by
 unfold rdF at h
 split at h
 ·split at h <;> first | (split at h <;> cases h <;> first | exact .agg ‹_› (by have:=rfS_eq ‹_›; simpa [Place.push] using this) | exact .tup ‹_› (by have:=rfS_eq ‹_›; simpa [Place.push] using this)) | skip
  all_goals cases h
  all_goals first | exact .lit ‹_› | exact .nils ‹_› | exact .imm ‹_› | exact .own ‹_› | exact .obj ‹_› | exact .iptr ‹_› | exact .ptr ‹_› | exact .brw ‹_› | exact .sub ‹_› | exact .pend ‹_› | exact .clo ‹_› | exact .mp ‹_› | exact .mref ‹_› | exact .imp ‹_›
 ·split at h
  ·rename_i e; cases h; have:=ofConst_lit e; subst this; exact .k e
  ·rename_i e; cases h; exact .kagg e
  ·split at h <;> cases h
   exact .knil
  ·cases h
 ·cases h; exact .func
 ·cases h
def rdP (g:Gst) (t:Nat):Option AV :=
 match g t with
 | some (.lit v)=>some (.lit v)
 | some .nils=>some .nils
 | some (.imm z n cs)=>some (.imm z n cs)
 | some (.iptr cs)=>some (.iptr cs)
 | some (.clo fn [] cs)=>some (.clo fn [] cs)
 | some (.imp q)=>some (.imp q)
 | _=>none
theorem Rd.ql {g:Gst}{t:Nat}{y:AV}(h:rdP g t=some y:=by rfl):Rd g (.tmp t) y:=by
 unfold rdP at h
 split at h <;> cases h <;> first | exact .lit ‹_› | exact .nils ‹_› | exact .imm ‹_› | exact .iptr ‹_› | exact .clo ‹_› | exact .imp ‹_›
class ET (P:Program) (t:TypeId) (α:outParam Type) (en:outParam (En α)):Prop where p:True:=trivial
class Dec {α:Type}(en:En α) (cs:List AV) (y:outParam α):Prop where p:en.cells y=cs
instance {a:Int}:Dec eI [I64 a] a:=⟨rfl⟩
instance {a:Int}:Dec eU [U8 a] a:=⟨rfl⟩
instance {a:Bool}:Dec eB [BB a] a:=⟨rfl⟩
instance {a:ByteArray}:Dec eS [SS a] a:=⟨rfl⟩
instance {α:Type}{en:En α}{l:List α}:Dec (eM en) [.imm en.z l.length (rowc en l)] l:=⟨rfl⟩
class DecL {α:Type}(en:En α) (ys:List AV) (L:outParam (List α)):Prop where p:boxAll ys=some (rowc en L)/\ys.all (fun y=>match boxCells y with | some c=>Nat.beq c.length en.z | none=>false)=true/\L.length=ys.length
instance {α:Type}{en:En α}:DecL en [] []:=⟨⟨rfl,rfl,rfl⟩⟩
theorem DecL.cons {α:Type}{en:En α}{y:AV}{cs:List AV}{ys:List AV}{a:α}{L:List α}(hb:boxCells y=some cs) [h:Dec en cs a] [hl:DecL en ys L]:DecL en (y::ys) (a::L):=by
 refine ⟨⟨?_,?_,?_⟩⟩
 ·simp [boxAll,hb,hl.p.1,rowc,h.p]
 ·simp only [List.all_cons,hb,hl.p.2.1,Bool.and_true]
  rw [<- h.p,en.len]; exact Nat.beq_refl _
 ·simp [hl.p.2.2]
instance {α:Type}{en:En α}{cs ys:List AV}{a:α}{L:List α} [h:Dec en cs a] [hl:DecL en ys L]:DecL en (.agg cs::ys) (a::L):=.cons rfl
instance {α:Type}{en:En α}{v:Value}{ys:List AV}{a:α}{L:List α} [h:Dec en [.lit v] a] [hl:DecL en ys L]:DecL en (.lit v::ys) (a::L):=.cons rfl
instance {α:Type}{en:En α}{z n:Nat}{cs:List AV}{ys:List AV}{a:α}{L:List α} [h:Dec en [.imm z n cs] a] [hl:DecL en ys L]:DecL en (.imm z n cs::ys) (a::L):=.cons rfl
def seenB (d:Nat):List Oper->Bool
 | []=>false
 | o::l=>(match o.op with
  | .call { callee:=.value _,args:=xs,argTypes:=_ }=>xs.toList.any fun x=>match x with | .tmp t=>Nat.beq t d | _=>false
  | .call { callee:=.builtin .append,args:=xs,argTypes:=_ }=>match xs.toList with | [_,.tmp t]=>Nat.beq t d | _=>false
  | .convert _ _ (.tmp t)=>Nat.beq t d
  | .build _ ps=>ps.toList.any fun x=>match x.2 with | .tmp t=>Nat.beq t d | _=>false
  | .buildSlice _ _ ps=>ps.toList.any fun x=>match x.2 with | .tmp t=>Nat.beq t d | _=>false
  | _=>false)||seenB d l
class F0 (P:Program):Prop where p:P.follows .mixedOrders=true:=by kernel_rfl
class F5 (P:Program) (t:TypeId) (k:outParam Nat):Prop where p:aggT P t k=true:=by kernel_rfl
class F6 (P:Program) (t:TypeId) (z:outParam Value):Prop where p:(P.info? t).bind (·.zero)=some z:=by kernel_rfl
class FB (P:Program) (e:TypeId) (t:outParam TypeId):Prop where p:(P.info? e).bind (·.zero)=some (.agg #[.pointer none,.slice none 0 0]):=by kernel_rfl
class F7 (P:Program) (t:TypeId) (pl:outParam (List (Nat × Nat))):Prop where p:structT P t pl=true:=by kernel_rfl
class F8 (P:Program) (t:TypeId) (e z b:outParam Nat):Prop where p:appT P t e z b=true:=by kernel_rfl
class F9 (P:Program) (t:TypeId) (k:outParam IntKind):Prop where p:intT P t k=true:=by kernel_rfl
class Fb (P:Program) (t:TypeId) (b:outParam Nat):Prop where p:(P.info? t).map (·.bytes)=some b:=by kernel_rfl
section
variable {α β:Type}{P:Program}{g:Gst}{ty t t2:TypeId}{a b:Operand}{k r z n:Nat}{cs cs':List AV}{x y:AV}{p q:Place}{m:Int}{ki ki':IntKind}{e:TypeId}{N:Rm}{ops:Array Oper}{b0:Nat}
theorem O.w0 (hx:Rd g a y:=by exact .q) (hc:(boxCells y).bind nfs=some cs:=by rfl):PS P g (.box e a) ty (.obj cs):=by
 cases hb:boxCells y with
 | none=>rw [hb] at hc; cases hc
 | some c=>rw [hb] at hc; have:=nfs_eq hc; subst this; exact O.box hx hb
theorem O.w1 {v:Value} [h:F1 P t] (hx:Rd g a (.ptr ⟨r,[]⟩ k):=by exact .q) (hs:g r=some (.obj cs):=by rfl) (hc:cs[k]?=some (.lit v):=by rfl):PS P g (.load t a) ty (.lit v):=O.ldOl hs hx h.p hc
theorem O.w2 [h:F1 P t] (hx:Rd g a (.iptr cs):=by exact .q) (hc:cs.head?.bind nfv=some x:=by rfl):PS P g (.load t a) ty x:=by
 cases hb:cs.head? with
 | none=>rw [hb] at hc; cases hc
 | some c=>rw [hb] at hc; have:=nfv_eq hc; subst this; exact O.ldI hx h.p hb
theorem O.w3 [h:F1 P t] (hx:Rd g a (.ptr ⟨r,[]⟩ k):=by exact .q) (hs:g r=some (.obj cs):=by rfl) (hc:cs[k]?=some x:=by rfl) (hy:nfv (refIn 0 ⟨r,[k]⟩ x)=some y:=by rfl):PS P g (.load t a) ty y:=O.ldO hs hx h.p hc (nfv_eq hy)
theorem O.w4 [h:F5 P t z] (hx:Rd g a (.ptr ⟨r,[]⟩ k):=by exact .q) (hs:g r=some (.obj cs):=by rfl) (hk:Nat.ble (k+z) cs.length=true:=by rfl) (hc:rfS (fun i x=>refIn 0 ⟨r,[i]⟩ x) k (num.drop k) ((cs.drop k).take z)=some cs':=by rfl):PS P g (.load t a) ty (.agg cs'):=O.ldON hs hx h.p hk (rfS_eq hc)
theorem O.w9 [h:F5 P t z] (hx:Rd g a (.iptr cs):=by exact .q) (hc:nfs (cs.take z)=some cs':=by rfl) (hz:cs'.length=z:=by rfl):PS P g (.load t a) ty (.agg cs'):=O.ldIN hx h.p (nfs_eq hc) hz
theorem O.we {en:En α}{L:List α}{y:α}{o:Nat}{x x':AV} [ht:F1 P t] (hx:Rd g a (.ptr p (m.toNat * en.z+o)):=by exact .q) (hp:atP g p=some (oR en L):=by rfl) (h:idx L m=some y:=by assumption) (hc:(en.cells y)[o]?=some x:=by rfl) (hr:nfv (refIn 0 (p.push (m.toNat * en.z+o)) x)=some x':=by rfl):PS P g (.load t a) ty x':=O.ldE hp hx ht.p h hc (nfv_eq hr)
theorem O.wz {en:En α}{L:List α}{y:α}{o:Nat} [ht:F5 P t z] (hx:Rd g a (.ptr p (m.toNat * en.z+o)):=by exact .q) (hp:atP g p=some (oR en L):=by rfl) (h:idx L m=some y:=by assumption) (hz:Nat.ble (o+z) en.z=true:=by rfl) (hc:nfs ((((en.cells y).drop o).take z).mapIdx (fun i x=>refIn 0 (p.push (m.toNat * en.z+o+i)) x))=some cs':=by rfl):PS P g (.load t a) ty (.agg cs'):=O.ldEN hp hx ht.p h hz (nfs_eq hc)
theorem O.w5 {s' f off:Nat} [h:F4 P s' f off t] (hx:Rd g a (.ptr ⟨r,[]⟩ k):=by exact .q) (hs:g r=some (.obj cs):=by rfl) (hl:Nat.blt (k+off) cs.length=true:=by rfl):PS P g (.fieldAddr s' a f) ty (.ptr ⟨r,[]⟩ (k+off)):=O.fO hs hx h.p hl
theorem O.w6 {s' f off:Nat} [h:F4 P s' f off t] (hx:Rd g a (.iptr cs):=by exact .q):PS P g (.fieldAddr s' a f) ty (.iptr (cs.drop off)):=O.fI hx h.p
theorem O.wf {en:En α}{L:List α}{y:α}{s' f off o o':Nat} [hf:F4 P s' f off t] (hx:Rd g a (.ptr p (m.toNat * en.z+o)):=by exact .q) (hp:atP g p=some (oR en L):=by rfl) (h:idx L m=some y:=by assumption) (ho:o+off=o':=by rfl) (hlt:Nat.blt o' en.z=true:=by rfl):PS P g (.fieldAddr s' a f) ty (.ptr p (m.toNat * en.z+o')):=O.fE hp hx hf.p h ho hlt
theorem O.w7 {en:En α}{L:List α}{y:α}{z':Nat}(h:idx L m=some y) [h3:F3 P t e z'] (hx:Rd g a (.imm en.z L.length (rowc en L)):=by exact .q) (hy:Rd g b (.lit (.int ki m)):=by exact .q) (hz:z'=en.z:=by rfl):PS P g (.indexAddr t a b) ty (.iptr (en.cells y++rowc en (L.drop (m.toNat+1)))):=O.ixI hx hy (hz ▸ h3.p) h
theorem O.w8 {en:En α}{L:List α}{y:α}{z':Nat}(h:idx L m=some y) [h3:F3 P t e z'] (hx:Rd g a (.brw en.z p L.length):=by exact .q) (hp:atP g p=some (oR en L):=by rfl) (hy:Rd g b (.lit (.int ki m)):=by exact .q) (hz:z'=en.z:=by rfl) (h0:Nat.blt 0 en.z=true:=by rfl):PS P g (.indexAddr t a b) ty (.ptr p (m.toNat * en.z+0)):=O.ixO hp hx hy (hz ▸ h3.p) h h0
theorem O.wx {p i:Nat}{cs:List AV}{x y:AV}(hx:g p=some (.tup cs):=by rfl) (hy:cs[i]?=some x:=by rfl) (hr:nfv (refIn 1 (Place.push ⟨p,[]⟩ i) x)=some y:=by rfl):PS P g (.extract (.tmp p) i) ty y:=O.ex hx hy (nfv_eq hr)
theorem O.wc [h1:F9 P t ki] [h2:F9 P t2 ki'] (hx:Rd g a (.lit (.int ki m)):=by exact .q):PS P g (.convert t t2 a) ty (.lit (.int ki' (ki'.wrap m))):=O.cvI hx h1.p h2.p
theorem O.wb {L:List Int}(hx:Rd g a (.imm eU.z L.length (rowc eU L)):=by exact .q) (ht:bytT P t t2=true:=by kernel_rfl):PS P g (.convert t t2 a) ty (SS (strOfNums L)):=O.cvC hx ht
theorem O.wB {t5:TypeId} [h:FB P e t5]:PS P g (.alloc e) ty (.obj [.self (0,e),.brow t5 (Lib.strCells ⟨#[]⟩)]):=.p2 (.allocB h.p rfl)
theorem O.wa {zv:Value} [h:F6 P e zv] (h1:zv.cells.toList.all Value.oneCell'=true:=by rfl) (hc:nfs (zv.cells.toList.map ofCell)=some cs:=by rfl):PS P g (.alloc e) ty (.obj cs):=O.al h.p h1 (nfs_eq hc)
theorem O.wu {parts:Array (Nat × Operand)}{pl:List (Nat × Nat)}{zv:Value}{ps:List (Nat × List AV)} [ht:F7 P t pl] [hz:F6 P t zv] (h1:zv.cells.toList.all Value.oneCell'=true:=by rfl)
  (hp:partsAV g parts.toList=some ps:=by rfl) (hc:(fillAV (fun i=>pl[i]?) (zv.cells.toList.map ofCell) ps).bind nfs=some cs:=by rfl):PS P g (.build t parts) ty (.agg cs):=by
 cases hb:fillAV (fun i=>pl[i]?) (zv.cells.toList.map ofCell) ps with
 | none=>rw [hb] at hc; cases hc
 | some c=>rw [hb] at hc; have:=nfs_eq hc; subst this; exact O.bu ht.p hz.p h1 hp hb
theorem O.wd {s' f off:Nat} [h:F4 P s' f off t] [ht:F1 P t] (hx:Rd g a (.agg cs):=by exact .agg rfl rfl) (hy:cs[off]?.bind nfv=some x:=by rfl):PS P g (.field s' a f) ty x:=by
 cases hb:cs[off]? with
 | none=>rw [hb] at hy; cases hy
 | some c=>rw [hb] at hy; have:=nfv_eq hy; subst this; exact O.fd hx h.p ht.p hb
theorem O.wp {en:En α}{L M r:List α}{z':Nat}(h:appO L M=some r) [ht:F8 P t e z' b0] (hs:Rd g a (.brw en.z p L.length):=by exact .q) (hp:atP g p=some (oR en L):=by rfl) (hx:Rd g b y:=by exact .q) (hm:Sr g en y M:=by (first | exact .i | exact .n | exact .o rfl rfl)) (hz:z'=en.z:=by rfl) (hb:Nat.ble b0 128=true:=by rfl) [hno:NoPd g]:PS P g (.call { callee:=.builtin .append,args:=#[a,b],argTypes:=#[t,t] }) ty (.pend en.z p L.length M.length (rowc en M)) :=
 O.ap hs hp hx hm (hz ▸ ht.p) hb h
def litsF:List AV->Option (List Value)
 | []=>some []
 | .lit v::l=>match litsF l with
  | some r=>some (v::r)
  | none=>none
 | _=>none
theorem litsF_eq:∀ {l:List AV}{r:List Value},litsF l=some r->l=r.map .lit
 | [],r,h=>by cases h; rfl
 | x::l,r,h=>by
  unfold litsF at h
  split at h
  ·rename_i e; cases e
  ·rename_i e
   cases e
   split at h
   ·rename_i r' hr
    cases h; rw [litsF_eq hr]; rfl
   ·cases h
  ·cases h
def shF:List Value->Option (List Sh)
 | []=>some []
 | v::l=>match shF l,shOf v with
  | some r,some u=>some (u::r)
  | _,_=>none
theorem shF_eq:∀ {l:List Value}{r:List Sh},shF l=some r->l.map shOf=r.map some
 | [],r,h=>by cases h; rfl
 | v::l,r,h=>by
  unfold shF at h
  split at h
  ·rename_i r1 u hr hs
   cases h; simp [shF_eq hr,hs]
  ·cases h
theorem O.wq {ca cb:List AV}{va vb:List Value}{sh:List Sh}(hx:Rd g a (.agg ca):=by exact .q) (hy:Rd g b (.agg cb):=by exact .q) (hva:litsF ca=some va:=by rfl) (hvb:litsF cb=some vb:=by rfl) (ha:shF va=some sh:=by rfl) (hb:shF vb=some sh:=by rfl) (ht:eqAT P t sh=true:=by kernel_rfl):PS P g (.binOp .eql t a b t2) ty (BB (eqVs va vb)):=O.eqlA (litsF_eq hva ▸ hx) (litsF_eq hvb ▸ hy) (shF_eq ha) (shF_eq hb) ht
theorem O.wn {ca cb:List AV}{va vb:List Value}{sh:List Sh}(hx:Rd g a (.agg ca):=by exact .q) (hy:Rd g b (.agg cb):=by exact .q) (hva:litsF ca=some va:=by rfl) (hvb:litsF cb=some vb:=by rfl) (ha:shF va=some sh:=by rfl) (hb:shF vb=some sh:=by rfl) (ht:eqAT P t sh=true:=by kernel_rfl):PS P g (.binOp .neq t a b t2) ty (BB (!eqVs va vb)):=O.neqA (litsF_eq hva ▸ hx) (litsF_eq hvb ▸ hy) (shF_eq ha) (shF_eq hb) ht
theorem O.wm {en:En α}{z0:α}{r:List α}{z':Nat}{zv:Value}(h:mkO m z0=some r) [het:ET P t α en] [ht:F3 P t e z'] [hzero:F6 P e zv] [hbb:Fb P e b0] (hx:Rd g a (.lit (.int ki m)):=by exact .q) (hy:Rd g b (.lit (.int .i64 m)):=by exact .q) (h1:zv.cells.toList.all Value.oneCell'=true:=by rfl) (hc:zv.cells.toList.map ofCell=en.cells z0:=by rfl) (hz:z'=en.z:=by rfl) (hb:Nat.ble b0 128=true:=by rfl):PS P g (.makeSlice t a b) ty (oR en r) :=
 O.mk (hz ▸ ht.p) hx hy hzero.p h1 hc h hbb.p hb
theorem O.wl {en:En α}{z':Nat} [het:ET P t α en] [ht:F3 P t e z'] (hz:z'=en.z:=by rfl) (hzero:zeroT P e en.z=true:=by kernel_rfl):PS P g (.buildSlice t 0 #[]) ty (oR en ([]:List α)) :=
 O.bs (ys:=[]) en [] (hz ▸ ht.p) rfl rfl rfl rfl rfl rfl hzero (by rw [Nat.zero_mul]; rfl) rfl
theorem O.wo {en:En α}{M r:List α}{z':Nat}(h:appO [] M=some r) [ht:F8 P t e z' b0] (hs:Rd g a .nils:=by exact .q) (hx:Rd g b y:=by exact .q) (hm:Sr g en y M:=by (first | exact .i | exact .n | exact .o rfl rfl)) (hz:z'=en.z:=by rfl) (hb:Nat.ble b0 128=true:=by rfl):PS P g (.call { callee:=.builtin .append,args:=#[a,b],argTypes:=#[t,t] }) ty (oR en M) :=
 O.apN hs hx hm (hz ▸ ht.p) hb h
theorem O.ws0 {en:En α}{L r:List α}{c:Operand}{n:Int}{k:IntKind}{z':Nat}(h:subO L 0 n=some r) [ht:F3 P t e z'] (hx:Rd g a (.imm en.z L.length (rowc en L)):=by exact .q) (hh:Rd g c (.lit (.int k n)):=by exact .q) (hz:z'=en.z:=by rfl):PS P g (.slice t a none (some c) none) ty (iR en r):=O.slI0 hx hh (hz ▸ ht.p) h
theorem O.ws1 {en:En α}{L r:List α}{k:IntKind}{z':Nat}(h:subO L m L.length=some r) [ht:F3 P t e z'] (hx:Rd g a (.imm en.z L.length (rowc en L)):=by exact .q) (hl:Rd g b (.lit (.int k m)):=by exact .q) (hz:z'=en.z:=by rfl):PS P g (.slice t a (some b) none none) ty (iR en r):=O.slI1 hx hl (hz ▸ ht.p) h
theorem O.ws2 {en:En α}{L r:List α}{c:Operand}{n:Int}{k k2:IntKind}{z':Nat}(h:subO L m n=some r) [ht:F3 P t e z'] (hx:Rd g a (.imm en.z L.length (rowc en L)):=by exact .q) (hl:Rd g b (.lit (.int k m)):=by exact .q) (hh:Rd g c (.lit (.int k2 n)):=by exact .q) (hz:z'=en.z:=by rfl):PS P g (.slice t a (some b) (some c) none) ty (iR en r):=O.slI hx hl hh (hz ▸ ht.p) h
def lbq:List Nat->List Nat->Bool
 | [],[]=>true
 | a::l,b::m=>Nat.beq a b&&lbq l m
 | _,_=>false
def pnq (p q:Place):Bool:=!(Nat.beq p.root q.root&&lbq p.path q.path)
theorem lbq_rf:∀ (l:List Nat),lbq l l=true
 | []=>rfl
 | a::l=>by unfold lbq; rw [lbq_rf l,Nat.beq_refl]; rfl
theorem pnq_ne {p q:Place}(h:pnq p q=true):p≠q:=by
 rintro rfl
 unfold pnq at h
 rw [Nat.beq_refl,lbq_rf] at h
 cases h
def noQl (p:Place):List (Nat × AV)->Bool
 | []=>true
 | (_,.pend _ q _ _ _)::l=>pnq p q&&noQl p l
 | _::l=>noQl p l
theorem noQl_get {p:Place}:∀ {G:List (Nat × AV)},noQl p G=true->∀ t z n m new,get G t≠some (.pend z p n m new)
 | [],_,t,z,n,m,new,e=>by cases e
 | (s,x)::G,h,t,z,n,m,new,e=>by
  simp only [get] at e
  split at e
  ·cases e
   unfold noQl at h
   rw [Bool.and_eq_true] at h
   exact pnq_ne h.1 rfl
  ·refine noQl_get (G:=G) ?_ t z n m new e
   unfold noQl at h
   split at h
   ·rename_i e2; cases e2
   ·rename_i e2; cases e2; rw [Bool.and_eq_true] at h; exact h.2
   ·rename_i e2; cases e2; exact h
def noQa (p:Place):Acc->Bool
 | []=>true
 | (_,_,some (.pend _ q _ _ _))::l=>pnq p q&&noQa p l
 | _::l=>noQa p l
theorem noQ_vis {p:Place}{G:List (Nat × AV)}{A:Nat->Bool}(hG:noQl p G=true):∀ {acc:Acc},noQa p acc=true->∀ t z n m new,visG (get G) A acc t≠some (.pend z p n m new)
 | [],_,t,z,n,m,new,e=>noQl_get hG t z n m new e
 | (k,d,r)::acc,h,t,z,n,m,new,e=>by
  have h2:noQa p acc=true:=by
   unfold noQa at h
   split at h
   ·rename_i e2; cases e2
   ·rename_i e2; cases e2; rw [Bool.and_eq_true] at h; exact h.2
   ·rename_i e2; cases e2; exact h
  simp only [visG] at e
  split at e
  ·split at e
   ·subst e
    unfold noQa at h
    rw [Bool.and_eq_true] at h
    exact pnq_ne h.1 rfl
   ·cases e
  ·exact noQ_vis hG h2 t z n m new e
theorem O.wr {en:En α}{L M r:List α}{z':Nat}{G:List (Nat × AV)}(h:appO L M=some r) [ht:F8 P t e z' b0] (hs:Rd (get G) a (.brw en.z p L.length):=by exact .q) (hp:atP (get G) p=some (oR en L):=by rfl) (hx:Rd (get G) b y:=by exact .q) (hm:Sr (get G) en y M:=by (first | exact .i | exact .n | exact .o rfl rfl)) (hz:z'=en.z:=by rfl) (hb:Nat.ble b0 128=true:=by rfl) (hq:noQl p G=true:=by rfl):PS P (get G) (.call { callee:=.builtin .append,args:=#[a,b],argTypes:=#[t,t] }) ty (.pend en.z p L.length M.length (rowc en M)) :=
 O.ap' hs hp hx hm (hz ▸ ht.p) hb h (noQl_get hq)
theorem O.wv {en:En α}{L M r:List α}{z':Nat}{G:List (Nat × AV)}{A:Nat->Bool}{acc:Acc}(h:appO L M=some r) [ht:F8 P t e z' b0] (hs:Rd (visG (get G) A acc) a (.brw en.z p L.length):=by exact .q) (hp:atP (visG (get G) A acc) p=some (oR en L):=by rfl) (hx:Rd (visG (get G) A acc) b y:=by exact .q) (hm:Sr (visG (get G) A acc) en y M:=by (first | exact .i | exact .n | exact .o rfl rfl)) (hz:z'=en.z:=by rfl) (hb:Nat.ble b0 128=true:=by rfl) (hq:noQl p G=true:=by rfl) (hqa:noQa p acc=true:=by rfl):PS P (visG (get G) A acc) (.call { callee:=.builtin .append,args:=#[a,b],argTypes:=#[t,t] }) ty (.pend en.z p L.length M.length (rowc en M)) :=
 O.ap' hs hp hx hm (hz ▸ ht.p) hb h (noQ_vis hq hqa)
instance {s:Nat}{x:AV}{G:List (Nat × AV)} [h:NoPe s (get G)]:NoPe s (get ((s,x)::G)):=(getc (G:=G) (d:=s) (v:=x)) ▸ (inferInstance:NoPe s (upd (get G) s x))
instance {s d:Nat}{x:AV}{G:List (Nat × AV)} [h:NoPe s (get G)] [hx:NPc x]:NoPe s (get ((d,x)::G)):=(getc (G:=G) (d:=d) (v:=x)) ▸ (inferInstance:NoPe s (upd (get G) d x))
theorem O.w2p {en:En α}{L M M2 r:List α}{z' s:Nat}(h:appO (L++M) M2=some r) [ht:F8 P t e z' b0] (hs:Rd g a (.brw en.z ⟨s,[]⟩ (L.length+M.length)):=by exact .q) (hps:g s=some (.pend en.z q L.length M.length (rowc en M)):=by rfl) (hp:atP g q=some (oR en L):=by rfl) (hx:Rd g b y:=by exact .q) (hm:Sr g en y M2:=by (first | exact .i | exact .n | exact .o rfl rfl)) (hz:z'=en.z:=by rfl) (hb:Nat.ble b0 128=true:=by rfl) [hno:NoPe s g]:PS P g (.call { callee:=.builtin .append,args:=#[a,b],argTypes:=#[t,t] }) ty (.pend en.z ⟨s,[]⟩ (L.length+M.length) M2.length (rowc en M2)) :=
 O.ap2 hs hps hp hx hm (hz ▸ ht.p) hb h
theorem O.wy {en:En β}{r:List (List β)}{z':Nat}{zv:Value}(h:mkO m ([]:List β)=some r) [het:ET P t (List β) (eM en)] [ht:F3 P t e z'] [hzero:F6 P e zv] [hbb:Fb P e b0] (hx:Rd g a (.lit (.int ki m)):=by exact .q) (hy:Rd g b (.lit (.int .i64 m)):=by exact .q) (h1:zv.cells.toList.all Value.oneCell'=true:=by rfl) (hc:zv.cells.toList.map ofCell=[.nils]:=by rfl) (hz:z'=(eM en).z:=by rfl) (hb:Nat.ble b0 128=true:=by rfl):PS P g (.makeSlice t a b) ty (oR (eM en) r) :=
 O.mkN (hz ▸ ht.p) hx hy hzero.p h1 hc h hbb.p hb
theorem O.wk {en:En α}{L:List α}{y:α}{z':Nat} [h3:F3 P t e z'] (hx:Rd g a (.imm en.z L.length (rowc en L)):=by exact .q) (hy:Rd g b (.lit (.int ki m)):=by exact .q) (hz:z'=en.z:=by rfl) (h:idx L m=some y:=by assumption):PS P g (.indexAddr t a b) ty (.iptr (en.cells y++rowc en (L.drop (m.toNat+1)))):=O.ixI hx hy (hz ▸ h3.p) h
theorem O.wj {en:En α}{L:List α}{y:α}{z':Nat} [h3:F3 P t e z'] (hx:Rd g a (.brw en.z p L.length):=by exact .q) (hp:atP g p=some (oR en L):=by rfl) (hy:Rd g b (.lit (.int ki m)):=by exact .q) (hz:z'=en.z:=by rfl) (h0:Nat.blt 0 en.z=true:=by rfl) (h:idx L m=some y:=by assumption):PS P g (.indexAddr t a b) ty (.ptr p (m.toNat * en.z+0)):=O.ixO hp hx hy (hz ▸ h3.p) h h0
end
def ksP (G0:List (Nat × AV)) (ex:List Nat) (sn:List Nat):List (Nat × AV)->Option (List Nat)
 | []=>some []
 | (k,x)::l=>match ksP G0 ex (k::sn) l with
  | none=>none
  | some r=>match !ex.elem k&&!sn.elem k&&(match x with | .ptr ⟨q,[]⟩ _=>!ex.elem q&&(match get G0 q with | some (.obj _)=>true | _=>false) | _=>false) with
   | true=>some (k::r)
   | false=>some r
def okS (g g2:Gst) (r:Nat):List (Nat × AV)->Bool
 | []=>true
 | (s,.ptr ⟨q,[]⟩ k)::l=>!Nat.beq s r&&(match g q,g2 q with | some (.obj cs),some (.obj ct)=>Nat.blt k cs.length&&Nat.blt k ct.length | _,_=>false)&&okS g g2 r l
 | _=>false
theorem okS_spec {g g2:Gst}{r:Nat}{s:Nat}{x:AV}{l:List (Nat × AV)}(h:okS g g2 r ((s,x)::l)=true):(∃ q k cs ct,x=.ptr ⟨q,[]⟩ k/\Nat.beq s r=false/\g q=some (.obj cs)/\Nat.blt k cs.length=true/\g2 q=some (.obj ct)/\Nat.blt k ct.length=true)/\okS g g2 r l=true:=by
 unfold okS at h
 split at h
 ·rename_i e; cases e
 ·rename_i s' q k l' e
  cases e
  rw [Bool.and_eq_true,Bool.and_eq_true] at h
  obtain ⟨⟨h1,h2⟩,h3⟩:=h
  split at h2
  ·rename_i cs ct e1 e2
   rw [Bool.and_eq_true] at h2
   exact ⟨⟨q,k,cs,ct,rfl,by simpa using h1,e1,h2.1,e2,h2.2⟩,h3⟩
  ·cases h2
 ·cases h
theorem get_ne {g:Gst}{r s:Nat}{x y:AV}(h:Nat.beq s r=false) (hx:upd g r x s=some y):g s=some y:=by
 unfold upd at hx
 rw [if_neg (by rintro rfl; rw [Nat.beq_refl] at h; cases h)] at hx
 exact hx
theorem pick_cons {g:Gst}{k:Nat}{ks:List Nat}{G1:List (Nat × AV)}(h:pick g (k::ks)=some G1):∃ x l,g k=some x/\pick g ks=some l/\G1=(k,x)::l:=by
 unfold pick at h
 split at h
 ·rename_i x hx
  split at h
  ·rename_i l hl
   cases h; exact ⟨x,l,hx,hl,rfl⟩
  ·cases h
 ·cases h
theorem pick_S2 {g g2:Gst}{r:Nat}{cs2:List AV}{T:List (Nat × AV)}(hT:TrS g g2 r cs2 T):∀ {ks:List Nat}{G1:List (Nat × AV)},pick (upd g r (.obj cs2)) ks=some G1->(∀ e∈G1,NR e.2)->TrS g g2 r cs2 (G1++T)
 | [],_,h,_=>by cases h; exact hT
 | k::ks,G1,h,hn=>by
  obtain ⟨x,l,hx,hl,rfl⟩:=pick_cons h
  have ih:=pick_S2 hT hl fun e h=>hn e (by simp [h])
  have hx':=hn (k,x) (by simp)
  by_cases e:Nat.beq k r=true
  ·have:=Nat.eq_of_beq_eq_true e
   subst this
   simp only [upd,if_true] at hx
   cases hx
   have:NRl cs2:=⟨by cases hx' with | obj h=>exact h⟩
   exact .b rfl ih
  ·have:NRc x:=⟨hx'⟩
   have e:=Bool.eq_false_iff.2 e
   exact .n e (get_ne e hx) ih
theorem pick_Sp {g g2:Gst}{r:Nat}{cs2:List AV}:∀ {ks:List Nat}{G1:List (Nat × AV)},pick (upd g r (.obj cs2)) ks=some G1->okS g g2 r G1=true->TrS g g2 r cs2 G1
 | [],_,h,_=>by cases h; exact .nil
 | k::ks,G1,h,hn=>by
  obtain ⟨x,l,hx,hl,rfl⟩:=pick_cons h
  obtain ⟨⟨q,j,cs,ct,rfl,h1,h2,h3,h4,h5⟩,h6⟩:=okS_spec hn
  exact .p h1 (get_ne h1 hx) h2 h3 h4 h5 (pick_Sp hl h6)
theorem pick_K2 {g g2:Gst}{ex:List Nat}{T:List (Nat × AV)}(hT:TrK ex g g2 T):∀ {ks:List Nat}{G1:List (Nat × AV)},pick g ks=some G1->(ks.all fun k=>!ex.elem k)=true->(∀ e∈G1,NR e.2)->TrK ex g g2 (G1++T)
 | [],_,h,_,_=>by cases h; exact hT
 | k::ks,G1,h,he,hn=>by
  obtain ⟨x,l,hx,hl,rfl⟩:=pick_cons h
  rw [List.all_cons,Bool.and_eq_true] at he
  have:NRc x:=⟨hn (k,x) (by simp)⟩
  exact .n (by simpa using he.1) hx (pick_K2 hT hl he.2 fun e h=>hn e (by simp [h]))
theorem pick_Kp {g g2:Gst}{ex:List Nat}{r:Nat}:∀ {ks:List Nat}{G1:List (Nat × AV)},pick g ks=some G1->(ks.all fun k=>!ex.elem k)=true->okS g g2 r G1=true->TrK ex g g2 G1
 | [],_,h,_,_=>by cases h; exact .nil
 | k::ks,G1,h,he,hn=>by
  obtain ⟨x,l,hx,hl,rfl⟩:=pick_cons h
  rw [List.all_cons,Bool.and_eq_true] at he
  obtain ⟨⟨q,j,cs,ct,rfl,h1,h2,h3,h4,h5⟩,h6⟩:=okS_spec hn
  exact .p (by simpa using he.1) hx h4 h5 (pick_Kp hl he.2 h6)
def appF:List (Nat × AV)->List (Nat × AV)->Option (List (Nat × AV))
 | [],T=>some T
 | p::l,T=>match appF l T with
  | some r=>some (p::r)
  | none=>none
theorem appF_eq:∀ {l T r:List (Nat × AV)},appF l T=some r->r=l++T
 | [],_,_,h=>by cases h; rfl
 | p::l,T,r,h=>by
  unfold appF at h
  split at h
  ·rename_i r' hr
   cases h; rw [appF_eq hr]; rfl
  ·cases h
theorem bnn {m:Option (List AV)}{ys:List AV}(h:m.bind nfs=some ys):m=some ys:=by
 cases hb:m with
 | none=>rw [hb] at h; cases h
 | some c=>rw [hb] at h; rw [nfs_eq h]
theorem PC.vq {P:Program}{g:Gst}{xs:List Operand}{tys:Array TypeId}{f:FuncId}{ys args:List AV}{outs:List (Option AV)}{res:AV}(hx:(opds g xs).bind nfs=some ys) (hv:VwL g ys args) (hcon:Con P f args outs res) [hr:OOc res] (hf:callT P f=true:=by kernel_rfl) (ho:noneB outs=true:=by rfl):PC P g (.call { callee:=.value (.func f),args:=xs.toArray,argTypes:=tys }) res:=PC.vw (bnn hx) hv hcon hf ho
def EOk (ks kr:List Nat) (P:Program) (N:Rm) (g:Gst) (o:Oper) (g':Gst):Prop:=EO P N g o g'
section
variable {α:Type}{P:Program}{N:Rm}{ops:Array Oper}{g:Gst}{K:Gst->Prop}{l:List Oper}{d r k0 s:Nat}{ty t:TypeId}{pos:String}{after:Array Edge}{a b x:Operand}{cs cs' cs1 cs2:List AV}{y:AV}{G2 Gn Gr:List (Nat × AV)}{u:Option (Nat × Bool)}{p q:Place}{ks kr:List Nat}{en:En α}{L M:List α}
theorem EK.sva (ha:Rd g a (.ptr ⟨r,[]⟩ k0):=by exact .q) (hs:g r=some (.obj cs):=by rfl) (hb:Rd g b (.agg cs'):=by exact .q) (he:splo cs k0 cs'=some cs2:=by rfl) (hp:pick (upd g r (.obj cs2)) ks=some Gn:=by rfl) (hq:pick (upd g r (.obj cs2)) kr=some Gr:=by rfl) (hG:appF Gn Gr=some G2:=by rfl) (hok:okS g (get G2) r Gr=true:=by rfl) (hz:sizeT P t cs'.length=true:=by kernel_rfl) (h0:Nat.blt 0 cs'.length=true:=by rfl) (hr:(get G2 r).isSome=true:=by rfl) [hn:NRl cs'] [hno:NRl cs] [hg:NRg Gn]:EOk ks kr P N g ⟨none,.store t a b,ty,pos,after,none⟩ (get G2) :=
 .sO rfl rfl hs ha hb rfl hz (Nat.ble_eq_true_of_le (splo_eq he).2) h0 (splo_eq he).1 hr (by have:=appF_eq hG; subst this; exact pick_S2 (pick_Sp hq hok) hp hg.p)
theorem EK.sv1 (ha:Rd g a (.ptr ⟨r,[]⟩ k0):=by exact .q) (hs:g r=some (.obj cs):=by rfl) (hb:Rd g b y:=by exact .q) (hc:cellsP y=some [y]:=by rfl) (he:splo cs k0 [y]=some cs2:=by rfl) (hp:pick (upd g r (.obj cs2)) ks=some Gn:=by rfl) (hq:pick (upd g r (.obj cs2)) kr=some Gr:=by rfl) (hG:appF Gn Gr=some G2:=by rfl) (hok:okS g (get G2) r Gr=true:=by rfl) (hz:sizeT P t 1=true:=by kernel_rfl) (hr:(get G2 r).isSome=true:=by rfl) [hn:NRc y] [hno:NRl cs] [hg:NRg Gn]:EOk ks kr P N g ⟨none,.store t a b,ty,pos,after,none⟩ (get G2) :=
 .sO rfl rfl hs ha hb hc hz (Nat.ble_eq_true_of_le (splo_eq he).2) rfl (splo_eq he).1 hr (by have:=appF_eq hG; subst this; exact pick_S2 (pick_Sp hq hok) hp hg.p)
theorem EK.ar (hx:Rd g x (.brw en.z p L.length):=by exact .q) (hp:atP g p=some (oR en L):=by rfl) (hk:pick g ks=some Gn:=by rfl) (hne:(ks.all fun k=>![p.root].elem k)=true:=by rfl) (hq:pick g kr=some Gr:=by rfl) (hG:appF Gn Gr=some G2:=by rfl) (hne2:(kr.all fun k=>![p.root].elem k)=true:=by rfl) (hok:okS g (get G2) 1000000 Gr=true:=by rfl) (hg:get G2 d=none:=by rfl) (hN:N.ok d=true:=by rfl) [hn:NRg Gn]:EOk ks kr P N g ⟨some d,.assign x,ty,pos,after,u⟩ (upd (get G2) d (oR en L)) :=
 .aR rfl rfl hx hp (by have:=appF_eq hG; subst this; exact pick_K2 (pick_Kp hq hne2 hok) hk hne hn.p) hg hN
theorem EK.af (hx:Rd g x y:=by exact .q) (hk:pick g ks=some G2:=by rfl) (hg:get G2 d=none:=by rfl) (hN:N.ok d=true:=by rfl) [hy:NRc y] [hn:NRg G2]:EOk ks kr P N g ⟨some d,.assign x,ty,pos,after,u⟩ (upd (get G2) d y) :=
 .aG rfl rfl hx (.f .nil) .refl (pick_trim hk hn.p) hg hN
theorem EK.apq (hx:Rd g x (.brw en.z ⟨s,[]⟩ (L.length+M.length)):=by exact .q) (hs:g s=some (.pend en.z q L.length M.length (rowc en M)):=by rfl) (hp:atP g q=some (oR en L):=by rfl) (hk:pick g ks=some Gn:=by rfl) (hne:(ks.all fun k=>![s,q.root].elem k)=true:=by rfl) (hqq:pick g kr=some Gr:=by rfl) (hG:appF Gn Gr=some G2:=by rfl) (hne2:(kr.all fun k=>![s,q.root].elem k)=true:=by rfl) (hok:okS g (get G2) 1000000 Gr=true:=by rfl) (hq:Nat.beq q.root s=false:=by rfl) (hg:get G2 d=none:=by rfl) (hN:N.ok d=true:=by rfl) [hn:NRg Gn]:EOk ks kr P N g ⟨some d,.assign x,ty,pos,after,u⟩ (upd (get G2) d (oR en (L++M))) :=
 .aP rfl rfl hx hs hp hq (by have:=appF_eq hG; subst this; exact pick_K2 (pick_Kp hqq hne2 hok) hk hne hn.p) hg hN
theorem EK.se {yy y2:α}{m:Int}{o:Nat}{x0 x2 y0:AV}(ha:Rd g a (.ptr p (m.toNat * en.z+o)):=by exact .q) (hp:atP g p=some (oR en L):=by rfl) (h:idx L m=some yy:=by assumption) (hb:Rd g b y:=by exact .q) (hc:cellsP y=some cs':=by rfl) (he:splice (en.cells yy) o cs'=en.cells y2:=by rfl) (hx0:setP g p (oR en (L.set m.toNat y2)) p.root=some x0:=by rfl) (hx2:nfo x0=some x2:=by rfl) (hk:pick (upd g p.root x2) ks=some G2:=by rfl) (hz:sizeT P t cs'.length=true:=by kernel_rfl) (hlen:Nat.ble (o+cs'.length) en.z=true:=by rfl) (h0:Nat.blt 0 cs'.length=true:=by rfl) (hr:(get G2 p.root).isSome=true:=by rfl) (hy0:g p.root=some y0:=by rfl) [hn:NRc y] [hno:NRc y0] [hg:NRg G2]:EOk ks kr P N g ⟨none,.store t a b,ty,pos,after,none⟩ (get G2) :=
 .stE rfl rfl ha hb hp h hz hc he hlen h0 (by rw [hx0,nfo_eq hx2]) hr hy0 (pick_trX hk hg.p)
theorem EK.sg {g1:Gst}{y1:AV}(hb:Rd g b y) (ht:TkL g [y] [y1] g1) (ha:Rd g a (.ptr ⟨r,[]⟩ k0):=by exact .q) (hc:cellsP y1=some cs':=by rfl) (hs:g1 r=some (.obj cs1):=by rfl) (he:splo cs1 k0 cs'=some cs2:=by rfl) (hk:pick (upd g1 r (.obj cs2)) ks=some Gn:=by rfl) (hk2:pick (upd g1 r (.obj cs2)) kr=some Gr:=by rfl) (hG:appF Gn Gr=some G2:=by rfl) (hok:okS g1 (get G2) r Gr=true:=by rfl) (hz:sizeT P t cs'.length=true:=by kernel_rfl) (h0:Nat.blt 0 cs'.length=true:=by rfl) (hr:(get G2 r).isSome=true:=by rfl) [hno:NRl cs1] [hg:NRg Gn]:EOk ks kr P N g ⟨none,.store t a b,ty,pos,after,none⟩ (get G2) :=
 .stB rfl rfl ha hb ht .refl hc hz hs (Nat.ble_eq_true_of_le (splo_eq he).2) h0 (splo_eq he).1 hr (by have:=appF_eq hG; subst this; exact pick_S2 (pick_Sp hk2 hok) hk hg.p)
theorem EK.ag {g1:Gst}{y1:AV}(hb:Rd g x y) (ht:TkL g [y] [y1] g1) (hk:pick g1 ks=some G2:=by rfl) (hg:get G2 d=none:=by rfl) (hN:N.ok d=true:=by rfl) [hn:NRg G2]:EOk ks kr P N g ⟨some d,.assign x,ty,pos,after,u⟩ (upd (get G2) d y1) :=
 .aG rfl rfl hb ht .refl (pick_trim hk hn.p) hg hN
theorem EK.ap2 {M2:List α}{s2:Nat}(hx:Rd g x (.brw en.z ⟨s,[]⟩ (L.length+M2.length+M.length)):=by exact .q) (hs:g s=some (.pend en.z ⟨s2,[]⟩ (L.length+M2.length) M.length (rowc en M)):=by rfl) (hs2:g s2=some (.pend en.z q L.length M2.length (rowc en M2)):=by rfl) (hp:atP g q=some (oR en L):=by rfl) (hq:Nat.beq q.root s=false:=by rfl) (hq2:Nat.beq q.root s2=false:=by rfl) (hss:Nat.beq s s2=false:=by rfl) (hk:pick g ks=some Gn:=by rfl) (hne:(ks.all fun k=>![s,s2,q.root].elem k)=true:=by rfl) (hqq:pick g kr=some Gr:=by rfl) (hG:appF Gn Gr=some G2:=by rfl) (hne2:(kr.all fun k=>![s,s2,q.root].elem k)=true:=by rfl) (hok:okS g (get G2) 1000000 Gr=true:=by rfl) (hg:get G2 d=none:=by rfl) (hN:N.ok d=true:=by rfl) [hn:NRg Gn]:EOk ks kr P N g ⟨some d,.assign x,ty,pos,after,u⟩ (upd (get G2) d (oR en (L++M2++M))) :=
 .aP2 rfl rfl hx hs hs2 hp hq hq2 hss (by have:=appF_eq hG; subst this; exact pick_K2 (pick_Kp hqq hne2 hok) hk hne hn.p) hg hN
theorem EK.sp (hb:Rd g b (.brw en.z ⟨s,[]⟩ (L.length+M.length)):=by exact .q) (hps:g s=some (.pend en.z q L.length M.length (rowc en M)):=by rfl) (hp:atP g q=some (oR en L):=by rfl) (ha:Rd g a (.ptr ⟨r,[]⟩ k0):=by exact .q) (hs:setP (setP g ⟨s,[]⟩ .dead) q .dead r=some (.obj cs1):=by rfl) (he:splo cs1 k0 [oR en (L++M)]=some cs2:=by rfl) (hk:pick (upd (setP (setP g ⟨s,[]⟩ .dead) q .dead) r (.obj cs2)) ks=some Gn:=by rfl) (hk2:pick (upd (setP (setP g ⟨s,[]⟩ .dead) q .dead) r (.obj cs2)) kr=some Gr:=by rfl) (hG:appF Gn Gr=some G2:=by rfl) (hok:okS (setP (setP g ⟨s,[]⟩ .dead) q .dead) (get G2) r Gr=true:=by rfl) (hq:Nat.beq q.root s=false:=by rfl) (hz:sizeT P t 1=true:=by kernel_rfl) (hr:(get G2 r).isSome=true:=by rfl) [hno:NRl cs1] [hg:NRg Gn]:EOk ks kr P N g ⟨none,.store t a b,ty,pos,after,none⟩ (get G2) :=
 .stP rfl rfl ha hb hps hp hq .ns .rf rfl rfl hz hs (Nat.ble_eq_true_of_le (splo_eq he).2) (splo_eq he).1 hr (by have:=appF_eq hG; subst this; exact pick_S2 (pick_Sp hk2 hok) hk hg.p)
theorem EK.sw (hb:Rd g b (.brw en.z p L.length):=by exact .q) (hp:atP g p=some (oR en L):=by rfl) (ha:Rd g a (.ptr ⟨r,[]⟩ k0):=by exact .q) (hs:setP g p .dead r=some (.obj cs1):=by rfl) (he:splo cs1 k0 [oR en L]=some cs2:=by rfl) (hk:pick (upd (setP g p .dead) r (.obj cs2)) ks=some Gn:=by rfl) (hk2:pick (upd (setP g p .dead) r (.obj cs2)) kr=some Gr:=by rfl) (hG:appF Gn Gr=some G2:=by rfl) (hok:okS (setP g p .dead) (get G2) r Gr=true:=by rfl) (hz:sizeT P t 1=true:=by kernel_rfl) (hr:(get G2 r).isSome=true:=by rfl) [hno:NRl cs1] [hg:NRg Gn]:EOk ks kr P N g ⟨none,.store t a b,ty,pos,after,none⟩ (get G2) :=
 .stB rfl rfl ha hb (.r hp .nil) .refl rfl hz hs (Nat.ble_eq_true_of_le (splo_eq he).2) rfl (splo_eq he).1 hr (by have:=appF_eq hG; subst this; exact pick_S2 (pick_Sp hk2 hok) hk hg.p)
end
def lentF:Nat->List (Option AV)->Option (Nat × List AV)
 | _,[]=>none
 | k,some (.obj cs)::_=>some (k,cs)
 | k,none::l=>lentF (k+1) l
 | _,_=>none
def lroot (g:Gst) (xs:List Operand) (k:Nat):Option Nat :=
 match xs[k]? with
 | some (.tmp t)=>match g t with
  | some (.ptr ⟨r,[]⟩ 0)=>some r
  | some (.obj _)=>some t
  | _=>none
 | _=>none
theorem EK.ln {P:Program}{N:Rm}{g:Gst}{d r k0:Nat}{ty:TypeId}{pos:String}{after:Array Edge}{u:Option (Nat × Bool)}{f:FuncId}{xs:List Operand}{tys:Array TypeId}{ys args cs cs':List AV}{outs:List (Option AV)}{res:AV}{ks:List Nat}{G2:List (Nat × AV)}
  (hcon:Con P f args outs res) (hl:lentF 0 outs=some (k0,cs')) (hr:lroot g xs k0=some r) (hp:pick (setP g ⟨r,[]⟩ .dead) ks=some G2) (hx:(opds g xs).bind nfs=some ys) (ha:LnA r cs k0 0 ys args) (hs:g r=some (.obj cs):=by rfl) (he:outs=out1 args.length k0 (.obj cs'):=by rfl) (hk0:Nat.blt k0 ys.length=true:=by rfl) (hf:callT P f=true:=by kernel_rfl) (hg:get G2 d=none:=by rfl) (hrd:Nat.beq r d=false:=by rfl) (hp4:pick (get ((r,.obj cs')::G2)) ks=some G2:=by rfl) (hN:N.ok d=true:=by rfl) [hno:NRl cs] [hr':NRc res] [hno':NRl cs'] [hn:NRg G2] :
  EO P N g ⟨some d,.call { callee:=.value (.func f),args:=xs.toArray,argTypes:=tys },ty,pos,after,u⟩ (get ((d,res)::(r,.obj cs')::G2)) :=
 .call rfl hN (CallOk.ln (A:=[]) rfl rfl (bnn hx) hs ha hk0 (he ▸ hcon) hf (pick_trim hp hn.p) hg hrd (pick_trim hp4 hn.p) .nil hN)
def accG:Acc->List (Nat × AV)->List (Nat × AV)
 | [],G=>G
 | (_,d,some x)::acc,G=>(d,x)::accG acc G
 | (_,_,none)::acc,G=>accG acc G
def DJ (js:List Nat) (P:Program) (N:Rm) (ops:Array Oper) (AT:List (List Nat)) (g0:Gst) (i:Nat) (acc:Acc) (l:List Oper) (K:Gst->Prop):Prop:=DL P N ops AT g0 i acc l K
section
variable {α β:Type}{P:Program}{N:Rm}{ops:Array Oper}{AT:List (List Nat)}{acc:Acc}{E ks:List Nat}{t x y z:HT}{A B c:Code}{G G1 G2:List (Nat × AV)}{g:Gst}{g':Gst}{Φ Φ':Exit->Gst->Prop}{Ψ:Gst->Prop}{K:Gst->Prop}{id k s d i j0 j s':Nat}{b cc:Bool}{l:List Oper}{o:Oper}{op:Op}{ty ty':TypeId}{pos:String}{after:Array Edge}{v y':AV}{u:Option (Nat × Bool)}{a a1 a2:Operand}
theorem WH.rtg (h:WH E t P N .ret G Φ):WH E t P N .ret G Φ:=h
theorem RunL.ts (h:RunL P N ops (⟨none,.store ty a1 a2,ty',pos,after,u⟩::l) g K):RunL P N ops (⟨none,.store ty a1 a2,ty',pos,after,u⟩::l) g K:=h
theorem DJ.ts {js:List Nat}(h:DJ js P N ops AT g i acc (⟨none,.store ty a1 a2,ty',pos,after,u⟩::l) K):DJ js P N ops AT g i acc (⟨none,.store ty a1 a2,ty',pos,after,u⟩::l) K:=h
theorem DJ.tg (op:Op) (u:Option (Nat × Bool)) {js:List Nat}(h:DJ js P N ops AT g i acc (⟨some d,op,ty,pos,after,u⟩::l) K):DJ js P N ops AT g i acc (⟨some d,op,ty,pos,after,u⟩::l) K:=h
theorem DJ.nl {js:List Nat}(h:DJ js P N ops AT g i acc [] K):DJ js P N ops AT g i acc [] K:=h
def rdL (g:Gst) (d:Nat):Operand->Option AV
 | .tmp t=>bif Nat.beq t d then none else rdP g t
 | .const v=>rdF g (.const v)
 | _=>none
theorem Rd.ov {g:Gst}{a:Operand}{y:AV}(h:rdL g d a=some y):Rd (del g d) a y:=by
 unfold rdL at h
 split at h
 ·rename_i t
  cases hb:Nat.beq t d with
  | true=>rw [hb] at h; cases h
  | false =>
   rw [hb] at h
   have hne:t≠d:=Nat.ne_of_beq_eq_false hb
   refine Rd.ql ?_
   unfold rdP at h ⊢
   simpa [del,hne] using h
 ·exact .q (by unfold rdF at h ⊢; exact h)
 ·cases h
theorem Za {y':AV}(hx:rdL (get G) d a=some v) (hf:get G d=some y') (hl:leaf y'=true) (hk:RunL P N ops l (get ((d,v)::G)) K) (hN:N.ok d=true:=by rfl):RunL P N ops (⟨some d,.assign a,ty,pos,after,none⟩::l) (get G) K:=.over (.assign (Rd.ov hx).opd) hN hf hl (getc ▸ hk)
theorem Zm {y':AV}(hx:rdL (get G) d a=some v) (hf:get G d=some y') (hl:leaf y'=true) (hk:RunL P N ops l (get ((d,v)::G)) K) (hN:N.ok d=true:=by rfl):RunL P N ops (⟨some d,.move a,ty,pos,after,none⟩::l) (get G) K:=.over (.move (Rd.ov hx).opd) hN hf hl (getc ▸ hk)
theorem Es {kr:List Nat}(hk0:ksX [] G=some ks) (hk1:ksP G [] [] G=some kr) (he:EOk ks kr P N (get G) o (get G2)) (hk:RunL P N ops l (get G2) K) (hg:o.guard=none:=by rfl):RunL P N ops (o::l) (get G) K:=.ef hg he hk
theorem Eln {f:FuncId}{xs:List Operand}{tys:Array TypeId}{ys args cs cs':List AV}{outs:List (Option AV)}{res:AV}{r k0:Nat}(hcon:Con P f args outs res) (hl:lentF 0 outs=some (k0,cs')) (hr:lroot (get G) xs k0=some r) (hk:ksX [r,d] G=some ks) (hp:pick (setP (get G) ⟨r,[]⟩ .dead) ks=some G2) (hx:(opds (get G) xs).bind nfs=some ys) (ha:LnA r cs k0 0 ys args) (hK:RunL P N ops l (get ((d,res)::(r,.obj cs')::G2)) K) (hs:get G r=some (.obj cs):=by rfl) (he:outs=out1 args.length k0 (.obj cs'):=by rfl) (hk0:Nat.blt k0 ys.length=true:=by rfl) (hf:callT P f=true:=by kernel_rfl) (hg:get G2 d=none:=by rfl) (hrd:Nat.beq r d=false:=by rfl) (hp4:pick (get ((r,.obj cs')::G2)) ks=some G2:=by rfl) (hN:N.ok d=true:=by rfl) [hno:NRl cs] [hr':NRc res] [hno':NRl cs'] [hn:NRg G2] :
  RunL P N ops (⟨some d,.call { callee:=.value (.func f),args:=xs.toArray,argTypes:=tys },ty,pos,after,none⟩::l) (get G) K:=.ef rfl (EK.ln hcon hl hr hp hx ha hs he hk0 hf hg hrd hp4 hN) hK
theorem Dln {js:List Nat}{f:FuncId}{xs:List Operand}{tys:Array TypeId}{ys args cs cs':List AV}{outs:List (Option AV)}{res:AV}{r k0:Nat}(hcon:Con P f args outs res) (hl:lentF 0 outs=some (k0,cs')) (hr:lroot (visG (get G) (fun _=>true) acc) xs k0=some r) (hk:ksX [r,d] (accG acc G)=some ks) (hp:pick (setP (visG (get G) (fun _=>true) acc) ⟨r,[]⟩ .dead) ks=some G2) (hx:(opds (visG (get G) (fun _=>true) acc) xs).bind nfs=some ys) (ha:LnA r cs k0 0 ys args) (hK:DJ js P N ops AT (get ((d,res)::(r,.obj cs')::G2)) (j0+1) [] l K) (hs:visG (get G) (fun _=>true) acc r=some (.obj cs):=by rfl) (he:outs=out1 args.length k0 (.obj cs'):=by rfl) (hk0:Nat.blt k0 ys.length=true:=by rfl) (hf:callT P f=true:=by kernel_rfl) (hg:get G2 d=none:=by rfl) (hrd:Nat.beq r d=false:=by rfl) (hp4:pick (get ((r,.obj cs')::G2)) ks=some G2:=by rfl) (hN:N.ok d=true:=by rfl) [hno:NRl cs] [hr':NRc res] [hno':NRl cs'] [hn:NRg G2] (hpd:ndr ((acc.filterMap pendPlace).map Place.root)=true:=by rfl) (hp0:npB G=true:=by rfl) (hj:Nat.beq ops.size (j0+l.length+1)=true:=by rfl)
  (ha':(List.range j0).all (fun k=>(AT.getD j0 []).contains k)=true:=by kernel_rfl) (hb:(List.range ops.size).all (fun k=>Nat.ble k j0||(AT.getD k []).contains j0)=true:=by kernel_rfl) :
  DJ (j0::js) P N ops AT (get G) i acc (⟨some d,.call { callee:=.value (.func f),args:=xs.toArray,argTypes:=tys },ty,pos,after,none⟩::l) K:=DL.bp j0 (EK.ln hcon hl hr hp hx ha hs he hk0 hf hg hrd hp4 hN) rfl hpd hp0 hj ha' hb hK
theorem Em {kr:List Nat}(hk0:ksX (d::roots G a) G=some ks) (hk1:ksP G (d::roots G a) [] G=some kr) (he:EOk ks kr P N (get G) ⟨some d,.assign a,ty,pos,after,none⟩ (upd (get G2) d v)) (hk:RunL P N ops l (get ((d,v)::G2)) K):RunL P N ops (⟨some d,.assign a,ty,pos,after,none⟩::l) (get G) K:=.ea rfl he (getc ▸ hk)
theorem Vb {L:List α}{f:List α->Option β}{rr:β}{M:List α}{e nn z':Nat}{tt:TypeId}{parts:Array (Nat × Operand)}{ys:List AV}{en:En α}(h:(appO L M).bind f=some rr) [het:ET P tt α en] [ht:F3 P tt e z'] (hk:RunL P N ops l (get ((d,iR en M)::G)) K) (hx:(opds (get G) (parts.toList.map (·.2))).bind nfs=some ys:=by rfl) (hc:boxAll ys=some (rowc en M):=by rfl) (hz:ys.all (fun y=>match boxCells y with | some c=>Nat.beq c.length en.z | none=>false)=true:=by rfl) (hp:parts.toList=(parts.toList.map (·.2)).mapIdx (fun i x=>(i,x)):=by rfl) (hnn:(parts.toList.map (·.2)).length=nn:=by rfl) (hl:M.length=nn:=by rfl) (hez:z'=en.z:=by rfl) (hzero:zeroT P e en.z=true:=by kernel_rfl) (hb:Nat.ble (nn * en.z) 16777216=true:=by rfl) (hb2:Nat.ble nn 16777216=true:=by rfl) [hv:Vw (oR en M) (iR en M)] (hN:N.ok d=true:=by rfl) (hf:get G d=none:=by rfl):RunL P N ops (⟨some d,.buildSlice tt nn parts,ty,pos,after,none⟩::l) (get G) K :=
 .vi (O.bs en M (hez ▸ ht.p) (bnn hx) hc hz hp hnn hl hzero hb hb2) hN hf .none (getc ▸ hk)
theorem Vv (M:List α) {e nn z':Nat}{tt:TypeId}{parts:Array (Nat × Operand)}{ys:List AV}{en:En α}(hs:seenB d l=false) [het:ET P tt α en] [ht:F3 P tt e z'] (hk:RunL P N ops l (get ((d,oR en M)::G)) K) (hx:(opds (get G) (parts.toList.map (·.2))).bind nfs=some ys:=by rfl) (hc:boxAll ys=some (rowc en M):=by rfl) (hz:ys.all (fun y=>match boxCells y with | some c=>Nat.beq c.length en.z | none=>false)=true:=by rfl) (hp:parts.toList=(parts.toList.map (·.2)).mapIdx (fun i x=>(i,x)):=by rfl) (hnn:(parts.toList.map (·.2)).length=nn:=by rfl) (hl:M.length=nn:=by rfl) (hez:z'=en.z:=by rfl) (hzero:zeroT P e en.z=true:=by kernel_rfl) (hb:Nat.ble (nn * en.z) 16777216=true:=by rfl) (hb2:Nat.ble nn 16777216=true:=by rfl) (hN:N.ok d=true:=by rfl) (hf:get G d=none:=by rfl):RunL P N ops (⟨some d,.buildSlice tt nn parts,ty,pos,after,none⟩::l) (get G) K :=
 Vq (O.bs en M (hez ▸ ht.p) (bnn hx) hc hz hp hnn hl hzero hb hb2) hk hN hf
theorem Vl {M:List α}{e nn z':Nat}{tt:TypeId}{parts:Array (Nat × Operand)}{ys:List AV}{en:En α}(hs:seenB d l=true) [het:ET P tt α en] [ht:F3 P tt e z'] (hk:RunL P N ops l (get ((d,iR en M)::G)) K) (hx:(opds (get G) (parts.toList.map (·.2))).bind nfs=some ys:=by rfl) [hd:DecL en ys M] (hp:parts.toList=(parts.toList.map (·.2)).mapIdx (fun i x=>(i,x)):=by rfl) (hnn:(parts.toList.map (·.2)).length=nn:=by rfl) (hl:ys.length=nn:=by rfl) (hez:z'=en.z:=by rfl) (hzero:zeroT P e en.z=true:=by kernel_rfl) (hb:Nat.ble (nn * en.z) 16777216=true:=by rfl) (hb2:Nat.ble nn 16777216=true:=by rfl) [hv:Vw (oR en M) (iR en M)] (hN:N.ok d=true:=by rfl) (hf:get G d=none:=by rfl):RunL P N ops (⟨some d,.buildSlice tt nn parts,ty,pos,after,none⟩::l) (get G) K :=
 .vi (O.bs en M (hez ▸ ht.p) (bnn hx) hd.p.1 hd.p.2.1 hp hnn (hd.p.2.2.trans hl) hzero hb hb2) hN hf .none (getc ▸ hk)
theorem Vn {M:List α}{e nn z':Nat}{tt:TypeId}{parts:Array (Nat × Operand)}{ys:List AV}{en:En α}(hs:seenB d l=false) [het:ET P tt α en] [ht:F3 P tt e z'] (hk:RunL P N ops l (get ((d,oR en M)::G)) K) (hx:(opds (get G) (parts.toList.map (·.2))).bind nfs=some ys:=by rfl) [hd:DecL en ys M] (hp:parts.toList=(parts.toList.map (·.2)).mapIdx (fun i x=>(i,x)):=by rfl) (hnn:(parts.toList.map (·.2)).length=nn:=by rfl) (hl:ys.length=nn:=by rfl) (hez:z'=en.z:=by rfl) (hzero:zeroT P e en.z=true:=by kernel_rfl) (hb:Nat.ble (nn * en.z) 16777216=true:=by rfl) (hb2:Nat.ble nn 16777216=true:=by rfl) (hN:N.ok d=true:=by rfl) (hf:get G d=none:=by rfl):RunL P N ops (⟨some d,.buildSlice tt nn parts,ty,pos,after,none⟩::l) (get G) K :=
 Vq (O.bs en M (hez ▸ ht.p) (bnn hx) hd.p.1 hd.p.2.1 hp hnn (hd.p.2.2.trans hl) hzero hb hb2) hk hN hf
theorem Dq {js:List Nat}(hp:PS P (vis AT g j0 acc) op ty v) (hk:DJ js P N ops AT g i ((j0,d,some v)::acc) l K) (hj:Nat.beq ops.size (j0+l.length+1)=true:=by rfl) (hf:g d=none:=by rfl) (hn:acc.all (fun e=>!Nat.beq e.2.1 d)=true:=by rfl) (hN:N.ok d=true:=by rfl):DJ (j0::js) P N ops AT g i acc (⟨some d,op,ty,pos,after,none⟩::l) K:=Dv _ hp hk hj hf hn hN
theorem Dy {js:List Nat}(hp:PS P (vis AT g j0 acc) op ty v) (hk:DJ js P N ops AT g i ((j0,d,some v)::acc) l K) (h:(ops[j]?).bind (·.dst)=some s':=by rfl) (hg:vis AT g j0 acc s'=some (.lit (.bool cc)):=by rfl) (hb:cc=b:=by (first | rfl | assumption)) (hj:Nat.beq ops.size (j0+l.length+1)=true:=by rfl) (hf:g d=none:=by rfl) (hn:acc.all (fun e=>!Nat.beq e.2.1 d)=true:=by rfl) (hN:N.ok d=true:=by rfl):DJ (j0::js) P N ops AT g i acc (⟨some d,op,ty,pos,after,some (j,b)⟩::l) K:=.v _ hp hj hf hn hN (.yb h hg hb) hk
theorem Dk {js:List Nat}(hp:PC P (vis AT g j0 acc) op v) (hk:DJ js P N ops AT g i ((j0,d,some v)::acc) l K) (hj:Nat.beq ops.size (j0+l.length+1)=true:=by rfl) (hf:g d=none:=by rfl) (hn:acc.all (fun e=>!Nat.beq e.2.1 d)=true:=by rfl) (hN:N.ok d=true:=by rfl):DJ (j0::js) P N ops AT g i acc (⟨some d,op,ty,pos,after,none⟩::l) K:=.c _ hp hj hf hn hN .none hk
theorem Dg {js:List Nat}(hp:PC P (vis AT g j0 acc) op v) (hk:DJ js P N ops AT g i ((j0,d,some v)::acc) l K) (h:(ops[j]?).bind (·.dst)=some s':=by rfl) (hg:vis AT g j0 acc s'=some (.lit (.bool cc)):=by rfl) (hb:cc=b:=by (first | rfl | assumption)) (hj:Nat.beq ops.size (j0+l.length+1)=true:=by rfl) (hf:g d=none:=by rfl) (hn:acc.all (fun e=>!Nat.beq e.2.1 d)=true:=by rfl) (hN:N.ok d=true:=by rfl):DJ (j0::js) P N ops AT g i acc (⟨some d,op,ty,pos,after,some (j,b)⟩::l) K:=.c _ hp hj hf hn hN (.yb h hg hb) hk
theorem Ds' {js:List Nat}(hk:DJ js P N ops AT g i ((j0,d,some (.tup []))::acc) l K) (h:(ops[j]?).bind (·.dst)=some s':=by rfl) (hg:vis AT g j0 acc s'=some (.lit (.bool cc)):=by rfl) (hb:cc=!b:=by (first | rfl | assumption)) (hj:Nat.beq ops.size (j0+l.length+1)=true:=by rfl) (hf:g d=none:=by rfl) (hn:acc.all (fun e=>!Nat.beq e.2.1 d)=true:=by rfl) (hN:N.ok d=true:=by rfl):DJ (j0::js) P N ops AT g i acc (⟨some d,op,ty,pos,after,some (j,b)⟩::l) K:=.ps _ h hg hb hj hf hn hN hk
theorem Du' {js:List Nat}(hk:DJ js P N ops AT g i ((j0,d,some (.tup []))::acc) l K) (h:(ops[j]?).bind (·.dst)=some s':=by rfl) (hg:vis AT g j0 acc s'=some (.tup []):=by rfl) (hj:Nat.beq ops.size (j0+l.length+1)=true:=by rfl) (hf:g d=none:=by rfl) (hn:acc.all (fun e=>!Nat.beq e.2.1 d)=true:=by rfl) (hN:N.ok d=true:=by rfl):DJ (j0::js) P N ops AT g i acc (⟨some d,op,ty,pos,after,some (j,b)⟩::l) K:=.pu _ h hg hj hf hn hN hk
theorem Db {js:List Nat}{L:List α}{f:List α->Option β}{rr:β}{M:List α}{e nn z':Nat}{tt:TypeId}{parts:Array (Nat × Operand)}{ys:List AV}{en:En α}(h:(appO L M).bind f=some rr) [het:ET P tt α en] [ht:F3 P tt e z'] (hk:DJ js P N ops AT g i ((j0,d,some (iR en M))::acc) l K) (hx:(opds (vis AT g j0 acc) (parts.toList.map (·.2))).bind nfs=some ys:=by rfl) (hc:boxAll ys=some (rowc en M):=by rfl) (hz:ys.all (fun y=>match boxCells y with | some c=>Nat.beq c.length en.z | none=>false)=true:=by rfl) (hp:parts.toList=(parts.toList.map (·.2)).mapIdx (fun i x=>(i,x)):=by rfl) (hnn:(parts.toList.map (·.2)).length=nn:=by rfl) (hl:M.length=nn:=by rfl) (hez:z'=en.z:=by rfl) (hzero:zeroT P e en.z=true:=by kernel_rfl) (hb:Nat.ble (nn * en.z) 16777216=true:=by rfl) (hb2:Nat.ble nn 16777216=true:=by rfl) [hv:Vw (oR en M) (iR en M)] (hj:Nat.beq ops.size (j0+l.length+1)=true:=by rfl) (hf:g d=none:=by rfl) (hn:acc.all (fun e=>!Nat.beq e.2.1 d)=true:=by rfl) (hN:N.ok d=true:=by rfl):DJ (j0::js) P N ops AT g i acc (⟨some d,.buildSlice tt nn parts,ty,pos,after,none⟩::l) K :=
 DL.vi j0 (O.bs en M (hez ▸ ht.p) (bnn hx) hc hz hp hnn hl hzero hb hb2) hj hf hn hN .none hk
theorem Du {js:List Nat}(M:List α) {e nn z':Nat}{tt:TypeId}{parts:Array (Nat × Operand)}{ys:List AV}{en:En α}(hs:seenB d l=true) [het:ET P tt α en] [ht:F3 P tt e z'] (hk:DJ js P N ops AT g i ((j0,d,some (iR en M))::acc) l K) (hx:(opds (vis AT g j0 acc) (parts.toList.map (·.2))).bind nfs=some ys:=by rfl) (hc:boxAll ys=some (rowc en M):=by rfl) (hz:ys.all (fun y=>match boxCells y with | some c=>Nat.beq c.length en.z | none=>false)=true:=by rfl) (hp:parts.toList=(parts.toList.map (·.2)).mapIdx (fun i x=>(i,x)):=by rfl) (hnn:(parts.toList.map (·.2)).length=nn:=by rfl) (hl:M.length=nn:=by rfl) (hez:z'=en.z:=by rfl) (hzero:zeroT P e en.z=true:=by kernel_rfl) (hb:Nat.ble (nn * en.z) 16777216=true:=by rfl) (hb2:Nat.ble nn 16777216=true:=by rfl) [hv:Vw (oR en M) (iR en M)] (hj:Nat.beq ops.size (j0+l.length+1)=true:=by rfl) (hf:g d=none:=by rfl) (hn:acc.all (fun e=>!Nat.beq e.2.1 d)=true:=by rfl) (hN:N.ok d=true:=by rfl):DJ (j0::js) P N ops AT g i acc (⟨some d,.buildSlice tt nn parts,ty,pos,after,none⟩::l) K :=
 DL.vi j0 (O.bs en M (hez ▸ ht.p) (bnn hx) hc hz hp hnn hl hzero hb hb2) hj hf hn hN .none hk
theorem Dv2 {js:List Nat}(M:List α) {e nn z':Nat}{tt:TypeId}{parts:Array (Nat × Operand)}{ys:List AV}{en:En α}(hs:seenB d l=false) [het:ET P tt α en] [ht:F3 P tt e z'] (hk:DJ js P N ops AT g i ((j0,d,some (oR en M))::acc) l K) (hx:(opds (vis AT g j0 acc) (parts.toList.map (·.2))).bind nfs=some ys:=by rfl) (hc:boxAll ys=some (rowc en M):=by rfl) (hz:ys.all (fun y=>match boxCells y with | some c=>Nat.beq c.length en.z | none=>false)=true:=by rfl) (hp:parts.toList=(parts.toList.map (·.2)).mapIdx (fun i x=>(i,x)):=by rfl) (hnn:(parts.toList.map (·.2)).length=nn:=by rfl) (hl:M.length=nn:=by rfl) (hez:z'=en.z:=by rfl) (hzero:zeroT P e en.z=true:=by kernel_rfl) (hb:Nat.ble (nn * en.z) 16777216=true:=by rfl) (hb2:Nat.ble nn 16777216=true:=by rfl) (hj:Nat.beq ops.size (j0+l.length+1)=true:=by rfl) (hf:g d=none:=by rfl) (hn:acc.all (fun e=>!Nat.beq e.2.1 d)=true:=by rfl) (hN:N.ok d=true:=by rfl):DJ (j0::js) P N ops AT g i acc (⟨some d,.buildSlice tt nn parts,ty,pos,after,none⟩::l) K :=
 Dq (O.bs en M (hez ▸ ht.p) (bnn hx) hc hz hp hnn hl hzero hb hb2) hk hj hf hn hN
theorem Dl {js:List Nat}{M:List α}{e nn z':Nat}{tt:TypeId}{parts:Array (Nat × Operand)}{ys:List AV}{en:En α}(hs:seenB d l=true) [het:ET P tt α en] [ht:F3 P tt e z'] (hk:DJ js P N ops AT g i ((j0,d,some (iR en M))::acc) l K) (hx:(opds (vis AT g j0 acc) (parts.toList.map (·.2))).bind nfs=some ys:=by rfl) [hd:DecL en ys M] (hp:parts.toList=(parts.toList.map (·.2)).mapIdx (fun i x=>(i,x)):=by rfl) (hnn:(parts.toList.map (·.2)).length=nn:=by rfl) (hl:ys.length=nn:=by rfl) (hez:z'=en.z:=by rfl) (hzero:zeroT P e en.z=true:=by kernel_rfl) (hb:Nat.ble (nn * en.z) 16777216=true:=by rfl) (hb2:Nat.ble nn 16777216=true:=by rfl) [hv:Vw (oR en M) (iR en M)] (hj:Nat.beq ops.size (j0+l.length+1)=true:=by rfl) (hf:g d=none:=by rfl) (hn:acc.all (fun e=>!Nat.beq e.2.1 d)=true:=by rfl) (hN:N.ok d=true:=by rfl):DJ (j0::js) P N ops AT g i acc (⟨some d,.buildSlice tt nn parts,ty,pos,after,none⟩::l) K :=
 DL.vi j0 (O.bs en M (hez ▸ ht.p) (bnn hx) hd.p.1 hd.p.2.1 hp hnn (hd.p.2.2.trans hl) hzero hb hb2) hj hf hn hN .none hk
theorem Dn {js:List Nat}{M:List α}{e nn z':Nat}{tt:TypeId}{parts:Array (Nat × Operand)}{ys:List AV}{en:En α}(hs:seenB d l=false) [het:ET P tt α en] [ht:F3 P tt e z'] (hk:DJ js P N ops AT g i ((j0,d,some (oR en M))::acc) l K) (hx:(opds (vis AT g j0 acc) (parts.toList.map (·.2))).bind nfs=some ys:=by rfl) [hd:DecL en ys M] (hp:parts.toList=(parts.toList.map (·.2)).mapIdx (fun i x=>(i,x)):=by rfl) (hnn:(parts.toList.map (·.2)).length=nn:=by rfl) (hl:ys.length=nn:=by rfl) (hez:z'=en.z:=by rfl) (hzero:zeroT P e en.z=true:=by kernel_rfl) (hb:Nat.ble (nn * en.z) 16777216=true:=by rfl) (hb2:Nat.ble nn 16777216=true:=by rfl) (hj:Nat.beq ops.size (j0+l.length+1)=true:=by rfl) (hf:g d=none:=by rfl) (hn:acc.all (fun e=>!Nat.beq e.2.1 d)=true:=by rfl) (hN:N.ok d=true:=by rfl):DJ (j0::js) P N ops AT g i acc (⟨some d,.buildSlice tt nn parts,ty,pos,after,none⟩::l) K :=
 Dq (O.bs en M (hez ▸ ht.p) (bnn hx) hd.p.1 hd.p.2.1 hp hnn (hd.p.2.2.trans hl) hzero hb hb2) hk hj hf hn hN
theorem Ds {js:List Nat}{kr:List Nat}(hk0:ksX [] (accG acc G)=some ks) (hk1:ksP (accG acc G) [] [] (accG acc G)=some kr) (he:EOk ks kr P N (visG (get G) (fun _=>true) acc) o (get G2)) (hk:DJ js P N ops AT (get G2) (j0+1) [] l K) (hg:o.guard=none:=by rfl) (hpd:ndr ((acc.filterMap pendPlace).map Place.root)=true:=by rfl) (hp0:npB G=true:=by rfl) (hj:Nat.beq ops.size (j0+l.length+1)=true:=by rfl)
  (ha:(List.range j0).all (fun k=>(AT.getD j0 []).contains k)=true:=by kernel_rfl) (hb:(List.range ops.size).all (fun k=>Nat.ble k j0||(AT.getD k []).contains j0)=true:=by kernel_rfl):DJ (j0::js) P N ops AT (get G) i acc (o::l) K:=.bp _ he hg hpd hp0 hj ha hb hk
theorem Dm {js:List Nat}{kr:List Nat}(hk0:ksX (d::roots (accG acc G) a) (accG acc G)=some ks) (hk1:ksP (accG acc G) (d::roots (accG acc G) a) [] (accG acc G)=some kr) (he:EOk ks kr P N (visG (get G) (fun _=>true) acc) ⟨some d,.assign a,ty,pos,after,none⟩ (upd (get G2) d v)) (hk:DJ js P N ops AT (get ((d,v)::G2)) (j0+1) [] l K) (hpd:ndr ((acc.filterMap pendPlace).map Place.root)=true:=by rfl) (hp0:npB G=true:=by rfl) (hj:Nat.beq ops.size (j0+l.length+1)=true:=by rfl)
  (ha:(List.range j0).all (fun k=>(AT.getD j0 []).contains k)=true:=by kernel_rfl) (hb:(List.range ops.size).all (fun k=>Nat.ble k j0||(AT.getD k []).contains j0)=true:=by kernel_rfl):DJ (j0::js) P N ops AT (get G) i acc (⟨some d,.assign a,ty,pos,after,none⟩::l) K:=.bv _ he rfl hpd hp0 hj ha hb hk
theorem DL.end' {K:Gst->Prop}(hz:ndz (acc.filterMap pendPlace)=true) (hp0:npB G=true) (hi:Nat.ble i ops.size=true) (hK:K (visG (get G) (fun _=>true) acc)):DL P N ops AT (get G) i acc [] K:=by
 intro U0 j hP hseg hdrop
 have hj:j=ops.size:=by
  have h1:ops.size<=j:=by
   have:=congrArg List.length hdrop
   rw [List.length_drop,List.length_nil,Array.length_toList] at this
   omega
  have h3:j<=ops.size:=by
   cases hseg with
   | nil=>exact Nat.le_of_ble_eq_true hi
   | step _ ho=>have:=(Array.getElem?_eq_some_iff.1 ho).1; omega
  omega
 subst hj
 exact ⟨_,.fin hseg (ndz_spec hz) (npB_spec hp0),hK⟩
theorem DFq {js:List Nat}{ΨK:HT->List (Nat × AV)->Prop}(hk0:ksE E [] (accG acc G)=some ks) (hp:pick (visG (get G) (fun _=>true) acc) ks=some G1) [hn:NRg G1] (hk:ΨK t G1) (hz:ndz (acc.filterMap pendPlace)=true:=by rfl) (hp0:npB G=true:=by rfl) (hi:Nat.ble i ops.size=true:=by rfl):DJ js P N ops AT (get G) i acc [] (Kc E t ΨK) :=
 .end' hz hp0 hi ⟨G1,(pick_trim (c:=true) (g2:=get G1) hp hn.p).wk,hk⟩
theorem DFj {js:List Nat}{F:α->List (Nat × AV)}{j v:α}(h:some v=some j) (ht:Trim true (visG (get G) (fun _=>true) acc) (get (F v)) (F v)) (hz:ndz (acc.filterMap pendPlace)=true:=by rfl) (hp0:npB G=true:=by rfl) (hi:Nat.ble i ops.size=true:=by rfl):DJ js P N ops AT (get G) i acc [] (Jn F j .normal):=by
 cases h; exact .end' hz hp0 hi ⟨rfl,.wk ht.wk .rf⟩
theorem WH.rd [hm:F0 P] (h:DJ num P N l.toArray AT (get G) 0 [] l (Kc E y fun t G1=>WH E t P N B G1 Φ)) (hA:ancOk l.toArray AT=true:=by kernel_rfl):WH E (.rd id AT y) P N (.seq (.region id l.toArray true) B) G Φ:=by
 obtain ⟨g',h1,G1,h2,h3⟩:=h [] 0 .nil .nil (by simp)
 exact W.seq ((Ev.draw hm.p hA h1).w (W.weaken h2 h3))
theorem WH.rk {m:Option α}{f:α->Option β}{r:β}{L F':α->List (Nat × AV)} [hm:F0 P] (h:m.bind f=some r) (h1:∀ j,m=some j->DJ num P N l.toArray AT (get G) 0 [] l (Jn F' j .normal)) (h2:∀ j,m=some j->f j=some r->WH E y P N B (F' j) Φ)
  (hF:∀ j,pick (ov (L j) G) ks=some (F' j):=by intro j; rfl) (hA:ancOk l.toArray AT=true:=by kernel_rfl):WH E (.rk id AT ks L y) P N (.seq (.region id l.toArray true) B) G Φ:=by
 obtain ⟨j,hj,h⟩:=bnd h
 obtain ⟨g',e1,_,e3⟩:=h1 j hj [] 0 .nil .nil (by simp)
 exact W.seq ((Ev.draw hm.p hA e1).w (W.be (h2 j hj h) e3))
theorem WH.rdt [hm:F0 P] (h:DJ num P N l.toArray AT (get G) 0 [] l (Kc E y fun t G1=>PH E t .normal Φ G1)) (hA:ancOk l.toArray AT=true:=by kernel_rfl):WH E (.rd id AT y) P N (.region id l.toArray true) G Φ:=by
 obtain ⟨g',h1,G1,h2,h3⟩:=h [] 0 .nil .nil (by simp)
 exact (Ev.draw hm.p hA h1).w (h3 g' (.wk h2 .rf))
theorem WH.rkt {m:Option α}{f:α->Option β}{r:β}{L F':α->List (Nat × AV)} [hm:F0 P] (h:m.bind f=some r) (h1:∀ j,m=some j->DJ num P N l.toArray AT (get G) 0 [] l (Jn F' j .normal)) (h2:∀ j,m=some j->f j=some r->PH E y .normal Φ (F' j))
  (hF:∀ j,pick (ov (L j) G) ks=some (F' j):=by intro j; rfl) (hA:ancOk l.toArray AT=true:=by kernel_rfl):WH E (.rk id AT ks L y) P N (.region id l.toArray true) G Φ:=by
 obtain ⟨j,hj,h⟩:=bnd h
 obtain ⟨g',e1,_,e3⟩:=h1 j hj [] 0 .nil .nil (by simp)
 exact (Ev.draw hm.p hA e1).w (h2 j hj h _ e3)
theorem WH.rjt {m:Option α}{f:α->Option β}{r:β}{L F':α->List (Nat × AV)}(h:m.bind f=some r) (h1:∀ j,m=some j->RunL P N l.toArray l (get G) (Jn F' j .normal)) (h2:∀ j,m=some j->f j=some r->PH E y .normal Φ (F' j))
  (hF:∀ j,pick (ov (L j) G) ks=some (F' j):=by intro j; rfl):WH E (.rj id ks L y) P N (.region id l.toArray false) G Φ:=by
 obtain ⟨j,hj,h⟩:=bnd h
 exact W.reg fun i hi=>by
  obtain ⟨g',e1,_,e3⟩:=h1 j hj i hi
  exact ⟨g',e1,h2 j hj h _ e3⟩
theorem WH.l2 {S R R2:Type}{f:S->Option (S ⊕ (R ⊕ R2))}{s:S}{gg:R ⊕ R2->Option β}{r:β}{F F':S->List (Nat × AV)}{ks kx ky:List Nat}{X X':R->List (Nat × AV)}{Y Y':R2->List (Nat × AV)}(h:(loopM f s).bind gg=some r)
  (hb:∀ s o,f s=some o->WH E x P N c (F' s) (Rd2 F' (Ly id X' Y') o)) (hx:∀ r',gg (.inl r')=some r->PH E y (.exit id) Φ (X' r')) (hy:∀ r',gg (.inr r')=some r->PH E z .ret Φ (Y' r'))
  (hF:∀ s,pick (ov (F s) G) ks=some (F' s):=by intro s; rfl) (hX:∀ s,pick (ov (X s) G) kx=some (X' s):=by intro s; rfl) (hY:∀ s,pick (ov (Y s) G) ky=some (Y' s):=by intro s; rfl) (ht:Trim true (get G) (get (F' s)) (F' s):=by (repeat' first | exact .nil | refine .n rfl ?_ | refine .w rfl rfl .nilOwn ?_ | refine .w rfl rfl .nilImm ?_ | refine .w rfl rfl (WkL.obj (by (repeat' first | exact .nil | refine .f ?_ | refine .o ?_ | refine .i ?_))) ?_)) :
  WH E (.l2 F ks id X kx Y ky x y z) P N (.loop c) G Φ:=by
 obtain ⟨r',hl,h⟩:=bnd h
 exact W.tr ht (W.lp2 F' id X' Y' hl hb (fun q e=>hx q (e ▸ h)) (fun q e=>hy q (e ▸ h)))
theorem PH.x2 {S R R2:Type}{r:R}{o:S ⊕ (R ⊕ R2)}{F:S->List (Nat × AV)}{X:R->List (Nat × AV)}{Y:R2->List (Nat × AV)}(h:some (.inr (.inl r))=some o) (ht:Trim true (get G) (get (X r)) (X r)):PH E t (.exit id) (Rd2 F (Ly id X Y) o) G:=by
 cases h; exact Px.x2 ht
theorem PH.r2 {S R R2:Type}{r:R2}{o:S ⊕ (R ⊕ R2)}{F:S->List (Nat × AV)}{X:R->List (Nat × AV)}{Y:R2->List (Nat × AV)}(h:some (.inr (.inr r))=some o) (ht:Trim true (get G) (get (Y r)) (Y r)):PH E t .ret (Rd2 F (Ly id X Y) o) G:=by
 cases h; exact Px.r2 ht
end
section
variable {P:Program}{N:Rm}{E:List Nat}{t x y z:HT}{A B c:Code}{G:List (Nat × AV)}{Φ:Exit->Gst->Prop}{id k s:Nat}{o:Operand}
theorem Tg.fz {α:Type}{en:En α}{i:Option Nat}(h:WH E (.fz id s i en y) P N c G Φ):WH E (.fz id s i en y) P N c G Φ:=h
theorem Tg.fl {α:Type}{en:En α}{i:Option Nat}(h:WH E (.fl s i en y) P N c G Φ):WH E (.fl s i en y) P N c G Φ:=h
theorem Tg.rj {α:Type}{ks:List Nat}{L:α->List (Nat × AV)}(h:WH E (.rj id ks L y) P N c G Φ):WH E (.rj id ks L y) P N c G Φ:=h
theorem Tg.rk {α:Type}{AT:List (List Nat)}{ks:List Nat}{L:α->List (Nat × AV)}(h:WH E (.rk id AT ks L y) P N c G Φ):WH E (.rk id AT ks L y) P N c G Φ:=h
theorem Tg.rd {AT:List (List Nat)}(h:WH E (.rd id AT y) P N c G Φ):WH E (.rd id AT y) P N c G Φ:=h
theorem Tg.cd (h:WH E t P N (.cond o A B) G Φ):WH E t P N (.cond o A B) G Φ:=h
theorem Tg.lp (h:WH E t P N (.loop A) G Φ):WH E t P N (.loop A) G Φ:=h
theorem Tg.jb {α:Type}{ks:List Nat}{L:α->List (Nat × AV)}(h:WH E (.jn ks L x y) P N (.block id A) G Φ):WH E (.jn ks L x y) P N (.block id A) G Φ:=h
theorem Tg.rg {ops:Array Oper}{b:Bool}(h:WH E t P N (.region id ops b) G Φ):WH E t P N (.region id ops b) G Φ:=h
theorem Tg.ph {S R:Type}{F:S->List (Nat × AV)}{Ψ:R->Exit->Gst->Prop}{o:S ⊕ R}{e:Exit}(h:PH E t e (Rd2 F Ψ o) G):PH E t e (Rd2 F Ψ o) G:=h
theorem Tg.pj {α:Type}{F:α->List (Nat × AV)}{j:α}{e:Exit}(h:PH E t e (Jn F j) G):PH E t e (Jn F j) G:=h
theorem Tg.bm (h:PH E t (.exit k) (inB id Φ) G):PH E t (.exit k) (inB id Φ) G:=h
theorem Tg.pf {rs:List ResultVar}{n:Nat}{outs:List (Option AV)}{res:AV}{e:Exit}(h:PH E t e (FinW P N rs n outs res) G):PH E t e (FinW P N rs n outs res) G:=h
end
section
variable {P:Program}{N:Rm}{E:List Nat}{t:HT}{G:List (Nat × AV)}{g':Gst}{rs:List ResultVar}{ys xs:List AV}{res:AV}{outs:List (Option AV)}{n:Nat}
theorem Rt2.cq {g g'':Gst}{s z:Nat}{tt:TypeId}{cs ys0:List AV}{rs:List ResultVar}{ys xs:List AV}(h:g s=some (.obj cs)) [ht:F5 P tt z] (hz:cs.length=z) (h0:Nat.blt 0 z=true) (hy:rfS (fun i x=>refIn 0 ⟨s,[i]⟩ x) 0 num cs=some ys0) (hk:TkB s g 0 ys0 cs g'') (hr:Rt2 P g'' rs ys xs g'):Rt2 P g (.cell s tt::rs) (.agg ys0::ys) (.agg cs::xs) g':=.c h ht.p hz h0 (by have:=rfS_eq hy; simpa using this) hk hr
theorem PH.fr (h:Rt2 P (get G) rs ys xs g':=by (repeat' first | exact .nil | (apply Rt2.f rfl rfl) | (apply Rt2.o rfl) | (apply Rt2.cq rfl rfl rfl rfl) | (apply TkB.f rfl) | (apply TkB.o rfl))) (he:resAV xs=res:=by rfl) (ho:Ots g' N.pins 0 outs:=by (repeat' first | exact .nil | refine .no ?_ | refine .so rfl rfl ?_)) (hnd:(rs.filterMap fun | .cell t _=>some t | _=>none).Nodup:=by exact of_decide_eq_true (by kernel_rfl)) (hl:outs.length=n:=by rfl):PH E t .ret (FinW P N rs n outs res) G:=Pr h he ho hnd hl
theorem PH.fn (h:Rt2 P (get G) rs ys xs g':=by (repeat' first | exact .nil | (apply Rt2.f rfl rfl) | (apply Rt2.o rfl) | (apply Rt2.cq rfl rfl rfl rfl) | (apply TkB.f rfl) | (apply TkB.o rfl))) (he:resAV xs=res:=by rfl) (ho:Ots g' N.pins 0 outs:=by (repeat' first | exact .nil | refine .no ?_ | refine .so rfl rfl ?_)) (hnd:(rs.filterMap fun | .cell t _=>some t | _=>none).Nodup:=by exact of_decide_eq_true (by kernel_rfl)) (hl:outs.length=n:=by rfl):PH E t .normal (FinW P N rs n outs res) G:=Px.fin (Fin.ro h he hnd ho hl (.inl rfl))
set_option maxRecDepth 1000000 in
/-- The walk: what it meets it does. -/
theorem goW {p:Prop}(h:p:=by
(repeat' (first
 | ((with_reducible apply RunL.tg _ none); first
  | ((with_reducible apply RunL.tg (.move _) none); first | refine Vq (O.mv .q) ?_)
  | ((with_reducible apply RunL.tg (.assign (.const _)) none); first | refine Vq (O.az .q) ?_)
  | ((with_reducible apply RunL.tg (.assign (.tmp _)) none); first | refine Vq (O.az .ql) ?_)
  | ((with_reducible apply RunL.tg (.load _ _) none); first | refine Vq (O.w1) ?_ | refine Vq (O.w2) ?_ | refine Vq (O.w3) ?_ | refine Vq (O.w4) ?_ | refine Vq (O.w9) ?_ | refine Vq (O.we) ?_ | refine Vq (O.wz) ?_)
  | ((with_reducible apply RunL.tg (.fieldAddr _ _ _) none); first | refine Vq (O.w5) ?_ | refine Vq (O.w6) ?_ | refine Vq (O.wf) ?_)
  | ((with_reducible apply RunL.tg (.indexAddr _ _ _) none); first | refine bd h fun x hx h=>Vq (O.w7 hx) ?_ | refine bd h fun x hx h=>Vq (O.w8 hx) ?_ | refine Vq (O.wk) ?_ | refine Vq (O.wj) ?_)
  | ((with_reducible apply RunL.tg (.binOp .add _ _ _ _) none); first | refine Vq (O.add .q .q) ?_ | refine bd h fun x hx h=>Vq (O.cat .q .q hx) ?_)
  | ((with_reducible apply RunL.tg (.binOp .sub _ _ _ _) none); first | refine Vq (O.sub .q .q) ?_)
  | ((with_reducible apply RunL.tg (.binOp .mul _ _ _ _) none); first | refine Vq (O.mul .q .q) ?_)
  | ((with_reducible apply RunL.tg (.binOp .lss _ _ _ _) none); first | refine Vq (O.lss .q .q) ?_)
  | ((with_reducible apply RunL.tg (.binOp .leq _ _ _ _) none); first | refine Vq (O.leq .q .q) ?_)
  | ((with_reducible apply RunL.tg (.binOp .gtr _ _ _ _) none); first | refine Vq (O.gtr .q .q) ?_)
  | ((with_reducible apply RunL.tg (.binOp .geq _ _ _ _) none); first | refine Vq (O.geq .q .q) ?_)
  | ((with_reducible apply RunL.tg (.binOp .eql _ _ _ _) none); first | refine Vq (O.eql .q .q) ?_ | refine Vq (O.eqS .q .q) ?_ | refine Vq (O.eqB .q .q (by kernel_rfl)) ?_ | refine Vq (O.wq) ?_)
  | ((with_reducible apply RunL.tg (.binOp .neq _ _ _ _) none); first | refine Vq (O.neq .q .q) ?_ | refine Vq (O.neS .q .q) ?_ | refine Vq (O.wn) ?_)
  | ((with_reducible apply RunL.tg (.binOp .quo _ _ _ _) none); first | refine bd h fun x hx h=>Vq (O.quo .q .q hx) ?_ | refine bd h fun x hx h=>Vq (O.quoU .q .q hx) ?_)
  | ((with_reducible apply RunL.tg (.binOp .rem _ _ _ _) none); first | refine bd h fun x hx h=>Vq (O.rem .q .q hx) ?_ | refine bd h fun x hx h=>Vq (O.remU .q .q hx) ?_)
  | ((with_reducible apply RunL.tg (.unOp .not _ _) none); first | refine Vq (O.not .q) ?_)
  | ((with_reducible apply RunL.tg (.unOp .neg _ _) none); first | refine Vq (O.neg .q) ?_)
  | ((with_reducible apply RunL.tg (.pick _ _ _) none); first | refine Vq (O.pkT .q (by first | rfl | assumption) .q) ?_ | refine Vq (O.pkF .q (by first | rfl | assumption) .q) ?_)
  | ((with_reducible apply RunL.tg (.nilCheck _) none); first | refine Vq (O.nlP .q) ?_ | refine Vq (O.nlI .q) ?_)
  | ((with_reducible apply RunL.tg (.index _ _ _) none); first | refine bd h fun x hx h=>Vq (O.at' .q .q F2.p hx) ?_)
  | ((with_reducible apply RunL.tg (.extract _ _) none); first | refine Vq (O.wx) ?_)
  | ((with_reducible apply RunL.tg (.convert _ _ _) none); first | refine Vq (O.wc) ?_ | refine Vq (O.wb) ?_)
  | ((with_reducible apply RunL.tg (.box _ _) none); first | refine Vq (O.w0) ?_)
  | ((with_reducible apply RunL.tg (.alloc _) none); first | refine Vq (O.wB) ?_ | refine Vq (O.wa) ?_)
  | ((with_reducible apply RunL.tg (.build _ _) none); first | refine Vq (O.wu) ?_)
  | ((with_reducible apply RunL.tg (.field _ _ _) none); first | refine Vq (O.wd) ?_)
  | ((with_reducible apply RunL.tg (.makeSlice _ _ _) none); first | refine bd h fun x hx h=>Vq (O.wm hx) ?_ | refine bd h fun x hx h=>Vq (O.wy hx) ?_)
  | ((with_reducible apply RunL.tg (.buildSlice _ 0 #[]) none); first | refine Vq (O.wl) ?_)
  | ((with_reducible apply RunL.tg (.makeFunc _ _ _) none); first | refine Vq (O.mf rfl) ?_)
  | ((with_reducible apply RunL.tg (.slice _ _ _ _ _) none); first | refine bd h fun x hx h=>Vq (O.sl .q .q .q F2.p hx) ?_ | refine bd h fun x hx h=>Vq (O.sl0 .q .q F2.p hx) ?_ | refine bd h fun x hx h=>Vq (O.sl1 .q .q F2.p hx) ?_ | refine bd h fun x hx h=>Vq (O.ws2 hx) ?_ | refine bd h fun x hx h=>Vq (O.ws0 hx) ?_ | refine bd h fun x hx h=>Vq (O.ws1 hx) ?_)
  | ((with_reducible apply RunL.tg (.call { callee:=.builtin .len,args:=#[_],argTypes:=#[_] }) none); first | refine Vq (O.lenI .q F3.p) ?_ | refine Vq (O.lenO .q F3.p) ?_ | refine Vq (O.lenS .q F2.p) ?_)
  | ((with_reducible apply RunL.tg (.call { callee:=.builtin .append,args:=#[_,_],argTypes:=#[_,_] }) none); first | refine bd h fun x hx h=>Vq (O.wp hx) ?_ | refine bd h fun x hx h=>Vq (O.wo hx) ?_ | refine bd h fun x hx h=>Vq (O.w2p hx) ?_ | refine bd h fun x hx h=>Vq (O.wr hx) ?_)
  | ((with_reducible apply RunL.tg (.call { callee:=.value _,args:=_,argTypes:=_ }) none); first | (refine bd h fun x hx h=>Vc (PC.gz ?_ (CF.go hx)) ?_; · (repeat' first | exact .nil | refine .cc .q ?_)) | (refine bd h fun x hx h=>Vc (PC.vq rfl ?_ (CF.go hx)) ?_; · (repeat' first | exact .nil | refine .s ?_ | refine .c (View.p0 rfl rfl) ?_ | refine .c (.row rfl) ?_ | refine .c (View.ag ?_) ?_ | refine .c (View.cl ?_) ?_)) | (refine bd h fun x hx h=>Eln (CF.go hx) rfl rfl rfl rfl rfl (by repeat' first | exact .nil | refine .b rfl ?_ | refine .n rfl ?_) ?_))
  | ((with_reducible apply RunL.tg (.buildSlice _ _ _) none); first | refine Vb h ?_ | refine Vl rfl ?_ | refine Vn rfl ?_ | refine Vv [_] rfl ?_ | refine Vv [_,_] rfl ?_)
  | ((with_reducible apply RunL.tg (.assign _) none); refine Za rfl rfl rfl ?_)
  | ((with_reducible apply RunL.tg (.move _) none); refine Zm rfl rfl rfl ?_)
  | ((with_reducible apply RunL.tg (.move _) none); first | refine Vo rfl rfl (O.mv .q) ?_)
  | ((with_reducible apply RunL.tg (.assign (.const _)) none); first | refine Vo rfl rfl (O.az .q) ?_)
  | ((with_reducible apply RunL.tg (.assign (.tmp _)) none); first | refine Vo rfl rfl (O.az .ql) ?_)
  | ((with_reducible apply RunL.tg (.assign (.tmp _)) none); refine Em rfl rfl (by first | exact EK.ar | exact EK.apq | exact EK.ap2 | exact EK.ag .q (by repeat' first | exact TkL.nil | (apply TkL.f) | (apply TkL.r rfl) | (apply TkL.ag) | (apply TkL.b rfl))) ?_))
 | ((with_reducible apply RunL.ts); refine Es rfl rfl (by first | exact EK.sva | exact EK.sv1 | exact EK.sw | exact EK.sp | exact EK.se | exact EK.sg .q (by repeat' first | exact TkL.nil | (apply TkL.f) | (apply TkL.r rfl) | (apply TkL.ag) | (apply TkL.b rfl))) ?_)
 | ((with_reducible apply RunL.tg _ (some _)); first
  | refine Gs ?_
  | refine Gu ?_
  | ((with_reducible apply RunL.tg (.move _) (some _)); first | refine Gy (O.mv .q) ?_)
  | ((with_reducible apply RunL.tg (.assign (.const _)) (some _)); first | refine Gy (O.az .q) ?_)
  | ((with_reducible apply RunL.tg (.assign (.tmp _)) (some _)); first | refine Gy (O.az .ql) ?_)
  | ((with_reducible apply RunL.tg (.load _ _) (some _)); first | refine Gy (O.w1) ?_ | refine Gy (O.w2) ?_ | refine Gy (O.w3) ?_ | refine Gy (O.w4) ?_ | refine Gy (O.w9) ?_ | refine Gy (O.we) ?_ | refine Gy (O.wz) ?_)
  | ((with_reducible apply RunL.tg (.fieldAddr _ _ _) (some _)); first | refine Gy (O.w5) ?_ | refine Gy (O.w6) ?_ | refine Gy (O.wf) ?_)
  | ((with_reducible apply RunL.tg (.indexAddr _ _ _) (some _)); first | refine bd h fun x hx h=>Gy (O.w7 hx) ?_ | refine bd h fun x hx h=>Gy (O.w8 hx) ?_ | refine Gy (O.wk) ?_ | refine Gy (O.wj) ?_)
  | ((with_reducible apply RunL.tg (.binOp .add _ _ _ _) (some _)); first | refine Gy (O.add .q .q) ?_ | refine bd h fun x hx h=>Gy (O.cat .q .q hx) ?_)
  | ((with_reducible apply RunL.tg (.binOp .sub _ _ _ _) (some _)); first | refine Gy (O.sub .q .q) ?_)
  | ((with_reducible apply RunL.tg (.binOp .mul _ _ _ _) (some _)); first | refine Gy (O.mul .q .q) ?_)
  | ((with_reducible apply RunL.tg (.binOp .lss _ _ _ _) (some _)); first | refine Gy (O.lss .q .q) ?_)
  | ((with_reducible apply RunL.tg (.binOp .leq _ _ _ _) (some _)); first | refine Gy (O.leq .q .q) ?_)
  | ((with_reducible apply RunL.tg (.binOp .gtr _ _ _ _) (some _)); first | refine Gy (O.gtr .q .q) ?_)
  | ((with_reducible apply RunL.tg (.binOp .geq _ _ _ _) (some _)); first | refine Gy (O.geq .q .q) ?_)
  | ((with_reducible apply RunL.tg (.binOp .eql _ _ _ _) (some _)); first | refine Gy (O.eql .q .q) ?_ | refine Gy (O.eqS .q .q) ?_ | refine Gy (O.eqB .q .q (by kernel_rfl)) ?_ | refine Gy (O.wq) ?_)
  | ((with_reducible apply RunL.tg (.binOp .neq _ _ _ _) (some _)); first | refine Gy (O.neq .q .q) ?_ | refine Gy (O.neS .q .q) ?_ | refine Gy (O.wn) ?_)
  | ((with_reducible apply RunL.tg (.binOp .quo _ _ _ _) (some _)); first | refine bd h fun x hx h=>Gy (O.quo .q .q hx) ?_ | refine bd h fun x hx h=>Gy (O.quoU .q .q hx) ?_)
  | ((with_reducible apply RunL.tg (.binOp .rem _ _ _ _) (some _)); first | refine bd h fun x hx h=>Gy (O.rem .q .q hx) ?_ | refine bd h fun x hx h=>Gy (O.remU .q .q hx) ?_)
  | ((with_reducible apply RunL.tg (.unOp .not _ _) (some _)); first | refine Gy (O.not .q) ?_)
  | ((with_reducible apply RunL.tg (.unOp .neg _ _) (some _)); first | refine Gy (O.neg .q) ?_)
  | ((with_reducible apply RunL.tg (.pick _ _ _) (some _)); first | refine Gy (O.pkT .q (by first | rfl | assumption) .q) ?_ | refine Gy (O.pkF .q (by first | rfl | assumption) .q) ?_)
  | ((with_reducible apply RunL.tg (.nilCheck _) (some _)); first | refine Gy (O.nlP .q) ?_ | refine Gy (O.nlI .q) ?_)
  | ((with_reducible apply RunL.tg (.index _ _ _) (some _)); first | refine bd h fun x hx h=>Gy (O.at' .q .q F2.p hx) ?_)
  | ((with_reducible apply RunL.tg (.extract _ _) (some _)); first | refine Gy (O.wx) ?_)
  | ((with_reducible apply RunL.tg (.convert _ _ _) (some _)); first | refine Gy (O.wc) ?_ | refine Gy (O.wb) ?_)
  | ((with_reducible apply RunL.tg (.box _ _) (some _)); first | refine Gy (O.w0) ?_)
  | ((with_reducible apply RunL.tg (.alloc _) (some _)); first | refine Gy (O.wB) ?_ | refine Gy (O.wa) ?_)
  | ((with_reducible apply RunL.tg (.build _ _) (some _)); first | refine Gy (O.wu) ?_)
  | ((with_reducible apply RunL.tg (.field _ _ _) (some _)); first | refine Gy (O.wd) ?_)
  | ((with_reducible apply RunL.tg (.makeSlice _ _ _) (some _)); first | refine bd h fun x hx h=>Gy (O.wm hx) ?_ | refine bd h fun x hx h=>Gy (O.wy hx) ?_)
  | ((with_reducible apply RunL.tg (.buildSlice _ 0 #[]) (some _)); first | refine Gy (O.wl) ?_)
  | ((with_reducible apply RunL.tg (.makeFunc _ _ _) (some _)); first | refine Gy (O.mf rfl) ?_)
  | ((with_reducible apply RunL.tg (.slice _ _ _ _ _) (some _)); first | refine bd h fun x hx h=>Gy (O.sl .q .q .q F2.p hx) ?_ | refine bd h fun x hx h=>Gy (O.sl0 .q .q F2.p hx) ?_ | refine bd h fun x hx h=>Gy (O.sl1 .q .q F2.p hx) ?_ | refine bd h fun x hx h=>Gy (O.ws2 hx) ?_ | refine bd h fun x hx h=>Gy (O.ws0 hx) ?_ | refine bd h fun x hx h=>Gy (O.ws1 hx) ?_)
  | ((with_reducible apply RunL.tg (.call { callee:=.builtin .len,args:=#[_],argTypes:=#[_] }) (some _)); first | refine Gy (O.lenI .q F3.p) ?_ | refine Gy (O.lenO .q F3.p) ?_ | refine Gy (O.lenS .q F2.p) ?_)
  | ((with_reducible apply RunL.tg (.call { callee:=.builtin .append,args:=#[_,_],argTypes:=#[_,_] }) (some _)); first | refine bd h fun x hx h=>Gy (O.wp hx) ?_ | refine bd h fun x hx h=>Gy (O.wo hx) ?_ | refine bd h fun x hx h=>Gy (O.w2p hx) ?_ | refine bd h fun x hx h=>Gy (O.wr hx) ?_)
  | ((with_reducible apply RunL.tg (.call { callee:=.value _,args:=_,argTypes:=_ }) (some _)); first | (refine bd h fun x hx h=>Gc (PC.gz ?_ (CF.go hx)) ?_; · (repeat' first | exact .nil | refine .cc .q ?_)) | (refine bd h fun x hx h=>Gc (PC.vq rfl ?_ (CF.go hx)) ?_; · (repeat' first | exact .nil | refine .s ?_ | refine .c (View.p0 rfl rfl) ?_ | refine .c (.row rfl) ?_ | refine .c (View.ag ?_) ?_ | refine .c (View.cl ?_) ?_)))
  | refine cdS h (fun hb h=>?_) (fun hb h=>?_))
 | ((with_reducible apply RunL.nl); first | refine Fq rfl rfl ?_ | refine Fj h (by (repeat' first | exact .nil | refine .n rfl ?_ | refine .w rfl rfl .nilOwn ?_ | refine .w rfl rfl .nilImm ?_ | refine .w rfl rfl (WkL.obj (by (repeat' first | exact .nil | refine .f ?_ | refine .o ?_ | refine .i ?_))) ?_)))
 | ((with_reducible apply DJ.tg _ none); first
  | ((with_reducible apply DJ.tg (.move _) none); first | refine Dq (O.mv .q) ?_)
  | ((with_reducible apply DJ.tg (.assign (.const _)) none); first | refine Dq (O.az .q) ?_)
  | ((with_reducible apply DJ.tg (.assign (.tmp _)) none); first | refine Dq (O.az .ql) ?_)
  | ((with_reducible apply DJ.tg (.load _ _) none); first | refine Dq (O.w1) ?_ | refine Dq (O.w2) ?_ | refine Dq (O.w3) ?_ | refine Dq (O.w4) ?_ | refine Dq (O.w9) ?_ | refine Dq (O.we) ?_ | refine Dq (O.wz) ?_)
  | ((with_reducible apply DJ.tg (.fieldAddr _ _ _) none); first | refine Dq (O.w5) ?_ | refine Dq (O.w6) ?_ | refine Dq (O.wf) ?_)
  | ((with_reducible apply DJ.tg (.indexAddr _ _ _) none); first | refine bd h fun x hx h=>Dq (O.w7 hx) ?_ | refine bd h fun x hx h=>Dq (O.w8 hx) ?_ | refine Dq (O.wk) ?_ | refine Dq (O.wj) ?_)
  | ((with_reducible apply DJ.tg (.binOp .add _ _ _ _) none); first | refine Dq (O.add .q .q) ?_ | refine bd h fun x hx h=>Dq (O.cat .q .q hx) ?_)
  | ((with_reducible apply DJ.tg (.binOp .sub _ _ _ _) none); first | refine Dq (O.sub .q .q) ?_)
  | ((with_reducible apply DJ.tg (.binOp .mul _ _ _ _) none); first | refine Dq (O.mul .q .q) ?_)
  | ((with_reducible apply DJ.tg (.binOp .lss _ _ _ _) none); first | refine Dq (O.lss .q .q) ?_)
  | ((with_reducible apply DJ.tg (.binOp .leq _ _ _ _) none); first | refine Dq (O.leq .q .q) ?_)
  | ((with_reducible apply DJ.tg (.binOp .gtr _ _ _ _) none); first | refine Dq (O.gtr .q .q) ?_)
  | ((with_reducible apply DJ.tg (.binOp .geq _ _ _ _) none); first | refine Dq (O.geq .q .q) ?_)
  | ((with_reducible apply DJ.tg (.binOp .eql _ _ _ _) none); first | refine Dq (O.eql .q .q) ?_ | refine Dq (O.eqS .q .q) ?_ | refine Dq (O.eqB .q .q (by kernel_rfl)) ?_ | refine Dq (O.wq) ?_)
  | ((with_reducible apply DJ.tg (.binOp .neq _ _ _ _) none); first | refine Dq (O.neq .q .q) ?_ | refine Dq (O.neS .q .q) ?_ | refine Dq (O.wn) ?_)
  | ((with_reducible apply DJ.tg (.binOp .quo _ _ _ _) none); first | refine bd h fun x hx h=>Dq (O.quo .q .q hx) ?_ | refine bd h fun x hx h=>Dq (O.quoU .q .q hx) ?_)
  | ((with_reducible apply DJ.tg (.binOp .rem _ _ _ _) none); first | refine bd h fun x hx h=>Dq (O.rem .q .q hx) ?_ | refine bd h fun x hx h=>Dq (O.remU .q .q hx) ?_)
  | ((with_reducible apply DJ.tg (.unOp .not _ _) none); first | refine Dq (O.not .q) ?_)
  | ((with_reducible apply DJ.tg (.unOp .neg _ _) none); first | refine Dq (O.neg .q) ?_)
  | ((with_reducible apply DJ.tg (.pick _ _ _) none); first | refine Dq (O.pkT .q (by first | rfl | assumption) .q) ?_ | refine Dq (O.pkF .q (by first | rfl | assumption) .q) ?_)
  | ((with_reducible apply DJ.tg (.nilCheck _) none); first | refine Dq (O.nlP .q) ?_ | refine Dq (O.nlI .q) ?_)
  | ((with_reducible apply DJ.tg (.index _ _ _) none); first | refine bd h fun x hx h=>Dq (O.at' .q .q F2.p hx) ?_)
  | ((with_reducible apply DJ.tg (.extract _ _) none); first | refine Dq (O.wx) ?_)
  | ((with_reducible apply DJ.tg (.convert _ _ _) none); first | refine Dq (O.wc) ?_ | refine Dq (O.wb) ?_)
  | ((with_reducible apply DJ.tg (.box _ _) none); first | refine Dq (O.w0) ?_)
  | ((with_reducible apply DJ.tg (.alloc _) none); first | refine Dq (O.wB) ?_ | refine Dq (O.wa) ?_)
  | ((with_reducible apply DJ.tg (.build _ _) none); first | refine Dq (O.wu) ?_)
  | ((with_reducible apply DJ.tg (.field _ _ _) none); first | refine Dq (O.wd) ?_)
  | ((with_reducible apply DJ.tg (.makeSlice _ _ _) none); first | refine bd h fun x hx h=>Dq (O.wm hx) ?_ | refine bd h fun x hx h=>Dq (O.wy hx) ?_)
  | ((with_reducible apply DJ.tg (.buildSlice _ 0 #[]) none); first | refine Dq (O.wl) ?_)
  | ((with_reducible apply DJ.tg (.makeFunc _ _ _) none); first | refine Dq (O.mf rfl) ?_)
  | ((with_reducible apply DJ.tg (.slice _ _ _ _ _) none); first | refine bd h fun x hx h=>Dq (O.sl .q .q .q F2.p hx) ?_ | refine bd h fun x hx h=>Dq (O.sl0 .q .q F2.p hx) ?_ | refine bd h fun x hx h=>Dq (O.sl1 .q .q F2.p hx) ?_ | refine bd h fun x hx h=>Dq (O.ws2 hx) ?_ | refine bd h fun x hx h=>Dq (O.ws0 hx) ?_ | refine bd h fun x hx h=>Dq (O.ws1 hx) ?_)
  | ((with_reducible apply DJ.tg (.call { callee:=.builtin .len,args:=#[_],argTypes:=#[_] }) none); first | refine Dq (O.lenI .q F3.p) ?_ | refine Dq (O.lenO .q F3.p) ?_ | refine Dq (O.lenS .q F2.p) ?_)
  | ((with_reducible apply DJ.tg (.call { callee:=.builtin .append,args:=#[_,_],argTypes:=#[_,_] }) none); first | refine bd h fun x hx h=>Dq (O.wp hx) ?_ | refine bd h fun x hx h=>Dq (O.wo hx) ?_ | refine bd h fun x hx h=>Dq (O.w2p hx) ?_ | refine bd h fun x hx h=>Dq (O.wv hx) ?_)
  | ((with_reducible apply DJ.tg (.call { callee:=.value _,args:=_,argTypes:=_ }) none); first | (refine bd h fun x hx h=>Dk (PC.gz ?_ (CF.go hx)) ?_; · (repeat' first | exact .nil | refine .cc .q ?_)) | (refine bd h fun x hx h=>Dk (PC.vq rfl ?_ (CF.go hx)) ?_; · (repeat' first | exact .nil | refine .s ?_ | refine .c (View.p0 rfl rfl) ?_ | refine .c (.row rfl) ?_ | refine .c (View.ag ?_) ?_ | refine .c (View.cl ?_) ?_)) | (refine bd h fun x hx h=>Dln (CF.go hx) rfl rfl rfl rfl rfl (by repeat' first | exact .nil | refine .b rfl ?_ | refine .n rfl ?_) ?_))
  | ((with_reducible apply DJ.tg (.buildSlice _ _ _) none); first | refine Db h ?_ | refine Dl rfl ?_ | refine Dn rfl ?_ | refine Du [_,_] rfl ?_ | refine Dv2 [_] rfl ?_ | refine Dv2 [_,_] rfl ?_)
  | ((with_reducible apply DJ.tg (.assign _) none); refine Dm rfl rfl (by first | exact EK.ar | exact EK.apq | exact EK.ap2 | exact EK.af | exact EK.ag .q (by repeat' first | exact TkL.nil | (apply TkL.f) | (apply TkL.r rfl) | (apply TkL.ag) | (apply TkL.b rfl))) ?_))
 | ((with_reducible apply DJ.ts); refine Ds rfl rfl (by first | exact EK.sva | exact EK.sv1 | exact EK.sw | exact EK.sp | exact EK.se | exact EK.sg .q (by repeat' first | exact TkL.nil | (apply TkL.f) | (apply TkL.r rfl) | (apply TkL.ag) | (apply TkL.b rfl))) ?_)
 | ((with_reducible apply DJ.tg _ (some _)); first
  | refine Ds' ?_
  | refine Du' ?_
  | ((with_reducible apply DJ.tg (.move _) (some _)); first | refine Dy (O.mv .q) ?_)
  | ((with_reducible apply DJ.tg (.assign (.const _)) (some _)); first | refine Dy (O.az .q) ?_)
  | ((with_reducible apply DJ.tg (.assign (.tmp _)) (some _)); first | refine Dy (O.az .ql) ?_)
  | ((with_reducible apply DJ.tg (.load _ _) (some _)); first | refine Dy (O.w1) ?_ | refine Dy (O.w2) ?_ | refine Dy (O.w3) ?_ | refine Dy (O.w4) ?_ | refine Dy (O.w9) ?_ | refine Dy (O.we) ?_ | refine Dy (O.wz) ?_)
  | ((with_reducible apply DJ.tg (.fieldAddr _ _ _) (some _)); first | refine Dy (O.w5) ?_ | refine Dy (O.w6) ?_ | refine Dy (O.wf) ?_)
  | ((with_reducible apply DJ.tg (.indexAddr _ _ _) (some _)); first | refine bd h fun x hx h=>Dy (O.w7 hx) ?_ | refine bd h fun x hx h=>Dy (O.w8 hx) ?_ | refine Dy (O.wk) ?_ | refine Dy (O.wj) ?_)
  | ((with_reducible apply DJ.tg (.binOp .add _ _ _ _) (some _)); first | refine Dy (O.add .q .q) ?_ | refine bd h fun x hx h=>Dy (O.cat .q .q hx) ?_)
  | ((with_reducible apply DJ.tg (.binOp .sub _ _ _ _) (some _)); first | refine Dy (O.sub .q .q) ?_)
  | ((with_reducible apply DJ.tg (.binOp .mul _ _ _ _) (some _)); first | refine Dy (O.mul .q .q) ?_)
  | ((with_reducible apply DJ.tg (.binOp .lss _ _ _ _) (some _)); first | refine Dy (O.lss .q .q) ?_)
  | ((with_reducible apply DJ.tg (.binOp .leq _ _ _ _) (some _)); first | refine Dy (O.leq .q .q) ?_)
  | ((with_reducible apply DJ.tg (.binOp .gtr _ _ _ _) (some _)); first | refine Dy (O.gtr .q .q) ?_)
  | ((with_reducible apply DJ.tg (.binOp .geq _ _ _ _) (some _)); first | refine Dy (O.geq .q .q) ?_)
  | ((with_reducible apply DJ.tg (.binOp .eql _ _ _ _) (some _)); first | refine Dy (O.eql .q .q) ?_ | refine Dy (O.eqS .q .q) ?_ | refine Dy (O.eqB .q .q (by kernel_rfl)) ?_ | refine Dy (O.wq) ?_)
  | ((with_reducible apply DJ.tg (.binOp .neq _ _ _ _) (some _)); first | refine Dy (O.neq .q .q) ?_ | refine Dy (O.neS .q .q) ?_ | refine Dy (O.wn) ?_)
  | ((with_reducible apply DJ.tg (.binOp .quo _ _ _ _) (some _)); first | refine bd h fun x hx h=>Dy (O.quo .q .q hx) ?_ | refine bd h fun x hx h=>Dy (O.quoU .q .q hx) ?_)
  | ((with_reducible apply DJ.tg (.binOp .rem _ _ _ _) (some _)); first | refine bd h fun x hx h=>Dy (O.rem .q .q hx) ?_ | refine bd h fun x hx h=>Dy (O.remU .q .q hx) ?_)
  | ((with_reducible apply DJ.tg (.unOp .not _ _) (some _)); first | refine Dy (O.not .q) ?_)
  | ((with_reducible apply DJ.tg (.unOp .neg _ _) (some _)); first | refine Dy (O.neg .q) ?_)
  | ((with_reducible apply DJ.tg (.pick _ _ _) (some _)); first | refine Dy (O.pkT .q (by first | rfl | assumption) .q) ?_ | refine Dy (O.pkF .q (by first | rfl | assumption) .q) ?_)
  | ((with_reducible apply DJ.tg (.nilCheck _) (some _)); first | refine Dy (O.nlP .q) ?_ | refine Dy (O.nlI .q) ?_)
  | ((with_reducible apply DJ.tg (.index _ _ _) (some _)); first | refine bd h fun x hx h=>Dy (O.at' .q .q F2.p hx) ?_)
  | ((with_reducible apply DJ.tg (.extract _ _) (some _)); first | refine Dy (O.wx) ?_)
  | ((with_reducible apply DJ.tg (.convert _ _ _) (some _)); first | refine Dy (O.wc) ?_ | refine Dy (O.wb) ?_)
  | ((with_reducible apply DJ.tg (.box _ _) (some _)); first | refine Dy (O.w0) ?_)
  | ((with_reducible apply DJ.tg (.alloc _) (some _)); first | refine Dy (O.wB) ?_ | refine Dy (O.wa) ?_)
  | ((with_reducible apply DJ.tg (.build _ _) (some _)); first | refine Dy (O.wu) ?_)
  | ((with_reducible apply DJ.tg (.field _ _ _) (some _)); first | refine Dy (O.wd) ?_)
  | ((with_reducible apply DJ.tg (.makeSlice _ _ _) (some _)); first | refine bd h fun x hx h=>Dy (O.wm hx) ?_ | refine bd h fun x hx h=>Dy (O.wy hx) ?_)
  | ((with_reducible apply DJ.tg (.buildSlice _ 0 #[]) (some _)); first | refine Dy (O.wl) ?_)
  | ((with_reducible apply DJ.tg (.makeFunc _ _ _) (some _)); first | refine Dy (O.mf rfl) ?_)
  | ((with_reducible apply DJ.tg (.slice _ _ _ _ _) (some _)); first | refine bd h fun x hx h=>Dy (O.sl .q .q .q F2.p hx) ?_ | refine bd h fun x hx h=>Dy (O.sl0 .q .q F2.p hx) ?_ | refine bd h fun x hx h=>Dy (O.sl1 .q .q F2.p hx) ?_ | refine bd h fun x hx h=>Dy (O.ws2 hx) ?_ | refine bd h fun x hx h=>Dy (O.ws0 hx) ?_ | refine bd h fun x hx h=>Dy (O.ws1 hx) ?_)
  | ((with_reducible apply DJ.tg (.call { callee:=.builtin .len,args:=#[_],argTypes:=#[_] }) (some _)); first | refine Dy (O.lenI .q F3.p) ?_ | refine Dy (O.lenO .q F3.p) ?_ | refine Dy (O.lenS .q F2.p) ?_)
  | ((with_reducible apply DJ.tg (.call { callee:=.builtin .append,args:=#[_,_],argTypes:=#[_,_] }) (some _)); first | refine bd h fun x hx h=>Dy (O.wp hx) ?_ | refine bd h fun x hx h=>Dy (O.wo hx) ?_ | refine bd h fun x hx h=>Dy (O.w2p hx) ?_ | refine bd h fun x hx h=>Dy (O.wv hx) ?_)
  | ((with_reducible apply DJ.tg (.call { callee:=.value _,args:=_,argTypes:=_ }) (some _)); first | (refine bd h fun x hx h=>Dg (PC.gz ?_ (CF.go hx)) ?_; · (repeat' first | exact .nil | refine .cc .q ?_)) | (refine bd h fun x hx h=>Dg (PC.vq rfl ?_ (CF.go hx)) ?_; · (repeat' first | exact .nil | refine .s ?_ | refine .c (View.p0 rfl rfl) ?_ | refine .c (.row rfl) ?_ | refine .c (View.ag ?_) ?_ | refine .c (View.cl ?_) ?_)))
  | refine cdS h (fun hb h=>?_) (fun hb h=>?_))
 | ((with_reducible apply DJ.nl); first | refine DFq rfl rfl ?_ | refine DFj h (by (repeat' first | exact .nil | refine .n rfl ?_ | refine .w rfl rfl .nilOwn ?_ | refine .w rfl rfl .nilImm ?_ | refine .w rfl rfl (WkL.obj (by (repeat' first | exact .nil | refine .f ?_ | refine .o ?_ | refine .i ?_))) ?_)))
 | ((with_reducible apply Tg.fz); refine WH.fz rfl (by first | exact .w | exact .n | exact .c rfl .w rfl | exact .c rfl .n rfl) rfl rfl ?_)
 | ((with_reducible apply Tg.fl); refine WH.fl rfl (by first | exact .w | exact .n | exact .c rfl .w rfl | exact .c rfl .n rfl) rfl rfl ?_)
 | ((with_reducible apply Tg.rj); first | refine WH.rj h (fun j h=>?_) (fun j hj h=>?_) | refine WH.rjt h (fun j h=>?_) (fun j hj h=>?_))
 | ((with_reducible apply Tg.rk); first | refine WH.rk h (fun j h=>?_) (fun j hj h=>?_) | refine WH.rkt h (fun j h=>?_) (fun j hj h=>?_))
 | ((with_reducible apply Tg.rd); first | refine WH.rd ?_ | refine WH.rdt ?_)
 | (with_reducible apply WH.rg)
 | (with_reducible apply WH.sq)
 | ((with_reducible apply Tg.cd); first
  | refine WH.jc h (fun j h=>?_) (fun j hj h=>?_)
  | refine WH.ch h (fun hb h=>?_) (fun hb h=>?_)
  | refine WH.ce h (fun hb h=>?_) (fun hb h=>?_)
  | refine WH.cT ?_
  | refine WH.cF ?_)
 | ((with_reducible apply Tg.jb); refine WH.jb h (fun j h=>?_) (fun j hj h=>?_))
 | (with_reducible apply WH.bp)
 | (with_reducible apply WH.bk)
 | (with_reducible apply WH.sk)
 | (with_reducible apply WH.xi)
 | ((with_reducible apply WH.rtg); first
  | (refine WH.rl h (by (repeat' first | exact .nil | refine .z rfl rfl ?_ ?_ | exact .refl | exact .nilO | exact Fz.vw | refine FzL.obj ?_ | refine .f ?_ | refine .o ?_ | refine .z ?_)) (by (repeat' first | exact .nil | refine .n rfl ?_ | refine .w rfl rfl .nilOwn ?_ | refine .w rfl rfl .nilImm ?_ | refine .w rfl rfl (WkL.obj (by (repeat' first | exact .nil | refine .f ?_ | refine .o ?_ | refine .i ?_))) ?_)))
  | (cases h; refine WH.rf rfl (by (repeat' first | exact .nil | refine .z rfl rfl ?_ ?_ | exact .refl | exact .nilO | exact Fz.vw | refine FzL.obj ?_ | refine .f ?_ | refine .o ?_ | refine .z ?_)) ?_; exact PH.fr)
  | refine WH.re ?_)
 | (with_reducible apply PH.sq)
 | (with_reducible apply PH.sqE)
 | (with_reducible apply PH.sqR)
 | (with_reducible apply PH.bk)
 | (with_reducible apply PH.bkH)
 | (with_reducible apply PH.bkR)
 | ((with_reducible apply Tg.bm); refine PH.bkM ?_)
 | ((with_reducible apply Tg.ph); first
  | refine PH.go h (by (repeat' first | exact .nil | refine .n rfl ?_ | refine .w rfl rfl .nilOwn ?_ | refine .w rfl rfl .nilImm ?_ | refine .w rfl rfl (WkL.obj (by (repeat' first | exact .nil | refine .f ?_ | refine .o ?_ | refine .i ?_))) ?_))
  | refine PH.x1 h (by (repeat' first | exact .nil | refine .n rfl ?_ | refine .w rfl rfl .nilOwn ?_ | refine .w rfl rfl .nilImm ?_ | refine .w rfl rfl (WkL.obj (by (repeat' first | exact .nil | refine .f ?_ | refine .o ?_ | refine .i ?_))) ?_))
  | refine PH.x2 h (by (repeat' first | exact .nil | refine .n rfl ?_ | refine .w rfl rfl .nilOwn ?_ | refine .w rfl rfl .nilImm ?_ | refine .w rfl rfl (WkL.obj (by (repeat' first | exact .nil | refine .f ?_ | refine .o ?_ | refine .i ?_))) ?_))
  | refine PH.r2 h (by (repeat' first | exact .nil | refine .n rfl ?_ | refine .w rfl rfl .nilOwn ?_ | refine .w rfl rfl .nilImm ?_ | refine .w rfl rfl (WkL.obj (by (repeat' first | exact .nil | refine .f ?_ | refine .o ?_ | refine .i ?_))) ?_)))
 | ((with_reducible apply Tg.pj); refine PH.jn h (by (repeat' first | exact .nil | refine .n rfl ?_ | refine .w rfl rfl .nilOwn ?_ | refine .w rfl rfl .nilImm ?_ | refine .w rfl rfl (WkL.obj (by (repeat' first | exact .nil | refine .f ?_ | refine .o ?_ | refine .i ?_))) ?_)))
 | ((with_reducible apply Tg.lp); first
  | refine WH.lp h (fun s o h=>?_) (fun r hr h=>?_)
  | refine WH.l2 h (fun s o h=>?_) (fun r h=>?_) (fun r h=>?_))
 | ((with_reducible apply Tg.rg); with_reducible apply WH.rt)
 | ((with_reducible apply Tg.pf); cases h; first | exact PH.fr | exact PH.fn)
 | refine cdS h (fun hb h=>?_) (fun hb h=>?_)))):p:=h
class RTc (P:Program) (N:Rm) (Φ:Exit->Gst->Prop) (rs:outParam (List ResultVar)) (n:outParam Nat) (outs:outParam (List (Option AV))) (res:outParam AV):Prop where p:∀ g,FinW P N rs n outs res .ret g->Φ .ret g
instance:RTc P N (FinW P N rs n outs res) rs n outs res:=⟨fun _ h=>h⟩
instance {Ψ:Gst->Prop}{Φ:Exit->Gst->Prop} [h:RTc P N Φ rs n outs res]:RTc P N (thenP Ψ Φ) rs n outs res:=⟨fun g hh=>h.p g hh⟩
instance {id:Nat}{Φ:Exit->Gst->Prop} [h:RTc P N Φ rs n outs res]:RTc P N (inB id Φ) rs n outs res:=⟨fun g hh=>h.p g hh⟩
class RLc {S R R2:Type}(Φ:Exit->Gst->Prop) (F:outParam (S->List (Nat × AV))) (id:outParam Nat) (X:outParam (R->List (Nat × AV))) (Y:outParam (R2->List (Nat × AV))) (o:outParam (S ⊕ (R ⊕ R2))):Prop where p:∀ g,Rd2 F (Ly id X Y) o .ret g->Φ .ret g
section
variable {S R R2:Type}{F:S->List (Nat × AV)}{id:Nat}{X:R->List (Nat × AV)}{Y:R2->List (Nat × AV)}{o:S ⊕ (R ⊕ R2)}{Φ:Exit->Gst->Prop}
instance:RLc (Rd2 F (Ly id X Y) o) F id X Y o:=⟨fun _ h=>h⟩
instance {Ψ:Gst->Prop} [h:RLc Φ F id X Y o]:RLc (thenP Ψ Φ) F id X Y o:=⟨fun g hh=>h.p g hh⟩
instance {i:Nat} [h:RLc Φ F id X Y o]:RLc (inB i Φ) F id X Y o:=⟨fun g hh=>h.p g hh⟩
theorem WH.rl {v:R2} [hR:RLc Φ F id X Y o] (h:some (.inr (.inr v))=some o) (hz:TrF ((Y v).map Prod.fst) (get G) (get (Y v)) (Y v)) (hp:Trim true (get (Y v)) (get (Y v)) (Y v)):WH E t P N .ret G Φ:=by
 cases h
 exact W.fz _ hz (W.rt fun g hb=>hR.p g (Px.r2 hp g hb))
end
def retV:ResultVar->AV->Option (Nat × AV)
 | .tmp t,x=>some (t,x)
 | .cell s _,.agg cs=>some (s,.obj cs)
 | _,_=>none
def retL:List ResultVar->List AV->List (Nat × AV)->Option (List (Nat × AV))
 | [],[],T=>some T
 | r::rs,x::xs,T=>match retL rs xs T,retV r x with
  | some l,some p=>some (p::l)
  | _,_=>none
 | _,_,_=>none
def outL:List Nat->List (Option AV)->Option (List (Nat × AV))
 | _,[]=>some []
 | j::js,none::l=>outL js l
 | j::js,some x::l=>match outL js l with
  | some r=>some ((j,x)::r)
  | none=>none
 | _,_=>none
def retG (rs:List ResultVar) (outs:List (Option AV)) (res:AV):Option (List (Nat × AV)) :=
 match outL num outs with
 | none=>none
 | some T=>match rs,res with
  | [r],x=>retL [r] [x] T
  | rs,.tup xs=>retL rs xs T
  | _,_=>none
theorem Fz.vw {x y:AV} [hn:NRc x] [hv:Vw x y]:Fz x y:=.ice hn.nr (hv.v _)
inductive FT {α:Type}(en:En α):Option Nat->AV->AV->Prop
 | w {en0:En α}{L:List α} [h:Vw (oR en0 L) (iR en L)]:FT en none (oR en0 L) (iR en L)
 | n [h:Vw .nils (iR en ([]:List α))]:FT en none .nils (iR en ([]:List α))
 | c {i:Nat}{cs cs':List AV}{x y:AV}(hx:cs[i]?=some x) (h:FT en none x y) (he:splo cs i [y]=some cs'):FT en (some i) (.obj cs) (.obj cs')
theorem FT.one {α:Type}{en:En α}{x y:AV}(h:FT en none x y):Fz x y/\NPc y:=by
 cases h with
 | @w en0 L h=>exact ⟨.ice (.own (rowc_nr en0 L)) (h.v _),⟨by intro _ _ _ _ _ e; cases e⟩⟩
 | @n h=>exact ⟨.ice .nils (h.v _),⟨by intro _ _ _ _ _ e; cases e⟩⟩
theorem FT.fz {α:Type}{en:En α}{i:Option Nat}{x y:AV}(h:FT en i x y):Fz x y/\NPc y:=by
 cases h with
 | w=>exact FT.one .w
 | n=>exact FT.one .n
 | @c i cs cs' x y hx h he =>
  obtain ⟨h1,h2⟩:=splo_eq he
  subst h1
  refine ⟨.obj (by simp [splice] at h2 ⊢; omega) fun k a b ha hb=>?_,⟨by simp⟩⟩
  unfold splice at hb
  simp only [List.length_singleton] at h2 hb
  by_cases hk:k<i
  ·rw [List.append_assoc,List.getElem?_append_left (by simp; omega),List.getElem?_take,if_pos hk,ha] at hb
   cases hb; exact .refl
  ·by_cases hk2:k=i
   ·subst hk2
    rw [List.append_assoc,List.getElem?_append_right (by rw [List.length_take]; exact Nat.min_le_left _ _),List.length_take,Nat.min_eq_left (by omega),Nat.sub_self] at hb
    simp at hb
    subst hb
    rw [hx] at ha; cases ha
    exact h.one.1
   ·rw [List.getElem?_append_right (by simp; omega)] at hb
    simp only [List.length_append,List.length_take,List.length_singleton,List.getElem?_drop] at hb
    rw [show i+1+(k - (min i cs.length+1))=k by omega,ha] at hb
    cases hb; exact .refl
theorem pick_F {g g2:Gst}{s:Nat}:∀ {ks:List Nat}{G1:List (Nat × AV)},pick g ks=some G1->(ks.all fun k=>![s].elem k)=true->(∀ e∈G1,NR e.2)->TrF [s] g g2 G1
 | [],_,h,_,_=>by cases h; exact .nil
 | k::ks,G1,h,he,hn=>by
  obtain ⟨x,l,hx,hl,rfl⟩:=pick_cons h
  rw [List.all_cons,Bool.and_eq_true] at he
  have:NRc x:=⟨hn (k,x) (by simp)⟩
  exact .n (by simpa using he.1) hx (pick_F hl he.2 fun e h=>hn e (by simp [h]))
def isReg (id:Nat):Code->Bool
 | .seq (.region k _ _) _=>Nat.beq k id
 | .region k _ _=>Nat.beq k id
 | _=>false
theorem WH.fz {α:Type}{en:En α}{id s:Nat}{i:Option Nat}{B:Code}{Φ:Exit->Gst->Prop}{x y:AV}{ks:List Nat}{Gn:List (Nat × AV)}(hs:get G s=some x) (hy:FT en i x y) (hk:ksX [s] G=some ks) (hp:pick (get G) ks=some Gn) (h:WH E t P N B ((s,y)::Gn) Φ) (hid:isReg id B=true:=by rfl) (hne:(ks.all fun k=>![s].elem k)=true:=by rfl) [hx:NRc x] [hn:NRg Gn]:WH E (.fz id s i en t) P N B G Φ :=
 have:=hy.fz.2
 W.fz [s] (.z (by simp) hs hy.fz.1 (pick_F hp hne hn.p)) h
theorem WH.fl {α:Type}{en:En α}{s:Nat}{i:Option Nat}{c:Code}{Φ:Exit->Gst->Prop}{x y:AV}{ks:List Nat}{Gn:List (Nat × AV)}(hs:get G s=some x) (hy:FT en i x y) (hk:ksX [s] G=some ks) (hp:pick (get G) ks=some Gn) (h:WH E t P N (.loop c) ((s,y)::Gn) Φ) (hne:(ks.all fun k=>![s].elem k)=true:=by rfl) [hx:NRc x] [hn:NRg Gn]:WH E (.fl s i en t) P N (.loop c) G Φ :=
 have:=hy.fz.2
 W.fz [s] (.z (by simp) hs hy.fz.1 (pick_F hp hne hn.p)) h
theorem WH.rf {Φ:Exit->Gst->Prop}{G1:List (Nat × AV)} [hR:RTc P N Φ rs n outs res] (hG:retG rs outs res=some G1) (hz:TrF (G1.map Prod.fst) (get G) (get G1) G1) (hp:PH E t .ret (FinW P N rs n outs res) G1):WH E t P N .ret G Φ :=
 W.fz _ hz (W.rt fun g hb=>hR.p g (hp g hb))
def numF:List Nat->Nat->List AV->Option (List (Nat × AV))
 | _,_,[]=>some []
 | [],_,_::_=>none
 | j::js,k,x::l=>match numF js (k+1) l with
  | none=>none
  | some r=>match nfv x,Nat.beq j k with
   | some y,true=>some ((j,y)::r)
   | _,_=>none
theorem numF_eq:∀ {l:List AV}{js:List Nat}{k:Nat}{r:List (Nat × AV)},numF js k l=some r->numbered k l=r
 | [],js,k,r,h=>by cases js <;> (cases h; rfl)
 | x::l,[],k,r,h=>by cases h
 | x::l,j::js,k,r,h=>by
  unfold numF at h
  split at h
  ·cases h
  ·rename_i r' hr
   split at h
   ·rename_i y hy hj
    cases h; rw [<- numF_eq hr,<- nfv_eq hy,Nat.eq_of_beq_eq_true hj]; rfl
   ·cases h
def lits:List Nat:=[0,1,2,3,4,5,6,7,8,9,10,11,12]
theorem Con.au {f:FuncId}{fn:Func}{c:Code}{args:List AV}{outs:List (Option AV)}{res:AV}(E:List Nat) (t:HT) (hf:P.funcs[f]?=some fn) (hb:fn.body=some c) (hN:fn.ntmps=N.size) (ha:Nat.ble args.length N.size=true) (hlen:outs.length=args.length) (hG:numF lits 0 args=some G) (hw:WH E t P N c G (FinW P N fn.results.toList args.length outs res)):Con P f args outs res:=Con.go hf hb hN ha hlen (W.fin (by rw [numF_eq hG]; exact hw))
end
end Go.Own
namespace Go.Own
open Go
set_option linter.unusedSectionVars false
variable [TB]
structure Ri where
 n:Nat
 cs:List AV
 nr:∀ x∈cs,NR x
def ri0:Ri:=⟨0,[],fun _ h=>by cases h⟩
instance:Inhabited Ri:=⟨ri0⟩
def rI (z:Nat) (x:Ri):AV:=.imm z x.n x.cs
def ri {α:Type}(e:En α) (L:List α):Ri:=⟨L.length,rowc e L,rowc_nr e L⟩
instance {z:Nat}{x:Ri}:NRc (rI z x):=⟨.imm x.nr⟩
instance {z:Nat}{x:Ri}:Vw (rI z x) (rI z x):=⟨fun _=>.self (.imm x.nr) (by simp [rI]) (by simp [rI]) (by simp [rI]) (by simp [rI]) (by simp [rI])⟩
instance {z:Nat}:Vw .nils (rI z ri0):=⟨fun _=>.nilI⟩
instance {z:Nat}{α:Type}{e:En α}:OOc (rI z (ri e [])):=⟨.imm0⟩
instance {z:Nat}:OOc (rI z ri0):=⟨.imm0⟩
end Go.Own
namespace Go.Own
open Go
set_option linter.unusedSectionVars false
variable [TB]
section
variable {P:Program}{N:Rm}{ops:Array Oper}{AT:List (List Nat)}{acc:Acc}{l:List Oper}{K:Gst->Prop}{i d:Nat}
theorem DL.bwv (j0:Nat) {G G2:List (Nat × AV)}{o:Oper}{x:AV}(he:EffOk P N (visG (get G) (fun m=>(AT.getD j0 []).contains m) acc) o (upd (get G2) d x)) (hg:o.guard=none) (hpd:ndq (acc.filterMap pendPlace)=true) (hp0:npB G=true) (hj:Nat.beq ops.size (j0+l.length+1)=true)
  (hU:acc.filter (fun e=>!(AT.getD j0 []).contains e.1)=[])
  (hb:(List.range ops.size).all (fun k=>Nat.ble k j0||(AT.getD k []).contains j0)=true) (hk:DL P N ops AT (get ((d,x)::G2)) (j0+1) [] l K):DL P N ops AT (get G) i acc (o::l) K :=
 .bw j0 (get_cons ▸ he) hg hpd hp0 hj hU hb hk
end
end Go.Own
namespace Go.Proofs
open Go Go.Own
instance:TB:=⟨fun _ _=>True,fun _ _ _=>trivial⟩
open Go Go.Shelf Go.RowKit Go.Lib Go.Sort Go.Own
def Tryz.sortS35_ren:Go.Shelf.Ren:=⟨fun | 6=>35 | 15=>55 | 14=>54 | 28=>77 | 29=>78 | 20=>69 | 21=>70 | 22=>71 | 23=>72 | 24=>73 | 25=>74 | 26=>75 | 27=>76 | 46=>101 | 47=>102 | 48=>103 | 49=>104 | 50=>105 | 57=>125 | n=>n,fun | 22=>47 | 24=>93 | 25=>112 | 3=>3 | 39=>124 | 0=>0 | 53=>171 | 55=>173 | 4=>4 | 46=>165 | 45=>164 | 50=>90 | 5=>5 | 9=>9 | 66=>196 | 70=>200 | 76=>228 | 77=>188 | n=>n,fun | n=>n⟩
theorem Tryz.sortS35:Go.Proofs.SlLaysF0.n6 Tryz.prog Tryz.sortS35_ren:={
 mixed:=by kernel_rfl
 f6:=⟨Tryz.f35.name,by decide,Tryz.func35.trans (congrArg some (by kernel_rfl))⟩
 f14:=⟨Tryz.f54.name,by decide,Tryz.func54.trans (congrArg some (by kernel_rfl))⟩
 f15:=Tryz.func55.trans (congrArg some (by kernel_rfl))
 f20:=⟨Tryz.f69.name,by decide,Tryz.func69.trans (congrArg some (by kernel_rfl))⟩
 f21:=⟨Tryz.f70.name,by decide,Tryz.func70.trans (congrArg some (by kernel_rfl))⟩
 f22:=⟨Tryz.f71.name,by decide,Tryz.func71.trans (congrArg some (by kernel_rfl))⟩
 f23:=⟨Tryz.f72.name,by decide,Tryz.func72.trans (congrArg some (by kernel_rfl))⟩
 f24:=⟨Tryz.f73.name,by decide,Tryz.func73.trans (congrArg some (by kernel_rfl))⟩
 f25:=⟨Tryz.f74.name,by decide,Tryz.func74.trans (congrArg some (by kernel_rfl))⟩
 f26:=⟨Tryz.f75.name,by decide,Tryz.func75.trans (congrArg some (by kernel_rfl))⟩
 f27:=⟨Tryz.f76.name,by decide,Tryz.func76.trans (congrArg some (by kernel_rfl))⟩
 f28:=Tryz.func77.trans (congrArg some (by kernel_rfl))
 f29:=Tryz.func78.trans (congrArg some (by kernel_rfl))
 f46:=⟨Tryz.f101.name,by decide,Tryz.func101.trans (congrArg some (by kernel_rfl))⟩
 f47:=Tryz.func102.trans (congrArg some (by kernel_rfl))
 f48:=Tryz.func103.trans (congrArg some (by kernel_rfl))
 f49:=⟨Tryz.f104.name,by decide,Tryz.func104.trans (congrArg some (by kernel_rfl))⟩
 f50:=⟨Tryz.f105.name,by decide,Tryz.func105.trans (congrArg some (by kernel_rfl))⟩
 f57:=⟨Tryz.f125.name,by decide,Tryz.func125.trans (congrArg some (by kernel_rfl))⟩
 t0:=Tryz.underlying0
 a0:=Tryz.isAgg0
 z0:=Tryz.sizeOf0
 v0:=Tryz.zeroValue0
 t3:=Tryz.underlying3
 a3:=Tryz.isAgg3
 z3:=Tryz.sizeOf3
 v3:=Tryz.zeroValue3
 t4:=Tryz.underlying4
 a4:=Tryz.isAgg4
 z4:=Tryz.sizeOf4
 v4:=Tryz.zeroValue4
 t5:=Tryz.underlying5
 a5:=Tryz.isAgg5
 z5:=Tryz.sizeOf5
 v5:=Tryz.zeroValue5
 t9:=Tryz.underlying9
 a9:=Tryz.isAgg9
 z9:=Tryz.sizeOf9
 v9:=Tryz.zeroValue9
 t22:=Tryz.underlying47
 a22:=Tryz.isAgg47
 z22:=Tryz.sizeOf47
 v22:=Tryz.zeroValue47
 t25:=Tryz.underlying112
 a25:=Tryz.isAgg112
 z25:=Tryz.sizeOf112
 v25:=Tryz.zeroValue112
 t39:=Tryz.underlying124
 a39:=Tryz.isAgg124
 z39:=Tryz.sizeOf124
 v39:=Tryz.zeroValue124
 t45:=Tryz.underlying164
 a45:=Tryz.isAgg164
 z45:=Tryz.sizeOf164
 v45:=Tryz.zeroValue164
 t46:=Tryz.underlying165
 a46:=Tryz.isAgg165
 z46:=Tryz.sizeOf165
 v46:=Tryz.zeroValue165
 t50:=Tryz.underlying90
 a50:=Tryz.isAgg90
 z50:=Tryz.sizeOf90
 v50:=Tryz.zeroValue90
 t53:=Tryz.underlying171
 a53:=Tryz.isAgg171
 z53:=Tryz.sizeOf171
 v53:=Tryz.zeroValue171
 t55:=Tryz.underlying173
 a55:=Tryz.isAgg173
 z55:=Tryz.sizeOf173
 v55:=Tryz.zeroValue173
 t66:=Tryz.underlying196
 a66:=Tryz.isAgg196
 z66:=Tryz.sizeOf196
 v66:=Tryz.zeroValue196
 t70:=Tryz.underlying200
 a70:=Tryz.isAgg200
 z70:=Tryz.sizeOf200
 v70:=Tryz.zeroValue200
 t76:=Tryz.underlying228
 a76:=Tryz.isAgg228
 z76:=Tryz.sizeOf228
 v76:=Tryz.zeroValue228
 t77:=Tryz.underlying188
 a77:=Tryz.isAgg188
 z77:=Tryz.sizeOf188
 v77:=Tryz.zeroValue188 }
def Tryz.sortI_ren:Go.Shelf.Ren:=⟨fun | 6=>50 | 15=>55 | 14=>66 | 28=>77 | 29=>78 | 20=>92 | 21=>93 | 22=>94 | 23=>95 | 24=>96 | 25=>97 | 26=>98 | 27=>99 | 46=>122 | 47=>102 | 48=>103 | 49=>123 | 50=>124 | 57=>132 | n=>n,fun | 22=>22 | 24=>3 | 25=>36 | 3=>3 | 39=>124 | 0=>0 | 53=>171 | 55=>173 | 4=>4 | 46=>165 | 45=>164 | 50=>90 | 5=>5 | 9=>9 | 66=>196 | 70=>200 | 76=>228 | 77=>188 | n=>n,fun | n=>n⟩
theorem Tryz.sortI:Go.Proofs.SlLaysF.n6 Tryz.prog Tryz.sortI_ren:={
 mixed:=by kernel_rfl
 f6:=⟨Tryz.f50.name,by decide,Tryz.func50.trans (congrArg some (by kernel_rfl))⟩
 f14:=⟨Tryz.f66.name,by decide,Tryz.func66.trans (congrArg some (by kernel_rfl))⟩
 f15:=Tryz.func55.trans (congrArg some (by kernel_rfl))
 f20:=⟨Tryz.f92.name,by decide,Tryz.func92.trans (congrArg some (by kernel_rfl))⟩
 f21:=⟨Tryz.f93.name,by decide,Tryz.func93.trans (congrArg some (by kernel_rfl))⟩
 f22:=⟨Tryz.f94.name,by decide,Tryz.func94.trans (congrArg some (by kernel_rfl))⟩
 f23:=⟨Tryz.f95.name,by decide,Tryz.func95.trans (congrArg some (by kernel_rfl))⟩
 f24:=⟨Tryz.f96.name,by decide,Tryz.func96.trans (congrArg some (by kernel_rfl))⟩
 f25:=⟨Tryz.f97.name,by decide,Tryz.func97.trans (congrArg some (by kernel_rfl))⟩
 f26:=⟨Tryz.f98.name,by decide,Tryz.func98.trans (congrArg some (by kernel_rfl))⟩
 f27:=⟨Tryz.f99.name,by decide,Tryz.func99.trans (congrArg some (by kernel_rfl))⟩
 f28:=Tryz.func77.trans (congrArg some (by kernel_rfl))
 f29:=Tryz.func78.trans (congrArg some (by kernel_rfl))
 f46:=⟨Tryz.f122.name,by decide,Tryz.func122.trans (congrArg some (by kernel_rfl))⟩
 f47:=Tryz.func102.trans (congrArg some (by kernel_rfl))
 f48:=Tryz.func103.trans (congrArg some (by kernel_rfl))
 f49:=⟨Tryz.f123.name,by decide,Tryz.func123.trans (congrArg some (by kernel_rfl))⟩
 f50:=⟨Tryz.f124.name,by decide,Tryz.func124.trans (congrArg some (by kernel_rfl))⟩
 f57:=⟨Tryz.f132.name,by decide,Tryz.func132.trans (congrArg some (by kernel_rfl))⟩
 t0:=Tryz.underlying0
 a0:=Tryz.isAgg0
 z0:=Tryz.sizeOf0
 v0:=Tryz.zeroValue0
 t3:=Tryz.underlying3
 a3:=Tryz.isAgg3
 z3:=Tryz.sizeOf3
 v3:=Tryz.zeroValue3
 t4:=Tryz.underlying4
 a4:=Tryz.isAgg4
 z4:=Tryz.sizeOf4
 v4:=Tryz.zeroValue4
 t5:=Tryz.underlying5
 a5:=Tryz.isAgg5
 z5:=Tryz.sizeOf5
 v5:=Tryz.zeroValue5
 t9:=Tryz.underlying9
 a9:=Tryz.isAgg9
 z9:=Tryz.sizeOf9
 v9:=Tryz.zeroValue9
 t22:=Tryz.underlying22
 a22:=Tryz.isAgg22
 z22:=Tryz.sizeOf22
 v22:=Tryz.zeroValue22
 a24:=Tryz.isAgg3
 z24:=Tryz.sizeOf3
 t25:=Tryz.underlying36
 a25:=Tryz.isAgg36
 z25:=Tryz.sizeOf36
 v25:=Tryz.zeroValue36
 t39:=Tryz.underlying124
 a39:=Tryz.isAgg124
 z39:=Tryz.sizeOf124
 v39:=Tryz.zeroValue124
 t45:=Tryz.underlying164
 a45:=Tryz.isAgg164
 z45:=Tryz.sizeOf164
 v45:=Tryz.zeroValue164
 t46:=Tryz.underlying165
 a46:=Tryz.isAgg165
 z46:=Tryz.sizeOf165
 v46:=Tryz.zeroValue165
 t50:=Tryz.underlying90
 a50:=Tryz.isAgg90
 z50:=Tryz.sizeOf90
 v50:=Tryz.zeroValue90
 t53:=Tryz.underlying171
 a53:=Tryz.isAgg171
 z53:=Tryz.sizeOf171
 v53:=Tryz.zeroValue171
 t55:=Tryz.underlying173
 a55:=Tryz.isAgg173
 z55:=Tryz.sizeOf173
 v55:=Tryz.zeroValue173
 t66:=Tryz.underlying196
 a66:=Tryz.isAgg196
 z66:=Tryz.sizeOf196
 v66:=Tryz.zeroValue196
 t70:=Tryz.underlying200
 a70:=Tryz.isAgg200
 z70:=Tryz.sizeOf200
 v70:=Tryz.zeroValue200
 t76:=Tryz.underlying228
 a76:=Tryz.isAgg228
 z76:=Tryz.sizeOf228
 v76:=Tryz.zeroValue228
 t77:=Tryz.underlying188
 a77:=Tryz.isAgg188
 z77:=Tryz.sizeOf188
 v77:=Tryz.zeroValue188 }
theorem sort50 {g:FuncId}{caps:List AV} [hcp:NRl caps] (hg:callT Tryz.prog g=true) {l r:List Int}{cf:Int->Int->Option Int}(h:sortO cf l=some r)
  (hc:∀ a b v,cf a b=some v->Con Tryz.prog g (I64 a::I64 b::caps) (none::none::caps.map fun _=>none) (I64 v)) :
  Con Tryz.prog 50 [oR eI l,.clo (.func g) [] caps] [some (oR eI r),none] (.tup []):=Con.sortI Tryz.sortI hg h hc
end Go.Proofs
section
namespace Go.Proofs
open Go Go.Shelf Go.RowKit Go.Lib Go.Sort Go.Own
set_option maxHeartbeats 4000000
set_option maxRecDepth 1000000
set_option linter.unusedVariables false
theorem clN46 (w:World) (n c:Nat):Calls Tryz.prog 46 #[.slice none n c] w fun e' w'=>e'=.returned (.slice none 0 0)/\w'=w:=by
 have q22:∀ (w:World) (a:Option Addr) (n c n' c':Nat),(binOp .eql 39 (.slice a n c) (.slice none n' c')).run Tryz.prog w=.ok (.bool a.isNone) w:=fun w a n c n' c'=>Lib.run_eql_slice_nil w _ _ a n c n' c' Tryz.underlying39
 go_enter Tryz.func46,Tryz.ntmps46
 go_wp2
 go_ret
 exact ⟨rfl,rfl⟩
theorem clS46 (w:World) (ad:Addr) (n c:Nat) (news:List Value) (hl:news.length=n * 4) (hn:n<=1000000000000) (hc:∀ j u,news[j]?=some u->w.cell? (ad.add j)=some u) (h1:∀ u∈news,u.oneCell'=true) :
  Calls Tryz.prog 46 #[.slice (some ad) n c] w fun e' w'=>∃ v' t,e'=.returned v'/\w'.ownsRow 0 t 4 v' n news/\(∀ c,v'.ownBlock=some c->w.heap.size<=c)/\Fr w w' fun _=>False:=by
 have q22:∀ (w:World) (a:Option Addr) (n c n' c':Nat),(binOp .eql 39 (.slice a n c) (.slice none n' c')).run Tryz.prog w=.ok (.bool a.isNone) w:=fun w a n c n' c'=>Lib.run_eql_slice_nil w _ _ a n c n' c' Tryz.underlying39
 obtain ⟨i,zv,ht,hi,hz2,hb2,h0,hz,hzs⟩:=appT_spec (P:=Tryz.prog) (t:=39) (e:=41) (z:=4) (b:=48) (by kernel_rfl)
 have A:Aside (∀ j u,news[j]?=some u->w.cell? (ad.add j)=some u):=hc
 clear hc
 go_enter Tryz.func46,Tryz.ntmps46
 go_wp2_with (at_builtin; refine wpList_app_fr rfl _ _ 39 rfl 41 i zv ht hi hz (by rw [hz2]; exact hzs) (by rw [hz2]; exact h0) _ 0 [] rfl ?qc0 ad n c news rfl ?qc1 ?qc2 ?qc3 ?qc4 ?qc5 ?_)
 case qc0=>rw [hz2]; exact World.ownsRow_made w #[] 0 (Nat.zero_le _) (Nat.zero_le _) (by simp)
 case qc1=>rw [hz2]; exact hl
 case qc2 =>
  intro j u hj
  exact Lib.cell?_alloc_some _ (A.out j u hj)
 case qc3=>exact h1
 case qc4=>rw [Nat.zero_add]; simp only [maxLen]; omega
 case qc5=>rw [hb2,Nat.zero_add]; omega
 intro v' w1 e2 hA
 go_wp2
 go_ret
 obtain ⟨_,hnew,hfr,hblk,_⟩:=hA
 refine ⟨v',e2,rfl,by simpa [hz2] using hnew,fun c hc=>?_,?_⟩
 ·rcases hblk c hc with h | h
  ·cases h; exact Nat.le_refl _
  ·exact Nat.le_trans (Fr.alloc w _ (fun _=>False) (.inl ⟨_,_,rfl⟩)).size h
 ·exact (Fr.alloc w _ _ (.inl ⟨_,_,rfl⟩)).trans hfr fun b hb hu=>by cases hu; exact absurd hb (Nat.lt_irrefl _)
end Go.Proofs
end
