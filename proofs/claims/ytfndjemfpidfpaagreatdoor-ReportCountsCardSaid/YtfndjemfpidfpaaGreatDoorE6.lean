/- Parts of the proof that the last text states. -/
import Derived.Shelf.Strconv.Itoa3
import Derived.Shelf.Strings.Builder2
import Derived.Shelf.Strings.BuilderK
import Derived.Test.YtfndjemfpidfpaaGreatDoorRows
import Derived.Test.YtfndjemfpidfpaaGreatDoorE5
namespace Go.Proofs
open Tryz
open Go.Shelf Go.RowKit Go.Own
set_option linter.unusedSectionVars false
variable [cw]
variable {P:Program}{ρ:Ren}
structure Q8 (t:TypeId) (w w':World) (b k:Nat) (e:TypeId) (arr:Array Value) (v:Value) (n m:Nat) (us news:List Value):Prop where
 eh:Fr w w' (λc=>c=b\/v.ownBlock=some c)
 row:∃ dB,w'.ownsRow 0 t 1 dB (n+m) (us++news)/\w'.heap[b]?=some (.cells ((arr.setIfInBounds k (.pointer (some ⟨b,k,none⟩))).setIfInBounds (k+1) dB) e (0,0))/\dB.ownBlock≠some b/\(∀ c,dB.ownBlock=some c->v.ownBlock=some c\/w.heap.size<=c)
set_option maxHeartbeats 1000000 in
set_option maxRecDepth 100000 in
theorem Sp (L:Lays.n240 P ρ) (X:Builder.X72 P ρ) (b k:Nat) (w:World) (aI:w.cell? ⟨b,k,none⟩=some (.pointer (some ⟨b,k,none⟩))) :
  Calls P (ρ.f 240) #[.pointer (some ⟨b,k,none⟩)] w λe w'=>e=.returned (.tuple #[])/\w'=w:=by
 obtain ⟨j,ag,_⟩:=Option.map_eq_some_iff.1 X.sizeBuilder;have mixed:=L.mixed;have t72:=L.t72; have a72:=L.a72; have z72:=L.z72; have v72:=L.v72; have Dt:=run_underlying L.t72;have t70:=L.t70; have a70:=L.a70; have z70:=L.z70; have v70:=L.v70; have Ds:=run_underlying L.t70;have t9:=L.t9; have a9:=L.a9; have z9:=L.z9; have v9:=L.v9; have F7:=run_underlying L.t9;have t4:=L.t4; have a4:=L.a4; have z4:=L.z4; have v4:=L.v4; have Dr:=run_underlying L.t4;have t164:=L.t164; have a164:=L.a164; have z164:=L.z164; have v164:=L.v164; have K7:=run_underlying L.t164
 go_enter L.f240,Body.n240_ntmps ρ
 go_wp2
 rw [Lib.run_neq_ptr_same w _ L.t70 ag]
 go_wp2
 go_end0
 exact ⟨rfl,rfl⟩
set_option maxHeartbeats 2000000 in
set_option maxRecDepth 100000 in
theorem Mm (L:Lays.n240 P ρ) (X:Builder.X72 P ρ) {b k:Nat}{arr:Array Value}{e:TypeId}{p:Value}(w:World)
  (ao:w.heap[b]?=some (.cells arr e (0,0))) (aI:arr[k]?=some p) (aw:(p=.pointer none/\liesAt P P.depth e (arr.size / P.cellsOf e) k (ρ.t 72) 1=true)\/p=.pointer (some ⟨b,k,none⟩)) :
  Calls P (ρ.f 240) #[.pointer (some ⟨b,k,none⟩)] w λb0 w'=>b0=.returned (.tuple #[])/\Fr w w' (λc=>c=b)/\w'.heap[b]?=some (.cells (arr.setIfInBounds k (.pointer (some ⟨b,k,none⟩))) e (0,0)):=by
 obtain ⟨j,ag,y7⟩:=Option.map_eq_some_iff.1 X.sizeBuilder;have mixed:=L.mixed;have t72:=L.t72; have a72:=L.a72; have z72:=L.z72; have v72:=L.v72; have Dt:=run_underlying L.t72;have t70:=L.t70; have a70:=L.a70; have z70:=L.z70; have v70:=L.v70; have Ds:=run_underlying L.t70;have t9:=L.t9; have a9:=L.a9; have z9:=L.z9; have v9:=L.v9; have F7:=run_underlying L.t9;have t4:=L.t4; have a4:=L.a4; have z4:=L.z4; have v4:=L.v4; have Dr:=run_underlying L.t4;have t164:=L.t164; have a164:=L.a164; have z164:=L.z164; have v164:=L.v164; have K7:=run_underlying L.t164;have hk:k<arr.size:=(Array.getElem?_eq_some_iff.1 aI).1;have IB:w.cell? ⟨b,k,none⟩=some p:=by rw [Lib.cell_of_heap ao]; exact aI
 have nL:w.frozen? ⟨b,k,none⟩=false:=Lib.frozen_of_heap ao k;have EV:w.shape? b=some (e,arr.size):=by simp [World.shape?,ao]
 rcases aw with ⟨rfl,ah⟩ | rfl
 ·go_enter L.f240,Body.n240_ntmps ρ
  go_wp2
  rw [Lib.run_to_unsafe w ⟨b,k,none⟩ L.t70 L.t164 ag (by rw [y7]; decide) EV hk];simp only [Result.andThen];rw [Oper.upon_value]
  go_wp2
  rw [run_callFunc_extern L.f276 (by kernel_rfl) (by kernel_rfl) (by kernel_rfl) (e:=Extern.AbiNoEscape.same) (by kernel_rfl)];rw [Lib.run_noEscape];simp only [Result.andThen];rw [Oper.upon_value]
  go_wp2
  rw [Lib.run_from_unsafe w ⟨b,k,none⟩ L.t164 L.t70 ag EV ah];simp only [Result.andThen];rw [Oper.upon_value]
  go_wp2
  go_end0
  refine ⟨rfl,⟨rfl,rfl,rfl,by simp [World.setCell],λc _ aa=>?_,λa _ aA=>?_,Nat.le_refl _⟩,?_⟩
  ·simp only [World.setCell,Array.getElem?_modify,if_neg (Ne.symm aa)]
  ·have aa:a.block≠b:=aA;simp only [World.frozen?,World.setCell,Array.getElem?_modify,if_neg (Ne.symm aa)]
  ·simp [World.setCell,Array.getElem?_modify,ao]
 ·refine (Sp L X b k w IB).mono ?_;rintro b0 w' ⟨rfl,rfl⟩;refine ⟨rfl,Fr.refl _ _,?_⟩;rw [ao];congr 2;apply Array.ext_getElem?;intro i;by_cases hi:i=k
  ·subst hi; rw [aI,Array.getElem?_setIfInBounds_self_of_lt hk]
  ·rw [Array.getElem?_setIfInBounds_ne (Ne.symm hi)]
set_option maxHeartbeats 2000000 in
set_option maxRecDepth 100000 in
theorem bws (L:Lays.n166 P ρ) (X:Builder.Extra P ρ) {b k:Nat}{arr:Array Value}{e:TypeId}{p v:Value}{n:Nat}{us:List Value}(s:ByteArray) (w:World)
  (ao:w.heap[b]?=some (.cells arr e (0,0))) (aI:arr[k]?=some p) (h1:arr[k+1]?=some v) (aw:(p=.pointer none/\liesAt P P.depth e (arr.size / P.cellsOf e) k (ρ.t 72) 1=true)\/p=.pointer (some ⟨b,k,none⟩))
  (iQ:w.ownsRow 0 (ρ.t 5) 1 v n us) (cN:v.ownBlock≠some b) (hlen:n+s.size<=140737488355328) :
  Calls P (ρ.f 166) #[.pointer (some ⟨b,k,none⟩),.string s] w λb0 w'=>b0=.returned (.tuple #[.int .i64 s.size,.nilIface])/\Q8 (ρ.t 5) w w' b k e arr v n s.size us (Lib.strCells s):=by
 obtain ⟨i0,hi,JE,sI,XL⟩:=info_parts X.infoByte;have mixed:=L.mixed;have t72:=L.t72; have a72:=L.a72; have z72:=L.z72; have v72:=L.v72; have Dt:=run_underlying L.t72;have t70:=L.t70; have a70:=L.a70; have z70:=L.z70; have v70:=L.v70; have Ds:=run_underlying L.t70;have t37:=L.t37; have a37:=L.a37; have z37:=L.z37; have v37:=L.v37; have K8:=run_underlying L.t37;have t3:=L.t3; have a3:=L.a3; have z3:=L.z3; have v3:=L.v3; have Ak:=run_underlying L.t3;have t9:=L.t9; have a9:=L.a9; have z9:=L.z9; have v9:=L.v9; have F7:=run_underlying L.t9;have t4:=L.t4; have a4:=L.a4; have z4:=L.z4; have v4:=L.v4; have Dr:=run_underlying L.t4;have t164:=L.t164; have a164:=L.a164; have z164:=L.z164; have v164:=L.v164; have K7:=run_underlying L.t164;have t5:=X.t5; have a5:=X.a5; have z5:=X.z5; have v5:=X.v5; have K9:=run_underlying X.t5;have TK:∀ args w,(callFunc (ρ.f 240) args).run P w=.ok (.enter (ρ.f 240) args) w:=enters_of L.f240 (by kernel_rfl) rfl;have hk:k<arr.size:=(Array.getElem?_eq_some_iff.1 aI).1;have eX:k+1<arr.size:=(Array.getElem?_eq_some_iff.1 h1).1
 go_enter L.f166,Body.n166_ntmps ρ
 go_wp2_with (go_at_fn (ρ.f 240); refine (Mm { L with } X.toX72 w ao aI aw).mono ?_)
 rintro b0 fj ⟨rfl,y5,kv⟩;have WN:fj.ownsRow 0 (ρ.t 5) 1 v n us:=rV iQ λc aa=>y5.block c (iQ.lt c aa).2 λh=>cN (h ▸ aa);have oI:fj.cell? ⟨b,k,none⟩=some (.pointer (some ⟨b,k,none⟩)):=by rw [Lib.cell_of_heap kv,Array.getElem?_setIfInBounds_self_of_lt hk]
 have c1:fj.cell? ⟨b,k+1,none⟩=some v:=by rw [Lib.cell_of_heap kv,Array.getElem?_setIfInBounds_ne (by omega)]; exact h1
 go_wp2_with (at_builtin; refine aaS rfl _ _ (ρ.t 37) (ρ.t 9) rfl (ρ.t 5) i0 L.t37 L.t9 hi JE sI XL _ _ _ rfl WN s rfl ?kQ ?c4 ?_)
 case kQ=>unfold maxLen; omega
 case c4=>omega
 intro dB e9 dh;have Wy:b<fj.heap.size:=by
  rcases Nat.lt_or_ge b fj.heap.size with aR | aR
  ·exact aR
  ·simp [Array.getElem?_eq_none aR] at kv
 have hj:e9.heap[b]?=some (.cells (arr.setIfInBounds k (.pointer (some ⟨b,k,none⟩))) e (0,0)):=(dh.eh.block b Wy λh=>cN h).trans kv;have dO:(arr.setIfInBounds k (.pointer (some ⟨b,k,none⟩))).size=arr.size:=by simp
 have d0:e9.cell? ⟨b,k,none⟩=some (.pointer (some ⟨b,k,none⟩)):=by rw [Lib.cell_of_heap hj,Array.getElem?_setIfInBounds_self_of_lt hk]
 have d1:e9.cell? ⟨b,k+1,none⟩=some v:=by rw [Lib.cell_of_heap hj,Array.getElem?_setIfInBounds_ne (by omega)]; exact h1
 have f1:e9.frozen? ⟨b,k+1,none⟩=false:=Lib.frozen_of_heap hj (k+1);obtain ⟨uC,ck,cap,rfl⟩:∃ uC ck cap,dB=.slice uC ck cap:=by
  rcases dh.new.2 with ⟨hv,_⟩ | ⟨g,cap,cur,hv,_⟩
  ·exact ⟨_,_,_,hv⟩
  ·exact ⟨_,_,_,hv⟩
 have u2:(Value.slice uC ck cap).ownBlock≠some b:=λh=>by
  rcases dh.fG b h with h | h
  ·exact cN h
  ·omega
 have pK:(e9.setCell ⟨b,k+1,none⟩ (.slice uC ck cap)).heap[b]?=some (.cells ((arr.setIfInBounds k (.pointer (some ⟨b,k,none⟩))).setIfInBounds (k+1) (.slice uC ck cap)) e (0,0)):=by
  simp [World.setCell,Array.getElem?_modify,hj]
 have I7:∀ c,c≠b->(e9.setCell ⟨b,k+1,none⟩ (.slice uC ck cap)).heap[c]?=e9.heap[c]?:=λc aa=>by
  simp only [World.setCell,Array.getElem?_modify,if_neg (Ne.symm aa)]
 have fC:Fr w (e9.setCell ⟨b,k+1,none⟩ (.slice uC ck cap)) (λc=>c=b\/v.ownBlock=some c):=by
  have lB:=(y5.mono (U':=λc=>c=b\/v.ownBlock=some c) λc _ h=>.inl h).trans dh.eh λc _ h=>.inr h;refine ⟨lB.os,lB.tape,lB.output,by simpa [World.setCell] using lB.size,λc aa aA=>(I7 c λh=>aA (.inl h)).trans (lB.block c aa aA),λa aQ aA=>?_,lB.uK⟩;have:(e9.setCell ⟨b,k+1,none⟩ (.slice uC ck cap)).frozen? a=e9.frozen? a:=by
   unfold World.frozen?;rw [I7 a.block λh=>aA (.inl h)]
  exact this.trans (lB.fJ a aQ aA)
 go_wp2
 go_ret2
 refine ⟨rfl,fC,_,rV dh.new λc aa=>I7 c λh=>u2 (h ▸ aa),pK,u2,λc aa=>?_⟩;rcases dh.fG c aa with h | h
 ·exact .inl h
 ·exact .inr (Nat.le_trans y5.size h)
set_option maxHeartbeats 1000000 in
set_option maxRecDepth 100000 in
theorem Mq (L:Lays.n169 P ρ) (X:Builder.Extra P ρ) {b k:Nat}{arr:Array Value}{e:TypeId}{v:Value}(l:List UInt8) (w:World)
  (ao:w.heap[b]?=some (.cells arr e (0,0))) (h1:arr[k+1]?=some v) (iQ:w.ownsRow 0 (ρ.t 5) 1 v l.length (Lib.byteCells l)) (aI:l≠[]) :
  Calls P (ρ.f 169) #[.pointer (some ⟨b,k,none⟩)] w λb0 w'=>b0=.returned (.string ⟨l.toArray⟩)/\Fr w w' (λc=>v.ownBlock=some c):=by
 have za:l.length≠0:=by simpa using aI
 have WM:=iQ;obtain ⟨g,cap,cur,rfl,_,aL,ad3,l3,gB,zi⟩:∃ g cap cur,v=.slice (some ⟨g,0,none⟩) l.length cap/\0<=g/\w.heap[g]?=some (.cells cur (ρ.t 5) (0,0))/\l.length<=cap/\cap<=maxLen/\cur.size=cap * 1/\cur.toList.take (l.length * 1)=Lib.byteCells l:=by
  rcases iQ.2 with ⟨_,aT⟩ | ⟨g,cap,cur,hv,r⟩
  ·exact absurd aT za
  ·exact ⟨g,cap,cur,hv,r⟩
 have c1:w.drew.cell? ⟨b,k+1,none⟩=some (.slice (some ⟨g,0,none⟩) l.length cap):=by
  have:w.drew.heap[b]?=some (.cells arr e (0,0)):=ao;rw [Lib.cell_of_heap this]; exact h1
 have adA:(Builtin.unsafeSliceData_ #[(ρ.t 37)] (ρ.t 127) #[.slice (some ⟨g,0,none⟩) l.length cap]).run P w.drew=.ok (.pointer (some ⟨g,0,none⟩)) w.drew :=
  Lib.run_unsafeSliceData_row _ _ _ _ _ _ (by omega)
 have adC:(Builtin.unsafeString_ #[(ρ.t 127),(ρ.t 3)] (ρ.t 9) #[.pointer (some ⟨g,0,none⟩),.int .i64 l.length]).run P w.drew=.ok (.string ⟨l.toArray⟩) (w.drew.freeze ⟨g,0,none⟩ l.length):=by
  refine Lib.run_unsafeString_row w.drew (ρ.t 127) (ρ.t 3) (ρ.t 9) (ρ.t 5) L.t127 X.cellsByte g cur.size (by have EG:w.drew.heap[g]?=some (.cells cur (ρ.t 5) (0,0)):=aL; simp [World.shape?,EG]) l aI (by omega) (by unfold maxLen at l3; omega) ?_;intro j x J;have:=WM.cells (g:=g) rfl j (.int .u8 x.toNat) (by simp [Lib.byteCells,J]);exact this
 have mixed:=L.mixed;have t72:=L.t72; have a72:=L.a72; have z72:=L.z72; have v72:=L.v72; have Dt:=run_underlying L.t72;have t70:=L.t70; have a70:=L.a70; have z70:=L.z70; have v70:=L.v70; have Ds:=run_underlying L.t70;have t37:=L.t37; have a37:=L.a37; have z37:=L.z37; have v37:=L.v37; have K8:=run_underlying L.t37;have t127:=L.t127; have a127:=L.a127; have z127:=L.z127; have v127:=L.v127; have aew:=run_underlying L.t127;have t3:=L.t3; have a3:=L.a3; have z3:=L.z3; have v3:=L.v3; have Ak:=run_underlying L.t3;have t9:=L.t9; have a9:=L.a9; have z9:=L.z9; have v9:=L.v9; have F7:=run_underlying L.t9;have t5:=X.t5; have a5:=X.a5; have z5:=X.z5; have v5:=X.v5; have K9:=run_underlying X.t5;have fC:Fr w (w.drew.freeze ⟨g,0,none⟩ l.length) (λc=>(Value.slice (some ⟨g,0,none⟩) l.length cap).ownBlock=some c):=by
  have aM:∀ c,c≠g->(w.drew.freeze ⟨g,0,none⟩ l.length).heap[c]?=w.heap[c]?:=λc aa=>by
   unfold World.freeze;rw [if_neg za];simp only [Array.getElem?_modify,if_neg (Ne.symm aa)];rfl
  refine ⟨by unfold World.freeze; split <;> rfl,by unfold World.freeze; split <;> rfl,by unfold World.freeze; split <;> rfl,by unfold World.freeze; split <;> simp,λc _ aa=>aM c λh=>aa (by simp [Value.ownBlock,h]),λa _ aA=>?_,by unfold World.freeze; split <;> exact Nat.le_succ _⟩;unfold World.frozen?;rw [aM a.block λh=>aA (by simp [Value.ownBlock,h])]
 go_enter L.f169,Body.n169_ntmps ρ
 go_wp2
 go_region_o
 all_goals (go_wp2; go_ret; exact ⟨rfl,fC⟩)
end Go.Proofs
namespace Go.Own
open Go Go.Proofs Go.Shelf Go.Lib
set_option linter.unusedSectionVars false
variable [cw]
def mS (x s:ByteArray):Option ByteArray:=if x.size+s.size<=140737488355328 then some (x++s) else none
def pw (x:ByteArray):Option ByteArray:=if x.size=0 then none else some x
theorem QA (x s:ByteArray):strCells x++strCells s=strCells (x++s):=by
 unfold strCells;rw [<- List.map_append];congr 1
section
variable {P:Program}{ρ:Ren}
theorem bO.D5 (L:Lays.n166 P ρ) (X:Builder.Extra P ρ) {x s y:ByteArray}(h:mS x s=some y) :
  bO P (ρ.f 166) [.obj [.self (0,ρ.t 72),.dt (ρ.t 5) (strCells x)],aq s] [some (.obj [.self (0,ρ.t 72),.dt (ρ.t 5) (strCells y)]),none] (.bI [ae s.size,.lit .nilIface]):=by
 refine ⟨rfl,λw I vs Fs m' a_=>?_⟩
 match vs,m' with
 | [v0,v1],_ =>
 obtain ⟨Aj,sA,fc⟩:=a_.rel 0 _ rfl;obtain ⟨K6,Jj,rq⟩:=a_.rel 1 _ rfl;cases sA; cases Jj;have oc:=(rq.fW (by simp)).gW.1;subst oc;unfold mS at h
 split at h <;> cases h
 rename_i dO;have aU:=fc.fW (by simp);cases aU with
 | ref J=>simp [ab.isRef] at J
 | @obj _ b e arr bH _ aM ah h1 ak aP ao aE av =>
  have pO:arr.size=2:=ah.symm;have qC:arr[0]?=some arr[0]:=Array.getElem?_eq_getElem (by omega);have nI:arr[1]?=some arr[1]:=Array.getElem?_eq_getElem (by omega);have aw:=av 0 _ _ rfl qC;have sj:=ak 1 _ _ rfl nI;cases sj with
  | ref J=>simp [ab.isRef] at J
  | dt jw fw il =>
   have cN:arr[1].ownBlock≠some b:=λh=>ao 1 (by simp) ((il b).2 h);rw [strCells_length] at jw;refine (bws L X s w aM qC nI (aw.imp (λ⟨h1,af⟩=>⟨h1,by rw [af,pO]; exact X.liesBuilder⟩) id) jw cN dO).mono ?_;rintro b0 w' ⟨rfl,fC,dB,iQ,im,zc,hblk⟩;rw [QA] at iQ;have aK:∀ c,dB.ownBlock=some c->c<w'.heap.size:=λc aa=>(iQ.lt c aa).2;have aA:x.size+s.size=(strCells (x++s)).length:=by rw [strCells_length]; simp [ByteArray.size_append]
   rw [aA] at iQ;have u3:dB.oneCell'=true:=by
    rcases iQ.2 with ⟨hv,_⟩ | ⟨g,cap,cur,hv,_⟩ <;> rw [hv] <;> rfl
   have mW:∀ c,(c=b\/dB.ownBlock=some c)->Fs 0 c\/w.heap.size<=c:=by
    rintro c (rfl | aa)
    ·exact .inl ((aE _).2 (.inl rfl))
    ·rcases hblk c aa with h | h
     ·exact .inl ((aE c).2 (.inr ⟨1,by simp,(il c).2 h⟩))
     ·exact .inr h
   refine ⟨_,I,λt c=>t=0/\(c=b\/dB.ownBlock=some c),rfl,⟨λt x J=>?_,λt au c aa=>?_,λt t' c aa dW=>aa.1.trans dW.1.symm,λt c aa hi=>?_,λc aa=>Nat.lt_of_lt_of_le (a_.lt c aa) fC.size,λt t' z p n m new bM ck bn cO h1 _=>?_,cw.keep a_.g_ (λc aa=>fC.block c (a_.lt c aa) λh=>a_.bf 0 c (h.elim (λh=>h ▸ (aE b).2 (.inl rfl)) λh=>(aE c).2 (.inr ⟨1,by simp,(il c).2 h⟩)) aa) λ_ h=>h⟩,⟨?_,λ_ h=>h,λ_ h=>.inl h,λc aa=>?_⟩⟩
   ·match t,J with
    | 0,J =>
     cases J;refine ⟨_,rfl,.tree ?_⟩;refine .obj (Fs:=λk c=>k=1/\dB.ownBlock=some c) im (by simp [pO]) (λk u hu=>?_) (λk y u ai hu=>?_) (λj k c _ _ h1 af=>h1.1.trans af.1.symm) (λk _ h=>zc h.2) (λc=>⟨λh=>h.2.imp id λh=>⟨1,by simp,rfl,h⟩,λh=>⟨rfl,h.imp id λ⟨_,_,_,h⟩=>h⟩⟩) (λk j u ai hu=>?_)
     ·match k,hu with
      | 0,hu=>simp [pO] at hu; subst hu; rfl
      | 1,hu=>simp [pO] at hu; subst hu; exact u3
      | k+2,hu=>simp [pO] at hu
     ·match k,ai,hu with
      | 0,ai,hu=>cases ai; exact .j0 λc h=>by cases h.1
      | 1,ai,hu =>
       cases ai;simp [pO] at hu;subst hu;exact .dt iQ u3 λc=>⟨λh=>h.2,λh=>⟨rfl,h⟩⟩
      | k+2,ai,hu=>cases ai
     ·match k,ai,hu with
      | 0,ai,hu =>
       cases ai;simp [pO] at hu;exact .inr hu.symm
      | 1,ai,hu=>cases ai
      | k+2,ai,hu=>cases ai
    | 1,J=>cases J
    | 2,J =>
     cases J;refine ⟨_,rfl,.tree (.bI (Fs:=λ_=>cd) rfl (λk y u ai hu=>?_) (λ_ _ _ _ _ h=>h.elim) (λc=>⟨λh=>(by cases h.1),λ⟨_,_,h⟩=>h.elim⟩))⟩
     match k,ai,hu with
     | 0,ai,hu=>cases ai; cases hu; exact .lit rfl λ_ h=>h
     | 1,ai,hu=>cases ai; cases hu; exact .lit rfl λ_ h=>h
     | k+2,ai,hu=>cases ai
    | t+3,J=>simp [h4] at J
   ·rw [aa.1] at au; cases au
   ·rcases mW c aa.2 with h | h
    ·exact a_.bf 0 c h hi
    ·have:=a_.lt c hi; omega
   ·match t,h1 with
    | 0,h1=>cases h1
    | 1,h1=>cases h1
    | 2,h1=>cases h1
    | t+3,h1=>simp [h4] at h1
   ·refine fC.mono λc _ h=>⟨0,?_⟩;rcases h with rfl | h
    ·exact (aE _).2 (.inl rfl)
    ·exact (aE c).2 (.inr ⟨1,by simp,(il c).2 h⟩)
   ·obtain ⟨t,_,aa⟩:=aa;rcases mW c aa with h | h
    ·exact .inl ⟨0,h⟩
    ·exact .inr h
theorem bO.bs (L:Lays.n169 P ρ) (X:Builder.Extra P ρ) {x y:ByteArray}(h:pw x=some y) :
  bO P (ρ.f 169) [.obj [.self (0,ρ.t 72),.dt (ρ.t 5) (strCells x)]] [some (.obj [.self (0,ρ.t 72),.dead])] (aq y):=by
 refine ⟨rfl,λw I vs Fs m' a_=>?_⟩
 match vs,m' with
 | [v0],_ =>
 obtain ⟨Aj,sA,fc⟩:=a_.rel 0 _ rfl;cases sA;unfold pw at h
 split at h <;> cases h
 rename_i dO;have aU:=fc.fW (by simp);cases aU with
 | ref J=>simp [ab.isRef] at J
 | @obj _ b e arr bH _ aM ah h1 ak aP ao aE av =>
  have pO:arr.size=2:=ah.symm;have qC:arr[0]?=some arr[0]:=Array.getElem?_eq_getElem (by omega);have nI:arr[1]?=some arr[1]:=Array.getElem?_eq_getElem (by omega);have sj:=ak 1 _ _ rfl nI;cases sj with
  | ref J=>simp [ab.isRef] at J
  | dt jw fw il =>
   have cN:arr[1].ownBlock≠some b:=λh=>ao 1 (by simp) ((il b).2 h);have pL:strCells x=byteCells x.data.toList:=rfl;have hlen:(strCells x).length=x.data.toList.length:=by unfold strCells; rw [List.length_map]
   rw [hlen,pL] at jw;refine (Mq L X (k:=0) x.data.toList w aM nI jw (λe=>dO (by rw [<- strCells_length]; unfold strCells; rw [e]; rfl))).mono ?_;rintro b0 w' ⟨rfl,fC⟩;have yZ:b<w.heap.size:=(Array.getElem?_eq_some_iff.1 aM).1;have im:w'.heap[b]?=some (.cells arr e (0,0)):=(fC.block b yZ cN).trans aM;refine ⟨_,I,λt c=>t=0/\c=b,rfl,⟨λt x J=>?_,λt au c aa=>?_,λt t' c aa dW=>aa.1.trans dW.1.symm,λt c aa hi=>?_,λc aa=>Nat.lt_of_lt_of_le (a_.lt c aa) fC.size,λt t' z p n m new bM ck bn cO h1 _=>?_,cw.keep a_.g_ (λc aa=>fC.block c (a_.lt c aa) λh=>a_.bf 0 c ((aE c).2 (.inr ⟨1,by simp,(il c).2 h⟩)) aa) λ_ h=>h⟩,⟨?_,λ_ h=>h,λ_ h=>.inl h,λc aa=>?_⟩⟩
   ·match t,J with
    | 0,J =>
     cases J;refine ⟨_,rfl,.tree (.obj (Fs:=λ_=>cd) im ah h1 (λk y u ai hu=>?_) (λ_ _ _ _ _ h=>h.elim) (λ_ _ h=>h) (λc=>⟨λh=>.inl h.2,λh=>⟨rfl,h.elim id λ⟨_,_,h⟩=>h.elim⟩⟩) (λk j u ai hu=>?_))⟩
     ·match k,ai with
      | 0,ai=>cases ai; exact .j0 λ_ h=>h
      | 1,ai=>cases ai; exact .dead λ_ h=>h
      | k+2,ai=>cases ai
     ·match k,ai with
      | 0,ai=>cases ai; exact av 0 _ u rfl hu
      | 1,ai=>cases ai
      | k+2,ai=>cases ai
    | 1,J =>
     cases J;refine ⟨_,rfl,.tree (.lit rfl λc h=>by cases h.1)⟩
    | t+2,J=>simp [h4] at J
   ·rw [aa.1] at au; cases au
   ·rw [aa.2] at hi;exact a_.bf 0 b ((aE b).2 (.inl rfl)) hi
   ·match t,h1 with
    | 0,h1=>cases h1
    | 1,h1=>cases h1
    | t+2,h1=>simp [h4] at h1
   ·exact fC.mono λc _ h=>⟨0,(aE c).2 (.inr ⟨1,by simp,(il c).2 h⟩)⟩
   ·obtain ⟨t,_,rfl⟩:=aa;exact .inl ⟨0,(aE _).2 (.inl rfl)⟩
end
end Go.Own
namespace Go.Own
open Go
set_option linter.unusedSectionVars false
variable [cw]
set_option linter.unusedVariables false
def Km:ab->Option ab
 | .lit v=>some (.lit v)
 | .bb=>some .bb
 | .bf z n cs=>some (.bf z n cs)
 | .own z n cs=>some (.own z n cs)
 | .obj cs=>some (.obj cs)
 | .agg cs=>some (.agg cs)
 | .bI cs=>some (.bI cs)
 | .cL cs=>some (.cL cs)
 | .ptr p k=>some (.ptr p k)
 | .bo z p n=>some (.bo z p n)
 | .sub z p l n=>some (.sub z p l n)
 | .bD z p n m c=>some (.bD z p n m c)
 | .dc f a b=>some (.dc f a b)
 | .mp p=>some (.mp p)
 | .gY p=>some (.gY p)
 | .imp p=>some (.imp p)
 | .dead=>some .dead
 | .self k=>some (.self k)
 | .dt t us=>some (.dt t us)
theorem Pj {x y:ab}(h:Km x=some y):x=y:=by cases x <;> (cases h; rfl)
def Ft:List ab->Option (List ab)
 | []=>some []
 | x::l=>match Ft l with
  | none=>none
  | some r=>match Km x with
   | none=>none
   | some y=>some (y::r)
theorem Ph:∀ {l r:List ab},Ft l=some r->l=r
 | [],r,h=>by cases h; rfl
 | x::l,r,h=>by
  unfold Ft at h
  split at h
  ·cases h
  ·rename_i dr ak
   split at h
   ·cases h
   ·rename_i y ai;cases h; rw [Ph ak,Pj ai]
def tX:ab->Option ab
 | .agg cs=>match Ft cs with
  | some r=>some (.agg r)
  | none=>none
 | x=>Km x
theorem xx {x y:ab}(h:tX x=some y):x=y:=by
 unfold tX at h
 split at h
 ·split at h
  ·rename_i ak;cases h; rw [Ph ak]
  ·cases h
 ·exact Pj h
def ou:List ab->Option (List ab)
 | []=>some []
 | x::l=>match ou l with
  | none=>none
  | some r=>match tX x with
   | none=>none
   | some y=>some (y::r)
theorem zw:∀ {l r:List ab},ou l=some r->l=r
 | [],r,h=>by cases h; rfl
 | x::l,r,h=>by
  unfold ou at h
  split at h
  ·cases h
  ·rename_i dr ak
   split at h
   ·cases h
   ·rename_i y ai;cases h; rw [zw ak,xx ai]
def xW (f:Nat->ab->ab):Nat->List Nat->List ab->Option (List ab)
 | _,_,[]=>some []
 | _,[],_::_=>none
 | k,j::eF,x::l=>match xW f (k+1) eF l with
  | none=>none
  | some r=>match Nat.beq j k,tX (f j x) with
   | true,some y=>some (y::r)
   | _,_=>none
theorem C5 {f:Nat->ab->ab}:∀ {l:List ab}{eF:List Nat}{k:Nat}{r:List ab},xW f k eF l=some r->(l.mapIdx λi x=>f (k+i) x)=r
 | [],eF,k,r,h=>by cases eF <;> (cases h; rfl)
 | x::l,[],k,r,h=>by cases h
 | x::l,j::eF,k,r,h=>by
  unfold xW at h
  split at h
  ·cases h
  ·rename_i dr ak
   split at h
   ·rename_i y ag ai;cases h;have:=Nat.eq_of_beq_eq_true ag;subst this;rw [List.mapIdx_cons,<- C5 ak,<- xx ai];simp [Nat.add_comm,Nat.add_left_comm]
   ·cases h
def num:List Nat:=0::1::2::3::4::5::6::7::8::9::10::11::12::13::14::15::16::17::18::19::20::21::22::23::24::25::26::27::28::29::30::31::32::33::34::35::36::37::38::39::40::41::42::43::44::45::46::47::48::49::50::51::52::53::54::55::56::57::58::59::60::61::62::63::64::65::66::67::68::69::70::71::72::73::74::75::76::77::78::79::[]
def FM (g:aH):Operand->Option ab
 | .tmp t=>match g t with
  | some (.lit v)=>some (.lit v)
  | some .bb=>some .bb
  | some (.bf z n cs)=>some (.bf z n cs)
  | some (.own z n _)=>some (.bo z ⟨t,[]⟩ n)
  | some (.obj (_::_))=>some (.ptr ⟨t,[]⟩ 0)
  | some (.cL cs)=>some (.cL cs)
  | some (.agg cs)=>match xW (λi x=>fY 1 ⟨t,[i]⟩ x) 0 num cs with
   | some r=>some (.agg r)
   | none=>none
  | some (.bI cs)=>match xW (λi x=>fY 1 ⟨t,[i]⟩ x) 0 num cs with
   | some r=>some (.bI r)
   | none=>none
  | some (.ptr p k)=>some (.ptr p k)
  | some (.bo z p n)=>some (.bo z p n)
  | some (.sub z p l n)=>some (.sub z p l n)
  | some (.bD z _ n m _)=>some (.bo z ⟨t,[]⟩ (n+m))
  | some (.dc fn [] cs)=>some (.dc fn [] cs)
  | some (.mp _)=>some (.gY ⟨t,[]⟩)
  | some (.gY p)=>some (.gY p)
  | some (.imp q)=>some (.imp q)
  | _=>none
 | .const v=>match ofConst v with
  | .lit v=>some (.lit v)
  | .agg cs=>some (.agg cs)
  | .bb=>match v with
   | .slice none 0 0=>some .bb
   | _=>none
  | _=>none
 | .func f=>some (.dc (.func f) [] [])
 | .global _=>none
theorem YC {v u:Value}(h:ofConst v=.lit u):u=v:=by
 cases v <;> simp only [ofConst,jZ] at h <;> first | (cases h; rfl) | (split at h <;> cases h <;> rfl) | cases h
theorem Rd.q {g:aH}{a:Operand}{y:ab}(h:FM g a=some y:=by rfl):Rd g a y:=by
 unfold FM at h
 split at h
 ·split at h <;> first | (split at h <;> cases h <;> first | exact .agg ‹_› (by have:=C5 ‹_›; simpa [Place.push] using this) | exact .bI ‹_› (by have:=C5 ‹_›; simpa [Place.push] using this)) | skip
  all_goals cases h
  all_goals first | exact .lit ‹_› | exact .bb ‹_› | exact .bf ‹_› | exact .own ‹_› | exact .obj ‹_› | exact .cL ‹_› | exact .ptr ‹_› | exact .bo ‹_› | exact .sub ‹_› | exact .bD ‹_› | exact .dc ‹_› | exact .mp ‹_› | exact .gY ‹_› | exact .imp ‹_›
 ·split at h
  ·rename_i e; cases h; have:=YC e; subst this; exact .k e
  ·rename_i e; cases h; exact .J3 e
  ·split at h <;> cases h
   exact .xr
  ·cases h
 ·cases h; exact .func
 ·cases h
def FO (g:aH) (t:Nat):Option ab :=
 match g t with
 | some (.lit v)=>some (.lit v)
 | some .bb=>some .bb
 | some (.bf z n cs)=>some (.bf z n cs)
 | some (.cL cs)=>some (.cL cs)
 | some (.dc fn [] cs)=>some (.dc fn [] cs)
 | some (.imp q)=>some (.imp q)
 | _=>none
theorem Rd.zZ {g:aH}{t:Nat}{y:ab}(h:FO g t=some y:=by rfl):Rd g (.tmp t) y:=by
 unfold FO at h
 split at h <;> cases h <;> first | exact .lit ‹_› | exact .bb ‹_› | exact .bf ‹_› | exact .cL ‹_› | exact .dc ‹_› | exact .imp ‹_›
class iZ (P:Program) (t:TypeId) (α:outParam Type) (en:outParam (bK α)):Prop where p:True:=trivial
class s0 {α:Type}(en:bK α) (cs:List ab) (y:outParam α):Prop where p:en.cells y=cs
instance {a:Int}:s0 aZ [ae a] a:=⟨rfl⟩
instance {a:Int}:s0 pE [mi a] a:=⟨rfl⟩
instance {a:Bool}:s0 cr [bd a] a:=⟨rfl⟩
instance {a:ByteArray}:s0 cH [aq a] a:=⟨rfl⟩
instance {α:Type}{en:bK α}{l:List α}:s0 (b4 en) [.bf en.z l.length (bu en l)] l:=⟨rfl⟩
class qk {α:Type}(en:bK α) (ys:List ab) (L:outParam (List α)):Prop where p:n2 ys=some (bu en L)/\ys.all (λy=>match jf y with | some c=>Nat.beq c.length en.z | none=>false)=true/\L.length=ys.length
instance {α:Type}{en:bK α}:qk en [] []:=⟨⟨rfl,rfl,rfl⟩⟩
theorem qk.cons {α:Type}{en:bK α}{y:ab}{cs:List ab}{ys:List ab}{a:α}{L:List α}(ao:jf y=some cs) [h:s0 en cs a] [ah:qk en ys L]:qk en (y::ys) (a::L):=by
 refine ⟨⟨?_,?_,?_⟩⟩
 ·simp [n2,ao,ah.p.1,bu,h.p]
 ·simp only [List.all_cons,ao,ah.p.2.1,Bool.and_true];rw [<- h.p,en.len]; exact Nat.beq_refl _
 ·simp [ah.p.2.2]
instance {α:Type}{en:bK α}{cs ys:List ab}{a:α}{L:List α} [h:s0 en cs a] [ah:qk en ys L]:qk en (.agg cs::ys) (a::L):=.cons rfl
instance {α:Type}{en:bK α}{v:Value}{ys:List ab}{a:α}{L:List α} [h:s0 en [.lit v] a] [ah:qk en ys L]:qk en (.lit v::ys) (a::L):=.cons rfl
instance {α:Type}{en:bK α}{z n:Nat}{cs:List ab}{ys:List ab}{a:α}{L:List α} [h:s0 en [.bf z n cs] a] [ah:qk en ys L]:qk en (.bf z n cs::ys) (a::L):=.cons rfl
def KT (d:Nat):List Oper->Bool
 | []=>false
 | o::l=>(match o.op with
  | .call { callee:=.value _,args:=xs,argTypes:=_ }=>xs.toList.any λx=>match x with | .tmp t=>Nat.beq t d | _=>false
  | .call { callee:=.builtin .append,args:=xs,argTypes:=_ }=>match xs.toList with | [_,.tmp t]=>Nat.beq t d | _=>false
  | .convert _ _ (.tmp t)=>Nat.beq t d
  | .build _ ps=>ps.toList.any λx=>match x.2 with | .tmp t=>Nat.beq t d | _=>false
  | .buildSlice _ _ ps=>ps.toList.any λx=>match x.2 with | .tmp t=>Nat.beq t d | _=>false
  | _=>false)||KT d l
class DG (P:Program):Prop where p:P.follows .mixedOrders=true:=by kernel_rfl
class kn (P:Program) (t:TypeId) (k:outParam Nat):Prop where p:hX P t k=true:=by kernel_rfl
class h7 (P:Program) (t:TypeId) (z:outParam Value):Prop where p:(P.info? t).bind (·.zero)=some z:=by kernel_rfl
class Rl (P:Program) (e:TypeId) (t:outParam TypeId):Prop where p:(P.info? e).bind (·.zero)=some (.agg #[.pointer none,.slice none 0 0]):=by kernel_rfl
class kH (P:Program) (t:TypeId) (pl:outParam (List (Nat × Nat))):Prop where p:k3 P t pl=true:=by kernel_rfl
class ko (P:Program) (t:TypeId) (e z b:outParam Nat):Prop where p:jP P t e z b=true:=by kernel_rfl
class wc (P:Program) (t:TypeId) (k:outParam IntKind):Prop where p:tP P t k=true:=by kernel_rfl
class yl (P:Program) (t:TypeId) (b:outParam Nat):Prop where p:(P.info? t).map (·.bytes)=some b:=by kernel_rfl
section
variable {α β:Type}{P:Program}{g:aH}{ty t t2:TypeId}{a b:Operand}{k r z n:Nat}{cs cs':List ab}{x y:ab}{p q:Place}{m:Int}{tV J5:IntKind}{e:TypeId}{N:cQ}{ops:Array Oper}{gf:Nat}
theorem O.Al (J:Rd g a y:=by exact .q) (aa:(jf y).bind ou=some cs:=by rfl):ch P g (.box e a) ty (.obj cs):=by
 cases ao:jf y with
 | none=>rw [ao] at aa; cases aa
 | some c=>rw [ao] at aa; have:=zw aa; subst this; exact O.box J ao
theorem O.fj {v:Value} [h:fE P t] (J:Rd g a (.ptr ⟨r,[]⟩ k):=by exact .q) (av:g r=some (.obj cs):=by rfl) (aa:cs[k]?=some (.lit v):=by rfl):ch P g (.load t a) ty (.lit v):=O.o2 av J h.p aa
theorem O.e9 [h:fE P t] (J:Rd g a (.cL cs):=by exact .q) (aa:cs.head?.bind tX=some x:=by rfl):ch P g (.load t a) ty x:=by
 cases ao:cs.head? with
 | none=>rw [ao] at aa; cases aa
 | some c=>rw [ao] at aa; have:=xx aa; subst this; exact O.Ch J h.p ao
theorem O.vN [h:fE P t] (J:Rd g a (.ptr ⟨r,[]⟩ k):=by exact .q) (av:g r=some (.obj cs):=by rfl) (aa:cs[k]?=some x:=by rfl) (ai:tX (fY 0 ⟨r,[k]⟩ x)=some y:=by rfl):ch P g (.load t a) ty y:=O.zq av J h.p aa (xx ai)
theorem O.vO [h:kn P t z] (J:Rd g a (.ptr ⟨r,[]⟩ k):=by exact .q) (av:g r=some (.obj cs):=by rfl) (hk:Nat.ble (k+z) cs.length=true:=by rfl) (aa:xW (λi x=>fY 0 ⟨r,[i]⟩ x) k (num.drop k) ((cs.drop k).take z)=some cs':=by rfl):ch P g (.load t a) ty (.agg cs'):=O.ff av J h.p hk (C5 aa)
theorem O.Ga [h:kn P t z] (J:Rd g a (.cL cs):=by exact .q) (aa:ou (cs.take z)=some cs':=by rfl) (aT:cs'.length=z:=by rfl):ch P g (.load t a) ty (.agg cs'):=O.oq J h.p (zw aa) aT
theorem O.Ge {en:bK α}{L:List α}{y:α}{o:Nat}{x x':ab} [au:fE P t] (J:Rd g a (.ptr p (m.toNat * en.z+o)):=by exact .q) (aw:bB g p=some (ar en L):=by rfl) (h:idx L m=some y:=by assumption) (aa:(en.cells y)[o]?=some x:=by rfl) (ak:tX (fY 0 (p.push (m.toNat * en.z+o)) x)=some x':=by rfl):ch P g (.load t a) ty x':=O.kf aw J au.p h aa (xx ak)
theorem O.F9 {cY f off:Nat} [h:db P cY f off t] (J:Rd g a (.ptr ⟨r,[]⟩ k):=by exact .q) (av:g r=some (.obj cs):=by rfl) (ah:Nat.blt (k+off) cs.length=true:=by rfl):ch P g (.fieldAddr cY a f) ty (.ptr ⟨r,[]⟩ (k+off)):=O.mT av J h.p ah
theorem O.F_ {cY f off:Nat} [h:db P cY f off t] (J:Rd g a (.cL cs):=by exact .q):ch P g (.fieldAddr cY a f) ty (.cL (cs.drop off)):=O.A7 J h.p
theorem O.F' {en:bK α}{L:List α}{y:α}{bM:Nat}(h:idx L m=some y) [aF:eI P t e bM] (J:Rd g a (.bf en.z L.length (bu en L)):=by exact .q) (ai:Rd g b (.lit (.int tV m)):=by exact .q) (aT:bM=en.z:=by rfl):ch P g (.indexAddr t a b) ty (.cL (en.cells y++bu en (L.drop (m.toNat+1)))):=O.rP J ai (aT ▸ aF.p) h
theorem O.uk {en:bK α}{L:List α}{y:α}{bM:Nat}(h:idx L m=some y) [aF:eI P t e bM] (J:Rd g a (.bo en.z p L.length):=by exact .q) (aw:bB g p=some (ar en L):=by rfl) (ai:Rd g b (.lit (.int tV m)):=by exact .q) (aT:bM=en.z:=by rfl) (aI:Nat.blt 0 en.z=true:=by rfl):ch P g (.indexAddr t a b) ty (.ptr p (m.toNat * en.z+0)):=O.gS aw J ai (aT ▸ aF.p) h aI
theorem O.Gl {p i:Nat}{cs:List ab}{x y:ab}(J:g p=some (.bI cs):=by rfl) (ai:cs[i]?=some x:=by rfl) (ak:tX (fY 1 (Place.push ⟨p,[]⟩ i) x)=some y:=by rfl):ch P g (.extract (.tmp p) i) ty y:=O.ex J ai (xx ak)
theorem O.Gd [h1:wc P t tV] [af:wc P t2 J5] (J:Rd g a (.lit (.int tV m)):=by exact .q):ch P g (.convert t t2 a) ty (.lit (.int J5 (J5.wrap m))):=O.Eb J h1.p af.p
theorem O.Gc {L:List Int}(J:Rd g a (.bf pE.z L.length (bu pE L)):=by exact .q) (au:yK P t t2=true:=by kernel_rfl):ch P g (.convert t t2 a) ty (aq (strOfNums L)):=O.TB J au
theorem O.Gb {dj:Value} [h:h7 P e dj] (h1:dj.cells.toList.all Value.oneCell'=true:=by rfl) (aa:ou (dj.cells.toList.map jZ)=some cs:=by rfl):ch P g (.alloc e) ty (.obj cs):=O.ho h.p h1 (zw aa)
theorem O.Gk {parts:Array (Nat × Operand)}{pl:List (Nat × Nat)}{dj:Value}{ps:List (Nat × List ab)} [au:kH P t pl] [aT:h7 P t dj] (h1:dj.cells.toList.all Value.oneCell'=true:=by rfl)
  (aw:qR g parts.toList=some ps:=by rfl) (aa:(uL (λi=>pl[i]?) (dj.cells.toList.map jZ) ps).bind ou=some cs:=by rfl):ch P g (.build t parts) ty (.agg cs):=by
 cases ao:uL (λi=>pl[i]?) (dj.cells.toList.map jZ) ps with
 | none=>rw [ao] at aa; cases aa
 | some c=>rw [ao] at aa; have:=zw aa; subst this; exact O.e4 au.p aT.p h1 aw ao
theorem O.wp {en:bK α}{L M r:List α}{bM:Nat}(h:ea L M=some r) [au:ko P t e bM gf] (av:Rd g a (.bo en.z p L.length):=by exact .q) (aw:bB g p=some (ar en L):=by rfl) (J:Rd g b y:=by exact .q) (hm:po g en y M:=by (first | exact .i | exact .n | exact .o rfl rfl)) (aT:bM=en.z:=by rfl) (ao:Nat.ble gf 128=true:=by rfl) [eR:qt g]:ch P g (.call { callee:=.builtin .append,args:=#[a,b],argTypes:=#[t,t] }) ty (.bD en.z p L.length M.length (bu en M)) :=
 O.ap av aw J hm (aT ▸ au.p) ao h
def xv:List ab->Option (List Value)
 | []=>some []
 | .lit v::l=>match xv l with
  | some r=>some (v::r)
  | none=>none
 | _=>none
theorem Ci:∀ {l:List ab}{r:List Value},xv l=some r->l=r.map .lit
 | [],r,h=>by cases h; rfl
 | x::l,r,h=>by
  unfold xv at h
  split at h
  ·rename_i e; cases e
  ·rename_i e;cases e
   split at h
   ·rename_i dr ak;cases h; rw [Ci ak]; rfl
   ·cases h
  ·cases h
def x1:List Value->Option (List lW)
 | []=>some []
 | v::l=>match x1 l,ki v with
  | some r,some u=>some (u::r)
  | _,_=>none
theorem Dc:∀ {l:List Value}{r:List lW},x1 l=some r->l.map ki=r.map some
 | [],r,h=>by cases h; rfl
 | v::l,r,h=>by
  unfold x1 at h
  split at h
  ·rename_i ox u ak av;cases h; simp [Dc ak,av]
  ·cases h
theorem O.nW {AW pB:List ab}{nV oA:List Value}{sh:List lW}(J:Rd g a (.agg AW):=by exact .q) (ai:Rd g b (.agg pB):=by exact .q) (zk:xv AW=some nV:=by rfl) (BY:xv pB=some oA:=by rfl) (aQ:x1 nV=some sh:=by rfl) (ao:x1 oA=some sh:=by rfl) (au:n4 P t sh=true:=by kernel_rfl):ch P g (.binOp .eql t a b t2) ty (bd (jS nV oA)):=O.T0 (Ci zk ▸ J) (Ci BY ▸ ai) (Dc aQ) (Dc ao) au
theorem O.wn {AW pB:List ab}{nV oA:List Value}{sh:List lW}(J:Rd g a (.agg AW):=by exact .q) (ai:Rd g b (.agg pB):=by exact .q) (zk:xv AW=some nV:=by rfl) (BY:xv pB=some oA:=by rfl) (aQ:x1 nV=some sh:=by rfl) (ao:x1 oA=some sh:=by rfl) (au:n4 P t sh=true:=by kernel_rfl):ch P g (.binOp .neq t a b t2) ty (bd (!jS nV oA)):=O.Yu (Ci zk ▸ J) (Ci BY ▸ ai) (Dc aQ) (Dc ao) au
theorem O.Gg {en:bK α}{z0:α}{r:List α}{bM:Nat}{dj:Value}(h:nQ m z0=some r) [het:iZ P t α en] [au:eI P t e bM] [hzero:h7 P e dj] [hY:yl P e gf] (J:Rd g a (.lit (.int tV m)):=by exact .q) (ai:Rd g b (.lit (.int .i64 m)):=by exact .q) (h1:dj.cells.toList.all Value.oneCell'=true:=by rfl) (aa:dj.cells.toList.map jZ=en.cells z0:=by rfl) (aT:bM=en.z:=by rfl) (ao:Nat.ble gf 128=true:=by rfl):ch P g (.makeSlice t a b) ty (ar en r) :=
 O.mk (aT ▸ au.p) J ai hzero.p h1 aa h hY.p ao
theorem O.wl {en:bK α}{bM:Nat} [het:iZ P t α en] [au:eI P t e bM] (aT:bM=en.z:=by rfl) (hzero:jI P e en.z=true:=by kernel_rfl):ch P g (.buildSlice t 0 #[]) ty (ar en ([]:List α)) :=
 O.bs (ys:=[]) en [] (aT ▸ au.p) rfl rfl rfl rfl rfl rfl hzero (by rw [Nat.zero_mul]; rfl) rfl
theorem O.Gh {en:bK α}{M r:List α}{bM:Nat}(h:ea [] M=some r) [au:ko P t e bM gf] (av:Rd g a .bb:=by exact .q) (J:Rd g b y:=by exact .q) (hm:po g en y M:=by (first | exact .i | exact .n | exact .o rfl rfl)) (aT:bM=en.z:=by rfl) (ao:Nat.ble gf 128=true:=by rfl):ch P g (.call { callee:=.builtin .append,args:=#[a,b],argTypes:=#[t,t] }) ty (ar en M) :=
 O.RZ av J hm (aT ▸ au.p) ao h
theorem O.Gi {en:bK α}{L r:List α}{c:Operand}{n:Int}{k:IntKind}{bM:Nat}(h:nt L 0 n=some r) [au:eI P t e bM] (J:Rd g a (.bf en.z L.length (bu en L)):=by exact .q) (br:Rd g c (.lit (.int k n)):=by exact .q) (aT:bM=en.z:=by rfl):ch P g (.slice t a none (some c) none) ty (ay en r):=O.ZQ J br (aT ▸ au.p) h
theorem O.Gj {en:bK α}{L r:List α}{k:IntKind}{bM:Nat}(h:nt L m L.length=some r) [au:eI P t e bM] (J:Rd g a (.bf en.z L.length (bu en L)):=by exact .q) (ah:Rd g b (.lit (.int k m)):=by exact .q) (aT:bM=en.z:=by rfl):ch P g (.slice t a (some b) none none) ty (ay en r):=O.Qu J ah (aT ▸ au.p) h
def O3:List Nat->List Nat->Bool
 | [],[]=>true
 | a::l,b::m=>Nat.beq a b&&O3 l m
 | _,_=>false
def PO (p q:Place):Bool:=!(Nat.beq p.root q.root&&O3 p.path q.path)
def Pl (p:Place):List (Nat × ab)->Bool
 | []=>true
 | (_,.bD _ q _ _ _)::l=>PO p q&&Pl p l
 | _::l=>Pl p l
def Pk (p:Place):Acc->Bool
 | []=>true
 | (_,_,some (.bD _ q _ _ _))::l=>PO p q&&Pk p l
 | _::l=>Pk p l
instance {s:Nat}{x:ab}{G:List (Nat × ab)} [h:oD s (get G)]:oD s (get ((s,x)::G)):=(pG (G:=G) (d:=s) (v:=x)) ▸ (inferInstance:oD s (cR (get G) s x))
instance {s d:Nat}{x:ab}{G:List (Nat × ab)} [h:oD s (get G)] [J:mL x]:oD s (get ((d,x)::G)):=(pG (G:=G) (d:=d) (v:=x)) ▸ (inferInstance:oD s (cR (get G) d x))
theorem O.F8 {en:bK α}{L M M2 r:List α}{bM s:Nat}(h:ea (L++M) M2=some r) [au:ko P t e bM gf] (av:Rd g a (.bo en.z ⟨s,[]⟩ (L.length+M.length)):=by exact .q) (pS:g s=some (.bD en.z q L.length M.length (bu en M)):=by rfl) (aw:bB g q=some (ar en L):=by rfl) (J:Rd g b y:=by exact .q) (hm:po g en y M2:=by (first | exact .i | exact .n | exact .o rfl rfl)) (aT:bM=en.z:=by rfl) (ao:Nat.ble gf 128=true:=by rfl) [eR:oD s g]:ch P g (.call { callee:=.builtin .append,args:=#[a,b],argTypes:=#[t,t] }) ty (.bD en.z ⟨s,[]⟩ (L.length+M.length) M2.length (bu en M2)) :=
 O.DW av pS aw J hm (aT ▸ au.p) ao h
theorem O.Gm {en:bK β}{r:List (List β)}{bM:Nat}{dj:Value}(h:nQ m ([]:List β)=some r) [het:iZ P t (List β) (b4 en)] [au:eI P t e bM] [hzero:h7 P e dj] [hY:yl P e gf] (J:Rd g a (.lit (.int tV m)):=by exact .q) (ai:Rd g b (.lit (.int .i64 m)):=by exact .q) (h1:dj.cells.toList.all Value.oneCell'=true:=by rfl) (aa:dj.cells.toList.map jZ=[.bb]:=by rfl) (aT:bM=(b4 en).z:=by rfl) (ao:Nat.ble gf 128=true:=by rfl):ch P g (.makeSlice t a b) ty (ar (b4 en) r) :=
 O.Yk (aT ▸ au.p) J ai hzero.p h1 aa h hY.p ao
theorem O.Gf {en:bK α}{L:List α}{y:α}{bM:Nat} [aF:eI P t e bM] (J:Rd g a (.bo en.z p L.length):=by exact .q) (aw:bB g p=some (ar en L):=by rfl) (ai:Rd g b (.lit (.int tV m)):=by exact .q) (aT:bM=en.z:=by rfl) (aI:Nat.blt 0 en.z=true:=by rfl) (h:idx L m=some y:=by assumption):ch P g (.indexAddr t a b) ty (.ptr p (m.toNat * en.z+0)):=O.gS aw J ai (aT ▸ aF.p) h aI
end
def Ce (LA:List (Nat × ab)) (ex:List Nat) (Qw:List Nat):List (Nat × ab)->Option (List Nat)
 | []=>some []
 | (k,x)::l=>match Ce LA ex (k::Qw) l with
  | none=>none
  | some r=>match !ex.elem k&&!Qw.elem k&&(match x with | .ptr ⟨q,[]⟩ _=>!ex.elem q&&(match get LA q with | some (.obj _)=>true | _=>false) | _=>false) with
   | true=>some (k::r)
   | false=>some r
def qP (g g2:aH) (r:Nat):List (Nat × ab)->Bool
 | []=>true
 | (s,.ptr ⟨q,[]⟩ k)::l=>!Nat.beq s r&&(match g q,g2 q with | some (.obj cs),some (.obj j9)=>Nat.blt k cs.length&&Nat.blt k j9.length | _,_=>false)&&qP g g2 r l
 | _=>false
theorem Py {g g2:aH}{r:Nat}{s:Nat}{x:ab}{l:List (Nat × ab)}(h:qP g g2 r ((s,x)::l)=true):(∃ q k cs j9,x=.ptr ⟨q,[]⟩ k/\Nat.beq s r=false/\g q=some (.obj cs)/\Nat.blt k cs.length=true/\g2 q=some (.obj j9)/\Nat.blt k j9.length=true)/\qP g g2 r l=true:=by
 unfold qP at h
 split at h
 ·rename_i e; cases e
 ·rename_i cY q k zp e;cases e;rw [Bool.and_eq_true,Bool.and_eq_true] at h;obtain ⟨⟨h1,af⟩,aF⟩:=h
  split at af
  ·rename_i cs j9 bP cu;rw [Bool.and_eq_true] at af;exact ⟨⟨q,k,cs,j9,rfl,by simpa using h1,bP,af.1,cu,af.2⟩,aF⟩
  ·cases af
 ·cases h
theorem Nh {g:aH}{r s:Nat}{x y:ab}(h:Nat.beq s r=false) (J:cR g r x s=some y):g s=some y:=by
 unfold cR at J;rw [if_neg (by rintro rfl; rw [Nat.beq_refl] at h; cases h)] at J;exact J
theorem C1 {g:aH}{k:Nat}{ks:List Nat}{G1:List (Nat × ab)}(h:pick g (k::ks)=some G1):∃ x l,g k=some x/\pick g ks=some l/\G1=(k,x)::l:=by
 unfold pick at h
 split at h
 ·rename_i x J
  split at h
  ·rename_i l ah;cases h; exact ⟨x,l,J,ah,rfl⟩
  ·cases h
 ·cases h
theorem FK {g g2:aH}{r:Nat}{cs2:List ab}{T:List (Nat × ab)}(c0:ly g g2 r cs2 T):∀ {ks:List Nat}{G1:List (Nat × ab)},pick (cR g r (.obj cs2)) ks=some G1->(∀ e∈G1,cK e.2)->ly g g2 r cs2 (G1++T)
 | [],_,h,_=>by cases h; exact c0
 | k::ks,G1,h,aA=>by
  obtain ⟨x,l,J,ah,rfl⟩:=C1 h;have aJ:=FK c0 ah λe h=>aA e (by simp [h]);have fD:=aA (k,x) (by simp);by_cases e:Nat.beq k r=true
  ·have:=Nat.eq_of_beq_eq_true e;subst this;simp only [cR,if_true] at J;cases J;have:dp cs2:=⟨by cases fD with | obj h=>exact h⟩;exact .b rfl aJ
  ·have:b6 x:=⟨fD⟩;have e:=Bool.eq_false_iff.2 e;exact .n e (Nh e J) aJ
theorem FL {g g2:aH}{r:Nat}{cs2:List ab}:∀ {ks:List Nat}{G1:List (Nat × ab)},pick (cR g r (.obj cs2)) ks=some G1->qP g g2 r G1=true->ly g g2 r cs2 G1
 | [],_,h,_=>by cases h; exact .nil
 | k::ks,G1,h,aA=>by
  obtain ⟨x,l,J,ah,rfl⟩:=C1 h;obtain ⟨⟨q,j,cs,j9,rfl,h1,af,aF,bk,b2⟩,du⟩:=Py aA;exact .p h1 (Nh h1 J) af aF bk b2 (FL ah du)
theorem FI {g g2:aH}{ex:List Nat}{T:List (Nat × ab)}(c0:mh ex g g2 T):∀ {ks:List Nat}{G1:List (Nat × ab)},pick g ks=some G1->(ks.all λk=>!ex.elem k)=true->(∀ e∈G1,cK e.2)->mh ex g g2 (G1++T)
 | [],_,h,_,_=>by cases h; exact c0
 | k::ks,G1,h,he,aA=>by
  obtain ⟨x,l,J,ah,rfl⟩:=C1 h;rw [List.all_cons,Bool.and_eq_true] at he;have:b6 x:=⟨aA (k,x) (by simp)⟩;exact .n (by simpa using he.1) J (FI c0 ah he.2 λe h=>aA e (by simp [h]))
theorem FJ {g g2:aH}{ex:List Nat}{r:Nat}:∀ {ks:List Nat}{G1:List (Nat × ab)},pick g ks=some G1->(ks.all λk=>!ex.elem k)=true->qP g g2 r G1=true->mh ex g g2 G1
 | [],_,h,_,_=>by cases h; exact .nil
 | k::ks,G1,h,he,aA=>by
  obtain ⟨x,l,J,ah,rfl⟩:=C1 h;rw [List.all_cons,Bool.and_eq_true] at he;obtain ⟨⟨q,j,cs,j9,rfl,h1,af,aF,bk,b2⟩,du⟩:=Py aA;exact .p (by simpa using he.1) J bk b2 (FJ ah he.2 du)
def s_:List (Nat × ab)->List (Nat × ab)->Option (List (Nat × ab))
 | [],T=>some T
 | p::l,T=>match s_ l T with
  | some r=>some (p::r)
  | none=>none
theorem wm:∀ {l T r:List (Nat × ab)},s_ l T=some r->r=l++T
 | [],_,_,h=>by cases h; rfl
 | p::l,T,r,h=>by
  unfold s_ at h
  split at h
  ·rename_i dr ak;cases h; rw [wm ak]; rfl
  ·cases h
theorem yF {m:Option (List ab)}{ys:List ab}(h:m.bind ou=some ys):m=some ys:=by
 cases ao:m with
 | none=>rw [ao] at h; cases h
 | some c=>rw [ao] at h; rw [zw h]
theorem cF.l_ {P:Program}{g:aH}{xs:List Operand}{fT:Array TypeId}{f:FuncId}{ys args:List ab}{outs:List (Option ab)}{res:ab}(J:(hz g xs).bind ou=some ys) (hv:n1 g ys args) (gH:bO P f args outs res) [ak:nY res] (aV:gU P f=true:=by kernel_rfl) (aM:vt outs=true:=by rfl):cF P g (.call { callee:=.value (.func f),args:=xs.toArray,argTypes:=fT }) res:=cF.vw (yF J) hv gH aV aM
def ql (ks ia:List Nat) (P:Program) (N:cQ) (g:aH) (o:Oper) (g':aH):Prop:=bx P N g o g'
section
variable {α:Type}{P:Program}{N:cQ}{ops:Array Oper}{g:aH}{K:aH->Prop}{l:List Oper}{d r k0 s:Nat}{ty t:TypeId}{pos:String}{after:Array Edge}{a b x:Operand}{cs cs' kR cs2:List ab}{y:ab}{G2 kI i_:List (Nat × ab)}{u:Option (Nat × Bool)}{p q:Place}{ks ia:List Nat}{en:bK α}{L M:List α}
theorem h6.iB (aQ:Rd g a (.ptr ⟨r,[]⟩ k0):=by exact .q) (av:g r=some (.obj cs):=by rfl) (ao:Rd g b (.agg cs'):=by exact .q) (he:qd cs k0 cs'=some cs2:=by rfl) (aw:pick (cR g r (.obj cs2)) ks=some kI:=by rfl) (ba:pick (cR g r (.obj cs2)) ia=some i_:=by rfl) (c':s_ kI i_=some G2:=by rfl) (dD:qP g (get G2) r i_=true:=by rfl) (aT:hB P t cs'.length=true:=by kernel_rfl) (aI:Nat.blt 0 cs'.length=true:=by rfl) (ak:(get G2 r).isSome=true:=by rfl) [aA:dp cs'] [eR:dp cs] [aL:jK kI]:ql ks ia P N g ⟨none,.store t a b,ty,pos,after,none⟩ (get G2) :=
 .qb rfl rfl av aQ ao rfl aT (Nat.ble_eq_true_of_le (ns he).2) aI (ns he).1 ak (by have:=wm c'; subst this; exact FK (FL ba dD) aw aL.p)
theorem h6.q4 (aQ:Rd g a (.ptr ⟨r,[]⟩ k0):=by exact .q) (av:g r=some (.obj cs):=by rfl) (ao:Rd g b y:=by exact .q) (aa:n3 y=some [y]:=by rfl) (he:qd cs k0 [y]=some cs2:=by rfl) (aw:pick (cR g r (.obj cs2)) ks=some kI:=by rfl) (ba:pick (cR g r (.obj cs2)) ia=some i_:=by rfl) (c':s_ kI i_=some G2:=by rfl) (dD:qP g (get G2) r i_=true:=by rfl) (aT:hB P t 1=true:=by kernel_rfl) (ak:(get G2 r).isSome=true:=by rfl) [aA:b6 y] [eR:dp cs] [aL:jK kI]:ql ks ia P N g ⟨none,.store t a b,ty,pos,after,none⟩ (get G2) :=
 .qb rfl rfl av aQ ao aa aT (Nat.ble_eq_true_of_le (ns he).2) rfl (ns he).1 ak (by have:=wm c'; subst this; exact FK (FL ba dD) aw aL.p)
theorem h6.oH (J:Rd g x (.bo en.z p L.length):=by exact .q) (aw:bB g p=some (ar en L):=by rfl) (hk:pick g ks=some kI:=by rfl) (cN:(ks.all λk=>![p.root].elem k)=true:=by rfl) (ba:pick g ia=some i_:=by rfl) (c':s_ kI i_=some G2:=by rfl) (u2:(ia.all λk=>![p.root].elem k)=true:=by rfl) (dD:qP g (get G2) 1000000 i_=true:=by rfl) (aL:get G2 d=none:=by rfl) (bc:N.ok d=true:=by rfl) [aA:jK kI]:ql ks ia P N g ⟨some d,.assign x,ty,pos,after,u⟩ (cR (get G2) d (ar en L)) :=
 .GN rfl rfl J aw (by have:=wm c'; subst this; exact FI (FJ ba u2 dD) hk cN aA.p) aL bc
theorem h6.RO (J:Rd g x y:=by exact .q) (hk:pick g ks=some G2:=by rfl) (aL:get G2 d=none:=by rfl) (bc:N.ok d=true:=by rfl) [ai:b6 y] [aA:jK G2]:ql ks ia P N g ⟨some d,.assign x,ty,pos,after,u⟩ (cR (get G2) d y) :=
 .DS rfl rfl J (.f .nil) .refl (vG hk aA.p) aL bc
theorem h6.wo (J:Rd g x (.bo en.z ⟨s,[]⟩ (L.length+M.length)):=by exact .q) (av:g s=some (.bD en.z q L.length M.length (bu en M)):=by rfl) (aw:bB g q=some (ar en L):=by rfl) (hk:pick g ks=some kI:=by rfl) (cN:(ks.all λk=>![s,q.root].elem k)=true:=by rfl) (Jc:pick g ia=some i_:=by rfl) (c':s_ kI i_=some G2:=by rfl) (u2:(ia.all λk=>![s,q.root].elem k)=true:=by rfl) (dD:qP g (get G2) 1000000 i_=true:=by rfl) (ba:Nat.beq q.root s=false:=by rfl) (aL:get G2 d=none:=by rfl) (bc:N.ok d=true:=by rfl) [aA:jK kI]:ql ks ia P N g ⟨some d,.assign x,ty,pos,after,u⟩ (cR (get G2) d (ar en (L++M))) :=
 .GM rfl rfl J av aw ba (by have:=wm c'; subst this; exact FI (FJ Jc u2 dD) hk cN aA.p) aL bc
theorem h6.uc {hL y2:α}{m:Int}{o:Nat}{dR x2 y0:ab}(aQ:Rd g a (.ptr p (m.toNat * en.z+o)):=by exact .q) (aw:bB g p=some (ar en L):=by rfl) (h:idx L m=some hL:=by assumption) (ao:Rd g b y:=by exact .q) (aa:n3 y=some cs':=by rfl) (he:ew (en.cells hL) o cs'=en.cells y2:=by rfl) (iw:cp g p (ar en (L.set m.toNat y2)) p.root=some dR:=by rfl) (gC:Fq dR=some x2:=by rfl) (hk:pick (cR g p.root x2) ks=some G2:=by rfl) (aT:hB P t cs'.length=true:=by kernel_rfl) (hlen:Nat.ble (o+cs'.length) en.z=true:=by rfl) (aI:Nat.blt 0 cs'.length=true:=by rfl) (ak:(get G2 p.root).isSome=true:=by rfl) (qN:g p.root=some y0:=by rfl) [aA:b6 y] [eR:b6 y0] [aL:jK G2]:ql ks ia P N g ⟨none,.store t a b,ty,pos,after,none⟩ (get G2) :=
 .x5 rfl rfl aQ ao aw h aT aa he hlen aI (by rw [iw,Pg gC]) ak qN (KD hk aL.p)
theorem h6.DW {M2:List α}{s2:Nat}(J:Rd g x (.bo en.z ⟨s,[]⟩ (L.length+M2.length+M.length)):=by exact .q) (av:g s=some (.bD en.z ⟨s2,[]⟩ (L.length+M2.length) M.length (bu en M)):=by rfl) (kV:g s2=some (.bD en.z q L.length M2.length (bu en M2)):=by rfl) (aw:bB g q=some (ar en L):=by rfl) (ba:Nat.beq q.root s=false:=by rfl) (qI:Nat.beq q.root s2=false:=by rfl) (BT:Nat.beq s s2=false:=by rfl) (hk:pick g ks=some kI:=by rfl) (cN:(ks.all λk=>![s,s2,q.root].elem k)=true:=by rfl) (Jc:pick g ia=some i_:=by rfl) (c':s_ kI i_=some G2:=by rfl) (u2:(ia.all λk=>![s,s2,q.root].elem k)=true:=by rfl) (dD:qP g (get G2) 1000000 i_=true:=by rfl) (aL:get G2 d=none:=by rfl) (bc:N.ok d=true:=by rfl) [aA:jK kI]:ql ks ia P N g ⟨some d,.assign x,ty,pos,after,u⟩ (cR (get G2) d (ar en (L++M2++M))) :=
 .RJ rfl rfl J av kV aw ba qI BT (by have:=wm c'; subst this; exact FI (FJ Jc u2 dD) hk cN aA.p) aL bc
theorem h6.sp (ao:Rd g b (.bo en.z ⟨s,[]⟩ (L.length+M.length)):=by exact .q) (pS:g s=some (.bD en.z q L.length M.length (bu en M)):=by rfl) (aw:bB g q=some (ar en L):=by rfl) (aQ:Rd g a (.ptr ⟨r,[]⟩ k0):=by exact .q) (av:cp (cp g ⟨s,[]⟩ .dead) q .dead r=some (.obj kR):=by rfl) (he:qd kR k0 [ar en (L++M)]=some cs2:=by rfl) (hk:pick (cR (cp (cp g ⟨s,[]⟩ .dead) q .dead) r (.obj cs2)) ks=some kI:=by rfl) (fK:pick (cR (cp (cp g ⟨s,[]⟩ .dead) q .dead) r (.obj cs2)) ia=some i_:=by rfl) (c':s_ kI i_=some G2:=by rfl) (dD:qP (cp (cp g ⟨s,[]⟩ .dead) q .dead) (get G2) r i_=true:=by rfl) (ba:Nat.beq q.root s=false:=by rfl) (aT:hB P t 1=true:=by kernel_rfl) (ak:(get G2 r).isSome=true:=by rfl) [eR:dp kR] [aL:jK kI]:ql ks ia P N g ⟨none,.store t a b,ty,pos,after,none⟩ (get G2) :=
 .Ah rfl rfl aQ ao pS aw ba .l7 .hA rfl rfl aT av (Nat.ble_eq_true_of_le (ns he).2) (ns he).1 ak (by have:=wm c'; subst this; exact FK (FL fK dD) hk aL.p)
end
def Kc:Nat->List (Option ab)->Option (Nat × List ab)
 | _,[]=>none
 | k,some (.obj cs)::_=>some (k,cs)
 | k,none::l=>Kc (k+1) l
 | _,_=>none
def O9 (g:aH) (xs:List Operand) (k:Nat):Option Nat :=
 match xs[k]? with
 | some (.tmp t)=>match g t with
  | some (.ptr ⟨r,[]⟩ 0)=>some r
  | some (.obj _)=>some t
  | _=>none
 | _=>none
theorem h6.gM {P:Program}{N:cQ}{g:aH}{d r k0:Nat}{ty:TypeId}{pos:String}{after:Array Edge}{u:Option (Nat × Bool)}{f:FuncId}{xs:List Operand}{fT:Array TypeId}{ys args cs cs':List ab}{outs:List (Option ab)}{res:ab}{ks:List Nat}{G2:List (Nat × ab)}
  (gH:bO P f args outs res) (ah:Kc 0 outs=some (k0,cs')) (ak:O9 g xs k0=some r) (aw:pick (cp g ⟨r,[]⟩ .dead) ks=some G2) (J:(hz g xs).bind ou=some ys) (aQ:nw r cs k0 0 ys args) (av:g r=some (.obj cs):=by rfl) (he:outs=vu args.length k0 (.obj cs'):=by rfl) (ky:Nat.blt k0 ys.length=true:=by rfl) (aV:gU P f=true:=by kernel_rfl) (aL:get G2 d=none:=by rfl) (rD:Nat.beq r d=false:=by rfl) (I9:pick (get ((r,.obj cs')::G2)) ks=some G2:=by rfl) (bc:N.ok d=true:=by rfl) [eR:dp cs] [ec:b6 res] [w0:dp cs'] [aA:jK G2] :
  bx P N g ⟨some d,.call { callee:=.value (.func f),args:=xs.toArray,argTypes:=fT },ty,pos,after,u⟩ (get ((d,res)::(r,.obj cs')::G2)) :=
 .call rfl bc (fy.gM (A:=[]) rfl rfl (yF J) av aQ ky (he ▸ gH) aV (vG aw aA.p) aL rD (vG I9 aA.p) .nil bc)
def rb:Acc->List (Nat × ab)->List (Nat × ab)
 | [],G=>G
 | (_,d,some x)::acc,G=>(d,x)::rb acc G
 | (_,_,none)::acc,G=>rb acc G
def cJ (eF:List Nat) (P:Program) (N:cQ) (ops:Array Oper) (bl:List (List Nat)) (g0:aH) (i:Nat) (acc:Acc) (l:List Oper) (K:aH->Prop):Prop:=b8 P N ops bl g0 i acc l K
section
variable {α β:Type}{P:Program}{N:cQ}{ops:Array Oper}{bl:List (List Nat)}{acc:Acc}{E ks:List Nat}{t x y z:k7}{A B c:Code}{G G1 G2:List (Nat × ab)}{g:aH}{g':aH}{Φ qj:Exit->aH->Prop}{dS:aH->Prop}{K:aH->Prop}{id k s d i b7 j cY:Nat}{b cA:Bool}{l:List Oper}{o:Oper}{op:Op}{ty x6:TypeId}{pos:String}{after:Array Edge}{v y':ab}{u:Option (Nat × Bool)}{a ax a2:Operand}
theorem cT.Zu (h:cT E t P N .ret G Φ):cT E t P N .ret G Φ:=h
theorem aD.jF (h:aD P N ops (⟨none,.store ty ax a2,x6,pos,after,u⟩::l) g K):aD P N ops (⟨none,.store ty ax a2,x6,pos,after,u⟩::l) g K:=h
theorem cJ.jF {eF:List Nat}(h:cJ eF P N ops bl g i acc (⟨none,.store ty ax a2,x6,pos,after,u⟩::l) K):cJ eF P N ops bl g i acc (⟨none,.store ty ax a2,x6,pos,after,u⟩::l) K:=h
theorem cJ.bG (op:Op) (u:Option (Nat × Bool)) {eF:List Nat}(h:cJ eF P N ops bl g i acc (⟨some d,op,ty,pos,after,u⟩::l) K):cJ eF P N ops bl g i acc (⟨some d,op,ty,pos,after,u⟩::l) K:=h
theorem cJ.nl {eF:List Nat}(h:cJ eF P N ops bl g i acc [] K):cJ eF P N ops bl g i acc [] K:=h
def FN (g:aH) (d:Nat):Operand->Option ab
 | .tmp t=>bif Nat.beq t d then none else FO g t
 | .const v=>FM g (.const v)
 | _=>none
theorem Rd.p4 {g:aH}{a:Operand}{y:ab}(h:FN g d a=some y):Rd (del g d) a y:=by
 unfold FN at h
 split at h
 ·rename_i t;cases ao:Nat.beq t d with
  | true=>rw [ao] at h; cases h
  | false =>
   rw [ao] at h;have cN:t≠d:=Nat.ne_of_beq_eq_false ao;refine Rd.zZ ?_;unfold FO at h ⊢;simpa [del,cN] using h
 ·exact .q (by unfold FM at h ⊢; exact h)
 ·cases h
theorem RC {y':ab}(J:FN (get G) d a=some v) (aV:get G d=some y') (ah:leaf y'=true) (hk:aD P N ops l (get ((d,v)::G)) K) (bc:N.ok d=true:=by rfl):aD P N ops (⟨some d,.assign a,ty,pos,after,none⟩::l) (get G) K:=.over (.assign (Rd.p4 J).bp) bc aV ah (pG ▸ hk)
theorem RD {y':ab}(J:FN (get G) d a=some v) (aV:get G d=some y') (ah:leaf y'=true) (hk:aD P N ops l (get ((d,v)::G)) K) (bc:N.ok d=true:=by rfl):aD P N ops (⟨some d,.move a,ty,pos,after,none⟩::l) (get G) K:=.over (.move (Rd.p4 J).bp) bc aV ah (pG ▸ hk)
theorem Rk {ia:List Nat}(ky:xt [] G=some ks) (eX:Ce G [] [] G=some ia) (he:ql ks ia P N (get G) o (get G2)) (hk:aD P N ops l (get G2) K) (aL:o.guard=none:=by rfl):aD P N ops (o::l) (get G) K:=.hR aL he hk
theorem Ri {f:FuncId}{xs:List Operand}{fT:Array TypeId}{ys args cs cs':List ab}{outs:List (Option ab)}{res:ab}{r k0:Nat}(gH:bO P f args outs res) (ah:Kc 0 outs=some (k0,cs')) (ak:O9 (get G) xs k0=some r) (hk:xt [r,d] G=some ks) (aw:pick (cp (get G) ⟨r,[]⟩ .dead) ks=some G2) (J:(hz (get G) xs).bind ou=some ys) (aQ:nw r cs k0 0 ys args) (dk:aD P N ops l (get ((d,res)::(r,.obj cs')::G2)) K) (av:get G r=some (.obj cs):=by rfl) (he:outs=vu args.length k0 (.obj cs'):=by rfl) (ky:Nat.blt k0 ys.length=true:=by rfl) (aV:gU P f=true:=by kernel_rfl) (aL:get G2 d=none:=by rfl) (rD:Nat.beq r d=false:=by rfl) (I9:pick (get ((r,.obj cs')::G2)) ks=some G2:=by rfl) (bc:N.ok d=true:=by rfl) [eR:dp cs] [ec:b6 res] [w0:dp cs'] [aA:jK G2] :
  aD P N ops (⟨some d,.call { callee:=.value (.func f),args:=xs.toArray,argTypes:=fT },ty,pos,after,none⟩::l) (get G) K:=.hR rfl (h6.gM gH ah ak aw J aQ av he ky aV aL rD I9 bc) dk
theorem Rj {ia:List Nat}(ky:xt (d::roots G a) G=some ks) (eX:Ce G (d::roots G a) [] G=some ia) (he:ql ks ia P N (get G) ⟨some d,.assign a,ty,pos,after,none⟩ (cR (get G2) d v)) (hk:aD P N ops l (get ((d,v)::G2)) K):aD P N ops (⟨some d,.assign a,ty,pos,after,none⟩::l) (get G) K:=.qy rfl he (pG ▸ hk)
theorem Ry {L:List α}{f:List α->Option β}{KM:β}{M:List α}{e ev bM:Nat}{lP:TypeId}{parts:Array (Nat × Operand)}{ys:List ab}{en:bK α}(h:(ea L M).bind f=some KM) [het:iZ P lP α en] [au:eI P lP e bM] (hk:aD P N ops l (get ((d,ay en M)::G)) K) (J:(hz (get G) (parts.toList.map (·.2))).bind ou=some ys:=by rfl) (aa:n2 ys=some (bu en M):=by rfl) (aT:ys.all (λy=>match jf y with | some c=>Nat.beq c.length en.z | none=>false)=true:=by rfl) (aw:parts.toList=(parts.toList.map (·.2)).mapIdx (λi x=>(i,x)):=by rfl) (n':(parts.toList.map (·.2)).length=ev:=by rfl) (ah:M.length=ev:=by rfl) (wU:bM=en.z:=by rfl) (hzero:jI P e en.z=true:=by kernel_rfl) (ao:Nat.ble (ev * en.z) 16777216=true:=by rfl) (hj:Nat.ble ev 16777216=true:=by rfl) [hv:iK (ar en M) (ay en M)] (bc:N.ok d=true:=by rfl) (aV:get G d=none:=by rfl):aD P N ops (⟨some d,.buildSlice lP ev parts,ty,pos,after,none⟩::l) (get G) K :=
 .hK (O.bs en M (wU ▸ au.p) (yF J) aa aT aw n' ah hzero ao hj) bc aV .none (pG ▸ hk)
theorem RA {M:List α}{e ev bM:Nat}{lP:TypeId}{parts:Array (Nat × Operand)}{ys:List ab}{en:bK α}(av:KT d l=true) [het:iZ P lP α en] [au:eI P lP e bM] (hk:aD P N ops l (get ((d,ay en M)::G)) K) (J:(hz (get G) (parts.toList.map (·.2))).bind ou=some ys:=by rfl) [aP:qk en ys M] (aw:parts.toList=(parts.toList.map (·.2)).mapIdx (λi x=>(i,x)):=by rfl) (n':(parts.toList.map (·.2)).length=ev:=by rfl) (ah:ys.length=ev:=by rfl) (wU:bM=en.z:=by rfl) (hzero:jI P e en.z=true:=by kernel_rfl) (ao:Nat.ble (ev * en.z) 16777216=true:=by rfl) (hj:Nat.ble ev 16777216=true:=by rfl) [hv:iK (ar en M) (ay en M)] (bc:N.ok d=true:=by rfl) (aV:get G d=none:=by rfl):aD P N ops (⟨some d,.buildSlice lP ev parts,ty,pos,after,none⟩::l) (get G) K :=
 .hK (O.bs en M (wU ▸ au.p) (yF J) aP.p.1 aP.p.2.1 aw n' (aP.p.2.2.trans ah) hzero ao hj) bc aV .none (pG ▸ hk)
theorem dX {eF:List Nat}(aw:ch P (kj bl g b7 acc) op ty v) (hk:cJ eF P N ops bl g i ((b7,d,some v)::acc) l K) (ag:Nat.beq ops.size (b7+l.length+1)=true:=by rfl) (aV:g d=none:=by rfl) (aA:acc.all (λe=>!Nat.beq e.2.1 d)=true:=by rfl) (bc:N.ok d=true:=by rfl):cJ (b7::eF) P N ops bl g i acc (⟨some d,op,ty,pos,after,none⟩::l) K:=aO _ aw hk ag aV aA bc
theorem dY {eF:List Nat}(aw:ch P (kj bl g b7 acc) op ty v) (hk:cJ eF P N ops bl g i ((b7,d,some v)::acc) l K) (h:(ops[j]?).bind (·.dst)=some cY:=by rfl) (aL:kj bl g b7 acc cY=some (.lit (.bool cA)):=by rfl) (ao:cA=b:=by (first | rfl | assumption)) (ag:Nat.beq ops.size (b7+l.length+1)=true:=by rfl) (aV:g d=none:=by rfl) (aA:acc.all (λe=>!Nat.beq e.2.1 d)=true:=by rfl) (bc:N.ok d=true:=by rfl):cJ (b7::eF) P N ops bl g i acc (⟨some d,op,ty,pos,after,some (j,b)⟩::l) K:=.v _ aw ag aV aA bc (.oB h aL ao) hk
theorem Lw {eF:List Nat}(aw:cF P (kj bl g b7 acc) op v) (hk:cJ eF P N ops bl g i ((b7,d,some v)::acc) l K) (ag:Nat.beq ops.size (b7+l.length+1)=true:=by rfl) (aV:g d=none:=by rfl) (aA:acc.all (λe=>!Nat.beq e.2.1 d)=true:=by rfl) (bc:N.ok d=true:=by rfl):cJ (b7::eF) P N ops bl g i acc (⟨some d,op,ty,pos,after,none⟩::l) K:=.c _ aw ag aV aA bc .none hk
theorem Lv {eF:List Nat}(aw:cF P (kj bl g b7 acc) op v) (hk:cJ eF P N ops bl g i ((b7,d,some v)::acc) l K) (h:(ops[j]?).bind (·.dst)=some cY:=by rfl) (aL:kj bl g b7 acc cY=some (.lit (.bool cA)):=by rfl) (ao:cA=b:=by (first | rfl | assumption)) (ag:Nat.beq ops.size (b7+l.length+1)=true:=by rfl) (aV:g d=none:=by rfl) (aA:acc.all (λe=>!Nat.beq e.2.1 d)=true:=by rfl) (bc:N.ok d=true:=by rfl):cJ (b7::eF) P N ops bl g i acc (⟨some d,op,ty,pos,after,some (j,b)⟩::l) K:=.c _ aw ag aV aA bc (.oB h aL ao) hk
theorem Rf {eF:List Nat}(hk:cJ eF P N ops bl g i ((b7,d,some (.bI []))::acc) l K) (h:(ops[j]?).bind (·.dst)=some cY:=by rfl) (aL:kj bl g b7 acc cY=some (.lit (.bool cA)):=by rfl) (ao:cA=!b:=by (first | rfl | assumption)) (ag:Nat.beq ops.size (b7+l.length+1)=true:=by rfl) (aV:g d=none:=by rfl) (aA:acc.all (λe=>!Nat.beq e.2.1 d)=true:=by rfl) (bc:N.ok d=true:=by rfl):cJ (b7::eF) P N ops bl g i acc (⟨some d,op,ty,pos,after,some (j,b)⟩::l) K:=.ps _ h aL ao ag aV aA bc hk
theorem Rg {eF:List Nat}(hk:cJ eF P N ops bl g i ((b7,d,some (.bI []))::acc) l K) (h:(ops[j]?).bind (·.dst)=some cY:=by rfl) (aL:kj bl g b7 acc cY=some (.bI []):=by rfl) (ag:Nat.beq ops.size (b7+l.length+1)=true:=by rfl) (aV:g d=none:=by rfl) (aA:acc.all (λe=>!Nat.beq e.2.1 d)=true:=by rfl) (bc:N.ok d=true:=by rfl):cJ (b7::eF) P N ops bl g i acc (⟨some d,op,ty,pos,after,some (j,b)⟩::l) K:=.pu _ h aL ag aV aA bc hk
theorem Ra {eF:List Nat}{L:List α}{f:List α->Option β}{KM:β}{M:List α}{e ev bM:Nat}{lP:TypeId}{parts:Array (Nat × Operand)}{ys:List ab}{en:bK α}(h:(ea L M).bind f=some KM) [het:iZ P lP α en] [au:eI P lP e bM] (hk:cJ eF P N ops bl g i ((b7,d,some (ay en M))::acc) l K) (J:(hz (kj bl g b7 acc) (parts.toList.map (·.2))).bind ou=some ys:=by rfl) (aa:n2 ys=some (bu en M):=by rfl) (aT:ys.all (λy=>match jf y with | some c=>Nat.beq c.length en.z | none=>false)=true:=by rfl) (aw:parts.toList=(parts.toList.map (·.2)).mapIdx (λi x=>(i,x)):=by rfl) (n':(parts.toList.map (·.2)).length=ev:=by rfl) (ah:M.length=ev:=by rfl) (wU:bM=en.z:=by rfl) (hzero:jI P e en.z=true:=by kernel_rfl) (ao:Nat.ble (ev * en.z) 16777216=true:=by rfl) (hj:Nat.ble ev 16777216=true:=by rfl) [hv:iK (ar en M) (ay en M)] (ag:Nat.beq ops.size (b7+l.length+1)=true:=by rfl) (aV:g d=none:=by rfl) (aA:acc.all (λe=>!Nat.beq e.2.1 d)=true:=by rfl) (bc:N.ok d=true:=by rfl):cJ (b7::eF) P N ops bl g i acc (⟨some d,.buildSlice lP ev parts,ty,pos,after,none⟩::l) K :=
 b8.hK b7 (O.bs en M (wU ▸ au.p) (yF J) aa aT aw n' ah hzero ao hj) ag aV aA bc .none hk
theorem Rb {eF:List Nat}{M:List α}{e ev bM:Nat}{lP:TypeId}{parts:Array (Nat × Operand)}{ys:List ab}{en:bK α}(av:KT d l=true) [het:iZ P lP α en] [au:eI P lP e bM] (hk:cJ eF P N ops bl g i ((b7,d,some (ay en M))::acc) l K) (J:(hz (kj bl g b7 acc) (parts.toList.map (·.2))).bind ou=some ys:=by rfl) [aP:qk en ys M] (aw:parts.toList=(parts.toList.map (·.2)).mapIdx (λi x=>(i,x)):=by rfl) (n':(parts.toList.map (·.2)).length=ev:=by rfl) (ah:ys.length=ev:=by rfl) (wU:bM=en.z:=by rfl) (hzero:jI P e en.z=true:=by kernel_rfl) (ao:Nat.ble (ev * en.z) 16777216=true:=by rfl) (hj:Nat.ble ev 16777216=true:=by rfl) [hv:iK (ar en M) (ay en M)] (ag:Nat.beq ops.size (b7+l.length+1)=true:=by rfl) (aV:g d=none:=by rfl) (aA:acc.all (λe=>!Nat.beq e.2.1 d)=true:=by rfl) (bc:N.ok d=true:=by rfl):cJ (b7::eF) P N ops bl g i acc (⟨some d,.buildSlice lP ev parts,ty,pos,after,none⟩::l) K :=
 b8.hK b7 (O.bs en M (wU ▸ au.p) (yF J) aP.p.1 aP.p.2.1 aw n' (aP.p.2.2.trans ah) hzero ao hj) ag aV aA bc .none hk
theorem Re {eF:List Nat}{ia:List Nat}(ky:xt [] (rb acc G)=some ks) (eX:Ce (rb acc G) [] [] (rb acc G)=some ia) (he:ql ks ia P N (dz (get G) (λ_=>true) acc) o (get G2)) (hk:cJ eF P N ops bl (get G2) (b7+1) [] l K) (aL:o.guard=none:=by rfl) (hq:sL ((acc.filterMap lN).map Place.root)=true:=by rfl) (gJ:o4 G=true:=by rfl) (ag:Nat.beq ops.size (b7+l.length+1)=true:=by rfl)
  (aQ:(List.range b7).all (λk=>(bl.getD b7 []).contains k)=true:=by kernel_rfl) (ao:(List.range ops.size).all (λk=>Nat.ble k b7||(bl.getD k []).contains b7)=true:=by kernel_rfl):cJ (b7::eF) P N ops bl (get G) i acc (o::l) K:=.yG _ he aL hq gJ ag aQ ao hk
theorem Rc {eF:List Nat}{ia:List Nat}(ky:xt (d::roots (rb acc G) a) (rb acc G)=some ks) (eX:Ce (rb acc G) (d::roots (rb acc G) a) [] (rb acc G)=some ia) (he:ql ks ia P N (dz (get G) (λ_=>true) acc) ⟨some d,.assign a,ty,pos,after,none⟩ (cR (get G2) d v)) (hk:cJ eF P N ops bl (get ((d,v)::G2)) (b7+1) [] l K) (hq:sL ((acc.filterMap lN).map Place.root)=true:=by rfl) (gJ:o4 G=true:=by rfl) (ag:Nat.beq ops.size (b7+l.length+1)=true:=by rfl)
  (aQ:(List.range b7).all (λk=>(bl.getD b7 []).contains k)=true:=by kernel_rfl) (ao:(List.range ops.size).all (λk=>Nat.ble k b7||(bl.getD k []).contains b7)=true:=by kernel_rfl):cJ (b7::eF) P N ops bl (get G) i acc (⟨some d,.assign a,ty,pos,after,none⟩::l) K:=.bv _ he rfl hq gJ ag aQ ao hk
theorem b8.MY {K:aH->Prop}(aT:xw (acc.filterMap lN)=true) (gJ:o4 G=true) (hi:Nat.ble i ops.size=true) (dk:K (dz (get G) (λ_=>true) acc)):b8 P N ops bl (get G) i acc [] K:=by
 intro dI j cX oV oR;have ag:j=ops.size:=by
  have h1:ops.size<=j:=by
   have:=congrArg List.length oR;rw [List.length_drop,List.length_nil,Array.length_toList] at this;omega
  have aF:j<=ops.size:=by
   cases oV with
   | nil=>exact Nat.le_of_ble_eq_true hi
   | step _ aM=>have:=(Array.getElem?_eq_some_iff.1 aM).1; omega
  omega
 subst ag;exact ⟨_,.fin oV (Kk aT) (Cs gJ),dk⟩
theorem Q' {eF:List Nat}{DC:k7->List (Nat × ab)->Prop}(ky:J6 E [] (rb acc G)=some ks) (aw:pick (dz (get G) (λ_=>true) acc) ks=some G1) [aA:jK G1] (hk:DC t G1) (aT:xw (acc.filterMap lN)=true:=by rfl) (gJ:o4 G=true:=by rfl) (hi:Nat.ble i ops.size=true:=by rfl):cJ eF P N ops bl (get G) i acc [] (yq E t DC) :=
 .MY aT gJ hi ⟨G1,(vG (c:=true) (g2:=get G1) aw aA.p).eS,hk⟩
theorem Q_ {eF:List Nat}{F:α->List (Nat × ab)}{j v:α}(h:some v=some j) (au:Trim true (dz (get G) (λ_=>true) acc) (get (F v)) (F v)) (aT:xw (acc.filterMap lN)=true:=by rfl) (gJ:o4 G=true:=by rfl) (hi:Nat.ble i ops.size=true:=by rfl):cJ eF P N ops bl (get G) i acc [] (r7 F j .normal):=by
 cases h; exact .MY aT gJ hi ⟨rfl,.eS au.eS .hA⟩
theorem cT.rd [hm:DG P] (h:cJ num P N l.toArray bl (get G) 0 [] l (yq E y λt G1=>cT E t P N B G1 Φ)) (dh:pt l.toArray bl=true:=by kernel_rfl):cT E (.rd id bl y) P N (.seq (.region id l.toArray true) B) G Φ:=by
 obtain ⟨g',h1,G1,af,aF⟩:=h [] 0 .nil .nil (by simp);exact W.seq ((k6.draw hm.p dh h1).w (W.weaken af aF))
theorem cT.bR {m:Option α}{f:α->Option β}{r:β}{L cW:α->List (Nat × ab)} [hm:DG P] (h:m.bind f=some r) (h1:∀ j,m=some j->cJ num P N l.toArray bl (get G) 0 [] l (r7 cW j .normal)) (af:∀ j,m=some j->f j=some r->cT E y P N B (cW j) Φ)
  (aE:∀ j,pick (p4 (L j) G) ks=some (cW j):=by intro j; rfl) (dh:pt l.toArray bl=true:=by kernel_rfl):cT E (.bR id bl ks L y) P N (.seq (.region id l.toArray true) B) G Φ:=by
 obtain ⟨j,ag,h⟩:=rh h;obtain ⟨g',bP,_,eP⟩:=h1 j ag [] 0 .nil .nil (by simp);exact W.seq ((k6.draw hm.p dh bP).w (W.be (af j ag h) eP))
theorem cT.Zi [hm:DG P] (h:cJ num P N l.toArray bl (get G) 0 [] l (yq E y λt G1=>d_ E t .normal Φ G1)) (dh:pt l.toArray bl=true:=by kernel_rfl):cT E (.rd id bl y) P N (.region id l.toArray true) G Φ:=by
 obtain ⟨g',h1,G1,af,aF⟩:=h [] 0 .nil .nil (by simp);exact (k6.draw hm.p dh h1).w (aF g' (.eS af .hA))
theorem cT.Zn {m:Option α}{f:α->Option β}{r:β}{L cW:α->List (Nat × ab)}(h:m.bind f=some r) (h1:∀ j,m=some j->aD P N l.toArray l (get G) (r7 cW j .normal)) (af:∀ j,m=some j->f j=some r->d_ E y .normal Φ (cW j))
  (aE:∀ j,pick (p4 (L j) G) ks=some (cW j):=by intro j; rfl):cT E (.fg id ks L y) P N (.region id l.toArray false) G Φ:=by
 obtain ⟨j,ag,h⟩:=rh h;exact W.C4 λi hi=>by
  obtain ⟨g',bP,_,eP⟩:=h1 j ag i hi;exact ⟨g',bP,af j ag h _ eP⟩
theorem cT.hx {S R gz:Type}{f:S->Option (S ⊕ (R ⊕ gz))}{s:S}{HQ:R ⊕ gz->Option β}{r:β}{F cW:S->List (Nat × ab)}{ks rR Cf:List Nat}{X lY:R->List (Nat × ab)}{Y s9:gz->List (Nat × ab)}(h:(cc f s).bind HQ=some r)
  (ao:∀ s o,f s=some o->cT E x P N c (cW s) (kL cW (AB id lY s9) o)) (J:∀ dr,HQ (.inl dr)=some r->d_ E y (.exit id) Φ (lY dr)) (ai:∀ dr,HQ (.inr dr)=some r->d_ E z .ret Φ (s9 dr))
  (aE:∀ s,pick (p4 (F s) G) ks=some (cW s):=by intro s; rfl) (tt:∀ s,pick (p4 (X s) G) rR=some (lY s):=by intro s; rfl) (Vv:∀ s,pick (p4 (Y s) G) Cf=some (s9 s):=by intro s; rfl) (au:Trim true (get G) (get (cW s)) (cW s):=by (repeat' first | exact .nil | refine .n rfl ?_ | refine .w rfl rfl .ov ?_ | refine .w rfl rfl .o3 ?_ | refine .w rfl rfl (jO.obj (by (repeat' first | exact .nil | refine .f ?_ | refine .o ?_ | refine .i ?_))) ?_)) :
  cT E (.hx F ks id X rR Y Cf x y z) P N (.loop c) G Φ:=by
 obtain ⟨dr,ah,h⟩:=rh h;exact W.dn au (W.O8 cW id lY s9 ah ao (λq e=>J q (e ▸ h)) (λq e=>ai q (e ▸ h)))
theorem d_.x2 {S R gz:Type}{r:R}{o:S ⊕ (R ⊕ gz)}{F:S->List (Nat × ab)}{X:R->List (Nat × ab)}{Y:gz->List (Nat × ab)}(h:some (.inr (.inl r))=some o) (au:Trim true (get G) (get (X r)) (X r)):d_ E t (.exit id) (kL F (AB id X Y) o) G:=by
 cases h; exact aB.x2 au
theorem d_.iW {S R gz:Type}{r:gz}{o:S ⊕ (R ⊕ gz)}{F:S->List (Nat × ab)}{X:R->List (Nat × ab)}{Y:gz->List (Nat × ab)}(h:some (.inr (.inr r))=some o) (au:Trim true (get G) (get (Y r)) (Y r)):d_ E t .ret (kL F (AB id X Y) o) G:=by
 cases h; exact aB.iW au
end
section
variable {P:Program}{N:cQ}{E:List Nat}{t x y z:k7}{A B c:Code}{G:List (Nat × ab)}{Φ:Exit->aH->Prop}{id k s:Nat}{o:Operand}
theorem fq.k_ {α:Type}{en:bK α}{i:Option Nat}(h:cT E (.k_ s i en y) P N c G Φ):cT E (.k_ s i en y) P N c G Φ:=h
theorem fq.fg {α:Type}{ks:List Nat}{L:α->List (Nat × ab)}(h:cT E (.fg id ks L y) P N c G Φ):cT E (.fg id ks L y) P N c G Φ:=h
theorem fq.bR {α:Type}{bl:List (List Nat)}{ks:List Nat}{L:α->List (Nat × ab)}(h:cT E (.bR id bl ks L y) P N c G Φ):cT E (.bR id bl ks L y) P N c G Φ:=h
theorem fq.rd {bl:List (List Nat)}(h:cT E (.rd id bl y) P N c G Φ):cT E (.rd id bl y) P N c G Φ:=h
theorem fq.bC (h:cT E t P N (.cond o A B) G Φ):cT E t P N (.cond o A B) G Φ:=h
theorem fq.fx (h:cT E t P N (.loop A) G Φ):cT E t P N (.loop A) G Φ:=h
theorem fq.J1 {α:Type}{ks:List Nat}{L:α->List (Nat × ab)}(h:cT E (.dw ks L x y) P N (.block id A) G Φ):cT E (.dw ks L x y) P N (.block id A) G Φ:=h
theorem fq.rg {ops:Array Oper}{b:Bool}(h:cT E t P N (.region id ops b) G Φ):cT E t P N (.region id ops b) G Φ:=h
theorem fq.Y9 {S R:Type}{F:S->List (Nat × ab)}{dS:R->Exit->aH->Prop}{o:S ⊕ R}{e:Exit}(h:d_ E t e (kL F dS o) G):d_ E t e (kL F dS o) G:=h
theorem fq.Za {α:Type}{F:α->List (Nat × ab)}{j:α}{e:Exit}(h:d_ E t e (r7 F j) G):d_ E t e (r7 F j) G:=h
theorem fq.Su (h:d_ E t (.exit k) (lJ id Φ) G):d_ E t (.exit k) (lJ id Φ) G:=h
theorem fq.Y7 {rs:List ResultVar}{n:Nat}{outs:List (Option ab)}{res:ab}{e:Exit}(h:d_ E t e (pf P N rs n outs res) G):d_ E t e (pf P N rs n outs res) G:=h
end
section
variable {P:Program}{N:cQ}{E:List Nat}{t:k7}{G:List (Nat × ab)}{g':aH}{rs:List ResultVar}{ys xs:List ab}{res:ab}{outs:List (Option ab)}{n:Nat}
theorem jM.MI {g wH:aH}{s z:Nat}{lP:TypeId}{cs ys0:List ab}{rs:List ResultVar}{ys xs:List ab}(h:g s=some (.obj cs)) [au:kn P lP z] (aT:cs.length=z) (aI:Nat.blt 0 z=true) (ai:xW (λi x=>fY 0 ⟨s,[i]⟩ x) 0 num cs=some ys0) (hk:mO s g 0 ys0 cs wH) (ak:jM P wH rs ys xs g'):jM P g (.cell s lP::rs) (.agg ys0::ys) (.agg cs::xs) g':=.c h au.p aT aI (by have:=C5 ai; simpa using this) hk ak
theorem d_.eh (h:jM P (get G) rs ys xs g':=by (repeat' first | exact .nil | (apply jM.f rfl rfl) | (apply jM.o rfl) | (apply jM.MI rfl rfl rfl rfl) | (apply mO.f rfl) | (apply mO.o rfl))) (he:o8 xs=res:=by rfl) (aM:qu g' N.pins 0 outs:=by (repeat' first | exact .nil | refine .no ?_ | refine .al rfl rfl ?_)) (e7:(rs.filterMap fun | .cell t _=>some t | _=>none).Nodup:=by exact of_decide_eq_true (by kernel_rfl)) (ah:outs.length=n:=by rfl):d_ E t .ret (pf P N rs n outs res) G:=mN h he aM e7 ah
theorem d_.fn (h:jM P (get G) rs ys xs g':=by (repeat' first | exact .nil | (apply jM.f rfl rfl) | (apply jM.o rfl) | (apply jM.MI rfl rfl rfl rfl) | (apply mO.f rfl) | (apply mO.o rfl))) (he:o8 xs=res:=by rfl) (aM:qu g' N.pins 0 outs:=by (repeat' first | exact .nil | refine .no ?_ | refine .al rfl rfl ?_)) (e7:(rs.filterMap fun | .cell t _=>some t | _=>none).Nodup:=by exact of_decide_eq_true (by kernel_rfl)) (ah:outs.length=n:=by rfl):d_ E t .normal (pf P N rs n outs res) G:=aB.fin (Fin.ro h he e7 aM ah (.inl rfl))
set_option maxRecDepth 1000000 in
/-- The walk: what it meets it does. -/
theorem dK {p:Prop}(h:p:=by
(repeat' (first
 | ((with_reducible apply aD.bG _ none); first
  | ((with_reducible apply aD.bG (.move _) none); first | refine d' (O.aW .q) ?_)
  | ((with_reducible apply aD.bG (.assign (.const _)) none); first | refine d' (O.dA .q) ?_)
  | ((with_reducible apply aD.bG (.assign (.tmp _)) none); first | refine d' (O.dA .zZ) ?_)
  | ((with_reducible apply aD.bG (.load _ _) none); first | refine d' (O.fj) ?_ | refine d' (O.e9) ?_ | refine d' (O.vN) ?_ | refine d' (O.vO) ?_ | refine d' (O.Ga) ?_ | refine d' (O.Ge) ?_ | refine d' (O.Ld) ?_)
  | ((with_reducible apply aD.bG (.fieldAddr _ _ _) none); first | refine d' (O.F9) ?_ | refine d' (O.F_) ?_ | refine d' (O.wf) ?_)
  | ((with_reducible apply aD.bG (.indexAddr _ _ _) none); first | refine aG h λx J h=>d' (O.F' J) ?_ | refine aG h λx J h=>d' (O.uk J) ?_ | refine d' (O.eS) ?_ | refine d' (O.Gf) ?_)
  | ((with_reducible apply aD.bG (.binOp .add _ _ _ _) none); first | refine d' (O.add .q .q) ?_ | refine aG h λx J h=>d' (O.cat .q .q J) ?_)
  | ((with_reducible apply aD.bG (.binOp .sub _ _ _ _) none); first | refine d' (O.sub .q .q) ?_)
  | ((with_reducible apply aD.bG (.binOp .mul _ _ _ _) none); first | refine d' (O.mul .q .q) ?_)
  | ((with_reducible apply aD.bG (.binOp .lss _ _ _ _) none); first | refine d' (O.lss .q .q) ?_)
  | ((with_reducible apply aD.bG (.binOp .leq _ _ _ _) none); first | refine d' (O.leq .q .q) ?_)
  | ((with_reducible apply aD.bG (.binOp .gtr _ _ _ _) none); first | refine d' (O.gtr .q .q) ?_)
  | ((with_reducible apply aD.bG (.binOp .geq _ _ _ _) none); first | refine d' (O.geq .q .q) ?_)
  | ((with_reducible apply aD.bG (.binOp .eql _ _ _ _) none); first | refine d' (O.eql .q .q) ?_ | refine d' (O.oM .q .q) ?_ | refine d' (O.Eg .q .q (by kernel_rfl)) ?_ | refine d' (O.nW) ?_)
  | ((with_reducible apply aD.bG (.binOp .neq _ _ _ _) none); first | refine d' (O.neq .q .q) ?_ | refine d' (O.nk .q .q) ?_ | refine d' (O.wn) ?_)
  | ((with_reducible apply aD.bG (.binOp .quo _ _ _ _) none); first | refine aG h λx J h=>d' (O.quo .q .q J) ?_ | refine aG h λx J h=>d' (O.o5 .q .q J) ?_)
  | ((with_reducible apply aD.bG (.binOp .rem _ _ _ _) none); first | refine aG h λx J h=>d' (O.rem .q .q J) ?_ | refine aG h λx J h=>d' (O.o7 .q .q J) ?_)
  | ((with_reducible apply aD.bG (.unOp .not _ _) none); first | refine d' (O.not .q) ?_)
  | ((with_reducible apply aD.bG (.unOp .neg _ _) none); first | refine d' (O.neg .q) ?_)
  | ((with_reducible apply aD.bG (.pick _ _ _) none); first | refine d' (O.jm .q (by first | rfl | assumption) .q) ?_ | refine d' (O.nn .q (by first | rfl | assumption) .q) ?_)
  | ((with_reducible apply aD.bG (.nilCheck _) none); first | refine d' (O.dP .q) ?_ | refine d' (O.xy .q) ?_)
  | ((with_reducible apply aD.bG (.index _ _ _) none); first | refine aG h λx J h=>d' (O.at' .q .q iF.p J) ?_)
  | ((with_reducible apply aD.bG (.extract _ _) none); first | refine d' (O.Gl) ?_)
  | ((with_reducible apply aD.bG (.convert _ _ _) none); first | refine d' (O.Gd) ?_ | refine d' (O.Gc) ?_)
  | ((with_reducible apply aD.bG (.box _ _) none); first | refine d' (O.Al) ?_)
  | ((with_reducible apply aD.bG (.alloc _) none); first | refine d' (O.Lb) ?_ | refine d' (O.Gb) ?_)
  | ((with_reducible apply aD.bG (.build _ _) none); first | refine d' (O.Gk) ?_)
  | ((with_reducible apply aD.bG (.field _ _ _) none); first | refine d' (O.wd) ?_)
  | ((with_reducible apply aD.bG (.makeSlice _ _ _) none); first | refine aG h λx J h=>d' (O.Gg J) ?_ | refine aG h λx J h=>d' (O.Gm J) ?_)
  | ((with_reducible apply aD.bG (.buildSlice _ 0 #[]) none); first | refine d' (O.wl) ?_)
  | ((with_reducible apply aD.bG (.makeFunc _ _ _) none); first | refine d' (O.Kh rfl) ?_)
  | ((with_reducible apply aD.bG (.slice _ _ _ _ _) none); first | refine aG h λx J h=>d' (O.sT .q .q .q iF.p J) ?_ | refine aG h λx J h=>d' (O.Af .q .q iF.p J) ?_ | refine aG h λx J h=>d' (O.KU .q .q iF.p J) ?_ | refine aG h λx J h=>d' (O.Lc J) ?_ | refine aG h λx J h=>d' (O.Gi J) ?_ | refine aG h λx J h=>d' (O.Gj J) ?_)
  | ((with_reducible apply aD.bG (.call { callee:=.builtin .len,args:=#[_],argTypes:=#[_] }) none); first | refine d' (O.vp .q eI.p) ?_ | refine d' (O.mB .q eI.p) ?_ | refine d' (O.ot .q iF.p) ?_)
  | ((with_reducible apply aD.bG (.call { callee:=.builtin .append,args:=#[_,_],argTypes:=#[_,_] }) none); first | refine aG h λx J h=>d' (O.wp J) ?_ | refine aG h λx J h=>d' (O.Gh J) ?_ | refine aG h λx J h=>d' (O.F8 J) ?_ | refine aG h λx J h=>d' (O.wr J) ?_)
  | ((with_reducible apply aD.bG (.call { callee:=.value _,args:=_,argTypes:=_ }) none); first | (refine aG h λx J h=>LV (cF.et ?_ (bz.go J)) ?_; · (repeat' first | exact .nil | refine .cA .q ?_)) | (refine aG h λx J h=>LV (cF.l_ rfl ?_ (bz.go J)) ?_; · (repeat' first | exact .nil | refine .s ?_ | refine .c (View.nR rfl rfl) ?_ | refine .c (.row rfl) ?_ | refine .c (View.nB ?_) ?_ | refine .c (View.cl ?_) ?_)) | (refine aG h λx J h=>Ri (bz.go J) rfl rfl rfl rfl rfl (by repeat' first | exact .nil | refine .b rfl ?_ | refine .n rfl ?_) ?_))
  | ((with_reducible apply aD.bG (.buildSlice _ _ _) none); first | refine Ry h ?_ | refine RA rfl ?_ | refine abg rfl ?_ | refine RB [_] rfl ?_ | refine RB [_,_] rfl ?_)
  | ((with_reducible apply aD.bG (.assign _) none); refine RC rfl rfl rfl ?_)
  | ((with_reducible apply aD.bG (.move _) none); refine RD rfl rfl rfl ?_)
  | ((with_reducible apply aD.bG (.move _) none); first | refine LW rfl rfl (O.aW .q) ?_)
  | ((with_reducible apply aD.bG (.assign (.const _)) none); first | refine LW rfl rfl (O.dA .q) ?_)
  | ((with_reducible apply aD.bG (.assign (.tmp _)) none); first | refine LW rfl rfl (O.dA .zZ) ?_)
  | ((with_reducible apply aD.bG (.assign (.tmp _)) none); refine Rj rfl rfl (by first | exact h6.oH | exact h6.wo | exact h6.DW | exact h6.nB .q (by repeat' first | exact fr.nil | (apply fr.f) | (apply fr.r rfl) | (apply fr.nB) | (apply fr.b rfl))) ?_))
 | ((with_reducible apply aD.jF); refine Rk rfl rfl (by first | exact h6.iB | exact h6.q4 | exact h6.Dm | exact h6.sp | exact h6.uc | exact h6.ZN .q (by repeat' first | exact fr.nil | (apply fr.f) | (apply fr.r rfl) | (apply fr.nB) | (apply fr.b rfl))) ?_)
 | ((with_reducible apply aD.bG _ (some _)); first
  | refine qo ?_
  | refine Rq ?_
  | ((with_reducible apply aD.bG (.move _) (some _)); first | refine dZ (O.aW .q) ?_)
  | ((with_reducible apply aD.bG (.assign (.const _)) (some _)); first | refine dZ (O.dA .q) ?_)
  | ((with_reducible apply aD.bG (.assign (.tmp _)) (some _)); first | refine dZ (O.dA .zZ) ?_)
  | ((with_reducible apply aD.bG (.load _ _) (some _)); first | refine dZ (O.fj) ?_ | refine dZ (O.e9) ?_ | refine dZ (O.vN) ?_ | refine dZ (O.vO) ?_ | refine dZ (O.Ga) ?_ | refine dZ (O.Ge) ?_ | refine dZ (O.Ld) ?_)
  | ((with_reducible apply aD.bG (.fieldAddr _ _ _) (some _)); first | refine dZ (O.F9) ?_ | refine dZ (O.F_) ?_ | refine dZ (O.wf) ?_)
  | ((with_reducible apply aD.bG (.indexAddr _ _ _) (some _)); first | refine aG h λx J h=>dZ (O.F' J) ?_ | refine aG h λx J h=>dZ (O.uk J) ?_ | refine dZ (O.eS) ?_ | refine dZ (O.Gf) ?_)
  | ((with_reducible apply aD.bG (.binOp .add _ _ _ _) (some _)); first | refine dZ (O.add .q .q) ?_ | refine aG h λx J h=>dZ (O.cat .q .q J) ?_)
  | ((with_reducible apply aD.bG (.binOp .sub _ _ _ _) (some _)); first | refine dZ (O.sub .q .q) ?_)
  | ((with_reducible apply aD.bG (.binOp .mul _ _ _ _) (some _)); first | refine dZ (O.mul .q .q) ?_)
  | ((with_reducible apply aD.bG (.binOp .lss _ _ _ _) (some _)); first | refine dZ (O.lss .q .q) ?_)
  | ((with_reducible apply aD.bG (.binOp .leq _ _ _ _) (some _)); first | refine dZ (O.leq .q .q) ?_)
  | ((with_reducible apply aD.bG (.binOp .gtr _ _ _ _) (some _)); first | refine dZ (O.gtr .q .q) ?_)
  | ((with_reducible apply aD.bG (.binOp .geq _ _ _ _) (some _)); first | refine dZ (O.geq .q .q) ?_)
  | ((with_reducible apply aD.bG (.binOp .eql _ _ _ _) (some _)); first | refine dZ (O.eql .q .q) ?_ | refine dZ (O.oM .q .q) ?_ | refine dZ (O.Eg .q .q (by kernel_rfl)) ?_ | refine dZ (O.nW) ?_)
  | ((with_reducible apply aD.bG (.binOp .neq _ _ _ _) (some _)); first | refine dZ (O.neq .q .q) ?_ | refine dZ (O.nk .q .q) ?_ | refine dZ (O.wn) ?_)
  | ((with_reducible apply aD.bG (.binOp .quo _ _ _ _) (some _)); first | refine aG h λx J h=>dZ (O.quo .q .q J) ?_ | refine aG h λx J h=>dZ (O.o5 .q .q J) ?_)
  | ((with_reducible apply aD.bG (.binOp .rem _ _ _ _) (some _)); first | refine aG h λx J h=>dZ (O.rem .q .q J) ?_ | refine aG h λx J h=>dZ (O.o7 .q .q J) ?_)
  | ((with_reducible apply aD.bG (.unOp .not _ _) (some _)); first | refine dZ (O.not .q) ?_)
  | ((with_reducible apply aD.bG (.unOp .neg _ _) (some _)); first | refine dZ (O.neg .q) ?_)
  | ((with_reducible apply aD.bG (.pick _ _ _) (some _)); first | refine dZ (O.jm .q (by first | rfl | assumption) .q) ?_ | refine dZ (O.nn .q (by first | rfl | assumption) .q) ?_)
  | ((with_reducible apply aD.bG (.nilCheck _) (some _)); first | refine dZ (O.dP .q) ?_ | refine dZ (O.xy .q) ?_)
  | ((with_reducible apply aD.bG (.index _ _ _) (some _)); first | refine aG h λx J h=>dZ (O.at' .q .q iF.p J) ?_)
  | ((with_reducible apply aD.bG (.extract _ _) (some _)); first | refine dZ (O.Gl) ?_)
  | ((with_reducible apply aD.bG (.convert _ _ _) (some _)); first | refine dZ (O.Gd) ?_ | refine dZ (O.Gc) ?_)
  | ((with_reducible apply aD.bG (.box _ _) (some _)); first | refine dZ (O.Al) ?_)
  | ((with_reducible apply aD.bG (.alloc _) (some _)); first | refine dZ (O.Lb) ?_ | refine dZ (O.Gb) ?_)
  | ((with_reducible apply aD.bG (.build _ _) (some _)); first | refine dZ (O.Gk) ?_)
  | ((with_reducible apply aD.bG (.field _ _ _) (some _)); first | refine dZ (O.wd) ?_)
  | ((with_reducible apply aD.bG (.makeSlice _ _ _) (some _)); first | refine aG h λx J h=>dZ (O.Gg J) ?_ | refine aG h λx J h=>dZ (O.Gm J) ?_)
  | ((with_reducible apply aD.bG (.buildSlice _ 0 #[]) (some _)); first | refine dZ (O.wl) ?_)
  | ((with_reducible apply aD.bG (.makeFunc _ _ _) (some _)); first | refine dZ (O.Kh rfl) ?_)
  | ((with_reducible apply aD.bG (.slice _ _ _ _ _) (some _)); first | refine aG h λx J h=>dZ (O.sT .q .q .q iF.p J) ?_ | refine aG h λx J h=>dZ (O.Af .q .q iF.p J) ?_ | refine aG h λx J h=>dZ (O.KU .q .q iF.p J) ?_ | refine aG h λx J h=>dZ (O.Lc J) ?_ | refine aG h λx J h=>dZ (O.Gi J) ?_ | refine aG h λx J h=>dZ (O.Gj J) ?_)
  | ((with_reducible apply aD.bG (.call { callee:=.builtin .len,args:=#[_],argTypes:=#[_] }) (some _)); first | refine dZ (O.vp .q eI.p) ?_ | refine dZ (O.mB .q eI.p) ?_ | refine dZ (O.ot .q iF.p) ?_)
  | ((with_reducible apply aD.bG (.call { callee:=.builtin .append,args:=#[_,_],argTypes:=#[_,_] }) (some _)); first | refine aG h λx J h=>dZ (O.wp J) ?_ | refine aG h λx J h=>dZ (O.Gh J) ?_ | refine aG h λx J h=>dZ (O.F8 J) ?_ | refine aG h λx J h=>dZ (O.wr J) ?_)
  | ((with_reducible apply aD.bG (.call { callee:=.value _,args:=_,argTypes:=_ }) (some _)); first | (refine aG h λx J h=>LB (cF.et ?_ (bz.go J)) ?_; · (repeat' first | exact .nil | refine .cA .q ?_)) | (refine aG h λx J h=>LB (cF.l_ rfl ?_ (bz.go J)) ?_; · (repeat' first | exact .nil | refine .s ?_ | refine .c (View.nR rfl rfl) ?_ | refine .c (.row rfl) ?_ | refine .c (View.nB ?_) ?_ | refine .c (View.cl ?_) ?_)))
  | refine Hp h (λao h=>?_) (λao h=>?_))
 | ((with_reducible apply aD.nl); first | refine GC rfl rfl ?_ | refine Rm h (by (repeat' first | exact .nil | refine .n rfl ?_ | refine .w rfl rfl .ov ?_ | refine .w rfl rfl .o3 ?_ | refine .w rfl rfl (jO.obj (by (repeat' first | exact .nil | refine .f ?_ | refine .o ?_ | refine .i ?_))) ?_)))
 | ((with_reducible apply cJ.bG _ none); first
  | ((with_reducible apply cJ.bG (.move _) none); first | refine dX (O.aW .q) ?_)
  | ((with_reducible apply cJ.bG (.assign (.const _)) none); first | refine dX (O.dA .q) ?_)
  | ((with_reducible apply cJ.bG (.assign (.tmp _)) none); first | refine dX (O.dA .zZ) ?_)
  | ((with_reducible apply cJ.bG (.load _ _) none); first | refine dX (O.fj) ?_ | refine dX (O.e9) ?_ | refine dX (O.vN) ?_ | refine dX (O.vO) ?_ | refine dX (O.Ga) ?_ | refine dX (O.Ge) ?_ | refine dX (O.Ld) ?_)
  | ((with_reducible apply cJ.bG (.fieldAddr _ _ _) none); first | refine dX (O.F9) ?_ | refine dX (O.F_) ?_ | refine dX (O.wf) ?_)
  | ((with_reducible apply cJ.bG (.indexAddr _ _ _) none); first | refine aG h λx J h=>dX (O.F' J) ?_ | refine aG h λx J h=>dX (O.uk J) ?_ | refine dX (O.eS) ?_ | refine dX (O.Gf) ?_)
  | ((with_reducible apply cJ.bG (.binOp .add _ _ _ _) none); first | refine dX (O.add .q .q) ?_ | refine aG h λx J h=>dX (O.cat .q .q J) ?_)
  | ((with_reducible apply cJ.bG (.binOp .sub _ _ _ _) none); first | refine dX (O.sub .q .q) ?_)
  | ((with_reducible apply cJ.bG (.binOp .mul _ _ _ _) none); first | refine dX (O.mul .q .q) ?_)
  | ((with_reducible apply cJ.bG (.binOp .lss _ _ _ _) none); first | refine dX (O.lss .q .q) ?_)
  | ((with_reducible apply cJ.bG (.binOp .leq _ _ _ _) none); first | refine dX (O.leq .q .q) ?_)
  | ((with_reducible apply cJ.bG (.binOp .gtr _ _ _ _) none); first | refine dX (O.gtr .q .q) ?_)
  | ((with_reducible apply cJ.bG (.binOp .geq _ _ _ _) none); first | refine dX (O.geq .q .q) ?_)
  | ((with_reducible apply cJ.bG (.binOp .eql _ _ _ _) none); first | refine dX (O.eql .q .q) ?_ | refine dX (O.oM .q .q) ?_ | refine dX (O.Eg .q .q (by kernel_rfl)) ?_ | refine dX (O.nW) ?_)
  | ((with_reducible apply cJ.bG (.binOp .neq _ _ _ _) none); first | refine dX (O.neq .q .q) ?_ | refine dX (O.nk .q .q) ?_ | refine dX (O.wn) ?_)
  | ((with_reducible apply cJ.bG (.binOp .quo _ _ _ _) none); first | refine aG h λx J h=>dX (O.quo .q .q J) ?_ | refine aG h λx J h=>dX (O.o5 .q .q J) ?_)
  | ((with_reducible apply cJ.bG (.binOp .rem _ _ _ _) none); first | refine aG h λx J h=>dX (O.rem .q .q J) ?_ | refine aG h λx J h=>dX (O.o7 .q .q J) ?_)
  | ((with_reducible apply cJ.bG (.unOp .not _ _) none); first | refine dX (O.not .q) ?_)
  | ((with_reducible apply cJ.bG (.unOp .neg _ _) none); first | refine dX (O.neg .q) ?_)
  | ((with_reducible apply cJ.bG (.pick _ _ _) none); first | refine dX (O.jm .q (by first | rfl | assumption) .q) ?_ | refine dX (O.nn .q (by first | rfl | assumption) .q) ?_)
  | ((with_reducible apply cJ.bG (.nilCheck _) none); first | refine dX (O.dP .q) ?_ | refine dX (O.xy .q) ?_)
  | ((with_reducible apply cJ.bG (.index _ _ _) none); first | refine aG h λx J h=>dX (O.at' .q .q iF.p J) ?_)
  | ((with_reducible apply cJ.bG (.extract _ _) none); first | refine dX (O.Gl) ?_)
  | ((with_reducible apply cJ.bG (.convert _ _ _) none); first | refine dX (O.Gd) ?_ | refine dX (O.Gc) ?_)
  | ((with_reducible apply cJ.bG (.box _ _) none); first | refine dX (O.Al) ?_)
  | ((with_reducible apply cJ.bG (.alloc _) none); first | refine dX (O.Lb) ?_ | refine dX (O.Gb) ?_)
  | ((with_reducible apply cJ.bG (.build _ _) none); first | refine dX (O.Gk) ?_)
  | ((with_reducible apply cJ.bG (.field _ _ _) none); first | refine dX (O.wd) ?_)
  | ((with_reducible apply cJ.bG (.makeSlice _ _ _) none); first | refine aG h λx J h=>dX (O.Gg J) ?_ | refine aG h λx J h=>dX (O.Gm J) ?_)
  | ((with_reducible apply cJ.bG (.buildSlice _ 0 #[]) none); first | refine dX (O.wl) ?_)
  | ((with_reducible apply cJ.bG (.makeFunc _ _ _) none); first | refine dX (O.Kh rfl) ?_)
  | ((with_reducible apply cJ.bG (.slice _ _ _ _ _) none); first | refine aG h λx J h=>dX (O.sT .q .q .q iF.p J) ?_ | refine aG h λx J h=>dX (O.Af .q .q iF.p J) ?_ | refine aG h λx J h=>dX (O.KU .q .q iF.p J) ?_ | refine aG h λx J h=>dX (O.Lc J) ?_ | refine aG h λx J h=>dX (O.Gi J) ?_ | refine aG h λx J h=>dX (O.Gj J) ?_)
  | ((with_reducible apply cJ.bG (.call { callee:=.builtin .len,args:=#[_],argTypes:=#[_] }) none); first | refine dX (O.vp .q eI.p) ?_ | refine dX (O.mB .q eI.p) ?_ | refine dX (O.ot .q iF.p) ?_)
  | ((with_reducible apply cJ.bG (.call { callee:=.builtin .append,args:=#[_,_],argTypes:=#[_,_] }) none); first | refine aG h λx J h=>dX (O.wp J) ?_ | refine aG h λx J h=>dX (O.Gh J) ?_ | refine aG h λx J h=>dX (O.F8 J) ?_ | refine aG h λx J h=>dX (O.aaT J) ?_)
  | ((with_reducible apply cJ.bG (.call { callee:=.value _,args:=_,argTypes:=_ }) none); first | (refine aG h λx J h=>Lw (cF.et ?_ (bz.go J)) ?_; · (repeat' first | exact .nil | refine .cA .q ?_)) | (refine aG h λx J h=>Lw (cF.l_ rfl ?_ (bz.go J)) ?_; · (repeat' first | exact .nil | refine .s ?_ | refine .c (View.nR rfl rfl) ?_ | refine .c (.row rfl) ?_ | refine .c (View.nB ?_) ?_ | refine .c (View.cl ?_) ?_)) | (refine aG h λx J h=>aa_ (bz.go J) rfl rfl rfl rfl rfl (by repeat' first | exact .nil | refine .b rfl ?_ | refine .n rfl ?_) ?_))
  | ((with_reducible apply cJ.bG (.buildSlice _ _ _) none); first | refine Ra h ?_ | refine Rb rfl ?_ | refine aa' rfl ?_ | refine aba [_,_] rfl ?_ | refine Rh [_] rfl ?_ | refine Rh [_,_] rfl ?_)
  | ((with_reducible apply cJ.bG (.assign _) none); refine Rc rfl rfl (by first | exact h6.oH | exact h6.wo | exact h6.DW | exact h6.RO | exact h6.nB .q (by repeat' first | exact fr.nil | (apply fr.f) | (apply fr.r rfl) | (apply fr.nB) | (apply fr.b rfl))) ?_))
 | ((with_reducible apply cJ.jF); refine Re rfl rfl (by first | exact h6.iB | exact h6.q4 | exact h6.Dm | exact h6.sp | exact h6.uc | exact h6.ZN .q (by repeat' first | exact fr.nil | (apply fr.f) | (apply fr.r rfl) | (apply fr.nB) | (apply fr.b rfl))) ?_)
 | ((with_reducible apply cJ.bG _ (some _)); first
  | refine Rf ?_
  | refine Rg ?_
  | ((with_reducible apply cJ.bG (.move _) (some _)); first | refine dY (O.aW .q) ?_)
  | ((with_reducible apply cJ.bG (.assign (.const _)) (some _)); first | refine dY (O.dA .q) ?_)
  | ((with_reducible apply cJ.bG (.assign (.tmp _)) (some _)); first | refine dY (O.dA .zZ) ?_)
  | ((with_reducible apply cJ.bG (.load _ _) (some _)); first | refine dY (O.fj) ?_ | refine dY (O.e9) ?_ | refine dY (O.vN) ?_ | refine dY (O.vO) ?_ | refine dY (O.Ga) ?_ | refine dY (O.Ge) ?_ | refine dY (O.Ld) ?_)
  | ((with_reducible apply cJ.bG (.fieldAddr _ _ _) (some _)); first | refine dY (O.F9) ?_ | refine dY (O.F_) ?_ | refine dY (O.wf) ?_)
  | ((with_reducible apply cJ.bG (.indexAddr _ _ _) (some _)); first | refine aG h λx J h=>dY (O.F' J) ?_ | refine aG h λx J h=>dY (O.uk J) ?_ | refine dY (O.eS) ?_ | refine dY (O.Gf) ?_)
  | ((with_reducible apply cJ.bG (.binOp .add _ _ _ _) (some _)); first | refine dY (O.add .q .q) ?_ | refine aG h λx J h=>dY (O.cat .q .q J) ?_)
  | ((with_reducible apply cJ.bG (.binOp .sub _ _ _ _) (some _)); first | refine dY (O.sub .q .q) ?_)
  | ((with_reducible apply cJ.bG (.binOp .mul _ _ _ _) (some _)); first | refine dY (O.mul .q .q) ?_)
  | ((with_reducible apply cJ.bG (.binOp .lss _ _ _ _) (some _)); first | refine dY (O.lss .q .q) ?_)
  | ((with_reducible apply cJ.bG (.binOp .leq _ _ _ _) (some _)); first | refine dY (O.leq .q .q) ?_)
  | ((with_reducible apply cJ.bG (.binOp .gtr _ _ _ _) (some _)); first | refine dY (O.gtr .q .q) ?_)
  | ((with_reducible apply cJ.bG (.binOp .geq _ _ _ _) (some _)); first | refine dY (O.geq .q .q) ?_)
  | ((with_reducible apply cJ.bG (.binOp .eql _ _ _ _) (some _)); first | refine dY (O.eql .q .q) ?_ | refine dY (O.oM .q .q) ?_ | refine dY (O.Eg .q .q (by kernel_rfl)) ?_ | refine dY (O.nW) ?_)
  | ((with_reducible apply cJ.bG (.binOp .neq _ _ _ _) (some _)); first | refine dY (O.neq .q .q) ?_ | refine dY (O.nk .q .q) ?_ | refine dY (O.wn) ?_)
  | ((with_reducible apply cJ.bG (.binOp .quo _ _ _ _) (some _)); first | refine aG h λx J h=>dY (O.quo .q .q J) ?_ | refine aG h λx J h=>dY (O.o5 .q .q J) ?_)
  | ((with_reducible apply cJ.bG (.binOp .rem _ _ _ _) (some _)); first | refine aG h λx J h=>dY (O.rem .q .q J) ?_ | refine aG h λx J h=>dY (O.o7 .q .q J) ?_)
  | ((with_reducible apply cJ.bG (.unOp .not _ _) (some _)); first | refine dY (O.not .q) ?_)
  | ((with_reducible apply cJ.bG (.unOp .neg _ _) (some _)); first | refine dY (O.neg .q) ?_)
  | ((with_reducible apply cJ.bG (.pick _ _ _) (some _)); first | refine dY (O.jm .q (by first | rfl | assumption) .q) ?_ | refine dY (O.nn .q (by first | rfl | assumption) .q) ?_)
  | ((with_reducible apply cJ.bG (.nilCheck _) (some _)); first | refine dY (O.dP .q) ?_ | refine dY (O.xy .q) ?_)
  | ((with_reducible apply cJ.bG (.index _ _ _) (some _)); first | refine aG h λx J h=>dY (O.at' .q .q iF.p J) ?_)
  | ((with_reducible apply cJ.bG (.extract _ _) (some _)); first | refine dY (O.Gl) ?_)
  | ((with_reducible apply cJ.bG (.convert _ _ _) (some _)); first | refine dY (O.Gd) ?_ | refine dY (O.Gc) ?_)
  | ((with_reducible apply cJ.bG (.box _ _) (some _)); first | refine dY (O.Al) ?_)
  | ((with_reducible apply cJ.bG (.alloc _) (some _)); first | refine dY (O.Lb) ?_ | refine dY (O.Gb) ?_)
  | ((with_reducible apply cJ.bG (.build _ _) (some _)); first | refine dY (O.Gk) ?_)
  | ((with_reducible apply cJ.bG (.field _ _ _) (some _)); first | refine dY (O.wd) ?_)
  | ((with_reducible apply cJ.bG (.makeSlice _ _ _) (some _)); first | refine aG h λx J h=>dY (O.Gg J) ?_ | refine aG h λx J h=>dY (O.Gm J) ?_)
  | ((with_reducible apply cJ.bG (.buildSlice _ 0 #[]) (some _)); first | refine dY (O.wl) ?_)
  | ((with_reducible apply cJ.bG (.makeFunc _ _ _) (some _)); first | refine dY (O.Kh rfl) ?_)
  | ((with_reducible apply cJ.bG (.slice _ _ _ _ _) (some _)); first | refine aG h λx J h=>dY (O.sT .q .q .q iF.p J) ?_ | refine aG h λx J h=>dY (O.Af .q .q iF.p J) ?_ | refine aG h λx J h=>dY (O.KU .q .q iF.p J) ?_ | refine aG h λx J h=>dY (O.Lc J) ?_ | refine aG h λx J h=>dY (O.Gi J) ?_ | refine aG h λx J h=>dY (O.Gj J) ?_)
  | ((with_reducible apply cJ.bG (.call { callee:=.builtin .len,args:=#[_],argTypes:=#[_] }) (some _)); first | refine dY (O.vp .q eI.p) ?_ | refine dY (O.mB .q eI.p) ?_ | refine dY (O.ot .q iF.p) ?_)
  | ((with_reducible apply cJ.bG (.call { callee:=.builtin .append,args:=#[_,_],argTypes:=#[_,_] }) (some _)); first | refine aG h λx J h=>dY (O.wp J) ?_ | refine aG h λx J h=>dY (O.Gh J) ?_ | refine aG h λx J h=>dY (O.F8 J) ?_ | refine aG h λx J h=>dY (O.aaT J) ?_)
  | ((with_reducible apply cJ.bG (.call { callee:=.value _,args:=_,argTypes:=_ }) (some _)); first | (refine aG h λx J h=>Lv (cF.et ?_ (bz.go J)) ?_; · (repeat' first | exact .nil | refine .cA .q ?_)) | (refine aG h λx J h=>Lv (cF.l_ rfl ?_ (bz.go J)) ?_; · (repeat' first | exact .nil | refine .s ?_ | refine .c (View.nR rfl rfl) ?_ | refine .c (.row rfl) ?_ | refine .c (View.nB ?_) ?_ | refine .c (View.cl ?_) ?_)))
  | refine Hp h (λao h=>?_) (λao h=>?_))
 | ((with_reducible apply cJ.nl); first | refine Q' rfl rfl ?_ | refine Q_ h (by (repeat' first | exact .nil | refine .n rfl ?_ | refine .w rfl rfl .ov ?_ | refine .w rfl rfl .o3 ?_ | refine .w rfl rfl (jO.obj (by (repeat' first | exact .nil | refine .f ?_ | refine .o ?_ | refine .i ?_))) ?_)))
 | ((with_reducible apply fq.fJ); refine cT.fJ rfl (by first | exact .w | exact .n | exact .c rfl .w rfl | exact .c rfl .n rfl) rfl rfl ?_)
 | ((with_reducible apply fq.k_); refine cT.k_ rfl (by first | exact .w | exact .n | exact .c rfl .w rfl | exact .c rfl .n rfl) rfl rfl ?_)
 | ((with_reducible apply fq.fg); first | refine cT.fg h (λj h=>?_) (λj ag h=>?_) | refine cT.Zn h (λj h=>?_) (λj ag h=>?_))
 | ((with_reducible apply fq.bR); first | refine cT.bR h (λj h=>?_) (λj ag h=>?_) | refine cT.aes h (λj h=>?_) (λj ag h=>?_))
 | ((with_reducible apply fq.rd); first | refine cT.rd ?_ | refine cT.Zi ?_)
 | (with_reducible apply cT.rg)
 | (with_reducible apply cT.bL)
 | ((with_reducible apply fq.bC); first
  | refine cT.X6 h (λj h=>?_) (λj ag h=>?_)
  | refine cT.cI h (λao h=>?_) (λao h=>?_)
  | refine cT.ce h (λao h=>?_) (λao h=>?_)
  | refine cT.abr ?_
  | refine cT.abq ?_)
 | ((with_reducible apply fq.J1); refine cT.J1 h (λj h=>?_) (λj ag h=>?_))
 | (with_reducible apply cT.yG)
 | (with_reducible apply cT.b9)
 | (with_reducible apply cT.cZ)
 | (with_reducible apply cT.fk)
 | ((with_reducible apply cT.Zu); first
  | (refine cT.KJ h (by (repeat' first | exact .nil | refine .z rfl rfl ?_ ?_ | exact .refl | exact .Cp | exact gE.vw | refine gl.obj ?_ | refine .f ?_ | refine .o ?_ | refine .z ?_)) (by (repeat' first | exact .nil | refine .n rfl ?_ | refine .w rfl rfl .ov ?_ | refine .w rfl rfl .o3 ?_ | refine .w rfl rfl (jO.obj (by (repeat' first | exact .nil | refine .f ?_ | refine .o ?_ | refine .i ?_))) ?_)))
  | (cases h; refine cT.hA rfl (by (repeat' first | exact .nil | refine .z rfl rfl ?_ ?_ | exact .refl | exact .Cp | exact gE.vw | refine gl.obj ?_ | refine .f ?_ | refine .o ?_ | refine .z ?_)) ?_; exact d_.eh)
  | refine cT.FP ?_)
 | (with_reducible apply d_.bL)
 | (with_reducible apply d_.fi)
 | (with_reducible apply d_.lr)
 | (with_reducible apply d_.b9)
 | (with_reducible apply d_.fa)
 | (with_reducible apply d_.qw)
 | ((with_reducible apply fq.Su); refine d_.G3 ?_)
 | ((with_reducible apply fq.Y9); first
  | refine d_.go h (by (repeat' first | exact .nil | refine .n rfl ?_ | refine .w rfl rfl .ov ?_ | refine .w rfl rfl .o3 ?_ | refine .w rfl rfl (jO.obj (by (repeat' first | exact .nil | refine .f ?_ | refine .o ?_ | refine .i ?_))) ?_))
  | refine d_.aY h (by (repeat' first | exact .nil | refine .n rfl ?_ | refine .w rfl rfl .ov ?_ | refine .w rfl rfl .o3 ?_ | refine .w rfl rfl (jO.obj (by (repeat' first | exact .nil | refine .f ?_ | refine .o ?_ | refine .i ?_))) ?_))
  | refine d_.x2 h (by (repeat' first | exact .nil | refine .n rfl ?_ | refine .w rfl rfl .ov ?_ | refine .w rfl rfl .o3 ?_ | refine .w rfl rfl (jO.obj (by (repeat' first | exact .nil | refine .f ?_ | refine .o ?_ | refine .i ?_))) ?_))
  | refine d_.iW h (by (repeat' first | exact .nil | refine .n rfl ?_ | refine .w rfl rfl .ov ?_ | refine .w rfl rfl .o3 ?_ | refine .w rfl rfl (jO.obj (by (repeat' first | exact .nil | refine .f ?_ | refine .o ?_ | refine .i ?_))) ?_)))
 | ((with_reducible apply fq.Za); refine d_.dw h (by (repeat' first | exact .nil | refine .n rfl ?_ | refine .w rfl rfl .ov ?_ | refine .w rfl rfl .o3 ?_ | refine .w rfl rfl (jO.obj (by (repeat' first | exact .nil | refine .f ?_ | refine .o ?_ | refine .i ?_))) ?_)))
 | ((with_reducible apply fq.fx); first
  | refine cT.fx h (λs o h=>?_) (λr ak h=>?_)
  | refine cT.hx h (λs o h=>?_) (λr h=>?_) (λr h=>?_))
 | ((with_reducible apply fq.rg); with_reducible apply cT.rt)
 | ((with_reducible apply fq.Y7); cases h; first | exact d_.eh | exact d_.fn)
 | refine Hp h (λao h=>?_) (λao h=>?_)))):p:=h
class yz (P:Program) (N:cQ) (Φ:Exit->aH->Prop) (rs:outParam (List ResultVar)) (n:outParam Nat) (outs:outParam (List (Option ab))) (res:outParam ab):Prop where p:∀ g,pf P N rs n outs res .ret g->Φ .ret g
instance:yz P N (pf P N rs n outs res) rs n outs res:=⟨λ_ h=>h⟩
instance {dS:aH->Prop}{Φ:Exit->aH->Prop} [h:yz P N Φ rs n outs res]:yz P N (oz dS Φ) rs n outs res:=⟨λg br=>h.p g br⟩
instance {id:Nat}{Φ:Exit->aH->Prop} [h:yz P N Φ rs n outs res]:yz P N (lJ id Φ) rs n outs res:=⟨λg br=>h.p g br⟩
class yy {S R gz:Type}(Φ:Exit->aH->Prop) (F:outParam (S->List (Nat × ab))) (id:outParam Nat) (X:outParam (R->List (Nat × ab))) (Y:outParam (gz->List (Nat × ab))) (o:outParam (S ⊕ (R ⊕ gz))):Prop where p:∀ g,kL F (AB id X Y) o .ret g->Φ .ret g
section
variable {S R gz:Type}{F:S->List (Nat × ab)}{id:Nat}{X:R->List (Nat × ab)}{Y:gz->List (Nat × ab)}{o:S ⊕ (R ⊕ gz)}{Φ:Exit->aH->Prop}
instance:yy (kL F (AB id X Y) o) F id X Y o:=⟨λ_ h=>h⟩
instance {dS:aH->Prop} [h:yy Φ F id X Y o]:yy (oz dS Φ) F id X Y o:=⟨λg br=>h.p g br⟩
instance {i:Nat} [h:yy Φ F id X Y o]:yy (lJ i Φ) F id X Y o:=⟨λg br=>h.p g br⟩
theorem cT.KJ {v:gz} [aU:yy Φ F id X Y o] (h:some (.inr (.inr v))=some o) (aT:n0 ((Y v).map Prod.fst) (get G) (get (Y v)) (Y v)) (aw:Trim true (get (Y v)) (get (Y v)) (Y v)):cT E t P N .ret G Φ:=by
 cases h;exact W.fJ _ aT (W.rt λg ao=>aU.p g (aB.iW aw g ao))
end
def Zm:ResultVar->ab->Option (Nat × ab)
 | .tmp t,x=>some (t,x)
 | .cell s _,.agg cs=>some (s,.obj cs)
 | _,_=>none
def KH:List ResultVar->List ab->List (Nat × ab)->Option (List (Nat × ab))
 | [],[],T=>some T
 | r::rs,x::xs,T=>match KH rs xs T,Zm r x with
  | some l,some p=>some (p::l)
  | _,_=>none
 | _,_,_=>none
def Kt:List Nat->List (Option ab)->Option (List (Nat × ab))
 | _,[]=>some []
 | j::eF,none::l=>Kt eF l
 | j::eF,some x::l=>match Kt eF l with
  | some r=>some ((j,x)::r)
  | none=>none
 | _,_=>none
def Zl (rs:List ResultVar) (outs:List (Option ab)) (res:ab):Option (List (Nat × ab)) :=
 match Kt num outs with
 | none=>none
 | some T=>match rs,res with
  | [r],x=>KH [r] [x] T
  | rs,.bI xs=>KH rs xs T
  | _,_=>none
theorem gE.vw {x y:ab} [aA:b6 x] [hv:iK x y]:gE x y:=.oi aA.bh (hv.v _)
inductive q9 {α:Type}(en:bK α):Option Nat->ab->ab->Prop
 | w {Ef:bK α}{L:List α} [h:iK (ar Ef L) (ay en L)]:q9 en none (ar Ef L) (ay en L)
 | n [h:iK .bb (ay en ([]:List α))]:q9 en none .bb (ay en ([]:List α))
 | c {i:Nat}{cs cs':List ab}{x y:ab}(J:cs[i]?=some x) (h:q9 en none x y) (he:qd cs i [y]=some cs'):q9 en (some i) (.obj cs) (.obj cs')
theorem q9.one {α:Type}{en:bK α}{x y:ab}(h:q9 en none x y):gE x y/\mL y:=by
 cases h with
 | @w Ef L h=>exact ⟨.oi (.own (o9 Ef L)) (h.v _),⟨by intro _ _ _ _ _ e; cases e⟩⟩
 | @n h=>exact ⟨.oi .bb (h.v _),⟨by intro _ _ _ _ _ e; cases e⟩⟩
theorem q9.fJ {α:Type}{en:bK α}{i:Option Nat}{x y:ab}(h:q9 en i x y):gE x y/\mL y:=by
 cases h with
 | w=>exact q9.one .w
 | n=>exact q9.one .n
 | @c i cs cs' x y J h he =>
  obtain ⟨h1,af⟩:=ns he;subst h1;refine ⟨.obj (by simp [ew] at af ⊢; omega) λk a b aQ ao=>?_,⟨by simp⟩⟩;unfold ew at ao;simp only [List.length_singleton] at af ao;by_cases hk:k<i
  ·rw [List.append_assoc,List.getElem?_append_left (by simp; omega),List.getElem?_take,if_pos hk,aQ] at ao;cases ao; exact .refl
  ·by_cases fK:k=i
   ·subst fK;rw [List.append_assoc,List.getElem?_append_right (by rw [List.length_take]; exact Nat.min_le_left _ _),List.length_take,Nat.min_eq_left (by omega),Nat.sub_self] at ao;simp at ao;subst ao;rw [J] at aQ; cases aQ;exact h.one.1
   ·rw [List.getElem?_append_right (by simp; omega)] at ao;simp only [List.length_append,List.length_take,List.length_singleton,List.getElem?_drop] at ao;rw [show i+1+(k - (min i cs.length+1))=k by omega,aQ] at ao;cases ao; exact .refl
theorem PM {g g2:aH}{s:Nat}:∀ {ks:List Nat}{G1:List (Nat × ab)},pick g ks=some G1->(ks.all λk=>![s].elem k)=true->(∀ e∈G1,cK e.2)->n0 [s] g g2 G1
 | [],_,h,_,_=>by cases h; exact .nil
 | k::ks,G1,h,he,aA=>by
  obtain ⟨x,l,J,ah,rfl⟩:=C1 h;rw [List.all_cons,Bool.and_eq_true] at he;have:b6 x:=⟨aA (k,x) (by simp)⟩;exact .n (by simpa using he.1) J (PM ah he.2 λe h=>aA e (by simp [h]))
def aeg (id:Nat):Code->Bool
 | .seq (.region k _ _) _=>Nat.beq k id
 | .region k _ _=>Nat.beq k id
 | _=>false
theorem cT.k_ {α:Type}{en:bK α}{s:Nat}{i:Option Nat}{c:Code}{Φ:Exit->aH->Prop}{x y:ab}{ks:List Nat}{kI:List (Nat × ab)}(av:get G s=some x) (ai:q9 en i x y) (hk:xt [s] G=some ks) (aw:pick (get G) ks=some kI) (h:cT E t P N (.loop c) ((s,y)::kI) Φ) (cN:(ks.all λk=>![s].elem k)=true:=by rfl) [J:b6 x] [aA:jK kI]:cT E (.k_ s i en t) P N (.loop c) G Φ :=
 have:=ai.fJ.2
 W.fJ [s] (.z (by simp) av ai.fJ.1 (PM aw cN aA.p)) h
theorem cT.hA {Φ:Exit->aH->Prop}{G1:List (Nat × ab)} [aU:yz P N Φ rs n outs res] (c':Zl rs outs res=some G1) (aT:n0 (G1.map Prod.fst) (get G) (get G1) G1) (aw:d_ E t .ret (pf P N rs n outs res) G1):cT E t P N .ret G Φ :=
 W.fJ _ aT (W.rt λg ao=>aU.p g (aw g ao))
def Fy:List Nat->Nat->List ab->Option (List (Nat × ab))
 | _,_,[]=>some []
 | [],_,_::_=>none
 | j::eF,k,x::l=>match Fy eF (k+1) l with
  | none=>none
  | some r=>match tX x,Nat.beq j k with
   | some y,true=>some ((j,y)::r)
   | _,_=>none
theorem Po:∀ {l:List ab}{eF:List Nat}{k:Nat}{r:List (Nat × ab)},Fy eF k l=some r->xA k l=r
 | [],eF,k,r,h=>by cases eF <;> (cases h; rfl)
 | x::l,[],k,r,h=>by cases h
 | x::l,j::eF,k,r,h=>by
  unfold Fy at h
  split at h
  ·cases h
  ·rename_i dr ak
   split at h
   ·rename_i y ai ag;cases h; rw [<- Po ak,<- xx ai,Nat.eq_of_beq_eq_true ag]; rfl
   ·cases h
def lits:List Nat:=[0,1,2,3,4,5,6,7,8,9,10,11,12]
theorem bO.bj {f:FuncId}{fn:Func}{c:Code}{args:List ab}{outs:List (Option ab)}{res:ab}(E:List Nat) (t:k7) (aV:P.funcs[f]?=some fn) (ao:fn.body=some c) (bc:fn.ntmps=N.size) (aQ:Nat.ble args.length N.size=true) (hlen:outs.length=args.length) (c':Fy lits 0 args=some G) (hw:cT E t P N c G (pf P N fn.results.toList args.length outs res)):bO P f args outs res:=bO.go aV ao bc aQ hlen (W.fin (by rw [Po c']; exact hw))
end
end Go.Own
namespace Go.Own
open Go
set_option linter.unusedSectionVars false
variable [cw]
section
variable {P:Program}{N:cQ}{ops:Array Oper}{bl:List (List Nat)}{acc:Acc}{l:List Oper}{K:aH->Prop}{i d:Nat}
end
end Go.Own
namespace Go.Own
open Go Go.Proofs Go.Shelf Go.Lib Go.Sort
set_option linter.unusedSectionVars false
variable [cw]
def A3:Nat->Nat->List UInt8
 | 0,_=>[]
 | k+1,u=>if u<10 then [UInt8.ofNat (48+u)] else A3 k (u / 10)++[UInt8.ofNat (48+u % 10)]
omit [cw] in
theorem Hy:∀ (k u:Nat),u<10 ^ k->0<k->A3 k u=decDigits u
 | 0,_,_,h=>absurd h (by omega)
 | k+1,u,h,_=>by
  rw [A3,decDigits];by_cases hu:u<10
  ·rw [if_pos hu,dif_pos hu]
  ·rw [if_neg hu,dif_neg hu];have hk:0<k:=by
    rcases Nat.eq_zero_or_pos k with rfl | hk
    ·simp at h; omega
    ·exact hk
   rw [Hy k (u / 10) (by rw [Nat.pow_succ] at h; omega) hk]
def kW (n:Int):List UInt8:=if n<0 then 45::A3 20 n.natAbs else A3 20 n.toNat
omit [cw] in
theorem B7 {n:Int}(h:-9223372036854775808<=n/\n<=9223372036854775807):kW n=Lib.itoa n:=by
 unfold kW Lib.itoa;split
 ·rw [Hy 20 _ (by omega) (by omega)]
 ·rw [Hy 20 _ (by omega) (by omega)]
def nf (n:Int):Option ByteArray:=if -9223372036854775808<=n/\n<=9223372036854775807 then some ⟨(kW n).toArray⟩ else none
theorem Uh {w:World}{k:Nat}{os:Array Obj}{U:a7}:Fr w (grow (w.drewN k) os) U:=by
 refine ⟨rfl,rfl,rfl,?_,λc aa _=>?_,λa aQ _=>?_,Nat.le_add_right _ _⟩
 ·rw [size_grow]; exact Nat.le_add_right _ _
 ·exact heap_grow_old _ _ aa
 ·exact (frozen?_grow (w.drewN k) os a aQ).trans rfl
theorem bO.plain {P:Program}{f:FuncId}{args:List ab}{r:Value}(ak:r.oneCell'=true)
  (h:∀ (w:World) (I:a7) (vs:List Value) (Fs:Nat->a7),vs.length=args.length->cG w I vs.toArray (re args) Fs->Calls P f vs.toArray w λe w'=>e=.returned r/\∃ k os,w'=grow (w.drewN k) os) :
  bO P f args (args.map λ_=>none) (.lit r):=by
 refine ⟨by simp,λw I vs Fs ah a_=>?_⟩;refine (h w I vs Fs ah a_).mono ?_;rintro e w' ⟨rfl,k,os,rfl⟩;have aV:Fr w (grow (w.drewN k) os) (λ_=>False):=Uh;have na:∀ t x,h4 (args.map λ_=>none) (.lit r) t=some x->t=args.length/\x=.lit r:=by
  intro t x J;unfold h4 at J
  split at J
  ·rename_i au; cases J; exact ⟨by simpa using au,rfl⟩
  ·rw [List.getElem?_map] at J;cases aQ:args[t]? with
   | none=>rw [aQ] at J; cases J
   | some y=>rw [aQ] at J; cases J
 refine ⟨r,I,λ_=>cd,rfl,⟨λt x J=>?_,λ_ _ _ h=>h,λ_ _ _ h=>h.elim,λ_ _ h=>h.elim,λc aa=>Nat.lt_of_lt_of_le (a_.lt c aa) aV.size,λt t' z p n m new bM ck bn cO h1 _=>?_,cw.keep a_.g_ (λc aa=>aV.block c (a_.lt c aa) λh=>h) λ_ h=>h⟩,⟨aV.mono λ_ _ h=>h.elim,λ_ h=>h,λ_ h=>.inl h,λ_ ⟨_,h⟩=>h.elim⟩⟩
 ·obtain ⟨rfl,rfl⟩:=na t x J;exact ⟨r,by rw [List.getElem?_toArray,<- ah]; simp,.tree (.lit ak λ_ h=>h)⟩
 ·have:=(na t _ h1).2;cases this
theorem bO.itoa {P : Program} {ρ : Ren} (L : LaysM.n171 P ρ) (au : ∀ (w : World) (I : a7), cw.q w I -> Lib.TabIs P w "internal/strconv.uint64pow10" .u64 Lib.pow10Tab) {n : Int} {r : ByteArray} (h : nf n = some r) : bO P (ρ.f 171) [ae n] [none] (aq r) := by
 unfold nf at h
 split at h <;> cases h
 rename_i aA;rw [B7 aA];refine bO.plain (args:=[ae n]) rfl λw I vs Fs ah a_=>?_
 match vs,ah with
 | [v0],_ =>
 obtain ⟨Aj,sA,fc⟩:=a_.rel 0 _ rfl;cases sA;have hv:=(fc.fW (by simp)).gW.1;subst hv;exact Any.strconv_Itoa L n aA.1 aA.2 w (au w I a_.g_)
end Go.Own
namespace Go.Own
open Go Go.Proofs Go.Shelf Go.Lib
set_option linter.unusedSectionVars false
variable [cw]
def sZ (P:Program) (f:FuncId) (k:Nat) (cs:List ab) (ys:List Value) (cs':List ab) (res:ab):Prop :=
 ∀ (w:World) (I:a7) (b:Nat) (F:a7),cw.q w I->(∀ c,I c->c<w.heap.size)->(∀ c,F c->¬ I c)->R w I (λ_ _=>False) (.obj cs) (.pointer (some ⟨b,0,none⟩)) F ->
  Calls P f (Value.pointer (some ⟨b,k,none⟩)::ys).toArray w λe w'=>∃ v cW,e=.returned v/\Fr w w' F/\R w' I (λ_ _=>False) (.obj cs') (.pointer (some ⟨b,0,none⟩)) cW/\(∀ c,cW c->F c\/w.heap.size<=c)/\R w' I (λ_ _=>False) res v cd
variable {P:Program}{N:cQ}{g:aH}{d r:Nat}
theorem fy.at {o:Oper}{xs:List Operand}{fT:Array TypeId}{f:FuncId}{ys:List Value}{res:ab}{cs cs':List ab}{k:Nat}{G2 A:List (Nat × ab)}(aM:o.op=.call { callee:=.value (.func f),args:=xs.toArray,argTypes:=fT }) (aP:o.dst=some d) (J:Own.hz g xs=some (.ptr ⟨r,[]⟩ k::ys.map .lit))
  (av:g r=some (.obj cs)) [eR:dp cs] (gH:sZ P f k cs ys cs' res) (aV:gU P f=true) [ak:b6 res] [w0:dp cs']
  (c':Trim false (cp g ⟨r,[]⟩ .dead) (get ((r,.dead)::G2)) G2) (aL:get G2 d=none) (rD:Nat.beq r d=false) (uQ:Trim false (get ((r,.obj cs')::G2)) (get ((r,.obj cs')::G2)) G2) (dh:v8 g d r cs'.length ((r,.obj cs')::G2) A) (bc:N.ok d=true) :
  fy P N g o d (get (A++(d,res)::(r,.obj cs')::G2)):=by
 have tJ:r≠d:=Nat.ne_of_beq_eq_false rD;have A1:get ((r,ab.dead)::G2) r=some .dead:=by simp [get]
 have tT:hn (cp g ⟨r,[]⟩ .dead) (get ((r,.dead)::G2)):=by
  refine ⟨λt x h=>?_,λt x h=>?_,λt z q n m new h=>?_⟩
  all_goals
   simp only [get] at h
   split at h
  ·rename_i e; subst e; cases h; simp [cp,av,ab.setAt]
  ·obtain ⟨⟨y,h1,_,aF⟩,_⟩:=c'.spec t x h; rw [<- aF rfl]; exact h1
  ·cases h; exact .bh .dead
  ·exact (c'.spec t x h).2.1
  ·cases h
  ·exact (c'.spec t _ h).2.2 _ _ _ _ _ rfl
 have put:p8 (get ((r,.dead)::G2)) [(⟨r,[]⟩,.obj cs')]=get ((r,.obj cs')::G2):=by
  funext t;simp only [p8,cp,get];by_cases h:t=r
  ·simp [h,ab.setAt]
  ·simp [h]
 have tU:hn (get ((r,.obj cs')::G2)) (get ((r,.obj cs')::G2)):=by
  refine ⟨λt x h=>h,λt x h=>?_,λt z q n m new h=>?_⟩
  all_goals
   simp only [get] at h
   split at h
  ·cases h; exact .bh (.obj w0.bh)
  ·exact (uQ.spec t x h).2.1
  ·cases h
  ·exact (uQ.spec t _ h).2.2 _ _ _ _ _ rfl
 have im:uu g d (cR (get ((r,.obj cs')::G2)) d res) (get (A++(d,res)::(r,.obj cs')::G2)):=by
  refine ⟨λt x h=>?_,λt x h=>?_⟩
  ·rw [rn] at h;rw [yS];cases mV:get A t with
   | none=>exact h
   | some y =>
    obtain ⟨h1,af,_⟩:=dh.spec t y mV;simp only [get,if_neg af] at h;simp only [get] at h1;rw [h1] at h; cases h
  ·rw [rn];rw [yS] at h;cases mV:get A t with
   | none=>rw [mV] at h; exact .inl h
   | some y =>
    rw [mV] at h;cases h;obtain ⟨h1,af,aF,k,rfl,hk⟩:=dh.spec t x mV;refine .inr ⟨?_,af,aF,r,k,cs',rfl,tJ,?_,hk⟩
    ·simp only [get,if_neg af]; exact h1
    ·simp only [get,if_neg tJ,if_true]
 intro w I T Fs h a aQ Vd K Q dk;obtain ⟨v1,v2,so,ah,mo⟩:=D9 h aQ (c:=.func f) (first:=[]) (caps:=[]) rfl (by simpa using J);have h2:(execOp a.eval o).run P w=.ok (.enter f (v1++xs.toArray.map a.eval++v2)) w:=by
  simp [execOp,aM,resolve,Deferred.ofValue,so,invoke,AX aV]
 simp only [List.nil_append,List.append_nil] at mo ah;generalize vc:v1++xs.toArray.map a.eval++v2=vs at *;obtain ⟨Aj,sA,fc⟩:=h.rel r _ av;have NF:=(fc.fW (by simp)).bh (ρ':=λ_ _=>False) (.obj eR.bh);have od:dL w T ⟨r,[]⟩=some Aj:=by simp [dL,sA,walk]
 cases tK:vs.toList with
 | nil=>rw [tK] at ah; simp at ah
 | cons nR us =>
  rw [tK] at mo ah;have iu:us=ys:=by
   apply List.ext_getElem?;intro i;by_cases hi:i<ys.length
   ·have h1:(ab.ptr ⟨r,[]⟩ k::ys.map .lit)[i+1]?=some (.lit ys[i]):=by simp [hi]
    have af:us[i]?=some (us[i]'(by simp at ah; omega)):=List.getElem?_eq_getElem _;have:=(mo (i+1) _ _ h1 ((List.getElem?_cons_succ).trans af)).gW.1;rw [af,List.getElem?_eq_getElem hi,this]
   ·rw [List.getElem?_eq_none (by simp at ah; omega),List.getElem?_eq_none (by omega)]
  subst iu;obtain ⟨⟨vM,ad,ax,a2,gJ⟩,_⟩:=(mo 0 _ nR rfl rfl).mz;rw [od] at ax;cases ax;obtain ⟨b,rfl⟩:∃ b,Aj=.pointer (some ⟨b,0,none⟩):=by
   cases NF with
   | ref J=>simp [ab.isRef] at J
   | obj=>exact ⟨_,rfl⟩
  simp only [addrOf,Option.some.injEq] at a2;subst a2;have Xg:vs=(Value.pointer (some ⟨b,k,none⟩)::us).toArray:=by
   apply Array.toList_inj.1;rw [tK,gJ];simp
  have n9:=gH w I b (Fs r) h.g_ h.lt (λc aa=>h.bf r c aa) NF;rw [<- Xg] at n9;unfold Oper.wp Oper.upon;simp only [h2];refine Calls.mono n9 ?_;rintro e w' ⟨v,cW,rfl,fC,h_,iQ,mn⟩;obtain ⟨fN,iP,eX,fK⟩:=h.mG.kill r;have hI:=iP.keep tT;have K1:∀ t c,(get ((r,ab.dead)::G2) t≠none/\fN t c)->t≠r/\Fs t c:=by
   rintro t c ⟨_,aa⟩;by_cases au:t=r
   ·subst au; exact absurd aa (eX c)
   ·rw [fK t au] at aa; exact ⟨au,aa⟩
  have wV:∀ t c,Fs t c->c<w.heap.size:=λt c aa=>h.jC t c aa;have Ik:=hI.world (w':=w') (λt c aa=>by
   obtain ⟨h1,af⟩:=K1 t c aa;exact fC.block c (wV t c af) λaV=>h1 (h.ep _ _ _ af aV)) (λc aa=>fC.block c (h.lt c aa) λaV=>h.bf _ _ aV aa) fC.size
  have Bc:∀ c,cW c->¬ I c:=λc aa hi=>by
   rcases iQ c aa with aR | aR
   ·exact h.bf _ _ aR hi
   ·have:=h.lt c hi; omega
  have UX:∀ t c,cW c->¬ (get ((r,ab.dead)::G2) t≠none/\fN t c):=λt c aa aV=>by
   obtain ⟨h1,af⟩:=K1 t c aV;rcases iQ c aa with aR | aR
   ·exact h1 (h.ep _ _ _ af aR)
   ·have:=wV t c af; omega
  obtain ⟨we,yV,yT⟩:=jb.p8 (w:=w') (I:=I) (T:=T) [(⟨r,[]⟩,.obj cs')] (λ_=>cW) (λ_=>.pointer (some ⟨b,0,none⟩)) Ik.mG (by simp) (λj p x ag=>by
    cases j with
    | succ j=>simp at ag
    | zero =>
     simp only [List.getElem?_cons_zero,Option.some.injEq,Prod.mk.injEq] at ag;obtain ⟨rfl,rfl⟩:=ag;refine ⟨by simp [bB,A1,ab.at],by simp [dL,sA,walk],h_.bh (.obj w0.bh),λi e=>by cases e⟩)
   (λj t c _ aa=>UX t c aa) (λj c _ aa=>Bc c aa) (λi j c hi ag _ _=>by simp at hi ag; omega)
  rw [put] at yV;have Il:=yV.keep tU;have nN:=Il.sP (d:=d) (x:=res) (v:=v) (F:=cd) (by simp only [get,if_neg (Ne.symm tJ)]; exact aL) (by rw [<- aQ,Vd]; exact cQ.lt bc) (.tree (mn.bh ak.bh)) (λ_ _ h=>h.elim) (λ_ h=>h.elim) (λz p n m new e=>by have:=ak.bh; rw [e] at this; cases this);refine dk _ _ v I _ (by rw [aP]; rfl) (by rw [aP]; simp [Act.put,aQ]) (h.back nN im) ⟨fC.mono λb _ ao=>⟨r,ao⟩,λ_ h=>h,λ_ h=>.inl h,λc aa=>?_⟩;rcases ui aa with ⟨t',_,aR⟩ | aR
  ·rcases yT t' c aR with gh | ⟨j,_,gh⟩
   ·exact .inl ⟨t',(K1 t' c gh).2⟩
   ·rcases iQ c gh with aF | aF
    ·exact .inl ⟨r,aF⟩
    ·exact .inr aF
  ·exact aR.elim
end Go.Own
namespace Go.Own
open Go Go.Proofs Go.Shelf Go.Lib
set_option linter.unusedSectionVars false
variable [cw]
variable {P:Program}{ρ:Ren}
theorem sZ.D5 (L:Lays.n166 P ρ) (X:Builder.Extra P ρ) {cs:List ab}{k e0:Nat}{x s y:ByteArray}(ky:cs[k]?=some (.self (k,e0))) (eX:cs[k+1]?=some (.dt (ρ.t 5) (strCells x)))
  (I0:liesAt P P.depth e0 (cs.length / P.cellsOf e0) k (ρ.t 72) 1=true) (h:mS x s=some y) :
  sZ P (ρ.f 166) k cs [.string s] (cs.set (k+1) (.dt (ρ.t 5) (strCells y))) (.bI [ae s.size,.lit .nilIface]):=by
 intro w I b F h' aK Bc aU;unfold mS at h
 split at h <;> cases h
 rename_i dO;have wV:=aU.lt;cases aU with
 | ref J=>simp [ab.isRef] at J
 | @obj _ _ e arr bH _ aM ah h1 ak aP ao aE av =>
  have di:k+1<cs.length:=(List.getElem?_eq_some_iff.1 eX).1;have qC:arr[k]?=some arr[k]:=Array.getElem?_eq_getElem (by omega);have nI:arr[k+1]?=some arr[k+1]:=Array.getElem?_eq_getElem (by omega);have aw:=av k _ _ ky qC;have sj:=ak (k+1) _ _ eX nI;have ady:=sj;cases sj with
  | ref J=>simp [ab.isRef] at J
  | dt jw fw il =>
   have cN:arr[k+1].ownBlock≠some b:=λh=>ao (k+1) di ((il b).2 h);rw [strCells_length] at jw;refine (bws L X s w aM qC nI (aw.imp (λ⟨h1,af⟩=>⟨h1,by rw [af,<- ah]; exact I0⟩) id) jw cN dO).mono ?_;rintro b0 w' ⟨rfl,fC,dB,iQ,im,zc,hblk⟩;rw [QA] at iQ;have aA:x.size+s.size=(strCells (x++s)).length:=by rw [strCells_length]; simp [ByteArray.size_append]
   rw [aA] at iQ;have u3:dB.oneCell'=true:=by
    rcases iQ.2 with ⟨hv,_⟩ | ⟨g,cap,cur,hv,_⟩ <;> rw [hv] <;> rfl
   have yW:∀ c,(c=b\/arr[k+1].ownBlock=some c)->F c:=λc aa=>aa.elim (λh=>(aE c).2 (.inl h)) λh=>(aE c).2 (.inr ⟨k+1,di,(il c).2 h⟩);have U7:∀ c,I c->c<w.heap.size->w'.heap[c]?=w.heap[c]?:=λc aa aK=>fC.block c aK λh=>Bc c (yW c h) aa;have H_:∀ c,I c->w'.heap[c]?=w.heap[c]?:=λc aa=>U7 c aa (aK c aa);have eD:∀ j c,j<cs.length->j≠k+1->bH j c->w'.heap[c]?=w.heap[c]?:=λj c ag fV aa=>fC.block c (wV c ((aE c).2 (.inr ⟨j,ag,aa⟩))) λh=>h.elim (λh=>ao j ag (h ▸ aa)) λh=>fV (aP j (k+1) c ag di aa ((il c).2 h));have Om:∀ j c,j<cs.length->j≠k+1->bH j c->dB.ownBlock≠some c:=λj c ag fV aa h=>by
    rcases hblk c h with aR | aR
    ·exact fV (aP j (k+1) c ag di aa ((il c).2 aR))
    ·have:=wV c ((aE c).2 (.inr ⟨j,ag,aa⟩)); omega
   refine ⟨_,λc=>c=b\/∃ j,j<cs.length/\(if j=k+1 then dB.ownBlock=some c else bH j c),rfl,fC.mono λc _ aa=>yW c aa,?_,λc aa=>?_,?_⟩
   ·refine .obj (Fs:=λj c=>if j=k+1 then dB.ownBlock=some c else bH j c) im (by simp [ah]) (λj u hu=>?_) (λj z u aT hu=>?_) (λi j c hi ag aa dW=>?_) (λj ag aa=>?_) (λc=>by simp) (λi j u hi hu=>?_)
    ·rw [Array.getElem?_setIfInBounds,Array.getElem?_setIfInBounds] at hu
     split at hu
     ·split at hu <;> cases hu; exact u3
     ·split at hu
      ·split at hu <;> cases hu; rfl
      ·exact h1 j u hu
    ·rw [Array.getElem?_setIfInBounds,Array.getElem?_setIfInBounds] at hu;by_cases ss:k+1=j
     ·subst ss;rw [if_pos rfl] at hu;rw [List.getElem?_set_self di] at aT
      split at hu <;> cases hu
      cases aT;exact (R.dt iQ u3 λc=>Iff.rfl).tg λc=>by simp
     ·rw [if_neg ss] at hu;rw [List.getElem?_set_ne ss] at aT;by_cases N1:k=j
      ·subst N1;rw [ky] at aT;cases aT;refine .j0 λc aa=>?_;rw [if_neg (by omega)] at aa;have:=ak k _ _ ky qC;cases this with
       | ref J=>simp [ab.isRef] at J
       | j0 aE=>exact aE c aa
      ·rw [if_neg N1] at hu;have eV:j<cs.length:=(List.getElem?_eq_some_iff.1 aT).1;exact ((ak j z u aT hu).frame H_ (λ_ h=>h) (λ_ _ h=>h) λc aa=>eD j c eV (Ne.symm ss) aa).tg λc=>by simp [Ne.symm ss]
    ·simp only [List.length_set] at hi ag;by_cases h1:i=k+1 <;> by_cases af:j=k+1 <;> simp only [h1,af,if_true,if_false] at aa dW
     ·omega
     ·exact absurd aa (Om j c ag af dW)
     ·exact absurd dW (Om i c hi h1 aa)
     ·exact aP i j c hi ag aa dW
    ·simp only [List.length_set] at ag;by_cases h1:j=k+1
     ·rw [if_pos h1] at aa; exact zc aa
     ·rw [if_neg h1] at aa; exact ao j ag aa
    ·by_cases rz:k+1=i
     ·subst rz;rw [List.getElem?_set_self di] at hi; cases hi
     ·rw [List.getElem?_set_ne rz] at hi;rw [Array.getElem?_setIfInBounds,Array.getElem?_setIfInBounds,if_neg rz] at hu
      split at hu
      ·rename_i y8;subst y8;rw [ky] at hi;cases hi
       split at hu <;> cases hu
       exact .inr rfl
      ·exact av i j u hi hu
   ·rcases aa with rfl | ⟨j,ag,aa⟩
    ·exact .inl ((aE _).2 (.inl rfl))
    ·by_cases h1:j=k+1
     ·rw [if_pos h1] at aa;rcases hblk c aa with h | h
      ·exact .inl (yW c (.inr h))
      ·exact .inr h
     ·rw [if_neg h1] at aa;exact .inl ((aE c).2 (.inr ⟨j,ag,aa⟩))
   ·refine .bI (Fs:=λ_=>cd) rfl (λk y u ai hu=>?_) (λ_ _ _ _ _ h=>h.elim) (λc=>⟨λh=>h.elim,λ⟨_,_,h⟩=>h.elim⟩)
    match k,ai,hu with
    | 0,ai,hu=>cases ai; cases hu; exact .lit rfl λ_ h=>h
    | 1,ai,hu=>cases ai; cases hu; exact .lit rfl λ_ h=>h
    | k+2,ai,hu=>cases ai
theorem sZ.bs (L:Lays.n169 P ρ) (X:Builder.Extra P ρ) {cs:List ab}{k:Nat}{x y:ByteArray}(eX:cs[k+1]?=some (.dt (ρ.t 5) (strCells x))) (h:pw x=some y) :
  sZ P (ρ.f 169) k cs [] (cs.set (k+1) .dead) (aq y):=by
 intro w I b F h' aK Bc aU;unfold pw at h
 split at h <;> cases h
 rename_i dO;have wV:=aU.lt;cases aU with
 | ref J=>simp [ab.isRef] at J
 | @obj _ _ e arr bH _ aM ah h1 ak aP ao aE av =>
  have di:k+1<cs.length:=(List.getElem?_eq_some_iff.1 eX).1;have nI:arr[k+1]?=some arr[k+1]:=Array.getElem?_eq_getElem (by omega);have sj:=ak (k+1) _ _ eX nI;cases sj with
  | ref J=>simp [ab.isRef] at J
  | dt jw fw il =>
   have cN:arr[k+1].ownBlock≠some b:=λh=>ao (k+1) di ((il b).2 h);have pL:strCells x=byteCells x.data.toList:=rfl;have hlen:(strCells x).length=x.data.toList.length:=by unfold strCells; rw [List.length_map]
   rw [hlen,pL] at jw;refine (Mq L X x.data.toList w aM nI jw (λe=>dO (by rw [<- strCells_length]; unfold strCells; rw [e]; rfl))).mono ?_;rintro b0 w' ⟨rfl,fC⟩;have yW:∀ c,arr[k+1].ownBlock=some c->F c:=λc h=>(aE c).2 (.inr ⟨k+1,di,(il c).2 h⟩);have im:w'.heap[b]?=some (.cells arr e (0,0)):=(fC.block b (Array.getElem?_eq_some_iff.1 aM).1 cN).trans aM;have H_:∀ c,I c->w'.heap[c]?=w.heap[c]?:=λc aa=>fC.block c (aK c aa) λh=>Bc c (yW c h) aa;refine ⟨_,λc=>c=b\/∃ j,j<cs.length/\(j≠k+1/\bH j c),rfl,fC.mono λc _ aa=>yW c aa,?_,λc aa=>?_,.lit rfl λ_ h=>h⟩
   ·refine .obj (Fs:=λj c=>j≠k+1/\bH j c) im (by simp [ah]) h1 (λj z u aT hu=>?_) (λi j c hi ag aa dW=>?_) (λj ag aa=>?_) (λc=>by simp) (λi j u hi hu=>?_)
    ·by_cases ss:k+1=j
     ·subst ss;rw [List.getElem?_set_self di] at aT;cases aT;exact .dead λc aa=>aa.1 rfl
     ·rw [List.getElem?_set_ne ss] at aT;have eV:j<cs.length:=(List.getElem?_eq_some_iff.1 aT).1;refine ((ak j z u aT hu).frame H_ (λ_ h=>h) (λ_ _ h=>h) λc aa=>fC.block c (wV c ((aE c).2 (.inr ⟨j,eV,aa⟩))) λh=>ss (aP j (k+1) c eV di aa ((il c).2 h)).symm).tg λc=>⟨λh=>⟨Ne.symm ss,h⟩,λh=>h.2⟩
    ·simp only [List.length_set] at hi ag;exact aP i j c hi ag aa.2 dW.2
    ·simp only [List.length_set] at ag;exact ao j ag aa.2
    ·by_cases rz:k+1=i
     ·subst rz;rw [List.getElem?_set_self di] at hi; cases hi
     ·rw [List.getElem?_set_ne rz] at hi;exact av i j u hi hu
   ·rcases aa with rfl | ⟨j,ag,_,aa⟩
    ·exact .inl ((aE _).2 (.inl rfl))
    ·exact .inl ((aE c).2 (.inr ⟨j,ag,aa⟩))
end Go.Own
namespace Go.Proofs
open Tryz
open Go.Shelf Go.RowKit Go.Own
set_option linter.unusedSectionVars false
set_option linter.unusedVariables false
variable {P:Program}{ρ:Ren}
structure uw (T e:TypeId) (w w':World) (b:Nat):Prop where
 eh:Fr w w' (λc=>c=b)
 row:∃ dB,w'.heap[b]?=some (.cells #[.pointer (some ⟨b,0,none⟩),dB] T (0,0))/\w'.ownsRow 0 e 1 dB 0 []/\dB.ownBlock≠some b/\(∀ c,dB.ownBlock=some c->w.heap.size<=c)/\dB.oneCell'=true
theorem Nk {T e:TypeId}{b:Nat}{w w':World}{cs:Array Value}(aK:b<w.heap.size) (hm:cs.size<=maxLen) (h1:w'.os=w.os) (af:w'.tape=w.tape) (aF:w'.output=w.output) (bk:w.drawn<=w'.drawn) (b2:w.heap.size<=w'.heap.size)
  (du:∀ c,c<w.heap.size->c≠b->w'.heap[c]?=w.heap[c]?) (jh:w'.heap[w.heap.size]?=some (.cells cs e (0,0))) (pH:w'.heap[b]?=some (.cells #[.pointer (some ⟨b,0,none⟩),.slice (some ⟨w.heap.size,0,none⟩) 0 cs.size] T (0,0))):uw T e w w' b:=by
 refine ⟨⟨h1,af,aF,b2,λc aa aA=>du c aa aA,λa aQ aA=>?_,bk⟩,.slice (some ⟨w.heap.size,0,none⟩) 0 cs.size,pH,⟨rfl,.inr ⟨w.heap.size,cs.size,cs,rfl,Nat.zero_le _,jh,Nat.zero_le _,hm,by simp,by simp⟩⟩,?_,λc aa=>?_,rfl⟩
 ·unfold World.frozen?;rw [du a.block aQ aA]
 ·simp [Value.ownBlock]; omega
 ·simp [Value.ownBlock] at aa; omega
theorem Un {T e:TypeId}{b:Nat}{w:World}{cs:Array Value}(im:w.heap[b]?=some (.cells #[.pointer (some ⟨b,0,none⟩),.slice none 0 0] T (0,0))) (hm:cs.size<=maxLen) :
  uw T e w ((w.alloc (.cells cs e)).setCell ⟨b,1,none⟩ (.slice (some ⟨w.heap.size,0,none⟩) 0 cs.size)).drew.drew.drew b:=by
 have aK:b<w.heap.size:=(Array.getElem?_eq_some_iff.1 im).1;have hj:(w.alloc (.cells cs e)).heap[b]?=some (.cells #[.pointer (some ⟨b,0,none⟩),.slice none 0 0] T (0,0)):=(Lib.alloc_old w _ b aK).trans im;have aM:∀ c,c≠b->((w.alloc (.cells cs e)).setCell ⟨b,1,none⟩ (.slice (some ⟨w.heap.size,0,none⟩) 0 cs.size)).heap[c]?=(w.alloc (.cells cs e)).heap[c]?:=λc aa=>by
  simp only [World.setCell,Array.getElem?_modify,if_neg (Ne.symm aa)]
 refine Nk aK hm rfl rfl rfl (show w.drawn<=w.drawn+1+1+1 by omega) ?_ (λc aa aA=>(aM c aA).trans (Lib.alloc_old w _ c aa)) ((aM _ (by omega)).trans (Go.heap_alloc_new w _)) ?_
 ·show w.heap.size<=((w.alloc (.cells cs e)).setCell ⟨b,1,none⟩ (.slice (some ⟨w.heap.size,0,none⟩) 0 cs.size)).heap.size;simp [World.setCell]
 ·show ((w.alloc (.cells cs e)).setCell ⟨b,1,none⟩ (.slice (some ⟨w.heap.size,0,none⟩) 0 cs.size)).heap[b]?=_;simp [World.setCell,Array.getElem?_modify,hj]
theorem Uo {T e:TypeId}{b:Nat}{w:World}{cs:Array Value}(im:w.heap[b]?=some (.cells #[.pointer (some ⟨b,0,none⟩),.slice none 0 0] T (0,0))) (hm:cs.size<=maxLen) :
  uw T e w ((w.setCell ⟨b,1,none⟩ (.slice (some ⟨w.heap.size,0,none⟩) 0 cs.size)).alloc (.cells cs e)).drew.drew.drew b:=by
 have aK:b<w.heap.size:=(Array.getElem?_eq_some_iff.1 im).1;have av:(w.setCell ⟨b,1,none⟩ (.slice (some ⟨w.heap.size,0,none⟩) 0 cs.size)).heap.size=w.heap.size:=by simp [World.setCell]
 have aM:∀ c,c≠b->(w.setCell ⟨b,1,none⟩ (.slice (some ⟨w.heap.size,0,none⟩) 0 cs.size)).heap[c]?=w.heap[c]?:=λc aa=>by
  simp only [World.setCell,Array.getElem?_modify,if_neg (Ne.symm aa)]
 refine Nk aK hm rfl rfl rfl (show w.drawn<=w.drawn+1+1+1 by omega) ?_ (λc aa aA=>(Lib.alloc_old (w.setCell ⟨b,1,none⟩ (.slice (some ⟨w.heap.size,0,none⟩) 0 cs.size)) _ c (by omega)).trans (aM c aA)) ?_ ?_
 ·show w.heap.size<=((w.setCell ⟨b,1,none⟩ (.slice (some ⟨w.heap.size,0,none⟩) 0 cs.size)).alloc (.cells cs e)).heap.size;have:((w.setCell ⟨b,1,none⟩ (.slice (some ⟨w.heap.size,0,none⟩) 0 cs.size)).alloc (.cells cs e)).heap.size=w.heap.size+1:=by simp [World.setCell]
  omega
 ·have:=Go.heap_alloc_new (w.setCell ⟨b,1,none⟩ (.slice (some ⟨w.heap.size,0,none⟩) 0 cs.size)) (.cells cs e);rw [av] at this;exact this
 ·refine (Lib.alloc_old (w.setCell ⟨b,1,none⟩ (.slice (some ⟨w.heap.size,0,none⟩) 0 cs.size)) _ b (by omega)).trans ?_;simp [World.setCell,Array.getElem?_modify,im]
variable {P:Program}{ρ:Ren}
set_option maxHeartbeats 2000000 in
set_option maxRecDepth 1000000 in
theorem Ss (L:Lays.n241 P ρ) (X:Builder.Extra P ρ) {T:TypeId}(b n:Nat) (w:World) (im:w.heap[b]?=some (.cells #[.pointer (some ⟨b,0,none⟩),.slice none 0 0] T (0,0))) (aA:n<=281474976710656) :
  Calls P (ρ.f 241) #[.pointer (some ⟨b,0,none⟩),.int .i64 n] w λe w'=>e=.returned (.tuple #[])/\uw T (ρ.t 5) w w' b:=by
 obtain ⟨cs,h2,hle,N8⟩:=Lib.run_makeNoZero (P:=P) w.drew #[(ρ.t 3)] (ρ.t 37) (ρ.t 5) L.t37 n aA;have hw:IntKind.i64.wrap (IntKind.i64.wrap 0+(n:Int))=n:=by
  rw [IntKind.wrap_i64,IntKind.wrap_i64];omega
 have n9:(callFunc (ρ.f 277) #[.int .i64 (IntKind.i64.wrap (IntKind.i64.wrap 0+(n:Int)))]).run P w.drew=.ok (.value (.slice (some ⟨w.drew.heap.size,0,none⟩) n cs.size)) (w.drew.drew.drew.alloc (.cells cs (ρ.t 5))):=by
  rw [hw,run_callFunc_extern L.f277 (by kernel_rfl) (by kernel_rfl) (by kernel_rfl) (e:=Extern.BytealgMakeNoZero.makeNoZero #[(ρ.t 3)] #[(ρ.t 37)]) (by kernel_rfl),h2];rfl
 have c1:w.drew.cell? ⟨b,1,none⟩=some (.slice none 0 0):=by
  have:w.drew.heap[b]?=_:=im;rw [Lib.cell_of_heap this]; rfl
 have aK:b<w.heap.size:=(Array.getElem?_eq_some_iff.1 im).1;have c2:(w.alloc (.cells cs (ρ.t 5))).cell? ⟨b,1,none⟩=some (.slice none 0 0):=by
  have:(w.alloc (.cells cs (ρ.t 5))).heap[b]?=_:=(Lib.alloc_old w _ b aK).trans im;rw [Lib.cell_of_heap this]; rfl
 have f2:(w.alloc (.cells cs (ρ.t 5))).frozen? ⟨b,1,none⟩=false:=Lib.frozen_of_heap ((Lib.alloc_old w _ b aK).trans im) 1;have adH:∀ W:World,(Builtin.copy_ #[(ρ.t 37),(ρ.t 37)] (ρ.t 3) #[.slice (some ⟨w.heap.size,0,none⟩) 0 cs.size,.slice none 0 0]).run P W=.ok (goInt 0) W :=
  λW=>run_copy_none W (ρ.t 37) (ρ.t 37) (ρ.t 3) (ρ.t 5) _ _ 0 cs.size 0 0 L.t37 X.sizeByte rfl
 clear hw;have mixed:=L.mixed;have t72:=L.t72; have a72:=L.a72; have z72:=L.z72; have v72:=L.v72; have Dt:=run_underlying L.t72;have t70:=L.t70; have a70:=L.a70; have z70:=L.z70; have v70:=L.v70; have Ds:=run_underlying L.t70;have t37:=L.t37; have a37:=L.a37; have z37:=L.z37; have v37:=L.v37; have K8:=run_underlying L.t37;have t3:=L.t3; have a3:=L.a3; have z3:=L.z3; have v3:=L.v3; have Ak:=run_underlying L.t3;have t5:=X.t5; have a5:=X.a5; have z5:=X.z5; have v5:=X.v5; have K9:=run_underlying X.t5
 go_enter L.f241,Body.n241_ntmps ρ
 go_wp2
 have IK:=Un (T:=T) (e:=(ρ.t 5)) (cs:=cs) im (N8 (by unfold maxLen; omega));have Wg:=Uo (T:=T) (e:=(ρ.t 5)) (cs:=cs) im (N8 (by unfold maxLen; omega));clear im
 go_region_o
 all_goals (go_wp2; go_end0; first | exact ⟨rfl,IK⟩ | exact ⟨rfl,Wg⟩)
variable [cw]
variable {P:Program}{ρ:Ren}
theorem Uq {T e:TypeId}{b:Nat}{w fj w':World}(h:Fr w fj (λc=>c=b)) (ao:fj.heap[b]?=some (.cells #[.pointer (some ⟨b,0,none⟩),.slice none 0 0] T (0,0))) (aL:uw T e fj.drew w' b):uw T e w w' b:=by
 obtain ⟨dB,h1,af,aF,bk,b2⟩:=aL.row;refine ⟨?_,dB,h1,af,aF,λc aa=>Nat.le_trans h.size (bk c aa),b2⟩;exact h.drew.trans aL.eh λc _ h=>h
theorem Up {T e:TypeId}{b:Nat}{w fj:World}(h:Fr w fj (λc=>c=b)) (ao:fj.heap[b]?=some (.cells #[.pointer (some ⟨b,0,none⟩),.slice none 0 0] T (0,0))):uw T e w fj.drew b :=
 ⟨h.drew,.slice none 0 0,ao,World.ownsRow_nil _ _ _ _,by simp [Value.ownBlock],λc aa=>by simp [Value.ownBlock] at aa,rfl⟩
set_option maxHeartbeats 2000000 in
set_option maxRecDepth 1000000 in
/-- (*strings.Builder).Grow at a builder that holds nothing and has no room. -/
theorem Sr (L:Lays.n165 P ρ) (X:Builder.Extra P ρ) {b n:Nat}{p:Value}{T:TypeId}(w:World) (im:w.heap[b]?=some (.cells #[p,.slice none 0 0] T (0,0)))
  (aw:(p=.pointer none/\T=ρ.t 72)\/p=.pointer (some ⟨b,0,none⟩)) (aA:n<=281474976710656) :
  Calls P (ρ.f 165) #[.pointer (some ⟨b,0,none⟩),.int .i64 n] w λe w'=>e=.returned (.tuple #[])/\uw T (ρ.t 5) w w' b:=by
 have mixed:=L.mixed;have t72:=L.t72; have a72:=L.a72; have z72:=L.z72; have v72:=L.v72; have Dt:=run_underlying L.t72;have t70:=L.t70; have a70:=L.a70; have z70:=L.z70; have v70:=L.v70; have Ds:=run_underlying L.t70;have t37:=L.t37; have a37:=L.a37; have z37:=L.z37; have v37:=L.v37; have K8:=run_underlying L.t37;have t3:=L.t3; have a3:=L.a3; have z3:=L.z3; have v3:=L.v3; have Ak:=run_underlying L.t3;have t9:=L.t9; have a9:=L.a9; have z9:=L.z9; have v9:=L.v9; have F7:=run_underlying L.t9;have t4:=L.t4; have a4:=L.a4; have z4:=L.z4; have v4:=L.v4; have Dr:=run_underlying L.t4;have t164:=L.t164; have a164:=L.a164; have z164:=L.z164; have v164:=L.v164; have K7:=run_underlying L.t164;have t5:=X.t5; have a5:=X.a5; have z5:=X.z5; have v5:=X.v5; have K9:=run_underlying X.t5;have TK:∀ args w,(callFunc (ρ.f 240) args).run P w=.ok (.enter (ρ.f 240) args) w:=enters_of L.f240 (by kernel_rfl) rfl;have ac':∀ args w,(callFunc (ρ.f 241) args).run P w=.ok (.enter (ρ.f 241) args) w:=enters_of L.f241 (by kernel_rfl) rfl;have I0:T=ρ.t 72->liesAt P P.depth T ((#[p,.slice none 0 0]:Array Value).size / P.cellsOf T) 0 (ρ.t 72) 1=true:=λh=>by rw [h]; exact X.toX72.liesBuilder
 have EC:=Mm (ρ:=ρ) { L with } X.toX72 w im (k:=0) rfl (aw.imp (λh=>⟨h.1,I0 h.2⟩) id)
 go_enter L.f165,Body.n165_ntmps ρ
 go_wp2_with (go_at_fn (ρ.f 240); refine EC.mono ?_)
 rintro b0 fj ⟨rfl,y5,kv⟩;have EA:fj.heap[b]?=some (.cells #[.pointer (some ⟨b,0,none⟩),.slice none 0 0] T (0,0)):=kv;have G_:fj.drew.cell? ⟨b,1,none⟩=some (.slice none 0 0):=by
  have:fj.drew.heap[b]?=_:=EA;rw [Lib.cell_of_heap this]; rfl
 go_wp2
 go_region_o
 all_goals go_wp2_with (go_at_fn (ρ.f 241); refine (Ss { L with } X b n fj.drew EA aA).mono ?_; rintro e w' ⟨rfl,h1⟩)
 all_goals first
  | (go_end0; exact ⟨rfl,Uq y5 EA h1⟩)
  | (go_end0; exact ⟨rfl,Up y5 EA⟩)
end Go.Proofs
namespace Go.Own
open Go Go.Proofs Go.Shelf Go.Lib
set_option linter.unusedSectionVars false
variable [cw]
def wy (_:Unit) (n:Int):Option ByteArray:=if 0<=n/\n<=281474976710656 then some ⟨#[]⟩ else none
section
variable {P:Program}{ρ:Ren}
theorem bO.Mn (L:Lays.n165 P ρ) (X:Builder.Extra P ρ) {n:Int}{y:ByteArray}(h:wy () n=some y) :
  bO P (ρ.f 165) [.obj [.self (0,ρ.t 72),.bb],ae n] [some (.obj [.self (0,ρ.t 72),.dt (ρ.t 5) (strCells y)]),none] (.bI []):=by
 refine ⟨rfl,λw I vs Fs m' a_=>?_⟩
 match vs,m' with
 | [v0,v1],_ =>
 obtain ⟨Aj,sA,fc⟩:=a_.rel 0 _ rfl;obtain ⟨K6,Jj,rq⟩:=a_.rel 1 _ rfl;cases sA; cases Jj;have oc:=(rq.fW (by simp)).gW.1;subst oc;unfold wy at h
 split at h <;> cases h
 rename_i aA;obtain ⟨m,rfl⟩:=Int.eq_ofNat_of_zero_le aA.1;have aU:=fc.fW (by simp);cases aU with
 | ref J=>simp [ab.isRef] at J
 | @obj _ b e arr bH _ aM ah h1 ak aP ao aE av =>
  have pO:arr.size=2:=ah.symm;have qC:arr[0]?=some arr[0]:=Array.getElem?_eq_getElem (by omega);have nI:arr[1]?=some arr[1]:=Array.getElem?_eq_getElem (by omega);have aw:=av 0 _ _ rfl qC;have qG:arr[1]=.slice none 0 0:=(ak 1 _ _ rfl nI).p1;have ku:arr=#[arr[0],.slice none 0 0]:=by
   apply Array.ext_getElem?;intro i
   match i with
   | 0=>rw [qC]; rfl
   | 1=>rw [nI,qG]; rfl
   | i+2=>rw [Array.getElem?_eq_none (by omega)]; simp
  rw [ku] at aM;refine (Sr L X (n:=m) w aM (aw.imp (λh=>h) λh=>h) (by omega)).mono ?_;rintro b0 w' ⟨rfl,fC,dB,im,iQ,zc,hblk,u3⟩;have yZ:b<w.heap.size:=(Array.getElem?_eq_some_iff.1 aM).1;refine ⟨_,I,λt c=>t=0/\(c=b\/dB.ownBlock=some c),rfl,⟨λt x J=>?_,λt au c aa=>?_,λt t' c aa dW=>aa.1.trans dW.1.symm,λt c aa hi=>?_,λc aa=>Nat.lt_of_lt_of_le (a_.lt c aa) fC.size,λt t' z p n m new bM ck bn cO h1 _=>?_,cw.keep a_.g_ (λc aa=>fC.block c (a_.lt c aa) λh=>a_.bf 0 c ((aE c).2 (.inl h)) aa) λ_ h=>h⟩,⟨?_,λ_ h=>h,λ_ h=>.inl h,λc aa=>?_⟩⟩
  ·match t,J with
   | 0,J =>
    cases J;refine ⟨_,rfl,.tree ?_⟩;refine .obj (Fs:=λk c=>k=1/\dB.ownBlock=some c) im (by simp) (λk u hu=>?_) (λk y u ai hu=>?_) (λj k c _ _ h1 af=>h1.1.trans af.1.symm) (λk _ h=>zc h.2) (λc=>⟨λh=>h.2.imp id λh=>⟨1,by simp,rfl,h⟩,λh=>⟨rfl,h.imp id λ⟨_,_,_,h⟩=>h⟩⟩) (λk j u ai hu=>?_)
    ·match k,hu with
     | 0,hu=>simp at hu; subst hu; rfl
     | 1,hu=>simp at hu; subst hu; exact u3
     | k+2,hu=>simp at hu
    ·match k,ai,hu with
     | 0,ai,hu=>cases ai; exact .j0 λc h=>by cases h.1
     | 1,ai,hu =>
      cases ai;simp at hu;subst hu;exact .dt iQ u3 λc=>⟨λh=>h.2,λh=>⟨rfl,h⟩⟩
     | k+2,ai,hu=>cases ai
    ·match k,ai,hu with
     | 0,ai,hu =>
      cases ai;simp at hu;exact .inr hu.symm
     | 1,ai,hu=>cases ai
     | k+2,ai,hu=>cases ai
   | 1,J=>cases J
   | 2,J =>
    cases J;exact ⟨_,rfl,.tree (.bI (Fs:=λ_=>cd) rfl (λk y u ai hu=>by cases ai) (λ_ _ _ _ _ h=>h.elim) (λc=>⟨λh=>(by cases h.1),λ⟨_,_,h⟩=>h.elim⟩))⟩
   | t+3,J=>simp [h4] at J
  ·rw [aa.1] at au; cases au
  ·rcases aa.2 with rfl | h
   ·exact a_.bf 0 _ ((aE _).2 (.inl rfl)) hi
   ·have h1:=hblk c h; have af:=a_.lt c hi; omega
  ·match t,h1 with
   | 0,h1=>cases h1
   | 1,h1=>cases h1
   | 2,h1=>cases h1
   | t+3,h1=>simp [h4] at h1
  ·exact fC.mono λc _ h=>⟨0,(aE c).2 (.inl h)⟩
  ·obtain ⟨t,_,aa⟩:=aa;rcases aa with rfl | h
   ·exact .inl ⟨0,(aE _).2 (.inl rfl)⟩
   ·exact .inr (hblk c h)
end
end Go.Own
namespace Go.Own
open Go
set_option linter.unusedSectionVars false
variable [cw]
variable {P:Program}{N:cQ}{g:aH}{ty:TypeId}
theorem O.Sz {e ty t k:Nat}{a:Operand}{y:ab}{cs cs':List ab}(J:Rd g a y) (aa:jf y=some cs) (aI:cs[k]?=some (.lit (.pointer none))) (h1:cs[k+1]?=some .bb) (he:(cs.set k (.self (k,e))).set (k+1) (.dt t [])=cs'):ch P g (.box e a) ty (.obj cs'):=by
 subst he;exact .qQ (.D4 J.bp aa aI h1)
end Go.Own
namespace Go.Proofs
open Tryz
open Go Go.Shelf Go.RowKit Go.Lib Go.Own
def Tryz.O1:Go.Shelf.Ren:=⟨fun | 169=>26 | n=>n,fun | 70=>94 | 9=>9 | 0=>0 | 72=>97 | 37=>95 | 127=>134 | 3=>3 | 5=>5 | n=>n,fun | n=>n⟩
theorem Tryz.J8:Go.Proofs.Lays.n169 prog Tryz.O1:={
 mixed:=by kernel_rfl
 f169:=func26.trans (congrArg some (by kernel_rfl))
 t0:=Tryz.underlying0
 a0:=Tryz.isAgg0
 z0:=Tryz.sizeOf0
 v0:=Tryz.zeroValue0
 t3:=Tryz.underlying3
 a3:=Tryz.isAgg3
 z3:=Tryz.sizeOf3
 v3:=Tryz.zeroValue3
 t9:=Tryz.underlying9
 a9:=Tryz.isAgg9
 z9:=Tryz.sizeOf9
 v9:=Tryz.zeroValue9
 t37:=Tryz.underlying95
 a37:=Tryz.isAgg95
 z37:=Tryz.sizeOf95
 v37:=Tryz.zeroValue95
 t70:=Tryz.underlying94
 a70:=Tryz.isAgg94
 z70:=Tryz.sizeOf94
 v70:=Tryz.zeroValue94
 t72:=Tryz.underlying97
 a72:=Tryz.isAgg97
 z72:=Tryz.sizeOf97
 v72:=Tryz.zeroValue97
 t127:=Tryz.underlying134
 a127:=Tryz.isAgg134
 z127:=Tryz.sizeOf134
 v127:=Tryz.zeroValue134 }
def Tryz.Yd:Go.Shelf.Ren:=⟨fun | 171=>25 | 243=>46 | 246=>70 | 283=>96 | 284=>97 | 285=>98 | 286=>99 | 129=>116 | 317=>119 | 318=>120 | 319=>121 | 320=>122 | 337=>133 | 338=>134 | n=>n,fun | 3=>3 | 9=>9 | 2=>2 | 4=>4 | 171=>192 | 0=>0 | 53=>105 | 37=>95 | 5=>5 | 173=>195 | 212=>214 | 51=>180 | 20=>20 | 213=>215 | 46=>151 | 232=>229 | 233=>230 | n=>n,fun | 17=>0 | 18=>2 | 19=>3 | n=>n⟩
theorem Tryz.O2:Go.Proofs.LaysM.n171 prog Tryz.Yd:={
 mixed:=by kernel_rfl
 f129:=func116.trans (congrArg some (by kernel_rfl))
 f171:=func25.trans (congrArg some (by kernel_rfl))
 f243:=func46.trans (congrArg some (by kernel_rfl))
 f246:=func70.trans (congrArg some (by kernel_rfl))
 f283:=func96.trans (congrArg some (by kernel_rfl))
 f284:=func97.trans (congrArg some (by kernel_rfl))
 f285:=func98.trans (congrArg some (by kernel_rfl))
 f286:=func99.trans (congrArg some (by kernel_rfl))
 f317:=func119.trans (congrArg some (by kernel_rfl))
 f318:=func120.trans (congrArg some (by kernel_rfl))
 f319:=func121.trans (congrArg some (by kernel_rfl))
 f320:=func122.trans (congrArg some (by kernel_rfl))
 f337:=func133.trans (congrArg some (by kernel_rfl))
 f338:=func134.trans (congrArg some (by kernel_rfl))
 t0:=Tryz.underlying0
 a0:=Tryz.isAgg0
 z0:=Tryz.sizeOf0
 v0:=Tryz.zeroValue0
 t2:=Tryz.underlying2
 a2:=Tryz.isAgg2
 z2:=Tryz.sizeOf2
 v2:=Tryz.zeroValue2
 t3:=Tryz.underlying3
 a3:=Tryz.isAgg3
 z3:=Tryz.sizeOf3
 v3:=Tryz.zeroValue3
 t4:=Tryz.underlying4
 a4:=Tryz.isAgg4
 z4:=Tryz.sizeOf4
 v4:=Tryz.zeroValue4
 t5:=Tryz.underlying5
 a5:=Tryz.isAgg5
 z5:=Tryz.sizeOf5
 v5:=Tryz.zeroValue5
 t9:=Tryz.underlying9
 a9:=Tryz.isAgg9
 z9:=Tryz.sizeOf9
 v9:=Tryz.zeroValue9
 t20:=Tryz.underlying20
 a20:=Tryz.isAgg20
 z20:=Tryz.sizeOf20
 v20:=Tryz.zeroValue20
 t37:=Tryz.underlying95
 a37:=Tryz.isAgg95
 z37:=Tryz.sizeOf95
 v37:=Tryz.zeroValue95
 t46:=Tryz.underlying151
 a46:=Tryz.isAgg151
 z46:=Tryz.sizeOf151
 v46:=Tryz.zeroValue151
 t51:=Tryz.underlying180
 a51:=Tryz.isAgg180
 z51:=Tryz.sizeOf180
 v51:=Tryz.zeroValue180
 t53:=Tryz.underlying105
 a53:=Tryz.isAgg105
 z53:=Tryz.sizeOf105
 v53:=Tryz.zeroValue105
 t171:=Tryz.underlying192
 a171:=Tryz.isAgg192
 z171:=Tryz.sizeOf192
 v171:=Tryz.zeroValue192
 t173:=Tryz.underlying195
 a173:=Tryz.isAgg195
 z173:=Tryz.sizeOf195
 v173:=Tryz.zeroValue195
 t212:=Tryz.underlying214
 a212:=Tryz.isAgg214
 z212:=Tryz.sizeOf214
 v212:=Tryz.zeroValue214
 t213:=Tryz.underlying215
 a213:=Tryz.isAgg215
 z213:=Tryz.sizeOf215
 t232:=Tryz.underlying229
 a232:=Tryz.isAgg229
 z232:=Tryz.sizeOf229
 v232:=Tryz.zeroValue229
 t233:=Tryz.underlying230
 a233:=Tryz.isAgg230
 z233:=Tryz.sizeOf230
 v233:=Tryz.zeroValue230
 g17:=by kernel_rfl
 g18:=by kernel_rfl
 g19:=by kernel_rfl
 i0:=by kernel_rfl
 i2:=by kernel_rfl
 i3:=by kernel_rfl
 i4:=by kernel_rfl
 i5:=by kernel_rfl
 i9:=by kernel_rfl
 i20:=by kernel_rfl
 i37:=by kernel_rfl
 i46:=by kernel_rfl
 i51:=by kernel_rfl
 i53:=by kernel_rfl
 i171:=by kernel_rfl
 i173:=by kernel_rfl
 i212:=by kernel_rfl
 i232:=by kernel_rfl
 i233:=by kernel_rfl
 m17:=by kernel_rfl
 m18:=by kernel_rfl
 m19:=by kernel_rfl }
def Tryz.O0:Go.Shelf.Ren:=⟨fun | 240=>63 | 276=>89 | 166=>40 | n=>n,fun | 70=>94 | 9=>9 | 3=>3 | 75=>126 | 0=>0 | 72=>97 | 37=>95 | 4=>4 | 164=>185 | 20=>20 | 80=>103 | n=>n,fun | n=>n⟩
theorem Tryz.J7:Go.Proofs.Lays.n166 prog Tryz.O0:={
 mixed:=by kernel_rfl
 f166:=func40.trans (congrArg some (by kernel_rfl))
 f240:=func63.trans (congrArg some (by kernel_rfl))
 f276:=func89.trans (congrArg some (by kernel_rfl))
 t0:=Tryz.underlying0
 a0:=Tryz.isAgg0
 z0:=Tryz.sizeOf0
 v0:=Tryz.zeroValue0
 t3:=Tryz.underlying3
 a3:=Tryz.isAgg3
 z3:=Tryz.sizeOf3
 v3:=Tryz.zeroValue3
 t4:=Tryz.underlying4
 a4:=Tryz.isAgg4
 z4:=Tryz.sizeOf4
 v4:=Tryz.zeroValue4
 t9:=Tryz.underlying9
 a9:=Tryz.isAgg9
 z9:=Tryz.sizeOf9
 v9:=Tryz.zeroValue9
 t20:=Tryz.underlying20
 a20:=Tryz.isAgg20
 z20:=Tryz.sizeOf20
 v20:=Tryz.zeroValue20
 t37:=Tryz.underlying95
 a37:=Tryz.isAgg95
 z37:=Tryz.sizeOf95
 v37:=Tryz.zeroValue95
 t70:=Tryz.underlying94
 a70:=Tryz.isAgg94
 z70:=Tryz.sizeOf94
 v70:=Tryz.zeroValue94
 t72:=Tryz.underlying97
 a72:=Tryz.isAgg97
 z72:=Tryz.sizeOf97
 v72:=Tryz.zeroValue97
 t75:=Tryz.underlying126
 a75:=Tryz.isAgg126
 z75:=Tryz.sizeOf126
 v75:=Tryz.zeroValue126
 t164:=Tryz.underlying185
 a164:=Tryz.isAgg185
 z164:=Tryz.sizeOf185
 v164:=Tryz.zeroValue185
}
def Tryz.OZ:Go.Shelf.Ren:=⟨fun | 240=>63 | 241=>71 | 276=>89 | 277=>100 | 165=>47 | n=>n,fun | 70=>94 | 3=>3 | 0=>0 | 4=>4 | 9=>9 | 20=>20 | 72=>97 | 37=>95 | 164=>185 | 80=>103 | n=>n,fun | n=>n⟩
theorem Tryz.OY:Go.Proofs.Lays.n165 prog Tryz.OZ:={
 mixed:=by kernel_rfl
 f165:=func47.trans (congrArg some (by kernel_rfl))
 f240:=func63.trans (congrArg some (by kernel_rfl))
 f241:=func71.trans (congrArg some (by kernel_rfl))
 f276:=func89.trans (congrArg some (by kernel_rfl))
 f277:=func100.trans (congrArg some (by kernel_rfl))
 t0:=Tryz.underlying0
 a0:=Tryz.isAgg0
 z0:=Tryz.sizeOf0
 v0:=Tryz.zeroValue0
 t3:=Tryz.underlying3
 a3:=Tryz.isAgg3
 z3:=Tryz.sizeOf3
 v3:=Tryz.zeroValue3
 t4:=Tryz.underlying4
 a4:=Tryz.isAgg4
 z4:=Tryz.sizeOf4
 v4:=Tryz.zeroValue4
 t9:=Tryz.underlying9
 a9:=Tryz.isAgg9
 z9:=Tryz.sizeOf9
 v9:=Tryz.zeroValue9
 t20:=Tryz.underlying20
 a20:=Tryz.isAgg20
 z20:=Tryz.sizeOf20
 v20:=Tryz.zeroValue20
 t37:=Tryz.underlying95
 a37:=Tryz.isAgg95
 z37:=Tryz.sizeOf95
 v37:=Tryz.zeroValue95
 t70:=Tryz.underlying94
 a70:=Tryz.isAgg94
 z70:=Tryz.sizeOf94
 v70:=Tryz.zeroValue94
 t72:=Tryz.underlying97
 a72:=Tryz.isAgg97
 z72:=Tryz.sizeOf97
 v72:=Tryz.zeroValue97
 t164:=Tryz.underlying185
 a164:=Tryz.isAgg185
 z164:=Tryz.sizeOf185
 v164:=Tryz.zeroValue185
}
theorem Tryz.GW:Builder.Extra prog Tryz.O0 where
 sizeBuilder:=by kernel_rfl
 liesBuilder:=by kernel_rfl
 t5:=Tryz.underlying5
 a5:=Tryz.isAgg5
 z5:=Tryz.sizeOf5
 v5:=Tryz.zeroValue5
 infoByte:=by kernel_rfl
 cellsByte:=by kernel_rfl
 sizeByte:=by kernel_rfl
 neB5:=by decide
theorem Tryz.GX:Builder.Extra prog Tryz.O1 where
 sizeBuilder:=by kernel_rfl
 liesBuilder:=by kernel_rfl
 t5:=Tryz.underlying5
 a5:=Tryz.isAgg5
 z5:=Tryz.sizeOf5
 v5:=Tryz.zeroValue5
 infoByte:=by kernel_rfl
 cellsByte:=by kernel_rfl
 sizeByte:=by kernel_rfl
 neB5:=by decide
theorem Tryz.K4 : prog.globalNamed "internal/strconv.uint64pow10" = some 0 := by kernel_rfl
instance : cw := ⟨λw I => I 0 /\ Lib.TabIs prog w "internal/strconv.uint64pow10" .u64 Lib.pow10Tab, λ{w w' I I'} h ao a' => ⟨a' _ h.1, by
 have af:=h.2;unfold Lib.TabIs World.var? at af ⊢;rw [Tryz.K4] at af ⊢;simp only [Option.bind_some] at af ⊢;rw [ao _ h.1];exact af⟩⟩
theorem Tryz.QG (w : World) (I : a7) (h : cw.q w I) : Lib.TabIs prog w "internal/strconv.uint64pow10" .u64 Lib.pow10Tab := h.2
instance:Rl prog 97 5:={}
instance {x s y:ByteArray}:bz prog 40 (mS x s=some y) [.obj [.self (0,97),.dt 5 (strCells x)],aq s] [some (.obj [.self (0,97),.dt 5 (strCells y)]),none] (.bI [ae s.size,.lit .nilIface]):=⟨bO.D5 Tryz.J7 Tryz.GW⟩
instance {x y:ByteArray}:bz prog 26 (pw x=some y) [.obj [.self (0,97),.dt 5 (strCells x)]] [some (.obj [.self (0,97),.dead])] (aq y):=⟨bO.bs Tryz.J8 Tryz.GX⟩
instance {n:Int}{r:ByteArray}:bz prog 25 (nf n=some r) [ae n] [none] (aq r):=⟨bO.itoa (P:=prog) Tryz.O2 Tryz.QG⟩
theorem Tryz.Mi:Builder.Extra prog Tryz.OZ where
 sizeBuilder:=by kernel_rfl
 liesBuilder:=by kernel_rfl
 t5:=Tryz.underlying5
 a5:=Tryz.isAgg5
 z5:=Tryz.sizeOf5
 v5:=Tryz.zeroValue5
 infoByte:=by kernel_rfl
 cellsByte:=by kernel_rfl
 sizeByte:=by kernel_rfl
 neB5:=by decide
instance {n:Int}{y:ByteArray}:bz prog 47 (wy () n=some y) [.obj [.self (0,97),.bb],ae n] [some (.obj [.self (0,97),.dt 5 (strCells y)]),none] (.bI []):=⟨bO.Mn Tryz.OY Tryz.Mi⟩
theorem Hu (x s y:ByteArray) (h:mS x s=some y):bO prog 40 [.obj [.self (0,97),.dt 5 (strCells x)],aq s] [some (.obj [.self (0,97),.dt 5 (strCells y)]),none] (.bI [ae s.size,.lit .nilIface]):=bO.D5 Tryz.J7 Tryz.GW h
theorem S' (x y:ByteArray) (h:pw x=some y):bO prog 26 [.obj [.self (0,97),.dt 5 (strCells x)]] [some (.obj [.self (0,97),.dead])] (aq y):=bO.bs Tryz.J8 Tryz.GX h
theorem D_ (n:Int) (r:ByteArray) (h:nf n=some r):bO prog 25 [ae n] [none] (aq r):=bO.itoa (P:=prog) Tryz.O2 Tryz.QG h
theorem Ti (_u:Unit) (n:Int) (y:ByteArray) (h:wy () n=some y):bO prog 47 [.obj [.self (0,97),.bb],ae n] [some (.obj [.self (0,97),.dt 5 (strCells y)]),none] (.bI []):=bO.Mn Tryz.OY Tryz.Mi h
theorem MF {cs:List ab}{k e0:Nat}{x s y:ByteArray}(ky:cs[k]?=some (.self (k,e0))) (eX:cs[k+1]?=some (.dt 5 (strCells x))) (ah:liesAt prog prog.depth e0 (cs.length / prog.cellsOf e0) k 97 1=true) (h:mS x s=some y) :
  sZ prog 40 k cs [.string s] (cs.set (k+1) (.dt 5 (strCells y))) (.bI [ae s.size,.lit .nilIface]):=sZ.D5 Tryz.J7 Tryz.GW ky eX ah h
theorem Ta {cs:List ab}{k:Nat}{x y:ByteArray}(eX:cs[k+1]?=some (.dt 5 (strCells x))) (h:pw x=some y):sZ prog 26 k cs [] (cs.set (k+1) .dead) (aq y):=sZ.bs Tryz.J8 Tryz.GX eX h
end Go.Proofs
