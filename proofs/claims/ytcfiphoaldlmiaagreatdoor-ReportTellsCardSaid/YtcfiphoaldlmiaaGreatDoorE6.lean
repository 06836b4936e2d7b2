/- Parts of the proof that the last text states. -/
import Derived.Shelf.Strconv.Itoa3
import Derived.Shelf.Strings.Builder2
import Derived.Test.YtcfiphoaldlmiaaGreatDoorE5
namespace Go.Proofs
open Go.Shelf Go.RowKit Go.Own
set_option linter.unusedSectionVars false
variable [cw]
variable {P:Program}{ρ:Ren}
structure QM (t:TypeId) (w w':World) (b k:Nat) (e:TypeId) (arr:Array Value) (v:Value) (n m:Nat) (us news:List Value):Prop where
 ei:Fr w w' (λc=>c=b\/v.ownBlock=some c)
 row:∃ dJ,w'.ownsRow 0 t 1 dJ (n+m) (us++news)/\w'.heap[b]?=some (.cells ((arr.setIfInBounds k (.pointer (some ⟨b,k,none⟩))).setIfInBounds (k+1) dJ) e (0,0))/\dJ.ownBlock≠some b/\(∀ c,dJ.ownBlock=some c->v.ownBlock=some c\/w.heap.size<=c)
set_option maxHeartbeats 1000000 in
set_option maxRecDepth 100000 in
theorem R8 (L:Lays.n240 P ρ) (X:Builder.X72 P ρ) (b k:Nat) (w:World) (aH:w.cell? ⟨b,k,none⟩=some (.pointer (some ⟨b,k,none⟩))) :
  Calls P (ρ.f 240) #[.pointer (some ⟨b,k,none⟩)] w λe w'=>e=.returned (.tuple #[])/\w'=w:=by
 obtain ⟨aa,ag,_⟩:=Option.map_eq_some_iff.1 X.sizeBuilder;have mixed:=L.mixed;have t72:=L.t72; have a72:=L.a72; have z72:=L.z72; have v72:=L.v72; have Dk:=run_underlying L.t72;have t70:=L.t70; have a70:=L.a70; have z70:=L.z70; have v70:=L.v70; have Dj:=run_underlying L.t70;have t9:=L.t9; have a9:=L.a9; have z9:=L.z9; have v9:=L.v9; have F1:=run_underlying L.t9;have t4:=L.t4; have a4:=L.a4; have z4:=L.z4; have v4:=L.v4; have KX:=run_underlying L.t4;have t164:=L.t164; have a164:=L.a164; have z164:=L.z164; have v164:=L.v164; have KV:=run_underlying L.t164
 go_enter L.f240,Body.n240_ntmps ρ
 go_wp2
 rw [Lib.run_neq_ptr_same w _ L.t70 ag]
 go_wp2
 go_end0
 exact ⟨rfl,rfl⟩
set_option maxHeartbeats 2000000 in
set_option maxRecDepth 100000 in
theorem Me (L:Lays.n240 P ρ) (X:Builder.X72 P ρ) {b k:Nat}{arr:Array Value}{e:TypeId}{p:Value}(w:World)
  (au:w.heap[b]?=some (.cells arr e (0,0))) (aH:arr[k]?=some p) (av:(p=.pointer none/\liesAt P P.depth e (arr.size / P.cellsOf e) k (ρ.t 72) 1=true)\/p=.pointer (some ⟨b,k,none⟩)) :
  Calls P (ρ.f 240) #[.pointer (some ⟨b,k,none⟩)] w λbZ w'=>bZ=.returned (.tuple #[])/\Fr w w' (λc=>c=b)/\w'.heap[b]?=some (.cells (arr.setIfInBounds k (.pointer (some ⟨b,k,none⟩))) e (0,0)):=by
 obtain ⟨aa,ag,yQ⟩:=Option.map_eq_some_iff.1 X.sizeBuilder;have mixed:=L.mixed;have t72:=L.t72; have a72:=L.a72; have z72:=L.z72; have v72:=L.v72; have Dk:=run_underlying L.t72;have t70:=L.t70; have a70:=L.a70; have z70:=L.z70; have v70:=L.v70; have Dj:=run_underlying L.t70;have t9:=L.t9; have a9:=L.a9; have z9:=L.z9; have v9:=L.v9; have F1:=run_underlying L.t9;have t4:=L.t4; have a4:=L.a4; have z4:=L.z4; have v4:=L.v4; have KX:=run_underlying L.t4;have t164:=L.t164; have a164:=L.a164; have z164:=L.z164; have v164:=L.v164; have KV:=run_underlying L.t164;have hk:k<arr.size:=(Array.getElem?_eq_some_iff.1 aH).1;have Ix:w.cell? ⟨b,k,none⟩=some p:=by rw [Lib.cell_of_heap au]; exact aH
 have nF:w.frozen? ⟨b,k,none⟩=false:=Lib.frozen_of_heap au k;have EP:w.shape? b=some (e,arr.size):=by simp [World.shape?,au]
 rcases av with ⟨rfl,ah⟩ | rfl
 ·go_enter L.f240,Body.n240_ntmps ρ
  go_wp2
  rw [Lib.run_to_unsafe w ⟨b,k,none⟩ L.t70 L.t164 ag (by rw [yQ]; decide) EP hk];simp only [Result.andThen];rw [Oper.upon_value]
  go_wp2
  rw [run_callFunc_extern L.f276 (by kernel_rfl) (by kernel_rfl) (by kernel_rfl) (e:=Extern.AbiNoEscape.same) (by kernel_rfl)];rw [Lib.run_noEscape];simp only [Result.andThen];rw [Oper.upon_value]
  go_wp2
  rw [Lib.run_from_unsafe w ⟨b,k,none⟩ L.t164 L.t70 ag EP ah];simp only [Result.andThen];rw [Oper.upon_value]
  go_wp2
  go_end0
  refine ⟨rfl,⟨rfl,rfl,rfl,by simp [World.setCell],λc _ J=>?_,λa _ az=>?_,Nat.le_refl _⟩,?_⟩
  ·simp only [World.setCell,Array.getElem?_modify,if_neg (Ne.symm J)]
  ·have J:a.block≠b:=az;simp only [World.frozen?,World.setCell,Array.getElem?_modify,if_neg (Ne.symm J)]
  ·simp [World.setCell,Array.getElem?_modify,au]
 ·refine (R8 L X b k w Ix).mono ?_;rintro bZ w' ⟨rfl,rfl⟩;refine ⟨rfl,Fr.refl _ _,?_⟩;rw [au];congr 2;apply Array.ext_getElem?;intro i;by_cases hi:i=k
  ·subst hi; rw [aH,Array.getElem?_setIfInBounds_self_of_lt hk]
  ·rw [Array.getElem?_setIfInBounds_ne (Ne.symm hi)]
set_option maxHeartbeats 2000000 in
set_option maxRecDepth 100000 in
theorem bws (L:Lays.n166 P ρ) (X:Builder.Extra P ρ) {b k:Nat}{arr:Array Value}{e:TypeId}{p v:Value}{n:Nat}{us:List Value}(s:ByteArray) (w:World)
  (au:w.heap[b]?=some (.cells arr e (0,0))) (aH:arr[k]?=some p) (h1:arr[k+1]?=some v) (av:(p=.pointer none/\liesAt P P.depth e (arr.size / P.cellsOf e) k (ρ.t 72) 1=true)\/p=.pointer (some ⟨b,k,none⟩))
  (iW:w.ownsRow 0 (ρ.t 5) 1 v n us) (cU:v.ownBlock≠some b) (hlen:n+s.size<=140737488355328) :
  Calls P (ρ.f 166) #[.pointer (some ⟨b,k,none⟩),.string s] w λbZ w'=>bZ=.returned (.tuple #[.int .i64 s.size,.nilIface])/\QM (ρ.t 5) w w' b k e arr v n s.size us (Lib.strCells s):=by
 obtain ⟨i0,hi,B2,sz,Xg⟩:=info_parts X.infoByte;have mixed:=L.mixed;have t72:=L.t72; have a72:=L.a72; have z72:=L.z72; have v72:=L.v72; have Dk:=run_underlying L.t72;have t70:=L.t70; have a70:=L.a70; have z70:=L.z70; have v70:=L.v70; have Dj:=run_underlying L.t70;have t37:=L.t37; have a37:=L.a37; have z37:=L.z37; have v37:=L.v37; have KW:=run_underlying L.t37;have t3:=L.t3; have a3:=L.a3; have z3:=L.z3; have v3:=L.v3; have F0:=run_underlying L.t3;have t9:=L.t9; have a9:=L.a9; have z9:=L.z9; have v9:=L.v9; have F1:=run_underlying L.t9;have t4:=L.t4; have a4:=L.a4; have z4:=L.z4; have v4:=L.v4; have KX:=run_underlying L.t4;have t164:=L.t164; have a164:=L.a164; have z164:=L.z164; have v164:=L.v164; have KV:=run_underlying L.t164;have t5:=X.t5; have a5:=X.a5; have z5:=X.z5; have v5:=X.v5; have KY:=run_underlying X.t5;have Tp:∀ args w,(callFunc (ρ.f 240) args).run P w=.ok (.enter (ρ.f 240) args) w:=enters_of L.f240 (by kernel_rfl) rfl;have hk:k<arr.size:=(Array.getElem?_eq_some_iff.1 aH).1;have eM:k+1<arr.size:=(Array.getElem?_eq_some_iff.1 h1).1
 go_enter L.f166,Body.n166_ntmps ρ
 go_wp2_with (go_at_fn (ρ.f 240); refine (Me { L with } X.toX72 w au aH av).mono ?_)
 rintro bZ eR ⟨rfl,yM,ku⟩;have Wi:eR.ownsRow 0 (ρ.t 5) 1 v n us:=rI iW λc J=>yM.block c (iW.lt c J).2 λh=>cU (h ▸ J);have AA:eR.cell? ⟨b,k,none⟩=some (.pointer (some ⟨b,k,none⟩)):=by rw [Lib.cell_of_heap ku,Array.getElem?_setIfInBounds_self_of_lt hk]
 have c1:eR.cell? ⟨b,k+1,none⟩=some v:=by rw [Lib.cell_of_heap ku,Array.getElem?_setIfInBounds_ne (by omega)]; exact h1
 go_wp2_with (at_builtin; refine Z9 rfl _ _ (ρ.t 37) (ρ.t 9) rfl (ρ.t 5) i0 L.t37 L.t9 hi B2 sz Xg _ _ _ rfl Wi s rfl ?j8 ?c4 ?_)
 case j8=>unfold maxLen; omega
 case c4=>omega
 intro dJ eY dm;have V7:b<eR.heap.size:=by
  rcases Nat.lt_or_ge b eR.heap.size with aL | aL
  ·exact aL
  ·simp [Array.getElem?_eq_none aL] at ku
 have gh:eY.heap[b]?=some (.cells (arr.setIfInBounds k (.pointer (some ⟨b,k,none⟩))) e (0,0)):=(dm.ei.block b V7 λh=>cU h).trans ku;have dL:(arr.setIfInBounds k (.pointer (some ⟨b,k,none⟩))).size=arr.size:=by simp
 have d0:eY.cell? ⟨b,k,none⟩=some (.pointer (some ⟨b,k,none⟩)):=by rw [Lib.cell_of_heap gh,Array.getElem?_setIfInBounds_self_of_lt hk]
 have d1:eY.cell? ⟨b,k+1,none⟩=some v:=by rw [Lib.cell_of_heap gh,Array.getElem?_setIfInBounds_ne (by omega)]; exact h1
 have f1:eY.frozen? ⟨b,k+1,none⟩=false:=Lib.frozen_of_heap gh (k+1);obtain ⟨uu,ck,cap,rfl⟩:∃ uu ck cap,dJ=.slice uu ck cap:=by
  rcases dm.new.2 with ⟨hv,_⟩ | ⟨g,cap,cur,hv,_⟩
  ·exact ⟨_,_,_,hv⟩
  ·exact ⟨_,_,_,hv⟩
 have uQ:(Value.slice uu ck cap).ownBlock≠some b:=λh=>by
  rcases dm.fD b h with h | h
  ·exact cU h
  ·omega
 have pC:(eY.setCell ⟨b,k+1,none⟩ (.slice uu ck cap)).heap[b]?=some (.cells ((arr.setIfInBounds k (.pointer (some ⟨b,k,none⟩))).setIfInBounds (k+1) (.slice uu ck cap)) e (0,0)):=by
  simp [World.setCell,Array.getElem?_modify,gh]
 have I7:∀ c,c≠b->(eY.setCell ⟨b,k+1,none⟩ (.slice uu ck cap)).heap[c]?=eY.heap[c]?:=λc J=>by
  simp only [World.setCell,Array.getElem?_modify,if_neg (Ne.symm J)]
 have fF:Fr w (eY.setCell ⟨b,k+1,none⟩ (.slice uu ck cap)) (λc=>c=b\/v.ownBlock=some c):=by
  have lC:=(yM.mono (U':=λc=>c=b\/v.ownBlock=some c) λc _ h=>.inl h).trans dm.ei λc _ h=>.inr h;refine ⟨lC.os,lC.tape,lC.output,by simpa [World.setCell] using lC.size,λc J az=>(I7 c λh=>az (.inl h)).trans (lC.block c J az),λa aQ az=>?_,lC.uA⟩;have:(eY.setCell ⟨b,k+1,none⟩ (.slice uu ck cap)).frozen? a=eY.frozen? a:=by
   unfold World.frozen?;rw [I7 a.block λh=>az (.inl h)]
  exact this.trans (lC.eF a aQ az)
 go_wp2
 go_ret2
 refine ⟨rfl,fF,_,rI dm.new λc J=>I7 c λh=>uQ (h ▸ J),pC,uQ,λc J=>?_⟩;rcases dm.fD c J with h | h
 ·exact .inl h
 ·exact .inr (Nat.le_trans yM.size h)
set_option maxHeartbeats 1000000 in
set_option maxRecDepth 100000 in
theorem Mi (L:Lays.n169 P ρ) (X:Builder.Extra P ρ) {b k:Nat}{arr:Array Value}{e:TypeId}{v:Value}(l:List UInt8) (w:World)
  (au:w.heap[b]?=some (.cells arr e (0,0))) (h1:arr[k+1]?=some v) (iW:w.ownsRow 0 (ρ.t 5) 1 v l.length (Lib.byteCells l)) (aH:l≠[]) :
  Calls P (ρ.f 169) #[.pointer (some ⟨b,k,none⟩)] w λbZ w'=>bZ=.returned (.string ⟨l.toArray⟩)/\Fr w w' (λc=>v.ownBlock=some c):=by
 have yS:l.length≠0:=by simpa using aH
 have Wh:=iW;obtain ⟨g,cap,cur,rfl,_,aI,adh,rb,gl,yZ⟩:∃ g cap cur,v=.slice (some ⟨g,0,none⟩) l.length cap/\0<=g/\w.heap[g]?=some (.cells cur (ρ.t 5) (0,0))/\l.length<=cap/\cap<=maxLen/\cur.size=cap * 1/\cur.toList.take (l.length * 1)=Lib.byteCells l:=by
  rcases iW.2 with ⟨_,aS⟩ | ⟨g,cap,cur,hv,r⟩
  ·exact absurd aS yS
  ·exact ⟨g,cap,cur,hv,r⟩
 have c1:w.drew.cell? ⟨b,k+1,none⟩=some (.slice (some ⟨g,0,none⟩) l.length cap):=by
  have:w.drew.heap[b]?=some (.cells arr e (0,0)):=au;rw [Lib.cell_of_heap this]; exact h1
 have acQ:(Builtin.unsafeSliceData_ #[(ρ.t 37)] (ρ.t 127) #[.slice (some ⟨g,0,none⟩) l.length cap]).run P w.drew=.ok (.pointer (some ⟨g,0,none⟩)) w.drew :=
  Lib.run_unsafeSliceData_row _ _ _ _ _ _ (by omega)
 have acR:(Builtin.unsafeString_ #[(ρ.t 127),(ρ.t 3)] (ρ.t 9) #[.pointer (some ⟨g,0,none⟩),.int .i64 l.length]).run P w.drew=.ok (.string ⟨l.toArray⟩) (w.drew.freeze ⟨g,0,none⟩ l.length):=by
  refine Lib.run_unsafeString_row w.drew (ρ.t 127) (ρ.t 3) (ρ.t 9) (ρ.t 5) L.t127 X.cellsByte g cur.size (by have ED:w.drew.heap[g]?=some (.cells cur (ρ.t 5) (0,0)):=aI; simp [World.shape?,ED]) l aH (by omega) (by unfold maxLen at rb; omega) ?_;intro aa x j;have:=Wh.cells (g:=g) rfl aa (.int .u8 x.toNat) (by simp [Lib.byteCells,j]);exact this
 have mixed:=L.mixed;have t72:=L.t72; have a72:=L.a72; have z72:=L.z72; have v72:=L.v72; have Dk:=run_underlying L.t72;have t70:=L.t70; have a70:=L.a70; have z70:=L.z70; have v70:=L.v70; have Dj:=run_underlying L.t70;have t37:=L.t37; have a37:=L.a37; have z37:=L.z37; have v37:=L.v37; have KW:=run_underlying L.t37;have t127:=L.t127; have a127:=L.a127; have z127:=L.z127; have v127:=L.v127; have adO:=run_underlying L.t127;have t3:=L.t3; have a3:=L.a3; have z3:=L.z3; have v3:=L.v3; have F0:=run_underlying L.t3;have t9:=L.t9; have a9:=L.a9; have z9:=L.z9; have v9:=L.v9; have F1:=run_underlying L.t9;have t5:=X.t5; have a5:=X.a5; have z5:=X.z5; have v5:=X.v5; have KY:=run_underlying X.t5;have fF:Fr w (w.drew.freeze ⟨g,0,none⟩ l.length) (λc=>(Value.slice (some ⟨g,0,none⟩) l.length cap).ownBlock=some c):=by
  have aM:∀ c,c≠g->(w.drew.freeze ⟨g,0,none⟩ l.length).heap[c]?=w.heap[c]?:=λc J=>by
   unfold World.freeze;rw [if_neg yS];simp only [Array.getElem?_modify,if_neg (Ne.symm J)];rfl
  refine ⟨by unfold World.freeze; split <;> rfl,by unfold World.freeze; split <;> rfl,by unfold World.freeze; split <;> rfl,by unfold World.freeze; split <;> simp,λc _ J=>aM c λh=>J (by simp [Value.ownBlock,h]),λa _ az=>?_,by unfold World.freeze; split <;> exact Nat.le_succ _⟩;unfold World.frozen?;rw [aM a.block λh=>az (by simp [Value.ownBlock,h])]
 go_enter L.f169,Body.n169_ntmps ρ
 go_wp2
 go_region_o
 all_goals (go_wp2; go_ret; exact ⟨rfl,fF⟩)
end Go.Proofs
namespace Go.Own
open Go Go.Proofs Go.Shelf Go.Lib
set_option linter.unusedSectionVars false
variable [cw]
def mP (x s:ByteArray):Option ByteArray:=if x.size+s.size<=140737488355328 then some (x++s) else none
def pj (x:ByteArray):Option ByteArray:=if x.size=0 then none else some x
theorem Qo (x s:ByteArray):strCells x++strCells s=strCells (x++s):=by
 unfold strCells;rw [<- List.map_append];congr 1
section
variable {P:Program}{ρ:Ren}
theorem bH.Ax (L:Lays.n166 P ρ) (X:Builder.Extra P ρ) {x s y:ByteArray}(h:mP x s=some y) :
  bH P (ρ.f 166) [.obj [.self (0,ρ.t 72),.dv (ρ.t 5) (strCells x)],ao s] [some (.obj [.self (0,ρ.t 72),.dv (ρ.t 5) (strCells y)]),none] (.bN [ae s.size,.lit .nilIface]):=by
 refine ⟨rfl,λw I vs Fs mZ a_=>?_⟩
 match vs,mZ with
 | [v0,v1],_ =>
 obtain ⟨z1,sr,fj⟩:=a_.rel 0 _ rfl;obtain ⟨ZT,Jh,q_⟩:=a_.rel 1 _ rfl;cases sr; cases Jh;have my:=(q_.fS (by simp)).gK.1;subst my;unfold mP at h
 split at h <;> cases h
 rename_i dL;have aV:=fj.fS (by simp);cases aV with
 | ref j=>simp [ab.isRef] at j
 | @obj _ b e arr bK _ aM ah h1 aj aO au aE ax =>
  have pG:arr.size=2:=ah.symm;have oQ:arr[0]?=some arr[0]:=Array.getElem?_eq_getElem (by omega);have nD:arr[1]?=some arr[1]:=Array.getElem?_eq_getElem (by omega);have av:=ax 0 _ _ rfl oQ;have sa:=aj 1 _ _ rfl nD;cases sa with
  | ref j=>simp [ab.isRef] at j
  | dv jB fy iz =>
   have cU:arr[1].ownBlock≠some b:=λh=>au 1 (by simp) ((iz b).2 h);rw [strCells_length] at jB;refine (bws L X s w aM oQ nD (av.imp (λ⟨h1,af⟩=>⟨h1,by rw [af,pG]; exact X.liesBuilder⟩) id) jB cU dL).mono ?_;rintro bZ w' ⟨rfl,fF,dJ,iW,iA,yV,hblk⟩;rw [Qo] at iW;have aN:∀ c,dJ.ownBlock=some c->c<w'.heap.size:=λc J=>(iW.lt c J).2;have az:x.size+s.size=(strCells (x++s)).length:=by rw [strCells_length]; simp [ByteArray.size_append]
   rw [az] at iW;have uS:dJ.oneCell'=true:=by
    rcases iW.2 with ⟨hv,_⟩ | ⟨g,cap,cur,hv,_⟩ <;> rw [hv] <;> rfl
   have mU:∀ c,(c=b\/dJ.ownBlock=some c)->Fs 0 c\/w.heap.size<=c:=by
    rintro c (rfl | J)
    ·exact .inl ((aE _).2 (.inl rfl))
    ·rcases hblk c J with h | h
     ·exact .inl ((aE c).2 (.inr ⟨1,by simp,(iz c).2 h⟩))
     ·exact .inr h
   refine ⟨_,I,λt c=>t=0/\(c=b\/dJ.ownBlock=some c),rfl,⟨λt x j=>?_,λt ak c J=>?_,λt t' c J dX=>J.1.trans dX.1.symm,λt c J hi=>?_,λc J=>Nat.lt_of_lt_of_le (a_.lt c J) fF.size,λt t' z p n m new br ck bm cK h1 _=>?_,cw.keep a_.hd (λc J=>fF.block c (a_.lt c J) λh=>a_.bc 0 c (h.elim (λh=>h ▸ (aE b).2 (.inl rfl)) λh=>(aE c).2 (.inr ⟨1,by simp,(iz c).2 h⟩)) J) λ_ h=>h⟩,⟨?_,λ_ h=>h,λ_ h=>.inl h,λc J=>?_⟩⟩
   ·match t,j with
    | 0,j =>
     cases j;refine ⟨_,rfl,.tree ?_⟩;refine .obj (Fs:=λk c=>k=1/\dJ.ownBlock=some c) iA (by simp [pG]) (λk u hu=>?_) (λk y u ai hu=>?_) (λaa k c _ _ h1 af=>h1.1.trans af.1.symm) (λk _ h=>yV h.2) (λc=>⟨λh=>h.2.imp id λh=>⟨1,by simp,rfl,h⟩,λh=>⟨rfl,h.imp id λ⟨_,_,_,h⟩=>h⟩⟩) (λk aa u ai hu=>?_)
     ·match k,hu with
      | 0,hu=>simp [pG] at hu; subst hu; rfl
      | 1,hu=>simp [pG] at hu; subst hu; exact uS
      | k+2,hu=>simp [pG] at hu
     ·match k,ai,hu with
      | 0,ai,hu=>cases ai; exact .j1 λc h=>by cases h.1
      | 1,ai,hu =>
       cases ai;simp [pG] at hu;subst hu;exact .dv iW uS λc=>⟨λh=>h.2,λh=>⟨rfl,h⟩⟩
      | k+2,ai,hu=>cases ai
     ·match k,ai,hu with
      | 0,ai,hu =>
       cases ai;simp [pG] at hu;exact .inr hu.symm
      | 1,ai,hu=>cases ai
      | k+2,ai,hu=>cases ai
    | 1,j=>cases j
    | 2,j =>
     cases j;refine ⟨_,rfl,.tree (.bN (Fs:=λ_=>cb) rfl (λk y u ai hu=>?_) (λ_ _ _ _ _ h=>h.elim) (λc=>⟨λh=>(by cases h.1),λ⟨_,_,h⟩=>h.elim⟩))⟩
     match k,ai,hu with
     | 0,ai,hu=>cases ai; cases hu; exact .lit rfl λ_ h=>h
     | 1,ai,hu=>cases ai; cases hu; exact .lit rfl λ_ h=>h
     | k+2,ai,hu=>cases ai
    | t+3,j=>simp [h5] at j
   ·rw [J.1] at ak; cases ak
   ·rcases mU c J.2 with h | h
    ·exact a_.bc 0 c h hi
    ·have:=a_.lt c hi; omega
   ·match t,h1 with
    | 0,h1=>cases h1
    | 1,h1=>cases h1
    | 2,h1=>cases h1
    | t+3,h1=>simp [h5] at h1
   ·refine fF.mono λc _ h=>⟨0,?_⟩;rcases h with rfl | h
    ·exact (aE _).2 (.inl rfl)
    ·exact (aE c).2 (.inr ⟨1,by simp,(iz c).2 h⟩)
   ·obtain ⟨t,_,J⟩:=J;rcases mU c J with h | h
    ·exact .inl ⟨0,h⟩
    ·exact .inr h
theorem bH.bs (L:Lays.n169 P ρ) (X:Builder.Extra P ρ) {x y:ByteArray}(h:pj x=some y) :
  bH P (ρ.f 169) [.obj [.self (0,ρ.t 72),.dv (ρ.t 5) (strCells x)]] [some (.obj [.self (0,ρ.t 72),.dead])] (ao y):=by
 refine ⟨rfl,λw I vs Fs mZ a_=>?_⟩
 match vs,mZ with
 | [v0],_ =>
 obtain ⟨z1,sr,fj⟩:=a_.rel 0 _ rfl;cases sr;unfold pj at h
 split at h <;> cases h
 rename_i dL;have aV:=fj.fS (by simp);cases aV with
 | ref j=>simp [ab.isRef] at j
 | @obj _ b e arr bK _ aM ah h1 aj aO au aE ax =>
  have pG:arr.size=2:=ah.symm;have oQ:arr[0]?=some arr[0]:=Array.getElem?_eq_getElem (by omega);have nD:arr[1]?=some arr[1]:=Array.getElem?_eq_getElem (by omega);have sa:=aj 1 _ _ rfl nD;cases sa with
  | ref j=>simp [ab.isRef] at j
  | dv jB fy iz =>
   have cU:arr[1].ownBlock≠some b:=λh=>au 1 (by simp) ((iz b).2 h);have uM:strCells x=byteCells x.data.toList:=rfl;have hlen:(strCells x).length=x.data.toList.length:=by unfold strCells; rw [List.length_map]
   rw [hlen,uM] at jB;refine (Mi L X (k:=0) x.data.toList w aM nD jB (λe=>dL (by rw [<- strCells_length]; unfold strCells; rw [e]; rfl))).mono ?_;rintro bZ w' ⟨rfl,fF⟩;have yI:b<w.heap.size:=(Array.getElem?_eq_some_iff.1 aM).1;have iA:w'.heap[b]?=some (.cells arr e (0,0)):=(fF.block b yI cU).trans aM;refine ⟨_,I,λt c=>t=0/\c=b,rfl,⟨λt x j=>?_,λt ak c J=>?_,λt t' c J dX=>J.1.trans dX.1.symm,λt c J hi=>?_,λc J=>Nat.lt_of_lt_of_le (a_.lt c J) fF.size,λt t' z p n m new br ck bm cK h1 _=>?_,cw.keep a_.hd (λc J=>fF.block c (a_.lt c J) λh=>a_.bc 0 c ((aE c).2 (.inr ⟨1,by simp,(iz c).2 h⟩)) J) λ_ h=>h⟩,⟨?_,λ_ h=>h,λ_ h=>.inl h,λc J=>?_⟩⟩
   ·match t,j with
    | 0,j =>
     cases j;refine ⟨_,rfl,.tree (.obj (Fs:=λ_=>cb) iA ah h1 (λk y u ai hu=>?_) (λ_ _ _ _ _ h=>h.elim) (λ_ _ h=>h) (λc=>⟨λh=>.inl h.2,λh=>⟨rfl,h.elim id λ⟨_,_,h⟩=>h.elim⟩⟩) (λk aa u ai hu=>?_))⟩
     ·match k,ai with
      | 0,ai=>cases ai; exact .j1 λ_ h=>h
      | 1,ai=>cases ai; exact .dead λ_ h=>h
      | k+2,ai=>cases ai
     ·match k,ai with
      | 0,ai=>cases ai; exact ax 0 _ u rfl hu
      | 1,ai=>cases ai
      | k+2,ai=>cases ai
    | 1,j =>
     cases j;refine ⟨_,rfl,.tree (.lit rfl λc h=>by cases h.1)⟩
    | t+2,j=>simp [h5] at j
   ·rw [J.1] at ak; cases ak
   ·rw [J.2] at hi;exact a_.bc 0 b ((aE b).2 (.inl rfl)) hi
   ·match t,h1 with
    | 0,h1=>cases h1
    | 1,h1=>cases h1
    | t+2,h1=>simp [h5] at h1
   ·exact fF.mono λc _ h=>⟨0,(aE c).2 (.inr ⟨1,by simp,(iz c).2 h⟩)⟩
   ·obtain ⟨t,_,rfl⟩:=J;exact .inl ⟨0,(aE _).2 (.inl rfl)⟩
end
end Go.Own
namespace Go.Own
open Go
set_option linter.unusedSectionVars false
variable [cw]
set_option linter.unusedVariables false
def J9:ab->Option ab
 | .lit v=>some (.lit v)
 | .bf=>some .bf
 | .bc z n cs=>some (.bc z n cs)
 | .own z n cs=>some (.own z n cs)
 | .obj cs=>some (.obj cs)
 | .agg cs=>some (.agg cs)
 | .bN cs=>some (.bN cs)
 | .cJ cs=>some (.cJ cs)
 | .ptr p k=>some (.ptr p k)
 | .bn z p n=>some (.bn z p n)
 | .sub z p l n=>some (.sub z p l n)
 | .bC z p n m c=>some (.bC z p n m c)
 | .c7 f a b=>some (.c7 f a b)
 | .mp p=>some (.mp p)
 | .ha p=>some (.ha p)
 | .imp p=>some (.imp p)
 | .dead=>some .dead
 | .self k=>some (.self k)
 | .dv t us=>some (.dv t us)
theorem Pa {x y:ab}(h:J9 x=some y):x=y:=by cases x <;> (cases h; rfl)
def Fk:List ab->Option (List ab)
 | []=>some []
 | x::l=>match Fk l with
  | none=>none
  | some r=>match J9 x with
   | none=>none
   | some y=>some (y::r)
theorem O':∀ {l r:List ab},Fk l=some r->l=r
 | [],r,h=>by cases h; rfl
 | x::l,r,h=>by
  unfold Fk at h
  split at h
  ·cases h
  ·rename_i dk aj
   split at h
   ·cases h
   ·rename_i y ai;cases h; rw [O' aj,Pa ai]
def sC:ab->Option ab
 | .agg cs=>match Fk cs with
  | some r=>some (.agg r)
  | none=>none
 | x=>J9 x
theorem vk {x y:ab}(h:sC x=some y):x=y:=by
 unfold sC at h
 split at h
 ·split at h
  ·rename_i aj;cases h; rw [O' aj]
  ·cases h
 ·exact Pa h
def kT:List ab->Option (List ab)
 | []=>some []
 | x::l=>match kT l with
  | none=>none
  | some r=>match sC x with
   | none=>none
   | some y=>some (y::r)
theorem xa:∀ {l r:List ab},kT l=some r->l=r
 | [],r,h=>by cases h; rfl
 | x::l,r,h=>by
  unfold kT at h
  split at h
  ·cases h
  ·rename_i dk aj
   split at h
   ·cases h
   ·rename_i y ai;cases h; rw [xa aj,vk ai]
def xB (f:Nat->ab->ab):Nat->List Nat->List ab->Option (List ab)
 | _,_,[]=>some []
 | _,[],_::_=>none
 | k,aa::dR,x::l=>match xB f (k+1) dR l with
  | none=>none
  | some r=>match Nat.beq aa k,sC (f aa x) with
   | true,some y=>some (y::r)
   | _,_=>none
theorem C8 {f:Nat->ab->ab}:∀ {l:List ab}{dR:List Nat}{k:Nat}{r:List ab},xB f k dR l=some r->(l.mapIdx λi x=>f (k+i) x)=r
 | [],dR,k,r,h=>by cases dR <;> (cases h; rfl)
 | x::l,[],k,r,h=>by cases h
 | x::l,aa::dR,k,r,h=>by
  unfold xB at h
  split at h
  ·cases h
  ·rename_i dk aj
   split at h
   ·rename_i y ag ai;cases h;have:=Nat.eq_of_beq_eq_true ag;subst this;rw [List.mapIdx_cons,<- C8 aj,<- vk ai];simp [Nat.add_comm,Nat.add_left_comm]
   ·cases h
def num:List Nat:=0::1::2::3::4::5::6::7::8::9::10::11::12::13::14::15::16::17::18::19::20::21::22::23::24::25::26::27::28::29::30::31::32::33::34::35::36::37::38::39::40::41::42::43::44::45::46::47::48::49::50::51::52::53::54::55::56::57::58::59::60::61::62::63::64::65::66::67::68::69::70::71::72::73::74::75::76::77::78::79::[]
def FF (g:aG):Operand->Option ab
 | .tmp t=>match g t with
  | some (.lit v)=>some (.lit v)
  | some .bf=>some .bf
  | some (.bc z n cs)=>some (.bc z n cs)
  | some (.own z n _)=>some (.bn z ⟨t,[]⟩ n)
  | some (.obj (_::_))=>some (.ptr ⟨t,[]⟩ 0)
  | some (.cJ cs)=>some (.cJ cs)
  | some (.agg cs)=>match xB (λi x=>fA 1 ⟨t,[i]⟩ x) 0 num cs with
   | some r=>some (.agg r)
   | none=>none
  | some (.bN cs)=>match xB (λi x=>fA 1 ⟨t,[i]⟩ x) 0 num cs with
   | some r=>some (.bN r)
   | none=>none
  | some (.ptr p k)=>some (.ptr p k)
  | some (.bn z p n)=>some (.bn z p n)
  | some (.sub z p l n)=>some (.sub z p l n)
  | some (.bC z _ n m _)=>some (.bn z ⟨t,[]⟩ (n+m))
  | some (.c7 fn [] cs)=>some (.c7 fn [] cs)
  | some (.mp _)=>some (.ha ⟨t,[]⟩)
  | some (.ha p)=>some (.ha p)
  | some (.imp q)=>some (.imp q)
  | _=>none
 | .const v=>match ofConst v with
  | .lit v=>some (.lit v)
  | .agg cs=>some (.agg cs)
  | .bf=>match v with
   | .slice none 0 0=>some .bf
   | _=>none
  | _=>none
 | .func f=>some (.c7 (.func f) [] [])
 | .global _=>none
theorem X6 {v u:Value}(h:ofConst v=.lit u):u=v:=by
 cases v <;> simp only [ofConst,j0] at h <;> first | (cases h; rfl) | (split at h <;> cases h <;> rfl) | cases h
theorem Rd.q {g:aG}{a:Operand}{y:ab}(h:FF g a=some y:=by rfl):Rd g a y:=by
 unfold FF at h
 split at h
 ·split at h <;> first | (split at h <;> cases h <;> first | exact .agg ‹_› (by have:=C8 ‹_›; simpa [Place.push] using this) | exact .bN ‹_› (by have:=C8 ‹_›; simpa [Place.push] using this)) | skip
  all_goals cases h
  all_goals first | exact .lit ‹_› | exact .bf ‹_› | exact .bc ‹_› | exact .own ‹_› | exact .obj ‹_› | exact .cJ ‹_› | exact .ptr ‹_› | exact .bn ‹_› | exact .sub ‹_› | exact .bC ‹_› | exact .c7 ‹_› | exact .mp ‹_› | exact .ha ‹_› | exact .imp ‹_›
 ·split at h
  ·rename_i e; cases h; have:=X6 e; subst this; exact .k e
  ·rename_i e; cases h; exact .JS e
  ·split at h <;> cases h
   exact .w6
  ·cases h
 ·cases h; exact .func
 ·cases h
def FH (g:aG) (t:Nat):Option ab :=
 match g t with
 | some (.lit v)=>some (.lit v)
 | some .bf=>some .bf
 | some (.bc z n cs)=>some (.bc z n cs)
 | some (.cJ cs)=>some (.cJ cs)
 | some (.c7 fn [] cs)=>some (.c7 fn [] cs)
 | some (.imp q)=>some (.imp q)
 | _=>none
theorem Rd.zI {g:aG}{t:Nat}{y:ab}(h:FH g t=some y:=by rfl):Rd g (.tmp t) y:=by
 unfold FH at h
 split at h <;> cases h <;> first | exact .lit ‹_› | exact .bf ‹_› | exact .bc ‹_› | exact .cJ ‹_› | exact .c7 ‹_› | exact .imp ‹_›
class hr (P:Program) (t:TypeId) (α:outParam Type) (en:outParam (bz α)):Prop where p:True:=trivial
class sV {α:Type}(en:bz α) (cs:List ab) (y:outParam α):Prop where p:en.cells y=cs
instance {a:Int}:sV aY [ae a] a:=⟨rfl⟩
instance {a:Int}:sV pw [lY a] a:=⟨rfl⟩
instance {a:Bool}:sV cr [bg a] a:=⟨rfl⟩
instance {a:ByteArray}:sV cQ [ao a] a:=⟨rfl⟩
instance {α:Type}{en:bz α}{l:List α}:sV (b6 en) [.bc en.z l.length (bw en l)] l:=⟨rfl⟩
class oC {α:Type}(en:bz α) (ys:List ab) (L:outParam (List α)):Prop where p:l0 ys=some (bw en L)/\ys.all (λy=>match h0 y with | some c=>Nat.beq c.length en.z | none=>false)=true/\L.length=ys.length
instance {α:Type}{en:bz α}:oC en [] []:=⟨⟨rfl,rfl,rfl⟩⟩
theorem oC.cons {α:Type}{en:bz α}{y:ab}{cs:List ab}{ys:List ab}{a:α}{L:List α}(au:h0 y=some cs) [h:sV en cs a] [ah:oC en ys L]:oC en (y::ys) (a::L):=by
 refine ⟨⟨?_,?_,?_⟩⟩
 ·simp [l0,au,ah.p.1,bw,h.p]
 ·simp only [List.all_cons,au,ah.p.2.1,Bool.and_true];rw [<- h.p,en.len]; exact Nat.beq_refl _
 ·simp [ah.p.2.2]
instance {α:Type}{en:bz α}{cs ys:List ab}{a:α}{L:List α} [h:sV en cs a] [ah:oC en ys L]:oC en (.agg cs::ys) (a::L):=.cons rfl
instance {α:Type}{en:bz α}{v:Value}{ys:List ab}{a:α}{L:List α} [h:sV en [.lit v] a] [ah:oC en ys L]:oC en (.lit v::ys) (a::L):=.cons rfl
instance {α:Type}{en:bz α}{z n:Nat}{cs:List ab}{ys:List ab}{a:α}{L:List α} [h:sV en [.bc z n cs] a] [ah:oC en ys L]:oC en (.bc z n cs::ys) (a::L):=.cons rfl
def vA (d:Nat):List Oper->Bool
 | []=>false
 | o::l=>(match o.op with
  | .call { callee:=.value _,args:=xs,argTypes:=_ }=>xs.toList.any λx=>match x with | .tmp t=>Nat.beq t d | _=>false
  | .call { callee:=.builtin .append,args:=xs,argTypes:=_ }=>match xs.toList with | [_,.tmp t]=>Nat.beq t d | _=>false
  | .convert _ _ (.tmp t)=>Nat.beq t d
  | .build _ ps=>ps.toList.any λx=>match x.2 with | .tmp t=>Nat.beq t d | _=>false
  | .buildSlice _ _ ps=>ps.toList.any λx=>match x.2 with | .tmp t=>Nat.beq t d | _=>false
  | _=>false)||vA d l
class Ah (P:Program):Prop where p:P.follows .mixedOrders=true:=by kernel_rfl
class j6 (P:Program) (t:TypeId) (k:outParam Nat):Prop where p:ia P t k=true:=by kernel_rfl
class h7 (P:Program) (t:TypeId) (z:outParam Value):Prop where p:(P.info? t).bind (·.zero)=some z:=by kernel_rfl
class Lm (P:Program) (e:TypeId) (t:outParam TypeId):Prop where p:(P.info? e).bind (·.zero)=some (.agg #[.pointer none,.slice none 0 0]):=by kernel_rfl
class kI (P:Program) (t:TypeId) (pl:outParam (List (Nat × Nat))):Prop where p:kY P t pl=true:=by kernel_rfl
class jM (P:Program) (t:TypeId) (e z b:outParam Nat):Prop where p:jt P t e z b=true:=by kernel_rfl
class vP (P:Program) (t:TypeId) (k:outParam IntKind):Prop where p:rA P t k=true:=by kernel_rfl
class x1 (P:Program) (t:TypeId) (b:outParam Nat):Prop where p:(P.info? t).map (·.bytes)=some b:=by kernel_rfl
section
variable {α β:Type}{P:Program}{g:aG}{ty t t2:TypeId}{a b:Operand}{k r z n:Nat}{cs cs':List ab}{x y:ab}{p q:Place}{m:Int}{sA JT:IntKind}{e:TypeId}{N:cN}{ops:Array Oper}{fq:Nat}
theorem O.z7 (j:Rd g a y:=by exact .q) (J:(h0 y).bind kT=some cs:=by rfl):b5 P g (.box e a) ty (.obj cs):=by
 cases au:h0 y with
 | none=>rw [au] at J; cases J
 | some c=>rw [au] at J; have:=xa J; subst this; exact O.box j au
theorem O.eR {v:Value} [h:fB P t] (j:Rd g a (.ptr ⟨r,[]⟩ k):=by exact .q) (ax:g r=some (.obj cs):=by rfl) (J:cs[k]?=some (.lit v):=by rfl):b5 P g (.load t a) ty (.lit v):=O.oW ax j h.p J
theorem O.eY [h:fB P t] (j:Rd g a (.cJ cs):=by exact .q) (J:cs.head?.bind sC=some x:=by rfl):b5 P g (.load t a) ty x:=by
 cases au:cs.head? with
 | none=>rw [au] at J; cases J
 | some c=>rw [au] at J; have:=vk J; subst this; exact O.Cc j h.p au
theorem O.vE [h:fB P t] (j:Rd g a (.ptr ⟨r,[]⟩ k):=by exact .q) (ax:g r=some (.obj cs):=by rfl) (J:cs[k]?=some x:=by rfl) (ai:sC (fA 0 ⟨r,[k]⟩ x)=some y:=by rfl):b5 P g (.load t a) ty y:=O.y7 ax j h.p J (vk ai)
theorem O.vF [h:j6 P t z] (j:Rd g a (.ptr ⟨r,[]⟩ k):=by exact .q) (ax:g r=some (.obj cs):=by rfl) (hk:Nat.ble (k+z) cs.length=true:=by rfl) (J:xB (λi x=>fA 0 ⟨r,[i]⟩ x) k (num.drop k) ((cs.drop k).take z)=some cs':=by rfl):b5 P g (.load t a) ty (.agg cs'):=O.fQ ax j h.p hk (C8 J)
theorem O.F5 [h:j6 P t z] (j:Rd g a (.cJ cs):=by exact .q) (J:kT (cs.take z)=some cs':=by rfl) (aS:cs'.length=z:=by rfl):b5 P g (.load t a) ty (.agg cs'):=O.oo j h.p (xa J) aS
theorem O.F_ {en:bz α}{L:List α}{y:α}{o:Nat}{x x':ab} [ak:fB P t] (j:Rd g a (.ptr p (m.toNat * en.z+o)):=by exact .q) (av:bu g p=some (ar en L):=by rfl) (h:idx L m=some y:=by assumption) (J:(en.cells y)[o]?=some x:=by rfl) (aj:sC (fA 0 (p.push (m.toNat * en.z+o)) x)=some x':=by rfl):b5 P g (.load t a) ty x':=O.kd av j ak.p h J (vk aj)
theorem O.Gi {en:bz α}{L:List α}{y:α}{o:Nat} [ak:j6 P t z] (j:Rd g a (.ptr p (m.toNat * en.z+o)):=by exact .q) (av:bu g p=some (ar en L):=by rfl) (h:idx L m=some y:=by assumption) (aS:Nat.ble (o+z) en.z=true:=by rfl) (J:kT ((((en.cells y).drop o).take z).mapIdx (λi x=>fA 0 (p.push (m.toNat * en.z+o+i)) x))=some cs':=by rfl):b5 P g (.load t a) ty (.agg cs'):=O.E8 av j ak.p h aS (xa J)
theorem O.z8 {cG f off:Nat} [h:cY P cG f off t] (j:Rd g a (.ptr ⟨r,[]⟩ k):=by exact .q) (ax:g r=some (.obj cs):=by rfl) (ah:Nat.blt (k+off) cs.length=true:=by rfl):b5 P g (.fieldAddr cG a f) ty (.ptr ⟨r,[]⟩ (k+off)):=O.mR ax j h.p ah
theorem O.F3 {cG f off:Nat} [h:cY P cG f off t] (j:Rd g a (.cJ cs):=by exact .q):b5 P g (.fieldAddr cG a f) ty (.cJ (cs.drop off)):=O.AR j h.p
theorem O.wf {en:bz α}{L:List α}{y:α}{cG f off o gW:Nat} [aU:cY P cG f off t] (j:Rd g a (.ptr p (m.toNat * en.z+o)):=by exact .q) (av:bu g p=some (ar en L):=by rfl) (h:idx L m=some y:=by assumption) (aM:o+off=gW:=by rfl) (aN:Nat.blt gW en.z=true:=by rfl):b5 P g (.fieldAddr cG a f) ty (.ptr p (m.toNat * en.z+gW)):=O.jU av j aU.p h aM aN
theorem O.F4 {en:bz α}{L:List α}{y:α}{br:Nat}(h:idx L m=some y) [aJ:eg P t e br] (j:Rd g a (.bc en.z L.length (bw en L)):=by exact .q) (ai:Rd g b (.lit (.int sA m)):=by exact .q) (aS:br=en.z:=by rfl):b5 P g (.indexAddr t a b) ty (.cJ (en.cells y++bw en (L.drop (m.toNat+1)))):=O.qv j ai (aS ▸ aJ.p) h
theorem O.tZ {en:bz α}{L:List α}{y:α}{br:Nat}(h:idx L m=some y) [aJ:eg P t e br] (j:Rd g a (.bn en.z p L.length):=by exact .q) (av:bu g p=some (ar en L):=by rfl) (ai:Rd g b (.lit (.int sA m)):=by exact .q) (aS:br=en.z:=by rfl) (aH:Nat.blt 0 en.z=true:=by rfl):b5 P g (.indexAddr t a b) ty (.ptr p (m.toNat * en.z+0)):=O.gU av j ai (aS ▸ aJ.p) h aH
theorem O.Gg {p i:Nat}{cs:List ab}{x y:ab}(j:g p=some (.bN cs):=by rfl) (ai:cs[i]?=some x:=by rfl) (aj:sC (fA 1 (Place.push ⟨p,[]⟩ i) x)=some y:=by rfl):b5 P g (.extract (.tmp p) i) ty y:=O.ex j ai (vk aj)
theorem O.F9 [h1:vP P t sA] [af:vP P t2 JT] (j:Rd g a (.lit (.int sA m)):=by exact .q):b5 P g (.convert t t2 a) ty (.lit (.int JT (JT.wrap m))):=O.uy j h1.p af.p
theorem O.F8 {L:List Int}(j:Rd g a (.bc pw.z L.length (bw pw L)):=by exact .q) (ak:v8 P t t2=true:=by kernel_rfl):b5 P g (.convert t t2 a) ty (ao (strOfNums L)):=O.Th j ak
theorem O.F6 {t5:TypeId} [h:Lm P e t5]:b5 P g (.alloc e) ty (.obj [.self (0,e),.dv t5 (Lib.strCells ⟨#[]⟩)]):=.o0 (.DT h.p rfl)
theorem O.F7 {dh:Value} [h:h7 P e dh] (h1:dh.cells.toList.all Value.oneCell'=true:=by rfl) (J:kT (dh.cells.toList.map j0)=some cs:=by rfl):b5 P g (.alloc e) ty (.obj cs):=O.hQ h.p h1 (xa J)
theorem O.Gf {parts:Array (Nat × Operand)}{pl:List (Nat × Nat)}{dh:Value}{ps:List (Nat × List ab)} [ak:kI P t pl] [aS:h7 P t dh] (h1:dh.cells.toList.all Value.oneCell'=true:=by rfl)
  (av:qz g parts.toList=some ps:=by rfl) (J:(uB (λi=>pl[i]?) (dh.cells.toList.map j0) ps).bind kT=some cs:=by rfl):b5 P g (.build t parts) ty (.agg cs):=by
 cases au:uB (λi=>pl[i]?) (dh.cells.toList.map j0) ps with
 | none=>rw [au] at J; cases J
 | some c=>rw [au] at J; have:=xa J; subst this; exact O.e' ak.p aS.p h1 av au
theorem O.wd {cG f off:Nat} [h:cY P cG f off t] [ak:fB P t] (j:Rd g a (.agg cs):=by exact .agg rfl rfl) (ai:cs[off]?.bind sC=some x:=by rfl):b5 P g (.field cG a f) ty x:=by
 cases au:cs[off]? with
 | none=>rw [au] at ai; cases ai
 | some c=>rw [au] at ai; have:=vk ai; subst this; exact O.fd j h.p ak.p au
theorem O.wp {en:bz α}{L M r:List α}{br:Nat}(h:dP L M=some r) [ak:jM P t e br fq] (ax:Rd g a (.bn en.z p L.length):=by exact .q) (av:bu g p=some (ar en L):=by rfl) (j:Rd g b y:=by exact .q) (hm:nx g en y M:=by (first | exact .i | exact .n | exact .o rfl rfl)) (aS:br=en.z:=by rfl) (au:Nat.ble fq 128=true:=by rfl) [eN:qc g]:b5 P g (.call { callee:=.builtin .append,args:=#[a,b],argTypes:=#[t,t] }) ty (.bC en.z p L.length M.length (bw en M)) :=
 O.ap ax av j hm (aS ▸ ak.p) au h
def w8:List ab->Option (List Value)
 | []=>some []
 | .lit v::l=>match w8 l with
  | some r=>some (v::r)
  | none=>none
 | _=>none
theorem Cf:∀ {l:List ab}{r:List Value},w8 l=some r->l=r.map .lit
 | [],r,h=>by cases h; rfl
 | x::l,r,h=>by
  unfold w8 at h
  split at h
  ·rename_i e; cases e
  ·rename_i e;cases e
   split at h
   ·rename_i dk aj;cases h; rw [Cf aj]; rfl
   ·cases h
  ·cases h
def xG:List Value->Option (List lX)
 | []=>some []
 | v::l=>match xG l,kj v with
  | some r,some u=>some (u::r)
  | _,_=>none
theorem Dd:∀ {l:List Value}{r:List lX},xG l=some r->l.map kj=r.map some
 | [],r,h=>by cases h; rfl
 | v::l,r,h=>by
  unfold xG at h
  split at h
  ·rename_i o2 u aj ax;cases h; simp [Dd aj,ax]
  ·cases h
theorem O.nR {AI po:List ab}{nt oA:List Value}{sh:List lX}(j:Rd g a (.agg AI):=by exact .q) (ai:Rd g b (.agg po):=by exact .q) (y3:w8 AI=some nt:=by rfl) (BN:w8 po=some oA:=by rfl) (aQ:xG nt=some sh:=by rfl) (au:xG oA=some sh:=by rfl) (ak:n4 P t sh=true:=by kernel_rfl):b5 P g (.binOp .eql t a b t2) ty (bg (jT nt oA)):=O.TG (Cf y3 ▸ j) (Cf BN ▸ ai) (Dd aQ) (Dd au) ak
theorem O.wn {AI po:List ab}{nt oA:List Value}{sh:List lX}(j:Rd g a (.agg AI):=by exact .q) (ai:Rd g b (.agg po):=by exact .q) (y3:w8 AI=some nt:=by rfl) (BN:w8 po=some oA:=by rfl) (aQ:xG nt=some sh:=by rfl) (au:xG oA=some sh:=by rfl) (ak:n4 P t sh=true:=by kernel_rfl):b5 P g (.binOp .neq t a b t2) ty (bg (!jT nt oA)):=O.XY (Cf y3 ▸ j) (Cf BN ▸ ai) (Dd aQ) (Dd au) ak
theorem O.Ga {en:bz α}{z0:α}{r:List α}{br:Nat}{dh:Value}(h:nM m z0=some r) [het:hr P t α en] [ak:eg P t e br] [hzero:h7 P e dh] [iV:x1 P e fq] (j:Rd g a (.lit (.int sA m)):=by exact .q) (ai:Rd g b (.lit (.int .i64 m)):=by exact .q) (h1:dh.cells.toList.all Value.oneCell'=true:=by rfl) (J:dh.cells.toList.map j0=en.cells z0:=by rfl) (aS:br=en.z:=by rfl) (au:Nat.ble fq 128=true:=by rfl):b5 P g (.makeSlice t a b) ty (ar en r) :=
 O.mk (aS ▸ ak.p) j ai hzero.p h1 J h iV.p au
theorem O.wl {en:bz α}{br:Nat} [het:hr P t α en] [ak:eg P t e br] (aS:br=en.z:=by rfl) (hzero:hY P e en.z=true:=by kernel_rfl):b5 P g (.buildSlice t 0 #[]) ty (ar en ([]:List α)) :=
 O.bs (ys:=[]) en [] (aS ▸ ak.p) rfl rfl rfl rfl rfl rfl hzero (by rw [Nat.zero_mul]; rfl) rfl
theorem O.Gb {en:bz α}{M r:List α}{br:Nat}(h:dP [] M=some r) [ak:jM P t e br fq] (ax:Rd g a .bf:=by exact .q) (j:Rd g b y:=by exact .q) (hm:nx g en y M:=by (first | exact .i | exact .n | exact .o rfl rfl)) (aS:br=en.z:=by rfl) (au:Nat.ble fq 128=true:=by rfl):b5 P g (.call { callee:=.builtin .append,args:=#[a,b],argTypes:=#[t,t] }) ty (ar en M) :=
 O.RI ax j hm (aS ▸ ak.p) au h
theorem O.Gc {en:bz α}{L r:List α}{c:Operand}{n:Int}{k:IntKind}{br:Nat}(h:lN L 0 n=some r) [ak:eg P t e br] (j:Rd g a (.bc en.z L.length (bw en L)):=by exact .q) (bE:Rd g c (.lit (.int k n)):=by exact .q) (aS:br=en.z:=by rfl):b5 P g (.slice t a none (some c) none) ty (ay en r):=O.Zf j bE (aS ▸ ak.p) h
theorem O.Gd {en:bz α}{L r:List α}{k:IntKind}{br:Nat}(h:lN L m L.length=some r) [ak:eg P t e br] (j:Rd g a (.bc en.z L.length (bw en L)):=by exact .q) (ah:Rd g b (.lit (.int k m)):=by exact .q) (aS:br=en.z:=by rfl):b5 P g (.slice t a (some b) none none) ty (ay en r):=O.Qi j ah (aS ▸ ak.p) h
theorem O.Ge {en:bz α}{L r:List α}{c:Operand}{n:Int}{k gm:IntKind}{br:Nat}(h:lN L m n=some r) [ak:eg P t e br] (j:Rd g a (.bc en.z L.length (bw en L)):=by exact .q) (ah:Rd g b (.lit (.int k m)):=by exact .q) (bE:Rd g c (.lit (.int gm n)):=by exact .q) (aS:br=en.z:=by rfl):b5 P g (.slice t a (some b) (some c) none) ty (ay en r):=O.Ze j ah bE (aS ▸ ak.p) h
def E7:List Nat->List Nat->Bool
 | [],[]=>true
 | a::l,b::m=>Nat.beq a b&&E7 l m
 | _,_=>false
def FE (p q:Place):Bool:=!(Nat.beq p.root q.root&&E7 p.path q.path)
theorem OX:∀ (l:List Nat),E7 l l=true
 | []=>rfl
 | a::l=>by unfold E7; rw [OX l,Nat.beq_refl]; rfl
theorem PC {p q:Place}(h:FE p q=true):p≠q:=by
 rintro rfl;unfold FE at h;rw [Nat.beq_refl,OX] at h;cases h
def vl (p:Place):List (Nat × ab)->Bool
 | []=>true
 | (_,.bC _ q _ _ _)::l=>FE p q&&vl p l
 | _::l=>vl p l
theorem J_ {p:Place}:∀ {G:List (Nat × ab)},vl p G=true->∀ t z n m new,get G t≠some (.bC z p n m new)
 | [],_,t,z,n,m,new,e=>by cases e
 | (s,x)::G,h,t,z,n,m,new,e=>by
  simp only [get] at e
  split at e
  ·cases e;unfold vl at h;rw [Bool.and_eq_true] at h;exact PC h.1 rfl
  ·refine J_ (G:=G) ?_ t z n m new e;unfold vl at h
   split at h
   ·rename_i b7; cases b7
   ·rename_i b7; cases b7; rw [Bool.and_eq_true] at h; exact h.2
   ·rename_i b7; cases b7; exact h
def xc (p:Place):Acc->Bool
 | []=>true
 | (_,_,some (.bC _ q _ _ _))::l=>FE p q&&xc p l
 | _::l=>xc p l
theorem Pb {p:Place}{G:List (Nat × ab)}{A:Nat->Bool}(cT:vl p G=true):∀ {acc:Acc},xc p acc=true->∀ t z n m new,c9 (get G) A acc t≠some (.bC z p n m new)
 | [],_,t,z,n,m,new,e=>J_ cT t z n m new e
 | (k,d,r)::acc,h,t,z,n,m,new,e=>by
  have af:xc p acc=true:=by
   unfold xc at h
   split at h
   ·rename_i b7; cases b7
   ·rename_i b7; cases b7; rw [Bool.and_eq_true] at h; exact h.2
   ·rename_i b7; cases b7; exact h
  simp only [c9] at e
  split at e
  ·split at e
   ·subst e;unfold xc at h;rw [Bool.and_eq_true] at h;exact PC h.1 rfl
   ·cases e
  ·exact Pb cT af t z n m new e
theorem O.wr {en:bz α}{L M r:List α}{br:Nat}{G:List (Nat × ab)}(h:dP L M=some r) [ak:jM P t e br fq] (ax:Rd (get G) a (.bn en.z p L.length):=by exact .q) (av:bu (get G) p=some (ar en L):=by rfl) (j:Rd (get G) b y:=by exact .q) (hm:nx (get G) en y M:=by (first | exact .i | exact .n | exact .o rfl rfl)) (aS:br=en.z:=by rfl) (au:Nat.ble fq 128=true:=by rfl) (ba:vl p G=true:=by rfl):b5 P (get G) (.call { callee:=.builtin .append,args:=#[a,b],argTypes:=#[t,t] }) ty (.bC en.z p L.length M.length (bw en M)) :=
 O.LR ax av j hm (aS ▸ ak.p) au h (J_ ba)
theorem O.QC {en:bz α}{L M r:List α}{br:Nat}{G:List (Nat × ab)}{A:Nat->Bool}{acc:Acc}(h:dP L M=some r) [ak:jM P t e br fq] (ax:Rd (c9 (get G) A acc) a (.bn en.z p L.length):=by exact .q) (av:bu (c9 (get G) A acc) p=some (ar en L):=by rfl) (j:Rd (c9 (get G) A acc) b y:=by exact .q) (hm:nx (c9 (get G) A acc) en y M:=by (first | exact .i | exact .n | exact .o rfl rfl)) (aS:br=en.z:=by rfl) (au:Nat.ble fq 128=true:=by rfl) (ba:vl p G=true:=by rfl) (Wn:xc p acc=true:=by rfl):b5 P (c9 (get G) A acc) (.call { callee:=.builtin .append,args:=#[a,b],argTypes:=#[t,t] }) ty (.bC en.z p L.length M.length (bw en M)) :=
 O.LR ax av j hm (aS ▸ ak.p) au h (Pb ba Wn)
instance {s:Nat}{x:ab}{G:List (Nat × ab)} [h:oE s (get G)]:oE s (get ((s,x)::G)):=(oN (G:=G) (d:=s) (v:=x)) ▸ (inferInstance:oE s (cH (get G) s x))
instance {s d:Nat}{x:ab}{G:List (Nat × ab)} [h:oE s (get G)] [j:mI x]:oE s (get ((d,x)::G)):=(oN (G:=G) (d:=d) (v:=x)) ▸ (inferInstance:oE s (cH (get G) d x))
theorem O.F2 {en:bz α}{L M M2 r:List α}{br s:Nat}(h:dP (L++M) M2=some r) [ak:jM P t e br fq] (ax:Rd g a (.bn en.z ⟨s,[]⟩ (L.length+M.length)):=by exact .q) (pL:g s=some (.bC en.z q L.length M.length (bw en M)):=by rfl) (av:bu g q=some (ar en L):=by rfl) (j:Rd g b y:=by exact .q) (hm:nx g en y M2:=by (first | exact .i | exact .n | exact .o rfl rfl)) (aS:br=en.z:=by rfl) (au:Nat.ble fq 128=true:=by rfl) [eN:oE s g]:b5 P g (.call { callee:=.builtin .append,args:=#[a,b],argTypes:=#[t,t] }) ty (.bC en.z ⟨s,[]⟩ (L.length+M.length) M2.length (bw en M2)) :=
 O.DV ax pL av j hm (aS ▸ ak.p) au h
theorem O.Gh {en:bz β}{r:List (List β)}{br:Nat}{dh:Value}(h:nM m ([]:List β)=some r) [het:hr P t (List β) (b6 en)] [ak:eg P t e br] [hzero:h7 P e dh] [iV:x1 P e fq] (j:Rd g a (.lit (.int sA m)):=by exact .q) (ai:Rd g b (.lit (.int .i64 m)):=by exact .q) (h1:dh.cells.toList.all Value.oneCell'=true:=by rfl) (J:dh.cells.toList.map j0=[.bf]:=by rfl) (aS:br=(b6 en).z:=by rfl) (au:Nat.ble fq 128=true:=by rfl):b5 P g (.makeSlice t a b) ty (ar (b6 en) r) :=
 O.XS (aS ▸ ak.p) j ai hzero.p h1 J h iV.p au
theorem O.ey {en:bz α}{L:List α}{y:α}{br:Nat} [aJ:eg P t e br] (j:Rd g a (.bc en.z L.length (bw en L)):=by exact .q) (ai:Rd g b (.lit (.int sA m)):=by exact .q) (aS:br=en.z:=by rfl) (h:idx L m=some y:=by assumption):b5 P g (.indexAddr t a b) ty (.cJ (en.cells y++bw en (L.drop (m.toNat+1)))):=O.qv j ai (aS ▸ aJ.p) h
theorem O.F' {en:bz α}{L:List α}{y:α}{br:Nat} [aJ:eg P t e br] (j:Rd g a (.bn en.z p L.length):=by exact .q) (av:bu g p=some (ar en L):=by rfl) (ai:Rd g b (.lit (.int sA m)):=by exact .q) (aS:br=en.z:=by rfl) (aH:Nat.blt 0 en.z=true:=by rfl) (h:idx L m=some y:=by assumption):b5 P g (.indexAddr t a b) ty (.ptr p (m.toNat * en.z+0)):=O.gU av j ai (aS ▸ aJ.p) h aH
end
def B' (Lr:List (Nat × ab)) (ex:List Nat) (Qk:List Nat):List (Nat × ab)->Option (List Nat)
 | []=>some []
 | (k,x)::l=>match B' Lr ex (k::Qk) l with
  | none=>none
  | some r=>match !ex.elem k&&!Qk.elem k&&(match x with | .ptr ⟨q,[]⟩ _=>!ex.elem q&&(match get Lr q with | some (.obj _)=>true | _=>false) | _=>false) with
   | true=>some (k::r)
   | false=>some r
def kV (g g2:aG) (r:Nat):List (Nat × ab)->Bool
 | []=>true
 | (s,.ptr ⟨q,[]⟩ k)::l=>!Nat.beq s r&&(match g q,g2 q with | some (.obj cs),some (.obj j9)=>Nat.blt k cs.length&&Nat.blt k j9.length | _,_=>false)&&kV g g2 r l
 | _=>false
theorem Pm {g g2:aG}{r:Nat}{s:Nat}{x:ab}{l:List (Nat × ab)}(h:kV g g2 r ((s,x)::l)=true):(∃ q k cs j9,x=.ptr ⟨q,[]⟩ k/\Nat.beq s r=false/\g q=some (.obj cs)/\Nat.blt k cs.length=true/\g2 q=some (.obj j9)/\Nat.blt k j9.length=true)/\kV g g2 r l=true:=by
 unfold kV at h
 split at h
 ·rename_i e; cases e
 ·rename_i cG q k vh e;cases e;rw [Bool.and_eq_true,Bool.and_eq_true] at h;obtain ⟨⟨h1,af⟩,aJ⟩:=h
  split at af
  ·rename_i cs j9 bO b7;rw [Bool.and_eq_true] at af;exact ⟨⟨q,k,cs,j9,rfl,by simpa using h1,bO,af.1,b7,af.2⟩,aJ⟩
  ·cases af
 ·cases h
theorem M' {g:aG}{r s:Nat}{x y:ab}(h:Nat.beq s r=false) (j:cH g r x s=some y):g s=some y:=by
 unfold cH at j;rw [if_neg (by rintro rfl; rw [Nat.beq_refl] at h; cases h)] at j;exact j
theorem C3 {g:aG}{k:Nat}{ks:List Nat}{G1:List (Nat × ab)}(h:pick g (k::ks)=some G1):∃ x l,g k=some x/\pick g ks=some l/\G1=(k,x)::l:=by
 unfold pick at h
 split at h
 ·rename_i x j
  split at h
  ·rename_i l ah;cases h; exact ⟨x,l,j,ah,rfl⟩
  ·cases h
 ·cases h
theorem zE {g g2:aG}{r:Nat}{cs2:List ab}{T:List (Nat × ab)}(dn:k5 g g2 r cs2 T):∀ {ks:List Nat}{G1:List (Nat × ab)},pick (cH g r (.obj cs2)) ks=some G1->(∀ e∈G1,cE e.2)->k5 g g2 r cs2 (G1++T)
 | [],_,h,_=>by cases h; exact dn
 | k::ks,G1,h,az=>by
  obtain ⟨x,l,j,ah,rfl⟩:=C3 h;have aK:=zE dn ah λe h=>az e (by simp [h]);have fG:=az (k,x) (by simp);by_cases e:Nat.beq k r=true
  ·have:=Nat.eq_of_beq_eq_true e;subst this;simp only [cH,if_true] at j;cases j;have:df cs2:=⟨by cases fG with | obj h=>exact h⟩;exact .b rfl aK
  ·have:b9 x:=⟨fG⟩;have e:=Bool.eq_false_iff.2 e;exact .n e (M' e j) aK
theorem zF {g g2:aG}{r:Nat}{cs2:List ab}:∀ {ks:List Nat}{G1:List (Nat × ab)},pick (cH g r (.obj cs2)) ks=some G1->kV g g2 r G1=true->k5 g g2 r cs2 G1
 | [],_,h,_=>by cases h; exact .nil
 | k::ks,G1,h,az=>by
  obtain ⟨x,l,j,ah,rfl⟩:=C3 h;obtain ⟨⟨q,aa,cs,j9,rfl,h1,af,aJ,bo,cu⟩,dC⟩:=Pm az;exact .p h1 (M' h1 j) af aJ bo cu (zF ah dC)
theorem FB {g g2:aG}{ex:List Nat}{T:List (Nat × ab)}(dn:mh ex g g2 T):∀ {ks:List Nat}{G1:List (Nat × ab)},pick g ks=some G1->(ks.all λk=>!ex.elem k)=true->(∀ e∈G1,cE e.2)->mh ex g g2 (G1++T)
 | [],_,h,_,_=>by cases h; exact dn
 | k::ks,G1,h,he,az=>by
  obtain ⟨x,l,j,ah,rfl⟩:=C3 h;rw [List.all_cons,Bool.and_eq_true] at he;have:b9 x:=⟨az (k,x) (by simp)⟩;exact .n (by simpa using he.1) j (FB dn ah he.2 λe h=>az e (by simp [h]))
theorem FC {g g2:aG}{ex:List Nat}{r:Nat}:∀ {ks:List Nat}{G1:List (Nat × ab)},pick g ks=some G1->(ks.all λk=>!ex.elem k)=true->kV g g2 r G1=true->mh ex g g2 G1
 | [],_,h,_,_=>by cases h; exact .nil
 | k::ks,G1,h,he,az=>by
  obtain ⟨x,l,j,ah,rfl⟩:=C3 h;rw [List.all_cons,Bool.and_eq_true] at he;obtain ⟨⟨q,aa,cs,j9,rfl,h1,af,aJ,bo,cu⟩,dC⟩:=Pm az;exact .p (by simpa using he.1) j bo cu (FC ah he.2 dC)
def qX:List (Nat × ab)->List (Nat × ab)->Option (List (Nat × ab))
 | [],T=>some T
 | p::l,T=>match qX l T with
  | some r=>some (p::r)
  | none=>none
theorem s7:∀ {l T r:List (Nat × ab)},qX l T=some r->r=l++T
 | [],_,_,h=>by cases h; rfl
 | p::l,T,r,h=>by
  unfold qX at h
  split at h
  ·rename_i dk aj;cases h; rw [s7 aj]; rfl
  ·cases h
theorem qY {m:Option (List ab)}{ys:List ab}(h:m.bind kT=some ys):m=some ys:=by
 cases au:m with
 | none=>rw [au] at h; cases h
 | some c=>rw [au] at h; rw [xa h]
theorem c3.mb {P:Program}{g:aG}{xs:List Operand}{fI:Array TypeId}{f:FuncId}{ys args:List ab}{outs:List (Option ab)}{res:ab}(j:(fZ g xs).bind kT=some ys) (hv:n1 g ys args) (gp:bH P f args outs res) [aj:nY res] (aU:gR P f=true:=by kernel_rfl) (aM:sD outs=true:=by rfl):c3 P g (.call { callee:=.value (.func f),args:=xs.toArray,argTypes:=fI }) res:=c3.vw (qY j) hv gp aU aM
def nW (ks hp:List Nat) (P:Program) (N:cN) (g:aG) (o:Oper) (g':aG):Prop:=bF P N g o g'
section
variable {α:Type}{P:Program}{N:cN}{ops:Array Oper}{g:aG}{K:aG->Prop}{l:List Oper}{d r k0 s:Nat}{ty t:TypeId}{pos:String}{after:Array Edge}{a b x:Operand}{cs cs' iQ cs2:List ab}{y:ab}{G2 hP hC:List (Nat × ab)}{u:Option (Nat × Bool)}{p q:Place}{ks hp:List Nat}{en:bz α}{L M:List α}
theorem hq.jo (aQ:Rd g a (.ptr ⟨r,[]⟩ k0):=by exact .q) (ax:g r=some (.obj cs):=by rfl) (au:Rd g b (.agg cs'):=by exact .q) (he:ox cs k0 cs'=some cs2:=by rfl) (av:pick (cH g r (.obj cs2)) ks=some hP:=by rfl) (ba:pick (cH g r (.obj cs2)) hp=some hC:=by rfl) (cT:qX hP hC=some G2:=by rfl) (dp:kV g (get G2) r hC=true:=by rfl) (aS:hc P t cs'.length=true:=by kernel_rfl) (aH:Nat.blt 0 cs'.length=true:=by rfl) (aj:(get G2 r).isSome=true:=by rfl) [az:df cs'] [eN:df cs] [aI:hZ hP]:nW ks hp P N g ⟨none,.store t a b,ty,pos,after,none⟩ (get G2) :=
 .o6 rfl rfl ax aQ au rfl aS (Nat.ble_eq_true_of_le (lp he).2) aH (lp he).1 aj (by have:=s7 cT; subst this; exact zE (zF ba dp) av aI.p)
theorem hq.qL (aQ:Rd g a (.ptr ⟨r,[]⟩ k0):=by exact .q) (ax:g r=some (.obj cs):=by rfl) (au:Rd g b y:=by exact .q) (J:mQ y=some [y]:=by rfl) (he:ox cs k0 [y]=some cs2:=by rfl) (av:pick (cH g r (.obj cs2)) ks=some hP:=by rfl) (ba:pick (cH g r (.obj cs2)) hp=some hC:=by rfl) (cT:qX hP hC=some G2:=by rfl) (dp:kV g (get G2) r hC=true:=by rfl) (aS:hc P t 1=true:=by kernel_rfl) (aj:(get G2 r).isSome=true:=by rfl) [az:b9 y] [eN:df cs] [aI:hZ hP]:nW ks hp P N g ⟨none,.store t a b,ty,pos,after,none⟩ (get G2) :=
 .o6 rfl rfl ax aQ au J aS (Nat.ble_eq_true_of_le (lp he).2) rfl (lp he).1 aj (by have:=s7 cT; subst this; exact zE (zF ba dp) av aI.p)
theorem hq.oJ (j:Rd g x (.bn en.z p L.length):=by exact .q) (av:bu g p=some (ar en L):=by rfl) (hk:pick g ks=some hP:=by rfl) (cU:(ks.all λk=>![p.root].elem k)=true:=by rfl) (ba:pick g hp=some hC:=by rfl) (cT:qX hP hC=some G2:=by rfl) (uQ:(hp.all λk=>![p.root].elem k)=true:=by rfl) (dp:kV g (get G2) 1000000 hC=true:=by rfl) (aI:get G2 d=none:=by rfl) (a8:N.ok d=true:=by rfl) [az:hZ hP]:nW ks hp P N g ⟨some d,.assign x,ty,pos,after,u⟩ (cH (get G2) d (ar en L)) :=
 .GM rfl rfl j av (by have:=s7 cT; subst this; exact FB (FC ba uQ dp) hk cU az.p) aI a8
theorem hq.Rx (j:Rd g x y:=by exact .q) (hk:pick g ks=some G2:=by rfl) (aI:get G2 d=none:=by rfl) (a8:N.ok d=true:=by rfl) [ai:b9 y] [az:hZ G2]:nW ks hp P N g ⟨some d,.assign x,ty,pos,after,u⟩ (cH (get G2) d y) :=
 .As rfl rfl j (.f .nil) .refl (tQ hk az.p) aI a8
theorem hq.vV (j:Rd g x (.bn en.z ⟨s,[]⟩ (L.length+M.length)):=by exact .q) (ax:g s=some (.bC en.z q L.length M.length (bw en M)):=by rfl) (av:bu g q=some (ar en L):=by rfl) (hk:pick g ks=some hP:=by rfl) (cU:(ks.all λk=>![s,q.root].elem k)=true:=by rfl) (Jb:pick g hp=some hC:=by rfl) (cT:qX hP hC=some G2:=by rfl) (uQ:(hp.all λk=>![s,q.root].elem k)=true:=by rfl) (dp:kV g (get G2) 1000000 hC=true:=by rfl) (ba:Nat.beq q.root s=false:=by rfl) (aI:get G2 d=none:=by rfl) (a8:N.ok d=true:=by rfl) [az:hZ hP]:nW ks hp P N g ⟨some d,.assign x,ty,pos,after,u⟩ (cH (get G2) d (ar en (L++M))) :=
 .GL rfl rfl j ax av ba (by have:=s7 cT; subst this; exact FB (FC Jb uQ dp) hk cU az.p) aI a8
theorem hq.tS {hL y2:α}{m:Int}{o:Nat}{ez x2 y0:ab}(aQ:Rd g a (.ptr p (m.toNat * en.z+o)):=by exact .q) (av:bu g p=some (ar en L):=by rfl) (h:idx L m=some hL:=by assumption) (au:Rd g b y:=by exact .q) (J:mQ y=some cs':=by rfl) (he:ew (en.cells hL) o cs'=en.cells y2:=by rfl) (jC:cc g p (ar en (L.set m.toNat y2)) p.root=some ez:=by rfl) (gZ:Fj ez=some x2:=by rfl) (hk:pick (cH g p.root x2) ks=some G2:=by rfl) (aS:hc P t cs'.length=true:=by kernel_rfl) (hlen:Nat.ble (o+cs'.length) en.z=true:=by rfl) (aH:Nat.blt 0 cs'.length=true:=by rfl) (aj:(get G2 p.root).isSome=true:=by rfl) (sx:g p.root=some y0:=by rfl) [az:b9 y] [eN:b9 y0] [aI:hZ G2]:nW ks hp P N g ⟨none,.store t a b,ty,pos,after,none⟩ (get G2) :=
 .xL rfl rfl aQ au av h aS J he hlen aH (by rw [jC,O_ gZ]) aj sx (Kt hk aI.p)
theorem hq.Qc {g1:aG}{bS:ab}(au:Rd g b y) (ak:fc g [y] [bS] g1) (aQ:Rd g a (.ptr ⟨r,[]⟩ k0):=by exact .q) (J:mQ bS=some cs':=by rfl) (ax:g1 r=some (.obj iQ):=by rfl) (he:ox iQ k0 cs'=some cs2:=by rfl) (hk:pick (cH g1 r (.obj cs2)) ks=some hP:=by rfl) (fk:pick (cH g1 r (.obj cs2)) hp=some hC:=by rfl) (cT:qX hP hC=some G2:=by rfl) (dp:kV g1 (get G2) r hC=true:=by rfl) (aS:hc P t cs'.length=true:=by kernel_rfl) (aH:Nat.blt 0 cs'.length=true:=by rfl) (aj:(get G2 r).isSome=true:=by rfl) [eN:df iQ] [aI:hZ hP]:nW ks hp P N g ⟨none,.store t a b,ty,pos,after,none⟩ (get G2) :=
 .xK rfl rfl aQ au ak .refl J aS ax (Nat.ble_eq_true_of_le (lp he).2) aH (lp he).1 aj (by have:=s7 cT; subst this; exact zE (zF fk dp) hk aI.p)
theorem hq.mM {g1:aG}{bS:ab}(au:Rd g x y) (ak:fc g [y] [bS] g1) (hk:pick g1 ks=some G2:=by rfl) (aI:get G2 d=none:=by rfl) (a8:N.ok d=true:=by rfl) [az:hZ G2]:nW ks hp P N g ⟨some d,.assign x,ty,pos,after,u⟩ (cH (get G2) d bS) :=
 .As rfl rfl au ak .refl (tQ hk az.p) aI a8
theorem hq.DV {M2:List α}{s2:Nat}(j:Rd g x (.bn en.z ⟨s,[]⟩ (L.length+M2.length+M.length)):=by exact .q) (ax:g s=some (.bC en.z ⟨s2,[]⟩ (L.length+M2.length) M.length (bw en M)):=by rfl) (la:g s2=some (.bC en.z q L.length M2.length (bw en M2)):=by rfl) (av:bu g q=some (ar en L):=by rfl) (ba:Nat.beq q.root s=false:=by rfl) (qo:Nat.beq q.root s2=false:=by rfl) (BI:Nat.beq s s2=false:=by rfl) (hk:pick g ks=some hP:=by rfl) (cU:(ks.all λk=>![s,s2,q.root].elem k)=true:=by rfl) (Jb:pick g hp=some hC:=by rfl) (cT:qX hP hC=some G2:=by rfl) (uQ:(hp.all λk=>![s,s2,q.root].elem k)=true:=by rfl) (dp:kV g (get G2) 1000000 hC=true:=by rfl) (aI:get G2 d=none:=by rfl) (a8:N.ok d=true:=by rfl) [az:hZ hP]:nW ks hp P N g ⟨some d,.assign x,ty,pos,after,u⟩ (cH (get G2) d (ar en (L++M2++M))) :=
 .Rn rfl rfl j ax la av ba qo BI (by have:=s7 cT; subst this; exact FB (FC Jb uQ dp) hk cU az.p) aI a8
theorem hq.sp (au:Rd g b (.bn en.z ⟨s,[]⟩ (L.length+M.length)):=by exact .q) (pL:g s=some (.bC en.z q L.length M.length (bw en M)):=by rfl) (av:bu g q=some (ar en L):=by rfl) (aQ:Rd g a (.ptr ⟨r,[]⟩ k0):=by exact .q) (ax:cc (cc g ⟨s,[]⟩ .dead) q .dead r=some (.obj iQ):=by rfl) (he:ox iQ k0 [ar en (L++M)]=some cs2:=by rfl) (hk:pick (cH (cc (cc g ⟨s,[]⟩ .dead) q .dead) r (.obj cs2)) ks=some hP:=by rfl) (fk:pick (cH (cc (cc g ⟨s,[]⟩ .dead) q .dead) r (.obj cs2)) hp=some hC:=by rfl) (cT:qX hP hC=some G2:=by rfl) (dp:kV (cc (cc g ⟨s,[]⟩ .dead) q .dead) (get G2) r hC=true:=by rfl) (ba:Nat.beq q.root s=false:=by rfl) (aS:hc P t 1=true:=by kernel_rfl) (aj:(get G2 r).isSome=true:=by rfl) [eN:df iQ] [aI:hZ hP]:nW ks hp P N g ⟨none,.store t a b,ty,pos,after,none⟩ (get G2) :=
 .zV rfl rfl aQ au pL av ba .l_ .hz rfl rfl aS ax (Nat.ble_eq_true_of_le (lp he).2) (lp he).1 aj (by have:=s7 cT; subst this; exact zE (zF fk dp) hk aI.p)
theorem hq.zY (au:Rd g b (.bn en.z p L.length):=by exact .q) (av:bu g p=some (ar en L):=by rfl) (aQ:Rd g a (.ptr ⟨r,[]⟩ k0):=by exact .q) (ax:cc g p .dead r=some (.obj iQ):=by rfl) (he:ox iQ k0 [ar en L]=some cs2:=by rfl) (hk:pick (cH (cc g p .dead) r (.obj cs2)) ks=some hP:=by rfl) (fk:pick (cH (cc g p .dead) r (.obj cs2)) hp=some hC:=by rfl) (cT:qX hP hC=some G2:=by rfl) (dp:kV (cc g p .dead) (get G2) r hC=true:=by rfl) (aS:hc P t 1=true:=by kernel_rfl) (aj:(get G2 r).isSome=true:=by rfl) [eN:df iQ] [aI:hZ hP]:nW ks hp P N g ⟨none,.store t a b,ty,pos,after,none⟩ (get G2) :=
 .xK rfl rfl aQ au (.r av .nil) .refl rfl aS ax (Nat.ble_eq_true_of_le (lp he).2) rfl (lp he).1 aj (by have:=s7 cT; subst this; exact zE (zF fk dp) hk aI.p)
end
def E_:Nat->List (Option ab)->Option (Nat × List ab)
 | _,[]=>none
 | k,some (.obj cs)::_=>some (k,cs)
 | k,none::l=>E_ (k+1) l
 | _,_=>none
def J1 (g:aG) (xs:List Operand) (k:Nat):Option Nat :=
 match xs[k]? with
 | some (.tmp t)=>match g t with
  | some (.ptr ⟨r,[]⟩ 0)=>some r
  | some (.obj _)=>some t
  | _=>none
 | _=>none
theorem hq.g_ {P:Program}{N:cN}{g:aG}{d r k0:Nat}{ty:TypeId}{pos:String}{after:Array Edge}{u:Option (Nat × Bool)}{f:FuncId}{xs:List Operand}{fI:Array TypeId}{ys args cs cs':List ab}{outs:List (Option ab)}{res:ab}{ks:List Nat}{G2:List (Nat × ab)}
  (gp:bH P f args outs res) (ah:E_ 0 outs=some (k0,cs')) (aj:J1 g xs k0=some r) (av:pick (cc g ⟨r,[]⟩ .dead) ks=some G2) (j:(fZ g xs).bind kT=some ys) (aQ:mH r cs k0 0 ys args) (ax:g r=some (.obj cs):=by rfl) (he:outs=tL args.length k0 (.obj cs'):=by rfl) (jA:Nat.blt k0 ys.length=true:=by rfl) (aU:gR P f=true:=by kernel_rfl) (aI:get G2 d=none:=by rfl) (pM:Nat.beq r d=false:=by rfl) (BC:pick (get ((r,.obj cs')::G2)) ks=some G2:=by rfl) (a8:N.ok d=true:=by rfl) [eN:df cs] [ee:b9 res] [uR:df cs'] [az:hZ G2] :
  bF P N g ⟨some d,.call { callee:=.value (.func f),args:=xs.toArray,argTypes:=fI },ty,pos,after,u⟩ (get ((d,res)::(r,.obj cs')::G2)) :=
 .call rfl a8 (fp.g_ (A:=[]) rfl rfl (qY j) ax aQ jA (he ▸ gp) aU (tQ av az.p) aI pM (tQ BC az.p) .nil a8)
def qf:Acc->List (Nat × ab)->List (Nat × ab)
 | [],G=>G
 | (_,d,some x)::acc,G=>(d,x)::qf acc G
 | (_,_,none)::acc,G=>qf acc G
def cA (dR:List Nat) (P:Program) (N:cN) (ops:Array Oper) (a':List (List Nat)) (g0:aG) (i:Nat) (acc:Acc) (l:List Oper) (K:aG->Prop):Prop:=b1 P N ops a' g0 i acc l K
section
variable {α β:Type}{P:Program}{N:cN}{ops:Array Oper}{a':List (List Nat)}{acc:Acc}{E ks:List Nat}{t x y z:k3}{A B c:Code}{G G1 G2:List (Nat × ab)}{g:aG}{g':aG}{Φ nU:Exit->aG->Prop}{dZ:aG->Prop}{K:aG->Prop}{id k s d i bL aa cG:Nat}{b c6:Bool}{l:List Oper}{o:Oper}{op:Op}{ty xM:TypeId}{pos:String}{after:Array Edge}{v y':ab}{u:Option (Nat × Bool)}{a aw a2:Operand}
theorem cy.YW (h:cy E t P N .ret G Φ):cy E t P N .ret G Φ:=h
theorem aC.jK (h:aC P N ops (⟨none,.store ty aw a2,xM,pos,after,u⟩::l) g K):aC P N ops (⟨none,.store ty aw a2,xM,pos,after,u⟩::l) g K:=h
theorem cA.jK {dR:List Nat}(h:cA dR P N ops a' g i acc (⟨none,.store ty aw a2,xM,pos,after,u⟩::l) K):cA dR P N ops a' g i acc (⟨none,.store ty aw a2,xM,pos,after,u⟩::l) K:=h
theorem cA.bI (op:Op) (u:Option (Nat × Bool)) {dR:List Nat}(h:cA dR P N ops a' g i acc (⟨some d,op,ty,pos,after,u⟩::l) K):cA dR P N ops a' g i acc (⟨some d,op,ty,pos,after,u⟩::l) K:=h
theorem cA.nl {dR:List Nat}(h:cA dR P N ops a' g i acc [] K):cA dR P N ops a' g i acc [] K:=h
def FG (g:aG) (d:Nat):Operand->Option ab
 | .tmp t=>bif Nat.beq t d then none else FH g t
 | .const v=>FF g (.const v)
 | _=>none
theorem Rd.oZ {g:aG}{a:Operand}{y:ab}(h:FG g d a=some y):Rd (del g d) a y:=by
 unfold FG at h
 split at h
 ·rename_i t;cases au:Nat.beq t d with
  | true=>rw [au] at h; cases h
  | false =>
   rw [au] at h;have cU:t≠d:=Nat.ne_of_beq_eq_false au;refine Rd.zI ?_;unfold FH at h ⊢;simpa [del,cU] using h
 ·exact .q (by unfold FF at h ⊢; exact h)
 ·cases h
theorem Re {y':ab}(j:FG (get G) d a=some v) (aU:get G d=some y') (ah:leaf y'=true) (hk:aC P N ops l (get ((d,v)::G)) K) (a8:N.ok d=true:=by rfl):aC P N ops (⟨some d,.assign a,ty,pos,after,none⟩::l) (get G) K:=.over (.assign (Rd.oZ j).bj) a8 aU ah (oN ▸ hk)
theorem Rf {y':ab}(j:FG (get G) d a=some v) (aU:get G d=some y') (ah:leaf y'=true) (hk:aC P N ops l (get ((d,v)::G)) K) (a8:N.ok d=true:=by rfl):aC P N ops (⟨some d,.move a,ty,pos,after,none⟩::l) (get G) K:=.over (.move (Rd.oZ j).bj) a8 aU ah (oN ▸ hk)
theorem Q1 {hp:List Nat}(jA:sB [] G=some ks) (eM:B' G [] [] G=some hp) (he:nW ks hp P N (get G) o (get G2)) (hk:aC P N ops l (get G2) K) (aI:o.guard=none:=by rfl):aC P N ops (o::l) (get G) K:=.hR aI he hk
theorem QZ {f:FuncId}{xs:List Operand}{fI:Array TypeId}{ys args cs cs':List ab}{outs:List (Option ab)}{res:ab}{r k0:Nat}(gp:bH P f args outs res) (ah:E_ 0 outs=some (k0,cs')) (aj:J1 (get G) xs k0=some r) (hk:sB [r,d] G=some ks) (av:pick (cc (get G) ⟨r,[]⟩ .dead) ks=some G2) (j:(fZ (get G) xs).bind kT=some ys) (aQ:mH r cs k0 0 ys args) (dz:aC P N ops l (get ((d,res)::(r,.obj cs')::G2)) K) (ax:get G r=some (.obj cs):=by rfl) (he:outs=tL args.length k0 (.obj cs'):=by rfl) (jA:Nat.blt k0 ys.length=true:=by rfl) (aU:gR P f=true:=by kernel_rfl) (aI:get G2 d=none:=by rfl) (pM:Nat.beq r d=false:=by rfl) (BC:pick (get ((r,.obj cs')::G2)) ks=some G2:=by rfl) (a8:N.ok d=true:=by rfl) [eN:df cs] [ee:b9 res] [uR:df cs'] [az:hZ G2] :
  aC P N ops (⟨some d,.call { callee:=.value (.func f),args:=xs.toArray,argTypes:=fI },ty,pos,after,none⟩::l) (get G) K:=.hR rfl (hq.g_ gp ah aj av j aQ ax he jA aU aI pM BC a8) dz
theorem QS {dR:List Nat}{f:FuncId}{xs:List Operand}{fI:Array TypeId}{ys args cs cs':List ab}{outs:List (Option ab)}{res:ab}{r k0:Nat}(gp:bH P f args outs res) (ah:E_ 0 outs=some (k0,cs')) (aj:J1 (c9 (get G) (λ_=>true) acc) xs k0=some r) (hk:sB [r,d] (qf acc G)=some ks) (av:pick (cc (c9 (get G) (λ_=>true) acc) ⟨r,[]⟩ .dead) ks=some G2) (j:(fZ (c9 (get G) (λ_=>true) acc) xs).bind kT=some ys) (aQ:mH r cs k0 0 ys args) (dz:cA dR P N ops a' (get ((d,res)::(r,.obj cs')::G2)) (bL+1) [] l K) (ax:c9 (get G) (λ_=>true) acc r=some (.obj cs):=by rfl) (he:outs=tL args.length k0 (.obj cs'):=by rfl) (jA:Nat.blt k0 ys.length=true:=by rfl) (aU:gR P f=true:=by kernel_rfl) (aI:get G2 d=none:=by rfl) (pM:Nat.beq r d=false:=by rfl) (BC:pick (get ((r,.obj cs')::G2)) ks=some G2:=by rfl) (a8:N.ok d=true:=by rfl) [eN:df cs] [ee:b9 res] [uR:df cs'] [az:hZ G2] (gS:rF ((acc.filterMap ke).map Place.root)=true:=by rfl) (fO:mD G=true:=by rfl) (ag:Nat.beq ops.size (bL+l.length+1)=true:=by rfl)
  (yG:(List.range bL).all (λk=>(a'.getD bL []).contains k)=true:=by kernel_rfl) (au:(List.range ops.size).all (λk=>Nat.ble k bL||(a'.getD k []).contains bL)=true:=by kernel_rfl) :
  cA (bL::dR) P N ops a' (get G) i acc (⟨some d,.call { callee:=.value (.func f),args:=xs.toArray,argTypes:=fI },ty,pos,after,none⟩::l) K:=b1.v7 bL (hq.g_ gp ah aj av j aQ ax he jA aU aI pM BC a8) rfl gS fO ag yG au dz
theorem Q0 {hp:List Nat}(jA:sB (d::roots G a) G=some ks) (eM:B' G (d::roots G a) [] G=some hp) (he:nW ks hp P N (get G) ⟨some d,.assign a,ty,pos,after,none⟩ (cH (get G2) d v)) (hk:aC P N ops l (get ((d,v)::G2)) K):aC P N ops (⟨some d,.assign a,ty,pos,after,none⟩::l) (get G) K:=.qi rfl he (oN ▸ hk)
theorem Q' {L:List α}{f:List α->Option β}{KC:β}{M:List α}{e c_ br:Nat}{gA:TypeId}{parts:Array (Nat × Operand)}{ys:List ab}{en:bz α}(h:(dP L M).bind f=some KC) [het:hr P gA α en] [ak:eg P gA e br] (hk:aC P N ops l (get ((d,ay en M)::G)) K) (j:(fZ (get G) (parts.toList.map (·.2))).bind kT=some ys:=by rfl) (J:l0 ys=some (bw en M):=by rfl) (aS:ys.all (λy=>match h0 y with | some c=>Nat.beq c.length en.z | none=>false)=true:=by rfl) (av:parts.toList=(parts.toList.map (·.2)).mapIdx (λi x=>(i,x)):=by rfl) (kQ:(parts.toList.map (·.2)).length=c_:=by rfl) (ah:M.length=c_:=by rfl) (mY:br=en.z:=by rfl) (hzero:hY P e en.z=true:=by kernel_rfl) (au:Nat.ble (c_ * en.z) 16777216=true:=by rfl) (gh:Nat.ble c_ 16777216=true:=by rfl) [hv:iw (ar en M) (ay en M)] (a8:N.ok d=true:=by rfl) (aU:get G d=none:=by rfl):aC P N ops (⟨some d,.buildSlice gA c_ parts,ty,pos,after,none⟩::l) (get G) K :=
 .hA (O.bs en M (mY ▸ ak.p) (qY j) J aS av kQ ah hzero au gh) a8 aU .none (oN ▸ hk)
theorem LK (M:List α) {e c_ br:Nat}{gA:TypeId}{parts:Array (Nat × Operand)}{ys:List ab}{en:bz α}(ax:vA d l=false) [het:hr P gA α en] [ak:eg P gA e br] (hk:aC P N ops l (get ((d,ar en M)::G)) K) (j:(fZ (get G) (parts.toList.map (·.2))).bind kT=some ys:=by rfl) (J:l0 ys=some (bw en M):=by rfl) (aS:ys.all (λy=>match h0 y with | some c=>Nat.beq c.length en.z | none=>false)=true:=by rfl) (av:parts.toList=(parts.toList.map (·.2)).mapIdx (λi x=>(i,x)):=by rfl) (kQ:(parts.toList.map (·.2)).length=c_:=by rfl) (ah:M.length=c_:=by rfl) (mY:br=en.z:=by rfl) (hzero:hY P e en.z=true:=by kernel_rfl) (au:Nat.ble (c_ * en.z) 16777216=true:=by rfl) (gh:Nat.ble c_ 16777216=true:=by rfl) (a8:N.ok d=true:=by rfl) (aU:get G d=none:=by rfl):aC P N ops (⟨some d,.buildSlice gA c_ parts,ty,pos,after,none⟩::l) (get G) K :=
 ea (O.bs en M (mY ▸ ak.p) (qY j) J aS av kQ ah hzero au gh) hk a8 aU
theorem Rb {M:List α}{e c_ br:Nat}{gA:TypeId}{parts:Array (Nat × Operand)}{ys:List ab}{en:bz α}(ax:vA d l=true) [het:hr P gA α en] [ak:eg P gA e br] (hk:aC P N ops l (get ((d,ay en M)::G)) K) (j:(fZ (get G) (parts.toList.map (·.2))).bind kT=some ys:=by rfl) [aO:oC en ys M] (av:parts.toList=(parts.toList.map (·.2)).mapIdx (λi x=>(i,x)):=by rfl) (kQ:(parts.toList.map (·.2)).length=c_:=by rfl) (ah:ys.length=c_:=by rfl) (mY:br=en.z:=by rfl) (hzero:hY P e en.z=true:=by kernel_rfl) (au:Nat.ble (c_ * en.z) 16777216=true:=by rfl) (gh:Nat.ble c_ 16777216=true:=by rfl) [hv:iw (ar en M) (ay en M)] (a8:N.ok d=true:=by rfl) (aU:get G d=none:=by rfl):aC P N ops (⟨some d,.buildSlice gA c_ parts,ty,pos,after,none⟩::l) (get G) K :=
 .hA (O.bs en M (mY ▸ ak.p) (qY j) aO.p.1 aO.p.2.1 av kQ (aO.p.2.2.trans ah) hzero au gh) a8 aU .none (oN ▸ hk)
theorem Rc {M:List α}{e c_ br:Nat}{gA:TypeId}{parts:Array (Nat × Operand)}{ys:List ab}{en:bz α}(ax:vA d l=false) [het:hr P gA α en] [ak:eg P gA e br] (hk:aC P N ops l (get ((d,ar en M)::G)) K) (j:(fZ (get G) (parts.toList.map (·.2))).bind kT=some ys:=by rfl) [aO:oC en ys M] (av:parts.toList=(parts.toList.map (·.2)).mapIdx (λi x=>(i,x)):=by rfl) (kQ:(parts.toList.map (·.2)).length=c_:=by rfl) (ah:ys.length=c_:=by rfl) (mY:br=en.z:=by rfl) (hzero:hY P e en.z=true:=by kernel_rfl) (au:Nat.ble (c_ * en.z) 16777216=true:=by rfl) (gh:Nat.ble c_ 16777216=true:=by rfl) (a8:N.ok d=true:=by rfl) (aU:get G d=none:=by rfl):aC P N ops (⟨some d,.buildSlice gA c_ parts,ty,pos,after,none⟩::l) (get G) K :=
 ea (O.bs en M (mY ▸ ak.p) (qY j) aO.p.1 aO.p.2.1 av kQ (aO.p.2.2.trans ah) hzero au gh) hk a8 aU
theorem d_ {dR:List Nat}(av:b5 P (jq a' g bL acc) op ty v) (hk:cA dR P N ops a' g i ((bL,d,some v)::acc) l K) (ag:Nat.beq ops.size (bL+l.length+1)=true:=by rfl) (aU:g d=none:=by rfl) (az:acc.all (λe=>!Nat.beq e.2.1 d)=true:=by rfl) (a8:N.ok d=true:=by rfl):cA (bL::dR) P N ops a' g i acc (⟨some d,op,ty,pos,after,none⟩::l) K:=aT _ av hk ag aU az a8
theorem ef {dR:List Nat}(av:b5 P (jq a' g bL acc) op ty v) (hk:cA dR P N ops a' g i ((bL,d,some v)::acc) l K) (h:(ops[aa]?).bind (·.dst)=some cG:=by rfl) (aI:jq a' g bL acc cG=some (.lit (.bool c6)):=by rfl) (au:c6=b:=by (first | rfl | assumption)) (ag:Nat.beq ops.size (bL+l.length+1)=true:=by rfl) (aU:g d=none:=by rfl) (az:acc.all (λe=>!Nat.beq e.2.1 d)=true:=by rfl) (a8:N.ok d=true:=by rfl):cA (bL::dR) P N ops a' g i acc (⟨some d,op,ty,pos,after,some (aa,b)⟩::l) K:=.v _ av ag aU az a8 (.o_ h aI au) hk
theorem Lk {dR:List Nat}(av:c3 P (jq a' g bL acc) op v) (hk:cA dR P N ops a' g i ((bL,d,some v)::acc) l K) (ag:Nat.beq ops.size (bL+l.length+1)=true:=by rfl) (aU:g d=none:=by rfl) (az:acc.all (λe=>!Nat.beq e.2.1 d)=true:=by rfl) (a8:N.ok d=true:=by rfl):cA (bL::dR) P N ops a' g i acc (⟨some d,op,ty,pos,after,none⟩::l) K:=.c _ av ag aU az a8 .none hk
theorem Lj {dR:List Nat}(av:c3 P (jq a' g bL acc) op v) (hk:cA dR P N ops a' g i ((bL,d,some v)::acc) l K) (h:(ops[aa]?).bind (·.dst)=some cG:=by rfl) (aI:jq a' g bL acc cG=some (.lit (.bool c6)):=by rfl) (au:c6=b:=by (first | rfl | assumption)) (ag:Nat.beq ops.size (bL+l.length+1)=true:=by rfl) (aU:g d=none:=by rfl) (az:acc.all (λe=>!Nat.beq e.2.1 d)=true:=by rfl) (a8:N.ok d=true:=by rfl):cA (bL::dR) P N ops a' g i acc (⟨some d,op,ty,pos,after,some (aa,b)⟩::l) K:=.c _ av ag aU az a8 (.o_ h aI au) hk
theorem QW {dR:List Nat}(hk:cA dR P N ops a' g i ((bL,d,some (.bN []))::acc) l K) (h:(ops[aa]?).bind (·.dst)=some cG:=by rfl) (aI:jq a' g bL acc cG=some (.lit (.bool c6)):=by rfl) (au:c6=!b:=by (first | rfl | assumption)) (ag:Nat.beq ops.size (bL+l.length+1)=true:=by rfl) (aU:g d=none:=by rfl) (az:acc.all (λe=>!Nat.beq e.2.1 d)=true:=by rfl) (a8:N.ok d=true:=by rfl):cA (bL::dR) P N ops a' g i acc (⟨some d,op,ty,pos,after,some (aa,b)⟩::l) K:=.ps _ h aI au ag aU az a8 hk
theorem QY {dR:List Nat}(hk:cA dR P N ops a' g i ((bL,d,some (.bN []))::acc) l K) (h:(ops[aa]?).bind (·.dst)=some cG:=by rfl) (aI:jq a' g bL acc cG=some (.bN []):=by rfl) (ag:Nat.beq ops.size (bL+l.length+1)=true:=by rfl) (aU:g d=none:=by rfl) (az:acc.all (λe=>!Nat.beq e.2.1 d)=true:=by rfl) (a8:N.ok d=true:=by rfl):cA (bL::dR) P N ops a' g i acc (⟨some d,op,ty,pos,after,some (aa,b)⟩::l) K:=.pu _ h aI ag aU az a8 hk
theorem QQ {dR:List Nat}{L:List α}{f:List α->Option β}{KC:β}{M:List α}{e c_ br:Nat}{gA:TypeId}{parts:Array (Nat × Operand)}{ys:List ab}{en:bz α}(h:(dP L M).bind f=some KC) [het:hr P gA α en] [ak:eg P gA e br] (hk:cA dR P N ops a' g i ((bL,d,some (ay en M))::acc) l K) (j:(fZ (jq a' g bL acc) (parts.toList.map (·.2))).bind kT=some ys:=by rfl) (J:l0 ys=some (bw en M):=by rfl) (aS:ys.all (λy=>match h0 y with | some c=>Nat.beq c.length en.z | none=>false)=true:=by rfl) (av:parts.toList=(parts.toList.map (·.2)).mapIdx (λi x=>(i,x)):=by rfl) (kQ:(parts.toList.map (·.2)).length=c_:=by rfl) (ah:M.length=c_:=by rfl) (mY:br=en.z:=by rfl) (hzero:hY P e en.z=true:=by kernel_rfl) (au:Nat.ble (c_ * en.z) 16777216=true:=by rfl) (gh:Nat.ble c_ 16777216=true:=by rfl) [hv:iw (ar en M) (ay en M)] (ag:Nat.beq ops.size (bL+l.length+1)=true:=by rfl) (aU:g d=none:=by rfl) (az:acc.all (λe=>!Nat.beq e.2.1 d)=true:=by rfl) (a8:N.ok d=true:=by rfl):cA (bL::dR) P N ops a' g i acc (⟨some d,.buildSlice gA c_ parts,ty,pos,after,none⟩::l) K :=
 b1.hA bL (O.bs en M (mY ▸ ak.p) (qY j) J aS av kQ ah hzero au gh) ag aU az a8 .none hk
theorem QX {dR:List Nat}(M:List α) {e c_ br:Nat}{gA:TypeId}{parts:Array (Nat × Operand)}{ys:List ab}{en:bz α}(ax:vA d l=true) [het:hr P gA α en] [ak:eg P gA e br] (hk:cA dR P N ops a' g i ((bL,d,some (ay en M))::acc) l K) (j:(fZ (jq a' g bL acc) (parts.toList.map (·.2))).bind kT=some ys:=by rfl) (J:l0 ys=some (bw en M):=by rfl) (aS:ys.all (λy=>match h0 y with | some c=>Nat.beq c.length en.z | none=>false)=true:=by rfl) (av:parts.toList=(parts.toList.map (·.2)).mapIdx (λi x=>(i,x)):=by rfl) (kQ:(parts.toList.map (·.2)).length=c_:=by rfl) (ah:M.length=c_:=by rfl) (mY:br=en.z:=by rfl) (hzero:hY P e en.z=true:=by kernel_rfl) (au:Nat.ble (c_ * en.z) 16777216=true:=by rfl) (gh:Nat.ble c_ 16777216=true:=by rfl) [hv:iw (ar en M) (ay en M)] (ag:Nat.beq ops.size (bL+l.length+1)=true:=by rfl) (aU:g d=none:=by rfl) (az:acc.all (λe=>!Nat.beq e.2.1 d)=true:=by rfl) (a8:N.ok d=true:=by rfl):cA (bL::dR) P N ops a' g i acc (⟨some d,.buildSlice gA c_ parts,ty,pos,after,none⟩::l) K :=
 b1.hA bL (O.bs en M (mY ▸ ak.p) (qY j) J aS av kQ ah hzero au gh) ag aU az a8 .none hk
theorem Ll {dR:List Nat}(M:List α) {e c_ br:Nat}{gA:TypeId}{parts:Array (Nat × Operand)}{ys:List ab}{en:bz α}(ax:vA d l=false) [het:hr P gA α en] [ak:eg P gA e br] (hk:cA dR P N ops a' g i ((bL,d,some (ar en M))::acc) l K) (j:(fZ (jq a' g bL acc) (parts.toList.map (·.2))).bind kT=some ys:=by rfl) (J:l0 ys=some (bw en M):=by rfl) (aS:ys.all (λy=>match h0 y with | some c=>Nat.beq c.length en.z | none=>false)=true:=by rfl) (av:parts.toList=(parts.toList.map (·.2)).mapIdx (λi x=>(i,x)):=by rfl) (kQ:(parts.toList.map (·.2)).length=c_:=by rfl) (ah:M.length=c_:=by rfl) (mY:br=en.z:=by rfl) (hzero:hY P e en.z=true:=by kernel_rfl) (au:Nat.ble (c_ * en.z) 16777216=true:=by rfl) (gh:Nat.ble c_ 16777216=true:=by rfl) (ag:Nat.beq ops.size (bL+l.length+1)=true:=by rfl) (aU:g d=none:=by rfl) (az:acc.all (λe=>!Nat.beq e.2.1 d)=true:=by rfl) (a8:N.ok d=true:=by rfl):cA (bL::dR) P N ops a' g i acc (⟨some d,.buildSlice gA c_ parts,ty,pos,after,none⟩::l) K :=
 d_ (O.bs en M (mY ▸ ak.p) (qY j) J aS av kQ ah hzero au gh) hk ag aU az a8
theorem QR {dR:List Nat}{M:List α}{e c_ br:Nat}{gA:TypeId}{parts:Array (Nat × Operand)}{ys:List ab}{en:bz α}(ax:vA d l=true) [het:hr P gA α en] [ak:eg P gA e br] (hk:cA dR P N ops a' g i ((bL,d,some (ay en M))::acc) l K) (j:(fZ (jq a' g bL acc) (parts.toList.map (·.2))).bind kT=some ys:=by rfl) [aO:oC en ys M] (av:parts.toList=(parts.toList.map (·.2)).mapIdx (λi x=>(i,x)):=by rfl) (kQ:(parts.toList.map (·.2)).length=c_:=by rfl) (ah:ys.length=c_:=by rfl) (mY:br=en.z:=by rfl) (hzero:hY P e en.z=true:=by kernel_rfl) (au:Nat.ble (c_ * en.z) 16777216=true:=by rfl) (gh:Nat.ble c_ 16777216=true:=by rfl) [hv:iw (ar en M) (ay en M)] (ag:Nat.beq ops.size (bL+l.length+1)=true:=by rfl) (aU:g d=none:=by rfl) (az:acc.all (λe=>!Nat.beq e.2.1 d)=true:=by rfl) (a8:N.ok d=true:=by rfl):cA (bL::dR) P N ops a' g i acc (⟨some d,.buildSlice gA c_ parts,ty,pos,after,none⟩::l) K :=
 b1.hA bL (O.bs en M (mY ▸ ak.p) (qY j) aO.p.1 aO.p.2.1 av kQ (aO.p.2.2.trans ah) hzero au gh) ag aU az a8 .none hk
theorem QU {dR:List Nat}{M:List α}{e c_ br:Nat}{gA:TypeId}{parts:Array (Nat × Operand)}{ys:List ab}{en:bz α}(ax:vA d l=false) [het:hr P gA α en] [ak:eg P gA e br] (hk:cA dR P N ops a' g i ((bL,d,some (ar en M))::acc) l K) (j:(fZ (jq a' g bL acc) (parts.toList.map (·.2))).bind kT=some ys:=by rfl) [aO:oC en ys M] (av:parts.toList=(parts.toList.map (·.2)).mapIdx (λi x=>(i,x)):=by rfl) (kQ:(parts.toList.map (·.2)).length=c_:=by rfl) (ah:ys.length=c_:=by rfl) (mY:br=en.z:=by rfl) (hzero:hY P e en.z=true:=by kernel_rfl) (au:Nat.ble (c_ * en.z) 16777216=true:=by rfl) (gh:Nat.ble c_ 16777216=true:=by rfl) (ag:Nat.beq ops.size (bL+l.length+1)=true:=by rfl) (aU:g d=none:=by rfl) (az:acc.all (λe=>!Nat.beq e.2.1 d)=true:=by rfl) (a8:N.ok d=true:=by rfl):cA (bL::dR) P N ops a' g i acc (⟨some d,.buildSlice gA c_ parts,ty,pos,after,none⟩::l) K :=
 d_ (O.bs en M (mY ▸ ak.p) (qY j) aO.p.1 aO.p.2.1 av kQ (aO.p.2.2.trans ah) hzero au gh) hk ag aU az a8
theorem QV {dR:List Nat}{hp:List Nat}(jA:sB [] (qf acc G)=some ks) (eM:B' (qf acc G) [] [] (qf acc G)=some hp) (he:nW ks hp P N (c9 (get G) (λ_=>true) acc) o (get G2)) (hk:cA dR P N ops a' (get G2) (bL+1) [] l K) (aI:o.guard=none:=by rfl) (gS:rF ((acc.filterMap ke).map Place.root)=true:=by rfl) (fO:mD G=true:=by rfl) (ag:Nat.beq ops.size (bL+l.length+1)=true:=by rfl)
  (aQ:(List.range bL).all (λk=>(a'.getD bL []).contains k)=true:=by kernel_rfl) (au:(List.range ops.size).all (λk=>Nat.ble k bL||(a'.getD k []).contains bL)=true:=by kernel_rfl):cA (bL::dR) P N ops a' (get G) i acc (o::l) K:=.v7 _ he aI gS fO ag aQ au hk
theorem QT {dR:List Nat}{hp:List Nat}(jA:sB (d::roots (qf acc G) a) (qf acc G)=some ks) (eM:B' (qf acc G) (d::roots (qf acc G) a) [] (qf acc G)=some hp) (he:nW ks hp P N (c9 (get G) (λ_=>true) acc) ⟨some d,.assign a,ty,pos,after,none⟩ (cH (get G2) d v)) (hk:cA dR P N ops a' (get ((d,v)::G2)) (bL+1) [] l K) (gS:rF ((acc.filterMap ke).map Place.root)=true:=by rfl) (fO:mD G=true:=by rfl) (ag:Nat.beq ops.size (bL+l.length+1)=true:=by rfl)
  (aQ:(List.range bL).all (λk=>(a'.getD bL []).contains k)=true:=by kernel_rfl) (au:(List.range ops.size).all (λk=>Nat.ble k bL||(a'.getD k []).contains bL)=true:=by kernel_rfl):cA (bL::dR) P N ops a' (get G) i acc (⟨some d,.assign a,ty,pos,after,none⟩::l) K:=.bv _ he rfl gS fO ag aQ au hk
theorem b1.MR {K:aG->Prop}(aS:w_ (acc.filterMap ke)=true) (fO:mD G=true) (hi:Nat.ble i ops.size=true) (dz:K (c9 (get G) (λ_=>true) acc)):b1 P N ops a' (get G) i acc [] K:=by
 intro dM aa cV mx lE;have ag:aa=ops.size:=by
  have h1:ops.size<=aa:=by
   have:=congrArg List.length lE;rw [List.length_drop,List.length_nil,Array.length_toList] at this;omega
  have aJ:aa<=ops.size:=by
   cases mx with
   | nil=>exact Nat.le_of_ble_eq_true hi
   | step _ aM=>have:=(Array.getElem?_eq_some_iff.1 aM).1; omega
  omega
 subst ag;exact ⟨_,.fin mx (J7 aS) (xd fO),dz⟩
theorem QP {dR:List Nat}{DB:k3->List (Nat × ab)->Prop}(jA:JU E [] (qf acc G)=some ks) (av:pick (c9 (get G) (λ_=>true) acc) ks=some G1) [az:hZ G1] (hk:DB t G1) (aS:w_ (acc.filterMap ke)=true:=by rfl) (fO:mD G=true:=by rfl) (hi:Nat.ble i ops.size=true:=by rfl):cA dR P N ops a' (get G) i acc [] (x7 E t DB) :=
 .MR aS fO hi ⟨G1,(tQ (c:=true) (g2:=get G1) av az.p).ey,hk⟩
theorem QO {dR:List Nat}{F:α->List (Nat × ab)}{aa v:α}(h:some v=some aa) (ak:Trim true (c9 (get G) (λ_=>true) acc) (get (F v)) (F v)) (aS:w_ (acc.filterMap ke)=true:=by rfl) (fO:mD G=true:=by rfl) (hi:Nat.ble i ops.size=true:=by rfl):cA dR P N ops a' (get G) i acc [] (qR F aa .normal):=by
 cases h; exact .MR aS fO hi ⟨rfl,.ey ak.ey .hz⟩
theorem cy.rd [hm:Ah P] (h:cA num P N l.toArray a' (get G) 0 [] l (x7 E y λt G1=>cy E t P N B G1 Φ)) (dm:oI l.toArray a'=true:=by kernel_rfl):cy E (.rd id a' y) P N (.seq (.region id l.toArray true) B) G Φ:=by
 obtain ⟨g',h1,G1,af,aJ⟩:=h [] 0 .nil .nil (by simp);exact W.seq ((fK.draw hm.p dm h1).w (W.weaken af aJ))
theorem cy.bW {m:Option α}{f:α->Option β}{r:β}{L cM:α->List (Nat × ab)} [hm:Ah P] (h:m.bind f=some r) (h1:∀ aa,m=some aa->cA num P N l.toArray a' (get G) 0 [] l (qR cM aa .normal)) (af:∀ aa,m=some aa->f aa=some r->cy E y P N B (cM aa) Φ)
  (aE:∀ aa,pick (oZ (L aa) G) ks=some (cM aa):=by intro aa; rfl) (dm:oI l.toArray a'=true:=by kernel_rfl):cy E (.bW id a' ks L y) P N (.seq (.region id l.toArray true) B) G Φ:=by
 obtain ⟨aa,ag,h⟩:=qg h;obtain ⟨g',bO,_,e1⟩:=h1 aa ag [] 0 .nil .nil (by simp);exact W.seq ((fK.draw hm.p dm bO).w (W.be (af aa ag h) e1))
theorem cy.YI [hm:Ah P] (h:cA num P N l.toArray a' (get G) 0 [] l (x7 E y λt G1=>d' E t .normal Φ G1)) (dm:oI l.toArray a'=true:=by kernel_rfl):cy E (.rd id a' y) P N (.region id l.toArray true) G Φ:=by
 obtain ⟨g',h1,G1,af,aJ⟩:=h [] 0 .nil .nil (by simp);exact (fK.draw hm.p dm h1).w (aJ g' (.ey af .hz))
theorem cy.YP {m:Option α}{f:α->Option β}{r:β}{L cM:α->List (Nat × ab)} [hm:Ah P] (h:m.bind f=some r) (h1:∀ aa,m=some aa->cA num P N l.toArray a' (get G) 0 [] l (qR cM aa .normal)) (af:∀ aa,m=some aa->f aa=some r->d' E y .normal Φ (cM aa))
  (aE:∀ aa,pick (oZ (L aa) G) ks=some (cM aa):=by intro aa; rfl) (dm:oI l.toArray a'=true:=by kernel_rfl):cy E (.bW id a' ks L y) P N (.region id l.toArray true) G Φ:=by
 obtain ⟨aa,ag,h⟩:=qg h;obtain ⟨g',bO,_,e1⟩:=h1 aa ag [] 0 .nil .nil (by simp);exact (fK.draw hm.p dm bO).w (af aa ag h _ e1)
theorem cy.YO {m:Option α}{f:α->Option β}{r:β}{L cM:α->List (Nat × ab)}(h:m.bind f=some r) (h1:∀ aa,m=some aa->aC P N l.toArray l (get G) (qR cM aa .normal)) (af:∀ aa,m=some aa->f aa=some r->d' E y .normal Φ (cM aa))
  (aE:∀ aa,pick (oZ (L aa) G) ks=some (cM aa):=by intro aa; rfl):cy E (.eT id ks L y) P N (.region id l.toArray false) G Φ:=by
 obtain ⟨aa,ag,h⟩:=qg h;exact W.zN λi hi=>by
  obtain ⟨g',bO,_,e1⟩:=h1 aa ag i hi;exact ⟨g',bO,af aa ag h _ e1⟩
theorem cy.gz {S R gw:Type}{f:S->Option (S ⊕ (R ⊕ gw))}{s:S}{HF:R ⊕ gw->Option β}{r:β}{F cM:S->List (Nat × ab)}{ks rE Ca:List Nat}{X lZ:R->List (Nat × ab)}{Y s5:gw->List (Nat × ab)}(h:(b0 f s).bind HF=some r)
  (au:∀ s o,f s=some o->cy E x P N c (cM s) (kL cM (Ak id lZ s5) o)) (j:∀ dk,HF (.inl dk)=some r->d' E y (.exit id) Φ (lZ dk)) (ai:∀ dk,HF (.inr dk)=some r->d' E z .ret Φ (s5 dk))
  (aE:∀ s,pick (oZ (F s) G) ks=some (cM s):=by intro s; rfl) (wu:∀ s,pick (oZ (X s) G) rE=some (lZ s):=by intro s; rfl) (Ic:∀ s,pick (oZ (Y s) G) Ca=some (s5 s):=by intro s; rfl) (ak:Trim true (get G) (get (cM s)) (cM s):=by (repeat' first | exact .nil | refine .n rfl ?_ | refine .w rfl rfl .oq ?_ | refine .w rfl rfl .oX ?_ | refine .w rfl rfl (jS.obj (by (repeat' first | exact .nil | refine .f ?_ | refine .o ?_ | refine .i ?_))) ?_)) :
  cy E (.gz F ks id X rE Y Ca x y z) P N (.loop c) G Φ:=by
 obtain ⟨dk,ah,h⟩:=qg h;exact W.dr ak (W.O1 cM id lZ s5 ah au (λq e=>j q (e ▸ h)) (λq e=>ai q (e ▸ h)))
theorem d'.x2 {S R gw:Type}{r:R}{o:S ⊕ (R ⊕ gw)}{F:S->List (Nat × ab)}{X:R->List (Nat × ab)}{Y:gw->List (Nat × ab)}(h:some (.inr (.inl r))=some o) (ak:Trim true (get G) (get (X r)) (X r)):d' E t (.exit id) (kL F (Ak id X Y) o) G:=by
 cases h; exact aD.x2 ak
theorem d'.jJ {S R gw:Type}{r:gw}{o:S ⊕ (R ⊕ gw)}{F:S->List (Nat × ab)}{X:R->List (Nat × ab)}{Y:gw->List (Nat × ab)}(h:some (.inr (.inr r))=some o) (ak:Trim true (get G) (get (Y r)) (Y r)):d' E t .ret (kL F (Ak id X Y) o) G:=by
 cases h; exact aD.jJ ak
end
section
variable {P:Program}{N:cN}{E:List Nat}{t x y z:k3}{A B c:Code}{G:List (Nat × ab)}{Φ:Exit->aG->Prop}{id k s:Nat}{o:Operand}
theorem jQ.eF {α:Type}{en:bz α}{i:Option Nat}(h:cy E (.eF id s i en y) P N c G Φ):cy E (.eF id s i en y) P N c G Φ:=h
theorem jQ.r8 {α:Type}{en:bz α}{i:Option Nat}(h:cy E (.r8 s i en y) P N c G Φ):cy E (.r8 s i en y) P N c G Φ:=h
theorem jQ.eT {α:Type}{ks:List Nat}{L:α->List (Nat × ab)}(h:cy E (.eT id ks L y) P N c G Φ):cy E (.eT id ks L y) P N c G Φ:=h
theorem jQ.bW {α:Type}{a':List (List Nat)}{ks:List Nat}{L:α->List (Nat × ab)}(h:cy E (.bW id a' ks L y) P N c G Φ):cy E (.bW id a' ks L y) P N c G Φ:=h
theorem jQ.rd {a':List (List Nat)}(h:cy E (.rd id a' y) P N c G Φ):cy E (.rd id a' y) P N c G Φ:=h
theorem jQ.bB (h:cy E t P N (.cond o A B) G Φ):cy E t P N (.cond o A B) G Φ:=h
theorem jQ.eK (h:cy E t P N (.loop A) G Φ):cy E t P N (.loop A) G Φ:=h
theorem jQ.JQ {α:Type}{ks:List Nat}{L:α->List (Nat × ab)}(h:cy E (.ds ks L x y) P N (.block id A) G Φ):cy E (.ds ks L x y) P N (.block id A) G Φ:=h
theorem jQ.rg {ops:Array Oper}{b:Bool}(h:cy E t P N (.region id ops b) G Φ):cy E t P N (.region id ops b) G Φ:=h
theorem jQ.Yy {S R:Type}{F:S->List (Nat × ab)}{dZ:R->Exit->aG->Prop}{o:S ⊕ R}{e:Exit}(h:d' E t e (kL F dZ o) G):d' E t e (kL F dZ o) G:=h
theorem jQ.YB {α:Type}{F:α->List (Nat × ab)}{aa:α}{e:Exit}(h:d' E t e (qR F aa) G):d' E t e (qR F aa) G:=h
theorem jQ.Sb (h:d' E t (.exit k) (lI id Φ) G):d' E t (.exit k) (lI id Φ) G:=h
theorem jQ.Yx {rs:List ResultVar}{n:Nat}{outs:List (Option ab)}{res:ab}{e:Exit}(h:d' E t e (pd P N rs n outs res) G):d' E t e (pd P N rs n outs res) G:=h
end
section
variable {P:Program}{N:cN}{E:List Nat}{t:k3}{G:List (Nat × ab)}{g':aG}{rs:List ResultVar}{ys xs:List ab}{res:ab}{outs:List (Option ab)}{n:Nat}
theorem jO.MC {g wk:aG}{s z:Nat}{gA:TypeId}{cs ys0:List ab}{rs:List ResultVar}{ys xs:List ab}(h:g s=some (.obj cs)) [ak:j6 P gA z] (aS:cs.length=z) (aH:Nat.blt 0 z=true) (ai:xB (λi x=>fA 0 ⟨s,[i]⟩ x) 0 num cs=some ys0) (hk:mK s g 0 ys0 cs wk) (aj:jO P wk rs ys xs g'):jO P g (.cell s gA::rs) (.agg ys0::ys) (.agg cs::xs) g':=.c h ak.p aS aH (by have:=C8 ai; simpa using this) hk aj
theorem d'.ei (h:jO P (get G) rs ys xs g':=by (repeat' first | exact .nil | (apply jO.f rfl rfl) | (apply jO.o rfl) | (apply jO.MC rfl rfl rfl rfl) | (apply mK.f rfl) | (apply mK.o rfl))) (he:ov xs=res:=by rfl) (aM:qd g' N.pins 0 outs:=by (repeat' first | exact .nil | refine .no ?_ | refine .al rfl rfl ?_)) (ft:(rs.filterMap fun | .cell t _=>some t | _=>none).Nodup:=by exact of_decide_eq_true (by kernel_rfl)) (ah:outs.length=n:=by rfl):d' E t .ret (pd P N rs n outs res) G:=mg h he aM ft ah
theorem d'.fn (h:jO P (get G) rs ys xs g':=by (repeat' first | exact .nil | (apply jO.f rfl rfl) | (apply jO.o rfl) | (apply jO.MC rfl rfl rfl rfl) | (apply mK.f rfl) | (apply mK.o rfl))) (he:ov xs=res:=by rfl) (aM:qd g' N.pins 0 outs:=by (repeat' first | exact .nil | refine .no ?_ | refine .al rfl rfl ?_)) (ft:(rs.filterMap fun | .cell t _=>some t | _=>none).Nodup:=by exact of_decide_eq_true (by kernel_rfl)) (ah:outs.length=n:=by rfl):d' E t .normal (pd P N rs n outs res) G:=aD.fin (Fin.ro h he ft aM ah (.inl rfl))
set_option maxRecDepth 1000000 in
/-- The walk: what it meets it does. -/
theorem dy {p:Prop}(h:p:=by
(repeat' (first
 | ((with_reducible apply aC.bI _ none); first
  | ((with_reducible apply aC.bI (.move _) none); first | refine ea (O.a1 .q) ?_)
  | ((with_reducible apply aC.bI (.assign (.const _)) none); first | refine ea (O.dK .q) ?_)
  | ((with_reducible apply aC.bI (.assign (.tmp _)) none); first | refine ea (O.dK .zI) ?_)
  | ((with_reducible apply aC.bI (.load _ _) none); first | refine ea (O.eR) ?_ | refine ea (O.eY) ?_ | refine ea (O.vE) ?_ | refine ea (O.vF) ?_ | refine ea (O.F5) ?_ | refine ea (O.F_) ?_ | refine ea (O.Gi) ?_)
  | ((with_reducible apply aC.bI (.fieldAddr _ _ _) none); first | refine ea (O.z8) ?_ | refine ea (O.F3) ?_ | refine ea (O.wf) ?_)
  | ((with_reducible apply aC.bI (.indexAddr _ _ _) none); first | refine aP h λx j h=>ea (O.F4 j) ?_ | refine aP h λx j h=>ea (O.tZ j) ?_ | refine ea (O.ey) ?_ | refine ea (O.F') ?_)
  | ((with_reducible apply aC.bI (.binOp .add _ _ _ _) none); first | refine ea (O.add .q .q) ?_ | refine aP h λx j h=>ea (O.cat .q .q j) ?_)
  | ((with_reducible apply aC.bI (.binOp .sub _ _ _ _) none); first | refine ea (O.sub .q .q) ?_)
  | ((with_reducible apply aC.bI (.binOp .mul _ _ _ _) none); first | refine ea (O.mul .q .q) ?_)
  | ((with_reducible apply aC.bI (.binOp .lss _ _ _ _) none); first | refine ea (O.lss .q .q) ?_)
  | ((with_reducible apply aC.bI (.binOp .leq _ _ _ _) none); first | refine ea (O.leq .q .q) ?_)
  | ((with_reducible apply aC.bI (.binOp .gtr _ _ _ _) none); first | refine ea (O.gtr .q .q) ?_)
  | ((with_reducible apply aC.bI (.binOp .geq _ _ _ _) none); first | refine ea (O.geq .q .q) ?_)
  | ((with_reducible apply aC.bI (.binOp .eql _ _ _ _) none); first | refine ea (O.eql .q .q) ?_ | refine ea (O.px .q .q) ?_ | refine ea (O.Ee .q .q (by kernel_rfl)) ?_ | refine ea (O.nR) ?_)
  | ((with_reducible apply aC.bI (.binOp .neq _ _ _ _) none); first | refine ea (O.neq .q .q) ?_ | refine ea (O.nN .q .q) ?_ | refine ea (O.wn) ?_)
  | ((with_reducible apply aC.bI (.binOp .quo _ _ _ _) none); first | refine aP h λx j h=>ea (O.quo .q .q j) ?_ | refine aP h λx j h=>ea (O.o1 .q .q j) ?_)
  | ((with_reducible apply aC.bI (.binOp .rem _ _ _ _) none); first | refine aP h λx j h=>ea (O.rem .q .q j) ?_ | refine aP h λx j h=>ea (O.o3 .q .q j) ?_)
  | ((with_reducible apply aC.bI (.unOp .not _ _) none); first | refine ea (O.not .q) ?_)
  | ((with_reducible apply aC.bI (.unOp .neg _ _) none); first | refine ea (O.neg .q) ?_)
  | ((with_reducible apply aC.bI (.pick _ _ _) none); first | refine ea (O.lJ .q (by first | rfl | assumption) .q) ?_ | refine ea (O.nm .q (by first | rfl | assumption) .q) ?_)
  | ((with_reducible apply aC.bI (.nilCheck _) none); first | refine ea (O.dV .q) ?_ | refine ea (O.xb .q) ?_)
  | ((with_reducible apply aC.bI (.index _ _ _) none); first | refine aP h λx j h=>ea (O.at' .q .q iu.p j) ?_)
  | ((with_reducible apply aC.bI (.extract _ _) none); first | refine ea (O.Gg) ?_)
  | ((with_reducible apply aC.bI (.convert _ _ _) none); first | refine ea (O.F9) ?_ | refine ea (O.F8) ?_)
  | ((with_reducible apply aC.bI (.box _ _) none); first | refine ea (O.z7) ?_)
  | ((with_reducible apply aC.bI (.alloc _) none); first | refine ea (O.F6) ?_ | refine ea (O.F7) ?_)
  | ((with_reducible apply aC.bI (.build _ _) none); first | refine ea (O.Gf) ?_)
  | ((with_reducible apply aC.bI (.field _ _ _) none); first | refine ea (O.wd) ?_)
  | ((with_reducible apply aC.bI (.makeSlice _ _ _) none); first | refine aP h λx j h=>ea (O.Ga j) ?_ | refine aP h λx j h=>ea (O.Gh j) ?_)
  | ((with_reducible apply aC.bI (.buildSlice _ 0 #[]) none); first | refine ea (O.wl) ?_)
  | ((with_reducible apply aC.bI (.makeFunc _ _ _) none); first | refine ea (O.Fe rfl) ?_)
  | ((with_reducible apply aC.bI (.slice _ _ _ _ _) none); first | refine aP h λx j h=>ea (O.sO .q .q .q iu.p j) ?_ | refine aP h λx j h=>ea (O.FQ .q .q iu.p j) ?_ | refine aP h λx j h=>ea (O.FR .q .q iu.p j) ?_ | refine aP h λx j h=>ea (O.Ge j) ?_ | refine aP h λx j h=>ea (O.Gc j) ?_ | refine aP h λx j h=>ea (O.Gd j) ?_)
  | ((with_reducible apply aC.bI (.call { callee:=.builtin .len,args:=#[_],argTypes:=#[_] }) none); first | refine ea (O.tK .q eg.p) ?_ | refine ea (O.l9 .q eg.p) ?_ | refine ea (O.qx .q iu.p) ?_)
  | ((with_reducible apply aC.bI (.call { callee:=.builtin .append,args:=#[_,_],argTypes:=#[_,_] }) none); first | refine aP h λx j h=>ea (O.wp j) ?_ | refine aP h λx j h=>ea (O.Gb j) ?_ | refine aP h λx j h=>ea (O.F2 j) ?_ | refine aP h λx j h=>ea (O.wr j) ?_)
  | ((with_reducible apply aC.bI (.call { callee:=.value _,args:=_,argTypes:=_ }) none); first | (refine aP h λx j h=>LJ (c3.fR ?_ (bJ.go j)) ?_; · (repeat' first | exact .nil | refine .c6 .q ?_)) | (refine aP h λx j h=>LJ (c3.mb rfl ?_ (bJ.go j)) ?_; · (repeat' first | exact .nil | refine .s ?_ | refine .c (View.nO rfl rfl) ?_ | refine .c (.row rfl) ?_ | refine .c (View.mM ?_) ?_ | refine .c (View.cl ?_) ?_)) | (refine aP h λx j h=>QZ (bJ.go j) rfl rfl rfl rfl rfl (by repeat' first | exact .nil | refine .b rfl ?_ | refine .n rfl ?_) ?_))
  | ((with_reducible apply aC.bI (.buildSlice _ _ _) none); first | refine Q' h ?_ | refine Rb rfl ?_ | refine Rc rfl ?_ | refine LK [_] rfl ?_ | refine LK [_,_] rfl ?_)
  | ((with_reducible apply aC.bI (.assign _) none); refine Re rfl rfl rfl ?_)
  | ((with_reducible apply aC.bI (.move _) none); refine Rf rfl rfl rfl ?_)
  | ((with_reducible apply aC.bI (.move _) none); first | refine GI rfl rfl (O.a1 .q) ?_)
  | ((with_reducible apply aC.bI (.assign (.const _)) none); first | refine GI rfl rfl (O.dK .q) ?_)
  | ((with_reducible apply aC.bI (.assign (.tmp _)) none); first | refine GI rfl rfl (O.dK .zI) ?_)
  | ((with_reducible apply aC.bI (.assign (.tmp _)) none); refine Q0 rfl rfl (by first | exact hq.oJ | exact hq.vV | exact hq.DV | exact hq.mM .q (by repeat' first | exact fc.nil | (apply fc.f) | (apply fc.r rfl) | (apply fc.mM) | (apply fc.b rfl))) ?_))
 | ((with_reducible apply aC.jK); refine Q1 rfl rfl (by first | exact hq.jo | exact hq.qL | exact hq.zY | exact hq.sp | exact hq.tS | exact hq.Qc .q (by repeat' first | exact fc.nil | (apply fc.f) | (apply fc.r rfl) | (apply fc.mM) | (apply fc.b rfl))) ?_)
 | ((with_reducible apply aC.bI _ (some _)); first
  | refine p' ?_
  | refine Q5 ?_
  | ((with_reducible apply aC.bI (.move _) (some _)); first | refine eh (O.a1 .q) ?_)
  | ((with_reducible apply aC.bI (.assign (.const _)) (some _)); first | refine eh (O.dK .q) ?_)
  | ((with_reducible apply aC.bI (.assign (.tmp _)) (some _)); first | refine eh (O.dK .zI) ?_)
  | ((with_reducible apply aC.bI (.load _ _) (some _)); first | refine eh (O.eR) ?_ | refine eh (O.eY) ?_ | refine eh (O.vE) ?_ | refine eh (O.vF) ?_ | refine eh (O.F5) ?_ | refine eh (O.F_) ?_ | refine eh (O.Gi) ?_)
  | ((with_reducible apply aC.bI (.fieldAddr _ _ _) (some _)); first | refine eh (O.z8) ?_ | refine eh (O.F3) ?_ | refine eh (O.wf) ?_)
  | ((with_reducible apply aC.bI (.indexAddr _ _ _) (some _)); first | refine aP h λx j h=>eh (O.F4 j) ?_ | refine aP h λx j h=>eh (O.tZ j) ?_ | refine eh (O.ey) ?_ | refine eh (O.F') ?_)
  | ((with_reducible apply aC.bI (.binOp .add _ _ _ _) (some _)); first | refine eh (O.add .q .q) ?_ | refine aP h λx j h=>eh (O.cat .q .q j) ?_)
  | ((with_reducible apply aC.bI (.binOp .sub _ _ _ _) (some _)); first | refine eh (O.sub .q .q) ?_)
  | ((with_reducible apply aC.bI (.binOp .mul _ _ _ _) (some _)); first | refine eh (O.mul .q .q) ?_)
  | ((with_reducible apply aC.bI (.binOp .lss _ _ _ _) (some _)); first | refine eh (O.lss .q .q) ?_)
  | ((with_reducible apply aC.bI (.binOp .leq _ _ _ _) (some _)); first | refine eh (O.leq .q .q) ?_)
  | ((with_reducible apply aC.bI (.binOp .gtr _ _ _ _) (some _)); first | refine eh (O.gtr .q .q) ?_)
  | ((with_reducible apply aC.bI (.binOp .geq _ _ _ _) (some _)); first | refine eh (O.geq .q .q) ?_)
  | ((with_reducible apply aC.bI (.binOp .eql _ _ _ _) (some _)); first | refine eh (O.eql .q .q) ?_ | refine eh (O.px .q .q) ?_ | refine eh (O.Ee .q .q (by kernel_rfl)) ?_ | refine eh (O.nR) ?_)
  | ((with_reducible apply aC.bI (.binOp .neq _ _ _ _) (some _)); first | refine eh (O.neq .q .q) ?_ | refine eh (O.nN .q .q) ?_ | refine eh (O.wn) ?_)
  | ((with_reducible apply aC.bI (.binOp .quo _ _ _ _) (some _)); first | refine aP h λx j h=>eh (O.quo .q .q j) ?_ | refine aP h λx j h=>eh (O.o1 .q .q j) ?_)
  | ((with_reducible apply aC.bI (.binOp .rem _ _ _ _) (some _)); first | refine aP h λx j h=>eh (O.rem .q .q j) ?_ | refine aP h λx j h=>eh (O.o3 .q .q j) ?_)
  | ((with_reducible apply aC.bI (.unOp .not _ _) (some _)); first | refine eh (O.not .q) ?_)
  | ((with_reducible apply aC.bI (.unOp .neg _ _) (some _)); first | refine eh (O.neg .q) ?_)
  | ((with_reducible apply aC.bI (.pick _ _ _) (some _)); first | refine eh (O.lJ .q (by first | rfl | assumption) .q) ?_ | refine eh (O.nm .q (by first | rfl | assumption) .q) ?_)
  | ((with_reducible apply aC.bI (.nilCheck _) (some _)); first | refine eh (O.dV .q) ?_ | refine eh (O.xb .q) ?_)
  | ((with_reducible apply aC.bI (.index _ _ _) (some _)); first | refine aP h λx j h=>eh (O.at' .q .q iu.p j) ?_)
  | ((with_reducible apply aC.bI (.extract _ _) (some _)); first | refine eh (O.Gg) ?_)
  | ((with_reducible apply aC.bI (.convert _ _ _) (some _)); first | refine eh (O.F9) ?_ | refine eh (O.F8) ?_)
  | ((with_reducible apply aC.bI (.box _ _) (some _)); first | refine eh (O.z7) ?_)
  | ((with_reducible apply aC.bI (.alloc _) (some _)); first | refine eh (O.F6) ?_ | refine eh (O.F7) ?_)
  | ((with_reducible apply aC.bI (.build _ _) (some _)); first | refine eh (O.Gf) ?_)
  | ((with_reducible apply aC.bI (.field _ _ _) (some _)); first | refine eh (O.wd) ?_)
  | ((with_reducible apply aC.bI (.makeSlice _ _ _) (some _)); first | refine aP h λx j h=>eh (O.Ga j) ?_ | refine aP h λx j h=>eh (O.Gh j) ?_)
  | ((with_reducible apply aC.bI (.buildSlice _ 0 #[]) (some _)); first | refine eh (O.wl) ?_)
  | ((with_reducible apply aC.bI (.makeFunc _ _ _) (some _)); first | refine eh (O.Fe rfl) ?_)
  | ((with_reducible apply aC.bI (.slice _ _ _ _ _) (some _)); first | refine aP h λx j h=>eh (O.sO .q .q .q iu.p j) ?_ | refine aP h λx j h=>eh (O.FQ .q .q iu.p j) ?_ | refine aP h λx j h=>eh (O.FR .q .q iu.p j) ?_ | refine aP h λx j h=>eh (O.Ge j) ?_ | refine aP h λx j h=>eh (O.Gc j) ?_ | refine aP h λx j h=>eh (O.Gd j) ?_)
  | ((with_reducible apply aC.bI (.call { callee:=.builtin .len,args:=#[_],argTypes:=#[_] }) (some _)); first | refine eh (O.tK .q eg.p) ?_ | refine eh (O.l9 .q eg.p) ?_ | refine eh (O.qx .q iu.p) ?_)
  | ((with_reducible apply aC.bI (.call { callee:=.builtin .append,args:=#[_,_],argTypes:=#[_,_] }) (some _)); first | refine aP h λx j h=>eh (O.wp j) ?_ | refine aP h λx j h=>eh (O.Gb j) ?_ | refine aP h λx j h=>eh (O.F2 j) ?_ | refine aP h λx j h=>eh (O.wr j) ?_)
  | ((with_reducible apply aC.bI (.call { callee:=.value _,args:=_,argTypes:=_ }) (some _)); first | (refine aP h λx j h=>Ls (c3.fR ?_ (bJ.go j)) ?_; · (repeat' first | exact .nil | refine .c6 .q ?_)) | (refine aP h λx j h=>Ls (c3.mb rfl ?_ (bJ.go j)) ?_; · (repeat' first | exact .nil | refine .s ?_ | refine .c (View.nO rfl rfl) ?_ | refine .c (.row rfl) ?_ | refine .c (View.mM ?_) ?_ | refine .c (View.cl ?_) ?_)))
  | refine Hf h (λau h=>?_) (λau h=>?_))
 | ((with_reducible apply aC.nl); first | refine GC rfl rfl ?_ | refine Q2 h (by (repeat' first | exact .nil | refine .n rfl ?_ | refine .w rfl rfl .oq ?_ | refine .w rfl rfl .oX ?_ | refine .w rfl rfl (jS.obj (by (repeat' first | exact .nil | refine .f ?_ | refine .o ?_ | refine .i ?_))) ?_)))
 | ((with_reducible apply cA.bI _ none); first
  | ((with_reducible apply cA.bI (.move _) none); first | refine d_ (O.a1 .q) ?_)
  | ((with_reducible apply cA.bI (.assign (.const _)) none); first | refine d_ (O.dK .q) ?_)
  | ((with_reducible apply cA.bI (.assign (.tmp _)) none); first | refine d_ (O.dK .zI) ?_)
  | ((with_reducible apply cA.bI (.load _ _) none); first | refine d_ (O.eR) ?_ | refine d_ (O.eY) ?_ | refine d_ (O.vE) ?_ | refine d_ (O.vF) ?_ | refine d_ (O.F5) ?_ | refine d_ (O.F_) ?_ | refine d_ (O.Gi) ?_)
  | ((with_reducible apply cA.bI (.fieldAddr _ _ _) none); first | refine d_ (O.z8) ?_ | refine d_ (O.F3) ?_ | refine d_ (O.wf) ?_)
  | ((with_reducible apply cA.bI (.indexAddr _ _ _) none); first | refine aP h λx j h=>d_ (O.F4 j) ?_ | refine aP h λx j h=>d_ (O.tZ j) ?_ | refine d_ (O.ey) ?_ | refine d_ (O.F') ?_)
  | ((with_reducible apply cA.bI (.binOp .add _ _ _ _) none); first | refine d_ (O.add .q .q) ?_ | refine aP h λx j h=>d_ (O.cat .q .q j) ?_)
  | ((with_reducible apply cA.bI (.binOp .sub _ _ _ _) none); first | refine d_ (O.sub .q .q) ?_)
  | ((with_reducible apply cA.bI (.binOp .mul _ _ _ _) none); first | refine d_ (O.mul .q .q) ?_)
  | ((with_reducible apply cA.bI (.binOp .lss _ _ _ _) none); first | refine d_ (O.lss .q .q) ?_)
  | ((with_reducible apply cA.bI (.binOp .leq _ _ _ _) none); first | refine d_ (O.leq .q .q) ?_)
  | ((with_reducible apply cA.bI (.binOp .gtr _ _ _ _) none); first | refine d_ (O.gtr .q .q) ?_)
  | ((with_reducible apply cA.bI (.binOp .geq _ _ _ _) none); first | refine d_ (O.geq .q .q) ?_)
  | ((with_reducible apply cA.bI (.binOp .eql _ _ _ _) none); first | refine d_ (O.eql .q .q) ?_ | refine d_ (O.px .q .q) ?_ | refine d_ (O.Ee .q .q (by kernel_rfl)) ?_ | refine d_ (O.nR) ?_)
  | ((with_reducible apply cA.bI (.binOp .neq _ _ _ _) none); first | refine d_ (O.neq .q .q) ?_ | refine d_ (O.nN .q .q) ?_ | refine d_ (O.wn) ?_)
  | ((with_reducible apply cA.bI (.binOp .quo _ _ _ _) none); first | refine aP h λx j h=>d_ (O.quo .q .q j) ?_ | refine aP h λx j h=>d_ (O.o1 .q .q j) ?_)
  | ((with_reducible apply cA.bI (.binOp .rem _ _ _ _) none); first | refine aP h λx j h=>d_ (O.rem .q .q j) ?_ | refine aP h λx j h=>d_ (O.o3 .q .q j) ?_)
  | ((with_reducible apply cA.bI (.unOp .not _ _) none); first | refine d_ (O.not .q) ?_)
  | ((with_reducible apply cA.bI (.unOp .neg _ _) none); first | refine d_ (O.neg .q) ?_)
  | ((with_reducible apply cA.bI (.pick _ _ _) none); first | refine d_ (O.lJ .q (by first | rfl | assumption) .q) ?_ | refine d_ (O.nm .q (by first | rfl | assumption) .q) ?_)
  | ((with_reducible apply cA.bI (.nilCheck _) none); first | refine d_ (O.dV .q) ?_ | refine d_ (O.xb .q) ?_)
  | ((with_reducible apply cA.bI (.index _ _ _) none); first | refine aP h λx j h=>d_ (O.at' .q .q iu.p j) ?_)
  | ((with_reducible apply cA.bI (.extract _ _) none); first | refine d_ (O.Gg) ?_)
  | ((with_reducible apply cA.bI (.convert _ _ _) none); first | refine d_ (O.F9) ?_ | refine d_ (O.F8) ?_)
  | ((with_reducible apply cA.bI (.box _ _) none); first | refine d_ (O.z7) ?_)
  | ((with_reducible apply cA.bI (.alloc _) none); first | refine d_ (O.F6) ?_ | refine d_ (O.F7) ?_)
  | ((with_reducible apply cA.bI (.build _ _) none); first | refine d_ (O.Gf) ?_)
  | ((with_reducible apply cA.bI (.field _ _ _) none); first | refine d_ (O.wd) ?_)
  | ((with_reducible apply cA.bI (.makeSlice _ _ _) none); first | refine aP h λx j h=>d_ (O.Ga j) ?_ | refine aP h λx j h=>d_ (O.Gh j) ?_)
  | ((with_reducible apply cA.bI (.buildSlice _ 0 #[]) none); first | refine d_ (O.wl) ?_)
  | ((with_reducible apply cA.bI (.makeFunc _ _ _) none); first | refine d_ (O.Fe rfl) ?_)
  | ((with_reducible apply cA.bI (.slice _ _ _ _ _) none); first | refine aP h λx j h=>d_ (O.sO .q .q .q iu.p j) ?_ | refine aP h λx j h=>d_ (O.FQ .q .q iu.p j) ?_ | refine aP h λx j h=>d_ (O.FR .q .q iu.p j) ?_ | refine aP h λx j h=>d_ (O.Ge j) ?_ | refine aP h λx j h=>d_ (O.Gc j) ?_ | refine aP h λx j h=>d_ (O.Gd j) ?_)
  | ((with_reducible apply cA.bI (.call { callee:=.builtin .len,args:=#[_],argTypes:=#[_] }) none); first | refine d_ (O.tK .q eg.p) ?_ | refine d_ (O.l9 .q eg.p) ?_ | refine d_ (O.qx .q iu.p) ?_)
  | ((with_reducible apply cA.bI (.call { callee:=.builtin .append,args:=#[_,_],argTypes:=#[_,_] }) none); first | refine aP h λx j h=>d_ (O.wp j) ?_ | refine aP h λx j h=>d_ (O.Gb j) ?_ | refine aP h λx j h=>d_ (O.F2 j) ?_ | refine aP h λx j h=>d_ (O.QC j) ?_)
  | ((with_reducible apply cA.bI (.call { callee:=.value _,args:=_,argTypes:=_ }) none); first | (refine aP h λx j h=>Lk (c3.fR ?_ (bJ.go j)) ?_; · (repeat' first | exact .nil | refine .c6 .q ?_)) | (refine aP h λx j h=>Lk (c3.mb rfl ?_ (bJ.go j)) ?_; · (repeat' first | exact .nil | refine .s ?_ | refine .c (View.nO rfl rfl) ?_ | refine .c (.row rfl) ?_ | refine .c (View.mM ?_) ?_ | refine .c (View.cl ?_) ?_)) | (refine aP h λx j h=>QS (bJ.go j) rfl rfl rfl rfl rfl (by repeat' first | exact .nil | refine .b rfl ?_ | refine .n rfl ?_) ?_))
  | ((with_reducible apply cA.bI (.buildSlice _ _ _) none); first | refine QQ h ?_ | refine QR rfl ?_ | refine QU rfl ?_ | refine QX [_,_] rfl ?_ | refine Ll [_] rfl ?_ | refine Ll [_,_] rfl ?_)
  | ((with_reducible apply cA.bI (.assign _) none); refine QT rfl rfl (by first | exact hq.oJ | exact hq.vV | exact hq.DV | exact hq.Rx | exact hq.mM .q (by repeat' first | exact fc.nil | (apply fc.f) | (apply fc.r rfl) | (apply fc.mM) | (apply fc.b rfl))) ?_))
 | ((with_reducible apply cA.jK); refine QV rfl rfl (by first | exact hq.jo | exact hq.qL | exact hq.zY | exact hq.sp | exact hq.tS | exact hq.Qc .q (by repeat' first | exact fc.nil | (apply fc.f) | (apply fc.r rfl) | (apply fc.mM) | (apply fc.b rfl))) ?_)
 | ((with_reducible apply cA.bI _ (some _)); first
  | refine QW ?_
  | refine QY ?_
  | ((with_reducible apply cA.bI (.move _) (some _)); first | refine ef (O.a1 .q) ?_)
  | ((with_reducible apply cA.bI (.assign (.const _)) (some _)); first | refine ef (O.dK .q) ?_)
  | ((with_reducible apply cA.bI (.assign (.tmp _)) (some _)); first | refine ef (O.dK .zI) ?_)
  | ((with_reducible apply cA.bI (.load _ _) (some _)); first | refine ef (O.eR) ?_ | refine ef (O.eY) ?_ | refine ef (O.vE) ?_ | refine ef (O.vF) ?_ | refine ef (O.F5) ?_ | refine ef (O.F_) ?_ | refine ef (O.Gi) ?_)
  | ((with_reducible apply cA.bI (.fieldAddr _ _ _) (some _)); first | refine ef (O.z8) ?_ | refine ef (O.F3) ?_ | refine ef (O.wf) ?_)
  | ((with_reducible apply cA.bI (.indexAddr _ _ _) (some _)); first | refine aP h λx j h=>ef (O.F4 j) ?_ | refine aP h λx j h=>ef (O.tZ j) ?_ | refine ef (O.ey) ?_ | refine ef (O.F') ?_)
  | ((with_reducible apply cA.bI (.binOp .add _ _ _ _) (some _)); first | refine ef (O.add .q .q) ?_ | refine aP h λx j h=>ef (O.cat .q .q j) ?_)
  | ((with_reducible apply cA.bI (.binOp .sub _ _ _ _) (some _)); first | refine ef (O.sub .q .q) ?_)
  | ((with_reducible apply cA.bI (.binOp .mul _ _ _ _) (some _)); first | refine ef (O.mul .q .q) ?_)
  | ((with_reducible apply cA.bI (.binOp .lss _ _ _ _) (some _)); first | refine ef (O.lss .q .q) ?_)
  | ((with_reducible apply cA.bI (.binOp .leq _ _ _ _) (some _)); first | refine ef (O.leq .q .q) ?_)
  | ((with_reducible apply cA.bI (.binOp .gtr _ _ _ _) (some _)); first | refine ef (O.gtr .q .q) ?_)
  | ((with_reducible apply cA.bI (.binOp .geq _ _ _ _) (some _)); first | refine ef (O.geq .q .q) ?_)
  | ((with_reducible apply cA.bI (.binOp .eql _ _ _ _) (some _)); first | refine ef (O.eql .q .q) ?_ | refine ef (O.px .q .q) ?_ | refine ef (O.Ee .q .q (by kernel_rfl)) ?_ | refine ef (O.nR) ?_)
  | ((with_reducible apply cA.bI (.binOp .neq _ _ _ _) (some _)); first | refine ef (O.neq .q .q) ?_ | refine ef (O.nN .q .q) ?_ | refine ef (O.wn) ?_)
  | ((with_reducible apply cA.bI (.binOp .quo _ _ _ _) (some _)); first | refine aP h λx j h=>ef (O.quo .q .q j) ?_ | refine aP h λx j h=>ef (O.o1 .q .q j) ?_)
  | ((with_reducible apply cA.bI (.binOp .rem _ _ _ _) (some _)); first | refine aP h λx j h=>ef (O.rem .q .q j) ?_ | refine aP h λx j h=>ef (O.o3 .q .q j) ?_)
  | ((with_reducible apply cA.bI (.unOp .not _ _) (some _)); first | refine ef (O.not .q) ?_)
  | ((with_reducible apply cA.bI (.unOp .neg _ _) (some _)); first | refine ef (O.neg .q) ?_)
  | ((with_reducible apply cA.bI (.pick _ _ _) (some _)); first | refine ef (O.lJ .q (by first | rfl | assumption) .q) ?_ | refine ef (O.nm .q (by first | rfl | assumption) .q) ?_)
  | ((with_reducible apply cA.bI (.nilCheck _) (some _)); first | refine ef (O.dV .q) ?_ | refine ef (O.xb .q) ?_)
  | ((with_reducible apply cA.bI (.index _ _ _) (some _)); first | refine aP h λx j h=>ef (O.at' .q .q iu.p j) ?_)
  | ((with_reducible apply cA.bI (.extract _ _) (some _)); first | refine ef (O.Gg) ?_)
  | ((with_reducible apply cA.bI (.convert _ _ _) (some _)); first | refine ef (O.F9) ?_ | refine ef (O.F8) ?_)
  | ((with_reducible apply cA.bI (.box _ _) (some _)); first | refine ef (O.z7) ?_)
  | ((with_reducible apply cA.bI (.alloc _) (some _)); first | refine ef (O.F6) ?_ | refine ef (O.F7) ?_)
  | ((with_reducible apply cA.bI (.build _ _) (some _)); first | refine ef (O.Gf) ?_)
  | ((with_reducible apply cA.bI (.field _ _ _) (some _)); first | refine ef (O.wd) ?_)
  | ((with_reducible apply cA.bI (.makeSlice _ _ _) (some _)); first | refine aP h λx j h=>ef (O.Ga j) ?_ | refine aP h λx j h=>ef (O.Gh j) ?_)
  | ((with_reducible apply cA.bI (.buildSlice _ 0 #[]) (some _)); first | refine ef (O.wl) ?_)
  | ((with_reducible apply cA.bI (.makeFunc _ _ _) (some _)); first | refine ef (O.Fe rfl) ?_)
  | ((with_reducible apply cA.bI (.slice _ _ _ _ _) (some _)); first | refine aP h λx j h=>ef (O.sO .q .q .q iu.p j) ?_ | refine aP h λx j h=>ef (O.FQ .q .q iu.p j) ?_ | refine aP h λx j h=>ef (O.FR .q .q iu.p j) ?_ | refine aP h λx j h=>ef (O.Ge j) ?_ | refine aP h λx j h=>ef (O.Gc j) ?_ | refine aP h λx j h=>ef (O.Gd j) ?_)
  | ((with_reducible apply cA.bI (.call { callee:=.builtin .len,args:=#[_],argTypes:=#[_] }) (some _)); first | refine ef (O.tK .q eg.p) ?_ | refine ef (O.l9 .q eg.p) ?_ | refine ef (O.qx .q iu.p) ?_)
  | ((with_reducible apply cA.bI (.call { callee:=.builtin .append,args:=#[_,_],argTypes:=#[_,_] }) (some _)); first | refine aP h λx j h=>ef (O.wp j) ?_ | refine aP h λx j h=>ef (O.Gb j) ?_ | refine aP h λx j h=>ef (O.F2 j) ?_ | refine aP h λx j h=>ef (O.QC j) ?_)
  | ((with_reducible apply cA.bI (.call { callee:=.value _,args:=_,argTypes:=_ }) (some _)); first | (refine aP h λx j h=>Lj (c3.fR ?_ (bJ.go j)) ?_; · (repeat' first | exact .nil | refine .c6 .q ?_)) | (refine aP h λx j h=>Lj (c3.mb rfl ?_ (bJ.go j)) ?_; · (repeat' first | exact .nil | refine .s ?_ | refine .c (View.nO rfl rfl) ?_ | refine .c (.row rfl) ?_ | refine .c (View.mM ?_) ?_ | refine .c (View.cl ?_) ?_)))
  | refine Hf h (λau h=>?_) (λau h=>?_))
 | ((with_reducible apply cA.nl); first | refine QP rfl rfl ?_ | refine QO h (by (repeat' first | exact .nil | refine .n rfl ?_ | refine .w rfl rfl .oq ?_ | refine .w rfl rfl .oX ?_ | refine .w rfl rfl (jS.obj (by (repeat' first | exact .nil | refine .f ?_ | refine .o ?_ | refine .i ?_))) ?_)))
 | ((with_reducible apply jQ.eF); refine cy.eF rfl (by first | exact .w | exact .n | exact .c rfl .w rfl | exact .c rfl .n rfl) rfl rfl ?_)
 | ((with_reducible apply jQ.r8); refine cy.r8 rfl (by first | exact .w | exact .n | exact .c rfl .w rfl | exact .c rfl .n rfl) rfl rfl ?_)
 | ((with_reducible apply jQ.eT); first | refine cy.eT h (λaa h=>?_) (λaa ag h=>?_) | refine cy.YO h (λaa h=>?_) (λaa ag h=>?_))
 | ((with_reducible apply jQ.bW); first | refine cy.bW h (λaa h=>?_) (λaa ag h=>?_) | refine cy.YP h (λaa h=>?_) (λaa ag h=>?_))
 | ((with_reducible apply jQ.rd); first | refine cy.rd ?_ | refine cy.YI ?_)
 | (with_reducible apply cy.rg)
 | (with_reducible apply cy.bQ)
 | ((with_reducible apply jQ.bB); first
  | refine cy.XB h (λaa h=>?_) (λaa ag h=>?_)
  | refine cy.cX h (λau h=>?_) (λau h=>?_)
  | refine cy.ce h (λau h=>?_) (λau h=>?_)
  | refine cy.Sx ?_
  | refine cy.Sw ?_)
 | ((with_reducible apply jQ.JQ); refine cy.JQ h (λaa h=>?_) (λaa ag h=>?_))
 | (with_reducible apply cy.v7)
 | (with_reducible apply cy.cq)
 | (with_reducible apply cy.da)
 | (with_reducible apply cy.fJ)
 | ((with_reducible apply cy.YW); first
  | (refine cy.Kz h (by (repeat' first | exact .nil | refine .z rfl rfl ?_ ?_ | exact .refl | exact .Cm | exact gE.vw | refine gj.obj ?_ | refine .f ?_ | refine .o ?_ | refine .z ?_)) (by (repeat' first | exact .nil | refine .n rfl ?_ | refine .w rfl rfl .oq ?_ | refine .w rfl rfl .oX ?_ | refine .w rfl rfl (jS.obj (by (repeat' first | exact .nil | refine .f ?_ | refine .o ?_ | refine .i ?_))) ?_)))
  | (cases h; refine cy.hz rfl (by (repeat' first | exact .nil | refine .z rfl rfl ?_ ?_ | exact .refl | exact .Cm | exact gE.vw | refine gj.obj ?_ | refine .f ?_ | refine .o ?_ | refine .z ?_)) ?_; exact d'.ei)
  | refine cy.C6 ?_)
 | (with_reducible apply d'.bQ)
 | (with_reducible apply d'.fH)
 | (with_reducible apply d'.oy)
 | (with_reducible apply d'.cq)
 | (with_reducible apply d'.fC)
 | (with_reducible apply d'.s_)
 | ((with_reducible apply jQ.Sb); refine d'.GZ ?_)
 | ((with_reducible apply jQ.Yy); first
  | refine d'.go h (by (repeat' first | exact .nil | refine .n rfl ?_ | refine .w rfl rfl .oq ?_ | refine .w rfl rfl .oX ?_ | refine .w rfl rfl (jS.obj (by (repeat' first | exact .nil | refine .f ?_ | refine .o ?_ | refine .i ?_))) ?_))
  | refine d'.aX h (by (repeat' first | exact .nil | refine .n rfl ?_ | refine .w rfl rfl .oq ?_ | refine .w rfl rfl .oX ?_ | refine .w rfl rfl (jS.obj (by (repeat' first | exact .nil | refine .f ?_ | refine .o ?_ | refine .i ?_))) ?_))
  | refine d'.x2 h (by (repeat' first | exact .nil | refine .n rfl ?_ | refine .w rfl rfl .oq ?_ | refine .w rfl rfl .oX ?_ | refine .w rfl rfl (jS.obj (by (repeat' first | exact .nil | refine .f ?_ | refine .o ?_ | refine .i ?_))) ?_))
  | refine d'.jJ h (by (repeat' first | exact .nil | refine .n rfl ?_ | refine .w rfl rfl .oq ?_ | refine .w rfl rfl .oX ?_ | refine .w rfl rfl (jS.obj (by (repeat' first | exact .nil | refine .f ?_ | refine .o ?_ | refine .i ?_))) ?_)))
 | ((with_reducible apply jQ.YB); refine d'.ds h (by (repeat' first | exact .nil | refine .n rfl ?_ | refine .w rfl rfl .oq ?_ | refine .w rfl rfl .oX ?_ | refine .w rfl rfl (jS.obj (by (repeat' first | exact .nil | refine .f ?_ | refine .o ?_ | refine .i ?_))) ?_)))
 | ((with_reducible apply jQ.eK); first
  | refine cy.eK h (λs o h=>?_) (λr aj h=>?_)
  | refine cy.gz h (λs o h=>?_) (λr h=>?_) (λr h=>?_))
 | ((with_reducible apply jQ.rg); with_reducible apply cy.rt)
 | ((with_reducible apply jQ.Yx); cases h; first | exact d'.ei | exact d'.fn)
 | refine Hf h (λau h=>?_) (λau h=>?_)))):p:=h
class yd (P:Program) (N:cN) (Φ:Exit->aG->Prop) (rs:outParam (List ResultVar)) (n:outParam Nat) (outs:outParam (List (Option ab))) (res:outParam ab):Prop where p:∀ g,pd P N rs n outs res .ret g->Φ .ret g
instance:yd P N (pd P N rs n outs res) rs n outs res:=⟨λ_ h=>h⟩
instance {dZ:aG->Prop}{Φ:Exit->aG->Prop} [h:yd P N Φ rs n outs res]:yd P N (oz dZ Φ) rs n outs res:=⟨λg bE=>h.p g bE⟩
instance {id:Nat}{Φ:Exit->aG->Prop} [h:yd P N Φ rs n outs res]:yd P N (lI id Φ) rs n outs res:=⟨λg bE=>h.p g bE⟩
class yc {S R gw:Type}(Φ:Exit->aG->Prop) (F:outParam (S->List (Nat × ab))) (id:outParam Nat) (X:outParam (R->List (Nat × ab))) (Y:outParam (gw->List (Nat × ab))) (o:outParam (S ⊕ (R ⊕ gw))):Prop where p:∀ g,kL F (Ak id X Y) o .ret g->Φ .ret g
section
variable {S R gw:Type}{F:S->List (Nat × ab)}{id:Nat}{X:R->List (Nat × ab)}{Y:gw->List (Nat × ab)}{o:S ⊕ (R ⊕ gw)}{Φ:Exit->aG->Prop}
instance:yc (kL F (Ak id X Y) o) F id X Y o:=⟨λ_ h=>h⟩
instance {dZ:aG->Prop} [h:yc Φ F id X Y o]:yc (oz dZ Φ) F id X Y o:=⟨λg bE=>h.p g bE⟩
instance {i:Nat} [h:yc Φ F id X Y o]:yc (lI i Φ) F id X Y o:=⟨λg bE=>h.p g bE⟩
theorem cy.Kz {v:gw} [aV:yc Φ F id X Y o] (h:some (.inr (.inr v))=some o) (aS:nz ((Y v).map Prod.fst) (get G) (get (Y v)) (Y v)) (av:Trim true (get (Y v)) (get (Y v)) (Y v)):cy E t P N .ret G Φ:=by
 cases h;exact W.eF _ aS (W.rt λg au=>aV.p g (aD.jJ av g au))
end
def YN:ResultVar->ab->Option (Nat × ab)
 | .tmp t,x=>some (t,x)
 | .cell s _,.agg cs=>some (s,.obj cs)
 | _,_=>none
def Kx:List ResultVar->List ab->List (Nat × ab)->Option (List (Nat × ab))
 | [],[],T=>some T
 | r::rs,x::xs,T=>match Kx rs xs T,YN r x with
  | some l,some p=>some (p::l)
  | _,_=>none
 | _,_,_=>none
def Kh:List Nat->List (Option ab)->Option (List (Nat × ab))
 | _,[]=>some []
 | aa::dR,none::l=>Kh dR l
 | aa::dR,some x::l=>match Kh dR l with
  | some r=>some ((aa,x)::r)
  | none=>none
 | _,_=>none
def YM (rs:List ResultVar) (outs:List (Option ab)) (res:ab):Option (List (Nat × ab)) :=
 match Kh num outs with
 | none=>none
 | some T=>match rs,res with
  | [r],x=>Kx [r] [x] T
  | rs,.bN xs=>Kx rs xs T
  | _,_=>none
theorem gE.vw {x y:ab} [az:b9 x] [hv:iw x y]:gE x y:=.oh az.bd (hv.v _)
inductive p9 {α:Type}(en:bz α):Option Nat->ab->ab->Prop
 | w {Ed:bz α}{L:List α} [h:iw (ar Ed L) (ay en L)]:p9 en none (ar Ed L) (ay en L)
 | n [h:iw .bf (ay en ([]:List α))]:p9 en none .bf (ay en ([]:List α))
 | c {i:Nat}{cs cs':List ab}{x y:ab}(j:cs[i]?=some x) (h:p9 en none x y) (he:ox cs i [y]=some cs'):p9 en (some i) (.obj cs) (.obj cs')
theorem p9.one {α:Type}{en:bz α}{x y:ab}(h:p9 en none x y):gE x y/\mI y:=by
 cases h with
 | @w Ed L h=>exact ⟨.oh (.own (o4 Ed L)) (h.v _),⟨by intro _ _ _ _ _ e; cases e⟩⟩
 | @n h=>exact ⟨.oh .bf (h.v _),⟨by intro _ _ _ _ _ e; cases e⟩⟩
theorem p9.eF {α:Type}{en:bz α}{i:Option Nat}{x y:ab}(h:p9 en i x y):gE x y/\mI y:=by
 cases h with
 | w=>exact p9.one .w
 | n=>exact p9.one .n
 | @c i cs cs' x y j h he =>
  obtain ⟨h1,af⟩:=lp he;subst h1;refine ⟨.obj (by simp [ew] at af ⊢; omega) λk a b aQ au=>?_,⟨by simp⟩⟩;unfold ew at au;simp only [List.length_singleton] at af au;by_cases hk:k<i
  ·rw [List.append_assoc,List.getElem?_append_left (by simp; omega),List.getElem?_take,if_pos hk,aQ] at au;cases au; exact .refl
  ·by_cases fk:k=i
   ·subst fk;rw [List.append_assoc,List.getElem?_append_right (by rw [List.length_take]; exact Nat.min_le_left _ _),List.length_take,Nat.min_eq_left (by omega),Nat.sub_self] at au;simp at au;subst au;rw [j] at aQ; cases aQ;exact h.one.1
   ·rw [List.getElem?_append_right (by simp; omega)] at au;simp only [List.length_append,List.length_take,List.length_singleton,List.getElem?_drop] at au;rw [show i+1+(k - (min i cs.length+1))=k by omega,aQ] at au;cases au; exact .refl
theorem Kr {g g2:aG}{s:Nat}:∀ {ks:List Nat}{G1:List (Nat × ab)},pick g ks=some G1->(ks.all λk=>![s].elem k)=true->(∀ e∈G1,cE e.2)->nz [s] g g2 G1
 | [],_,h,_,_=>by cases h; exact .nil
 | k::ks,G1,h,he,az=>by
  obtain ⟨x,l,j,ah,rfl⟩:=C3 h;rw [List.all_cons,Bool.and_eq_true] at he;have:b9 x:=⟨az (k,x) (by simp)⟩;exact .n (by simpa using he.1) j (Kr ah he.2 λe h=>az e (by simp [h]))
def Xz (id:Nat):Code->Bool
 | .seq (.region k _ _) _=>Nat.beq k id
 | .region k _ _=>Nat.beq k id
 | _=>false
theorem cy.eF {α:Type}{en:bz α}{id s:Nat}{i:Option Nat}{B:Code}{Φ:Exit->aG->Prop}{x y:ab}{ks:List Nat}{hP:List (Nat × ab)}(ax:get G s=some x) (ai:p9 en i x y) (hk:sB [s] G=some ks) (av:pick (get G) ks=some hP) (h:cy E t P N B ((s,y)::hP) Φ) (hid:Xz id B=true:=by rfl) (cU:(ks.all λk=>![s].elem k)=true:=by rfl) [j:b9 x] [az:hZ hP]:cy E (.eF id s i en t) P N B G Φ :=
 have:=ai.eF.2
 W.eF [s] (.z (by simp) ax ai.eF.1 (Kr av cU az.p)) h
theorem cy.r8 {α:Type}{en:bz α}{s:Nat}{i:Option Nat}{c:Code}{Φ:Exit->aG->Prop}{x y:ab}{ks:List Nat}{hP:List (Nat × ab)}(ax:get G s=some x) (ai:p9 en i x y) (hk:sB [s] G=some ks) (av:pick (get G) ks=some hP) (h:cy E t P N (.loop c) ((s,y)::hP) Φ) (cU:(ks.all λk=>![s].elem k)=true:=by rfl) [j:b9 x] [az:hZ hP]:cy E (.r8 s i en t) P N (.loop c) G Φ :=
 have:=ai.eF.2
 W.eF [s] (.z (by simp) ax ai.eF.1 (Kr av cU az.p)) h
theorem cy.hz {Φ:Exit->aG->Prop}{G1:List (Nat × ab)} [aV:yd P N Φ rs n outs res] (cT:YM rs outs res=some G1) (aS:nz (G1.map Prod.fst) (get G) (get G1) G1) (av:d' E t .ret (pd P N rs n outs res) G1):cy E t P N .ret G Φ :=
 W.eF _ aS (W.rt λg au=>aV.p g (av g au))
def Fq:List Nat->Nat->List ab->Option (List (Nat × ab))
 | _,_,[]=>some []
 | [],_,_::_=>none
 | aa::dR,k,x::l=>match Fq dR (k+1) l with
  | none=>none
  | some r=>match sC x,Nat.beq aa k with
   | some y,true=>some ((aa,y)::r)
   | _,_=>none
theorem Pc:∀ {l:List ab}{dR:List Nat}{k:Nat}{r:List (Nat × ab)},Fq dR k l=some r->xf k l=r
 | [],dR,k,r,h=>by cases dR <;> (cases h; rfl)
 | x::l,[],k,r,h=>by cases h
 | x::l,aa::dR,k,r,h=>by
  unfold Fq at h
  split at h
  ·cases h
  ·rename_i dk aj
   split at h
   ·rename_i y ai ag;cases h; rw [<- Pc aj,<- vk ai,Nat.eq_of_beq_eq_true ag]; rfl
   ·cases h
def lits:List Nat:=[0,1,2,3,4,5,6,7,8,9,10,11,12]
theorem bH.bp {f:FuncId}{fn:Func}{c:Code}{args:List ab}{outs:List (Option ab)}{res:ab}(E:List Nat) (t:k3) (aU:P.funcs[f]?=some fn) (au:fn.body=some c) (a8:fn.ntmps=N.size) (aQ:Nat.ble args.length N.size=true) (hlen:outs.length=args.length) (cT:Fq lits 0 args=some G) (hw:cy E t P N c G (pd P N fn.results.toList args.length outs res)):bH P f args outs res:=bH.go aU au a8 aQ hlen (W.fin (by rw [Pc cT]; exact hw))
end
end Go.Own
namespace Go.Own
open Go
set_option linter.unusedSectionVars false
variable [cw]
section
variable {P:Program}{N:cN}{ops:Array Oper}{a':List (List Nat)}{acc:Acc}{l:List Oper}{K:aG->Prop}{i d:Nat}
end
end Go.Own
namespace Go.Own
open Go Go.Proofs Go.Shelf Go.Lib Go.Sort
set_option linter.unusedSectionVars false
variable [cw]
def AM:Nat->Nat->List UInt8
 | 0,_=>[]
 | k+1,u=>if u<10 then [UInt8.ofNat (48+u)] else AM k (u / 10)++[UInt8.ofNat (48+u % 10)]
omit [cw] in
theorem Ho:∀ (k u:Nat),u<10 ^ k->0<k->AM k u=decDigits u
 | 0,_,_,h=>absurd h (by omega)
 | k+1,u,h,_=>by
  rw [AM,decDigits];by_cases hu:u<10
  ·rw [if_pos hu,dif_pos hu]
  ·rw [if_neg hu,dif_neg hu];have hk:0<k:=by
    rcases Nat.eq_zero_or_pos k with rfl | hk
    ·simp at h; omega
    ·exact hk
   rw [Ho k (u / 10) (by rw [Nat.pow_succ] at h; omega) hk]
def tG (n:Int):List UInt8:=if n<0 then 45::AM 20 n.natAbs else AM 20 n.toNat
omit [cw] in
theorem JD {n:Int}(h:-9223372036854775808<=n/\n<=9223372036854775807):tG n=Lib.itoa n:=by
 unfold tG Lib.itoa;split
 ·rw [Ho 20 _ (by omega) (by omega)]
 ·rw [Ho 20 _ (by omega) (by omega)]
def nK (n:Int):Option ByteArray:=if -9223372036854775808<=n/\n<=9223372036854775807 then some ⟨(tG n).toArray⟩ else none
theorem TY {w:World}{k:Nat}{os:Array Obj}{U:a6}:Fr w (grow (w.drewN k) os) U:=by
 refine ⟨rfl,rfl,rfl,?_,λc J _=>?_,λa aQ _=>?_,Nat.le_add_right _ _⟩
 ·rw [size_grow]; exact Nat.le_add_right _ _
 ·exact heap_grow_old _ _ J
 ·exact (frozen?_grow (w.drewN k) os a aQ).trans rfl
theorem bH.plain {P:Program}{f:FuncId}{args:List ab}{r:Value}(aj:r.oneCell'=true)
  (h:∀ (w:World) (I:a6) (vs:List Value) (Fs:Nat->a6),vs.length=args.length->cB w I vs.toArray (oK args) Fs->Calls P f vs.toArray w λe w'=>e=.returned r/\∃ k os,w'=grow (w.drewN k) os) :
  bH P f args (args.map λ_=>none) (.lit r):=by
 refine ⟨by simp,λw I vs Fs ah a_=>?_⟩;refine (h w I vs Fs ah a_).mono ?_;rintro e w' ⟨rfl,k,os,rfl⟩;have aU:Fr w (grow (w.drewN k) os) (λ_=>False):=TY;have m_:∀ t x,h5 (args.map λ_=>none) (.lit r) t=some x->t=args.length/\x=.lit r:=by
  intro t x j;unfold h5 at j
  split at j
  ·rename_i ak; cases j; exact ⟨by simpa using ak,rfl⟩
  ·rw [List.getElem?_map] at j;cases aQ:args[t]? with
   | none=>rw [aQ] at j; cases j
   | some y=>rw [aQ] at j; cases j
 refine ⟨r,I,λ_=>cb,rfl,⟨λt x j=>?_,λ_ _ _ h=>h,λ_ _ _ h=>h.elim,λ_ _ h=>h.elim,λc J=>Nat.lt_of_lt_of_le (a_.lt c J) aU.size,λt t' z p n m new br ck bm cK h1 _=>?_,cw.keep a_.hd (λc J=>aU.block c (a_.lt c J) λh=>h) λ_ h=>h⟩,⟨aU.mono λ_ _ h=>h.elim,λ_ h=>h,λ_ h=>.inl h,λ_ ⟨_,h⟩=>h.elim⟩⟩
 ·obtain ⟨rfl,rfl⟩:=m_ t x j;exact ⟨r,by rw [List.getElem?_toArray,<- ah]; simp,.tree (.lit aj λ_ h=>h)⟩
 ·have:=(m_ t _ h1).2;cases this
theorem bH.itoa {P : Program} {ρ : Ren} (L : LaysM.n171 P ρ) (ak : ∀ (w : World) (I : a6), cw.q w I -> Lib.TabIs P w "internal/strconv.uint64pow10" .u64 Lib.pow10Tab) {n : Int} {r : ByteArray} (h : nK n = some r) : bH P (ρ.f 171) [ae n] [none] (ao r) := by
 unfold nK at h
 split at h <;> cases h
 rename_i az;rw [JD az];refine bH.plain (args:=[ae n]) rfl λw I vs Fs ah a_=>?_
 match vs,ah with
 | [v0],_ =>
 obtain ⟨z1,sr,fj⟩:=a_.rel 0 _ rfl;cases sr;have hv:=(fj.fS (by simp)).gK.1;subst hv;exact Any.strconv_Itoa L n az.1 az.2 w (ak w I a_.hd)
end Go.Own
namespace Go.Own
open Go Go.Proofs Go.Shelf Go.Lib
set_option linter.unusedSectionVars false
variable [cw]
def sU (P:Program) (f:FuncId) (k:Nat) (cs:List ab) (ys:List Value) (cs':List ab) (res:ab):Prop :=
 ∀ (w:World) (I:a6) (b:Nat) (F:a6),cw.q w I->(∀ c,I c->c<w.heap.size)->(∀ c,F c->¬ I c)->R w I (λ_ _=>False) (.obj cs) (.pointer (some ⟨b,0,none⟩)) F ->
  Calls P f (Value.pointer (some ⟨b,k,none⟩)::ys).toArray w λe w'=>∃ v cM,e=.returned v/\Fr w w' F/\R w' I (λ_ _=>False) (.obj cs') (.pointer (some ⟨b,0,none⟩)) cM/\(∀ c,cM c->F c\/w.heap.size<=c)/\R w' I (λ_ _=>False) res v cb
variable {P:Program}{N:cN}{g:aG}{d r:Nat}
theorem fp.at {o:Oper}{xs:List Operand}{fI:Array TypeId}{f:FuncId}{ys:List Value}{res:ab}{cs cs':List ab}{k:Nat}{G2 A:List (Nat × ab)}(aM:o.op=.call { callee:=.value (.func f),args:=xs.toArray,argTypes:=fI }) (aO:o.dst=some d) (j:Own.fZ g xs=some (.ptr ⟨r,[]⟩ k::ys.map .lit))
  (ax:g r=some (.obj cs)) [eN:df cs] (gp:sU P f k cs ys cs' res) (aU:gR P f=true) [aj:b9 res] [uR:df cs']
  (cT:Trim false (cc g ⟨r,[]⟩ .dead) (get ((r,.dead)::G2)) G2) (aI:get G2 d=none) (pM:Nat.beq r d=false) (uH:Trim false (get ((r,.obj cs')::G2)) (get ((r,.obj cs')::G2)) G2) (dm:vL g d r cs'.length ((r,.obj cs')::G2) A) (a8:N.ok d=true) :
  fp P N g o d (get (A++(d,res)::(r,.obj cs')::G2)):=by
 have tB:r≠d:=Nat.ne_of_beq_eq_false pM;have AL:get ((r,ab.dead)::G2) r=some .dead:=by simp [get]
 have tI:gF (cc g ⟨r,[]⟩ .dead) (get ((r,.dead)::G2)):=by
  refine ⟨λt x h=>?_,λt x h=>?_,λt z q n m new h=>?_⟩
  all_goals
   simp only [get] at h
   split at h
  ·rename_i e; subst e; cases h; simp [cc,ax,ab.setAt]
  ·obtain ⟨⟨y,h1,_,aJ⟩,_⟩:=cT.spec t x h; rw [<- aJ rfl]; exact h1
  ·cases h; exact .bd .dead
  ·exact (cT.spec t x h).2.1
  ·cases h
  ·exact (cT.spec t _ h).2.2 _ _ _ _ _ rfl
 have put:p0 (get ((r,.dead)::G2)) [(⟨r,[]⟩,.obj cs')]=get ((r,.obj cs')::G2):=by
  funext t;simp only [p0,cc,get];by_cases h:t=r
  ·simp [h,ab.setAt]
  ·simp [h]
 have tJ:gF (get ((r,.obj cs')::G2)) (get ((r,.obj cs')::G2)):=by
  refine ⟨λt x h=>h,λt x h=>?_,λt z q n m new h=>?_⟩
  all_goals
   simp only [get] at h
   split at h
  ·cases h; exact .bd (.obj uR.bd)
  ·exact (uH.spec t x h).2.1
  ·cases h
  ·exact (uH.spec t _ h).2.2 _ _ _ _ _ rfl
 have iA:ug g d (cH (get ((r,.obj cs')::G2)) d res) (get (A++(d,res)::(r,.obj cs')::G2)):=by
  refine ⟨λt x h=>?_,λt x h=>?_⟩
  ·rw [q7] at h;rw [yz];cases mT:get A t with
   | none=>exact h
   | some y =>
    obtain ⟨h1,af,_⟩:=dm.spec t y mT;simp only [get,if_neg af] at h;simp only [get] at h1;rw [h1] at h; cases h
  ·rw [q7];rw [yz] at h;cases mT:get A t with
   | none=>rw [mT] at h; exact .inl h
   | some y =>
    rw [mT] at h;cases h;obtain ⟨h1,af,aJ,k,rfl,hk⟩:=dm.spec t x mT;refine .inr ⟨?_,af,aJ,r,k,cs',rfl,tB,?_,hk⟩
    ·simp only [get,if_neg af]; exact h1
    ·simp only [get,if_neg tB,if_true]
 intro w I T Fs h a aQ UQ K Q dz;obtain ⟨v1,v2,se,ah,mo⟩:=D8 h aQ (c:=.func f) (first:=[]) (caps:=[]) rfl (by simpa using j);have gY:(execOp a.eval o).run P w=.ok (.enter f (v1++xs.toArray.map a.eval++v2)) w:=by
  simp [execOp,aM,resolve,Deferred.ofValue,se,invoke,AJ aU]
 simp only [List.nil_append,List.append_nil] at mo ah;generalize u4:v1++xs.toArray.map a.eval++v2=vs at *;obtain ⟨z1,sr,fj⟩:=h.rel r _ ax;have Nx:=(fj.fS (by simp)).bd (ρ':=λ_ _=>False) (.obj eN.bd);have nI:dN w T ⟨r,[]⟩=some z1:=by simp [dN,sr,walk]
 cases tC:vs.toList with
 | nil=>rw [tC] at ah; simp at ah
 | cons nO us =>
  rw [tC] at mo ah;have ih:us=ys:=by
   apply List.ext_getElem?;intro i;by_cases hi:i<ys.length
   ·have h1:(ab.ptr ⟨r,[]⟩ k::ys.map .lit)[i+1]?=some (.lit ys[i]):=by simp [hi]
    have af:us[i]?=some (us[i]'(by simp at ah; omega)):=List.getElem?_eq_getElem _;have:=(mo (i+1) _ _ h1 ((List.getElem?_cons_succ).trans af)).gK.1;rw [af,List.getElem?_eq_getElem hi,this]
   ·rw [List.getElem?_eq_none (by simp at ah; omega),List.getElem?_eq_none (by omega)]
  subst ih;obtain ⟨⟨z6,ad,aw,a2,fO⟩,_⟩:=(mo 0 _ nO rfl rfl).mC;rw [nI] at aw;cases aw;obtain ⟨b,rfl⟩:∃ b,z1=.pointer (some ⟨b,0,none⟩):=by
   cases Nx with
   | ref j=>simp [ab.isRef] at j
   | obj=>exact ⟨_,rfl⟩
  simp only [addrOf,Option.some.injEq] at a2;subst a2;have WN:vs=(Value.pointer (some ⟨b,k,none⟩)::us).toArray:=by
   apply Array.toList_inj.1;rw [tC,fO];simp
  have n9:=gp w I b (Fs r) h.hd h.lt (λc J=>h.bc r c J) Nx;rw [<- WN] at n9;unfold Oper.wp Oper.upon;simp only [gY];refine Calls.mono n9 ?_;rintro e w' ⟨v,cM,rfl,fF,ie,iW,mn⟩;obtain ⟨fu,iU,eM,fk⟩:=h.lO.kill r;have hJ:=iU.keep tI;have KR:∀ t c,(get ((r,ab.dead)::G2) t≠none/\fu t c)->t≠r/\Fs t c:=by
   rintro t c ⟨_,J⟩;by_cases ak:t=r
   ·subst ak; exact absurd J (eM c)
   ·rw [fk t ak] at J; exact ⟨ak,J⟩
  have wD:∀ t c,Fs t c->c<w.heap.size:=λt c J=>h.jm t c J;have H_:=hJ.world (w':=w') (λt c J=>by
   obtain ⟨h1,af⟩:=KR t c J;exact fF.block c (wD t c af) λaU=>h1 (h.et _ _ _ af aU)) (λc J=>fF.block c (h.lt c J) λaU=>h.bc _ _ aU J) fF.size
  have A0:∀ c,cM c->¬ I c:=λc J hi=>by
   rcases iW c J with aL | aL
   ·exact h.bc _ _ aL hi
   ·have:=h.lt c hi; omega
  have UD:∀ t c,cM c->¬ (get ((r,ab.dead)::G2) t≠none/\fu t c):=λt c J aU=>by
   obtain ⟨h1,af⟩:=KR t c aU;rcases iW c J with aL | aL
   ·exact h1 (h.et _ _ _ af aL)
   ·have:=wD t c af; omega
  obtain ⟨vQ,yE,yB⟩:=jc.p0 (w:=w') (I:=I) (T:=T) [(⟨r,[]⟩,.obj cs')] (λ_=>cM) (λ_=>.pointer (some ⟨b,0,none⟩)) H_.lO (by simp) (λaa p x ag=>by
    cases aa with
    | succ aa=>simp at ag
    | zero =>
     simp only [List.getElem?_cons_zero,Option.some.injEq,Prod.mk.injEq] at ag;obtain ⟨rfl,rfl⟩:=ag;refine ⟨by simp [bu,AL,ab.at],by simp [dN,sr,walk],ie.bd (.obj uR.bd),λi e=>by cases e⟩)
   (λaa t c _ J=>UD t c J) (λaa c _ J=>A0 c J) (λi aa c hi ag _ _=>by simp at hi ag; omega)
  rw [put] at yE;have H':=yE.keep tJ;have l8:=H'.sK (d:=d) (x:=res) (v:=v) (F:=cb) (by simp only [get,if_neg (Ne.symm tB)]; exact aI) (by rw [<- aQ,UQ]; exact cN.lt a8) (.tree (mn.bd aj.bd)) (λ_ _ h=>h.elim) (λ_ h=>h.elim) (λz p n m new e=>by have:=aj.bd; rw [e] at this; cases this);refine dz _ _ v I _ (by rw [aO]; rfl) (by rw [aO]; simp [Act.put,aQ]) (h.back l8 iA) ⟨fF.mono λb _ au=>⟨r,au⟩,λ_ h=>h,λ_ h=>.inl h,λc J=>?_⟩;rcases tX J with ⟨t',_,aL⟩ | aL
  ·rcases yB t' c aL with fM | ⟨aa,_,fM⟩
   ·exact .inl ⟨t',(KR t' c fM).2⟩
   ·rcases iW c fM with aJ | aJ
    ·exact .inl ⟨r,aJ⟩
    ·exact .inr aJ
  ·exact aL.elim
end Go.Own
namespace Go.Own
open Go Go.Proofs Go.Shelf Go.Lib
set_option linter.unusedSectionVars false
variable [cw]
variable {P:Program}{ρ:Ren}
theorem sU.Ax (L:Lays.n166 P ρ) (X:Builder.Extra P ρ) {cs:List ab}{k e0:Nat}{x s y:ByteArray}(jA:cs[k]?=some (.self (k,e0))) (eM:cs[k+1]?=some (.dv (ρ.t 5) (strCells x)))
  (I0:liesAt P P.depth e0 (cs.length / P.cellsOf e0) k (ρ.t 72) 1=true) (h:mP x s=some y) :
  sU P (ρ.f 166) k cs [.string s] (cs.set (k+1) (.dv (ρ.t 5) (strCells y))) (.bN [ae s.size,.lit .nilIface]):=by
 intro w I b F hV aN A0 aV;unfold mP at h
 split at h <;> cases h
 rename_i dL;have wD:=aV.lt;cases aV with
 | ref j=>simp [ab.isRef] at j
 | @obj _ _ e arr bK _ aM ah h1 aj aO au aE ax =>
  have dc:k+1<cs.length:=(List.getElem?_eq_some_iff.1 eM).1;have oQ:arr[k]?=some arr[k]:=Array.getElem?_eq_getElem (by omega);have nD:arr[k+1]?=some arr[k+1]:=Array.getElem?_eq_getElem (by omega);have av:=ax k _ _ jA oQ;have sa:=aj (k+1) _ _ eM nD;have acO:=sa;cases sa with
  | ref j=>simp [ab.isRef] at j
  | dv jB fy iz =>
   have cU:arr[k+1].ownBlock≠some b:=λh=>au (k+1) dc ((iz b).2 h);rw [strCells_length] at jB;refine (bws L X s w aM oQ nD (av.imp (λ⟨h1,af⟩=>⟨h1,by rw [af,<- ah]; exact I0⟩) id) jB cU dL).mono ?_;rintro bZ w' ⟨rfl,fF,dJ,iW,iA,yV,hblk⟩;rw [Qo] at iW;have az:x.size+s.size=(strCells (x++s)).length:=by rw [strCells_length]; simp [ByteArray.size_append]
   rw [az] at iW;have uS:dJ.oneCell'=true:=by
    rcases iW.2 with ⟨hv,_⟩ | ⟨g,cap,cur,hv,_⟩ <;> rw [hv] <;> rfl
   have yF:∀ c,(c=b\/arr[k+1].ownBlock=some c)->F c:=λc J=>J.elim (λh=>(aE c).2 (.inl h)) λh=>(aE c).2 (.inr ⟨k+1,dc,(iz c).2 h⟩);have UK:∀ c,I c->c<w.heap.size->w'.heap[c]?=w.heap[c]?:=λc J aN=>fF.block c aN λh=>A0 c (yF c h) J;have HY:∀ c,I c->w'.heap[c]?=w.heap[c]?:=λc J=>UK c J (aN c J);have eG:∀ aa c,aa<cs.length->aa≠k+1->bK aa c->w'.heap[c]?=w.heap[c]?:=λaa c ag fY J=>fF.block c (wD c ((aE c).2 (.inr ⟨aa,ag,J⟩))) λh=>h.elim (λh=>au aa ag (h ▸ J)) λh=>fY (aO aa (k+1) c ag dc J ((iz c).2 h));have Oe:∀ aa c,aa<cs.length->aa≠k+1->bK aa c->dJ.ownBlock≠some c:=λaa c ag fY J h=>by
    rcases hblk c h with aL | aL
    ·exact fY (aO aa (k+1) c ag dc J ((iz c).2 aL))
    ·have:=wD c ((aE c).2 (.inr ⟨aa,ag,J⟩)); omega
   refine ⟨_,λc=>c=b\/∃ aa,aa<cs.length/\(if aa=k+1 then dJ.ownBlock=some c else bK aa c),rfl,fF.mono λc _ J=>yF c J,?_,λc J=>?_,?_⟩
   ·refine .obj (Fs:=λaa c=>if aa=k+1 then dJ.ownBlock=some c else bK aa c) iA (by simp [ah]) (λaa u hu=>?_) (λaa z u aS hu=>?_) (λi aa c hi ag J dX=>?_) (λaa ag J=>?_) (λc=>by simp) (λi aa u hi hu=>?_)
    ·rw [Array.getElem?_setIfInBounds,Array.getElem?_setIfInBounds] at hu
     split at hu
     ·split at hu <;> cases hu; exact uS
     ·split at hu
      ·split at hu <;> cases hu; rfl
      ·exact h1 aa u hu
    ·rw [Array.getElem?_setIfInBounds,Array.getElem?_setIfInBounds] at hu;by_cases si:k+1=aa
     ·subst si;rw [if_pos rfl] at hu;rw [List.getElem?_set_self dc] at aS
      split at hu <;> cases hu
      cases aS;exact (R.dv iW uS λc=>Iff.rfl).te λc=>by simp
     ·rw [if_neg si] at hu;rw [List.getElem?_set_ne si] at aS;by_cases NT:k=aa
      ·subst NT;rw [jA] at aS;cases aS;refine .j1 λc J=>?_;rw [if_neg (by omega)] at J;have:=aj k _ _ jA oQ;cases this with
       | ref j=>simp [ab.isRef] at j
       | j1 aE=>exact aE c J
      ·rw [if_neg NT] at hu;have eW:aa<cs.length:=(List.getElem?_eq_some_iff.1 aS).1;exact ((aj aa z u aS hu).frame HY (λ_ h=>h) (λ_ _ h=>h) λc J=>eG aa c eW (Ne.symm si) J).te λc=>by simp [Ne.symm si]
    ·simp only [List.length_set] at hi ag;by_cases h1:i=k+1 <;> by_cases af:aa=k+1 <;> simp only [h1,af,if_true,if_false] at J dX
     ·omega
     ·exact absurd J (Oe aa c ag af dX)
     ·exact absurd dX (Oe i c hi h1 J)
     ·exact aO i aa c hi ag J dX
    ·simp only [List.length_set] at ag;by_cases h1:aa=k+1
     ·rw [if_pos h1] at J; exact yV J
     ·rw [if_neg h1] at J; exact au aa ag J
    ·by_cases rh:k+1=i
     ·subst rh;rw [List.getElem?_set_self dc] at hi; cases hi
     ·rw [List.getElem?_set_ne rh] at hi;rw [Array.getElem?_setIfInBounds,Array.getElem?_setIfInBounds,if_neg rh] at hu
      split at hu
      ·rename_i IV;subst IV;rw [jA] at hi;cases hi
       split at hu <;> cases hu
       exact .inr rfl
      ·exact ax i aa u hi hu
   ·rcases J with rfl | ⟨aa,ag,J⟩
    ·exact .inl ((aE _).2 (.inl rfl))
    ·by_cases h1:aa=k+1
     ·rw [if_pos h1] at J;rcases hblk c J with h | h
      ·exact .inl (yF c (.inr h))
      ·exact .inr h
     ·rw [if_neg h1] at J;exact .inl ((aE c).2 (.inr ⟨aa,ag,J⟩))
   ·refine .bN (Fs:=λ_=>cb) rfl (λk y u ai hu=>?_) (λ_ _ _ _ _ h=>h.elim) (λc=>⟨λh=>h.elim,λ⟨_,_,h⟩=>h.elim⟩)
    match k,ai,hu with
    | 0,ai,hu=>cases ai; cases hu; exact .lit rfl λ_ h=>h
    | 1,ai,hu=>cases ai; cases hu; exact .lit rfl λ_ h=>h
    | k+2,ai,hu=>cases ai
theorem sU.bs (L:Lays.n169 P ρ) (X:Builder.Extra P ρ) {cs:List ab}{k:Nat}{x y:ByteArray}(eM:cs[k+1]?=some (.dv (ρ.t 5) (strCells x))) (h:pj x=some y) :
  sU P (ρ.f 169) k cs [] (cs.set (k+1) .dead) (ao y):=by
 intro w I b F hV aN A0 aV;unfold pj at h
 split at h <;> cases h
 rename_i dL;have wD:=aV.lt;cases aV with
 | ref j=>simp [ab.isRef] at j
 | @obj _ _ e arr bK _ aM ah h1 aj aO au aE ax =>
  have dc:k+1<cs.length:=(List.getElem?_eq_some_iff.1 eM).1;have nD:arr[k+1]?=some arr[k+1]:=Array.getElem?_eq_getElem (by omega);have sa:=aj (k+1) _ _ eM nD;cases sa with
  | ref j=>simp [ab.isRef] at j
  | dv jB fy iz =>
   have cU:arr[k+1].ownBlock≠some b:=λh=>au (k+1) dc ((iz b).2 h);have uM:strCells x=byteCells x.data.toList:=rfl;have hlen:(strCells x).length=x.data.toList.length:=by unfold strCells; rw [List.length_map]
   rw [hlen,uM] at jB;refine (Mi L X x.data.toList w aM nD jB (λe=>dL (by rw [<- strCells_length]; unfold strCells; rw [e]; rfl))).mono ?_;rintro bZ w' ⟨rfl,fF⟩;have yF:∀ c,arr[k+1].ownBlock=some c->F c:=λc h=>(aE c).2 (.inr ⟨k+1,dc,(iz c).2 h⟩);have iA:w'.heap[b]?=some (.cells arr e (0,0)):=(fF.block b (Array.getElem?_eq_some_iff.1 aM).1 cU).trans aM;have HY:∀ c,I c->w'.heap[c]?=w.heap[c]?:=λc J=>fF.block c (aN c J) λh=>A0 c (yF c h) J;refine ⟨_,λc=>c=b\/∃ aa,aa<cs.length/\(aa≠k+1/\bK aa c),rfl,fF.mono λc _ J=>yF c J,?_,λc J=>?_,.lit rfl λ_ h=>h⟩
   ·refine .obj (Fs:=λaa c=>aa≠k+1/\bK aa c) iA (by simp [ah]) h1 (λaa z u aS hu=>?_) (λi aa c hi ag J dX=>?_) (λaa ag J=>?_) (λc=>by simp) (λi aa u hi hu=>?_)
    ·by_cases si:k+1=aa
     ·subst si;rw [List.getElem?_set_self dc] at aS;cases aS;exact .dead λc J=>J.1 rfl
     ·rw [List.getElem?_set_ne si] at aS;have eW:aa<cs.length:=(List.getElem?_eq_some_iff.1 aS).1;refine ((aj aa z u aS hu).frame HY (λ_ h=>h) (λ_ _ h=>h) λc J=>fF.block c (wD c ((aE c).2 (.inr ⟨aa,eW,J⟩))) λh=>si (aO aa (k+1) c eW dc J ((iz c).2 h)).symm).te λc=>⟨λh=>⟨Ne.symm si,h⟩,λh=>h.2⟩
    ·simp only [List.length_set] at hi ag;exact aO i aa c hi ag J.2 dX.2
    ·simp only [List.length_set] at ag;exact au aa ag J.2
    ·by_cases rh:k+1=i
     ·subst rh;rw [List.getElem?_set_self dc] at hi; cases hi
     ·rw [List.getElem?_set_ne rh] at hi;exact ax i aa u hi hu
   ·rcases J with rfl | ⟨aa,ag,_,J⟩
    ·exact .inl ((aE _).2 (.inl rfl))
    ·exact .inl ((aE c).2 (.inr ⟨aa,ag,J⟩))
end Go.Own
namespace Go.Proofs
open Go.Shelf Go.RowKit Go.Own
set_option linter.unusedSectionVars false
set_option linter.unusedVariables false
variable {P:Program}{ρ:Ren}
structure ui (T e:TypeId) (w w':World) (b:Nat):Prop where
 ei:Fr w w' (λc=>c=b)
 row:∃ dJ,w'.heap[b]?=some (.cells #[.pointer (some ⟨b,0,none⟩),dJ] T (0,0))/\w'.ownsRow 0 e 1 dJ 0 []/\dJ.ownBlock≠some b/\(∀ c,dJ.ownBlock=some c->w.heap.size<=c)/\dJ.oneCell'=true
theorem Nb {T e:TypeId}{b:Nat}{w w':World}{cs:Array Value}(aN:b<w.heap.size) (hm:cs.size<=maxLen) (h1:w'.os=w.os) (af:w'.tape=w.tape) (aJ:w'.output=w.output) (bo:w.drawn<=w'.drawn) (cu:w.heap.size<=w'.heap.size)
  (dC:∀ c,c<w.heap.size->c≠b->w'.heap[c]?=w.heap[c]?) (jh:w'.heap[w.heap.size]?=some (.cells cs e (0,0))) (pz:w'.heap[b]?=some (.cells #[.pointer (some ⟨b,0,none⟩),.slice (some ⟨w.heap.size,0,none⟩) 0 cs.size] T (0,0))):ui T e w w' b:=by
 refine ⟨⟨h1,af,aJ,cu,λc J az=>dC c J az,λa aQ az=>?_,bo⟩,.slice (some ⟨w.heap.size,0,none⟩) 0 cs.size,pz,⟨rfl,.inr ⟨w.heap.size,cs.size,cs,rfl,Nat.zero_le _,jh,Nat.zero_le _,hm,by simp,by simp⟩⟩,?_,λc J=>?_,rfl⟩
 ·unfold World.frozen?;rw [dC a.block aQ az]
 ·simp [Value.ownBlock]; omega
 ·simp [Value.ownBlock] at J; omega
theorem T5 {T e:TypeId}{b:Nat}{w:World}{cs:Array Value}(iA:w.heap[b]?=some (.cells #[.pointer (some ⟨b,0,none⟩),.slice none 0 0] T (0,0))) (hm:cs.size<=maxLen) :
  ui T e w ((w.alloc (.cells cs e)).setCell ⟨b,1,none⟩ (.slice (some ⟨w.heap.size,0,none⟩) 0 cs.size)).drew.drew.drew b:=by
 have aN:b<w.heap.size:=(Array.getElem?_eq_some_iff.1 iA).1;have gh:(w.alloc (.cells cs e)).heap[b]?=some (.cells #[.pointer (some ⟨b,0,none⟩),.slice none 0 0] T (0,0)):=(Lib.alloc_old w _ b aN).trans iA;have aM:∀ c,c≠b->((w.alloc (.cells cs e)).setCell ⟨b,1,none⟩ (.slice (some ⟨w.heap.size,0,none⟩) 0 cs.size)).heap[c]?=(w.alloc (.cells cs e)).heap[c]?:=λc J=>by
  simp only [World.setCell,Array.getElem?_modify,if_neg (Ne.symm J)]
 refine Nb aN hm rfl rfl rfl (show w.drawn<=w.drawn+1+1+1 by omega) ?_ (λc J az=>(aM c az).trans (Lib.alloc_old w _ c J)) ((aM _ (by omega)).trans (Go.heap_alloc_new w _)) ?_
 ·show w.heap.size<=((w.alloc (.cells cs e)).setCell ⟨b,1,none⟩ (.slice (some ⟨w.heap.size,0,none⟩) 0 cs.size)).heap.size;simp [World.setCell]
 ·show ((w.alloc (.cells cs e)).setCell ⟨b,1,none⟩ (.slice (some ⟨w.heap.size,0,none⟩) 0 cs.size)).heap[b]?=_;simp [World.setCell,Array.getElem?_modify,gh]
theorem T6 {T e:TypeId}{b:Nat}{w:World}{cs:Array Value}(iA:w.heap[b]?=some (.cells #[.pointer (some ⟨b,0,none⟩),.slice none 0 0] T (0,0))) (hm:cs.size<=maxLen) :
  ui T e w ((w.setCell ⟨b,1,none⟩ (.slice (some ⟨w.heap.size,0,none⟩) 0 cs.size)).alloc (.cells cs e)).drew.drew.drew b:=by
 have aN:b<w.heap.size:=(Array.getElem?_eq_some_iff.1 iA).1;have ax:(w.setCell ⟨b,1,none⟩ (.slice (some ⟨w.heap.size,0,none⟩) 0 cs.size)).heap.size=w.heap.size:=by simp [World.setCell]
 have aM:∀ c,c≠b->(w.setCell ⟨b,1,none⟩ (.slice (some ⟨w.heap.size,0,none⟩) 0 cs.size)).heap[c]?=w.heap[c]?:=λc J=>by
  simp only [World.setCell,Array.getElem?_modify,if_neg (Ne.symm J)]
 refine Nb aN hm rfl rfl rfl (show w.drawn<=w.drawn+1+1+1 by omega) ?_ (λc J az=>(Lib.alloc_old (w.setCell ⟨b,1,none⟩ (.slice (some ⟨w.heap.size,0,none⟩) 0 cs.size)) _ c (by omega)).trans (aM c az)) ?_ ?_
 ·show w.heap.size<=((w.setCell ⟨b,1,none⟩ (.slice (some ⟨w.heap.size,0,none⟩) 0 cs.size)).alloc (.cells cs e)).heap.size;have:((w.setCell ⟨b,1,none⟩ (.slice (some ⟨w.heap.size,0,none⟩) 0 cs.size)).alloc (.cells cs e)).heap.size=w.heap.size+1:=by simp [World.setCell]
  omega
 ·have:=Go.heap_alloc_new (w.setCell ⟨b,1,none⟩ (.slice (some ⟨w.heap.size,0,none⟩) 0 cs.size)) (.cells cs e);rw [ax] at this;exact this
 ·refine (Lib.alloc_old (w.setCell ⟨b,1,none⟩ (.slice (some ⟨w.heap.size,0,none⟩) 0 cs.size)) _ b (by omega)).trans ?_;simp [World.setCell,Array.getElem?_modify,iA]
variable {P:Program}{ρ:Ren}
set_option maxHeartbeats 2000000 in
set_option maxRecDepth 1000000 in
theorem Sa (L:Lays.n241 P ρ) (X:Builder.Extra P ρ) {T:TypeId}(b n:Nat) (w:World) (iA:w.heap[b]?=some (.cells #[.pointer (some ⟨b,0,none⟩),.slice none 0 0] T (0,0))) (az:n<=281474976710656) :
  Calls P (ρ.f 241) #[.pointer (some ⟨b,0,none⟩),.int .i64 n] w λe w'=>e=.returned (.tuple #[])/\ui T (ρ.t 5) w w' b:=by
 obtain ⟨cs,gY,hle,N1⟩:=Lib.run_makeNoZero (P:=P) w.drew #[(ρ.t 3)] (ρ.t 37) (ρ.t 5) L.t37 n az;have hw:IntKind.i64.wrap (IntKind.i64.wrap 0+(n:Int))=n:=by
  rw [IntKind.wrap_i64,IntKind.wrap_i64];omega
 have n9:(callFunc (ρ.f 277) #[.int .i64 (IntKind.i64.wrap (IntKind.i64.wrap 0+(n:Int)))]).run P w.drew=.ok (.value (.slice (some ⟨w.drew.heap.size,0,none⟩) n cs.size)) (w.drew.drew.drew.alloc (.cells cs (ρ.t 5))):=by
  rw [hw,run_callFunc_extern L.f277 (by kernel_rfl) (by kernel_rfl) (by kernel_rfl) (e:=Extern.BytealgMakeNoZero.makeNoZero #[(ρ.t 3)] #[(ρ.t 37)]) (by kernel_rfl),gY];rfl
 have c1:w.drew.cell? ⟨b,1,none⟩=some (.slice none 0 0):=by
  have:w.drew.heap[b]?=_:=iA;rw [Lib.cell_of_heap this]; rfl
 have aN:b<w.heap.size:=(Array.getElem?_eq_some_iff.1 iA).1;have c2:(w.alloc (.cells cs (ρ.t 5))).cell? ⟨b,1,none⟩=some (.slice none 0 0):=by
  have:(w.alloc (.cells cs (ρ.t 5))).heap[b]?=_:=(Lib.alloc_old w _ b aN).trans iA;rw [Lib.cell_of_heap this]; rfl
 have f2:(w.alloc (.cells cs (ρ.t 5))).frozen? ⟨b,1,none⟩=false:=Lib.frozen_of_heap ((Lib.alloc_old w _ b aN).trans iA) 1;have acW:∀ W:World,(Builtin.copy_ #[(ρ.t 37),(ρ.t 37)] (ρ.t 3) #[.slice (some ⟨w.heap.size,0,none⟩) 0 cs.size,.slice none 0 0]).run P W=.ok (goInt 0) W :=
  λW=>run_copy_none W (ρ.t 37) (ρ.t 37) (ρ.t 3) (ρ.t 5) _ _ 0 cs.size 0 0 L.t37 X.sizeByte rfl
 clear hw;have mixed:=L.mixed;have t72:=L.t72; have a72:=L.a72; have z72:=L.z72; have v72:=L.v72; have Dk:=run_underlying L.t72;have t70:=L.t70; have a70:=L.a70; have z70:=L.z70; have v70:=L.v70; have Dj:=run_underlying L.t70;have t37:=L.t37; have a37:=L.a37; have z37:=L.z37; have v37:=L.v37; have KW:=run_underlying L.t37;have t3:=L.t3; have a3:=L.a3; have z3:=L.z3; have v3:=L.v3; have F0:=run_underlying L.t3;have t5:=X.t5; have a5:=X.a5; have z5:=X.z5; have v5:=X.v5; have KY:=run_underlying X.t5
 go_enter L.f241,Body.n241_ntmps ρ
 go_wp2
 have IH:=T5 (T:=T) (e:=(ρ.t 5)) (cs:=cs) iA (N1 (by unfold maxLen; omega));have VP:=T6 (T:=T) (e:=(ρ.t 5)) (cs:=cs) iA (N1 (by unfold maxLen; omega));clear iA
 go_region_o
 all_goals (go_wp2; go_end0; first | exact ⟨rfl,IH⟩ | exact ⟨rfl,VP⟩)
variable [cw]
variable {P:Program}{ρ:Ren}
theorem T8 {T e:TypeId}{b:Nat}{w eR w':World}(h:Fr w eR (λc=>c=b)) (au:eR.heap[b]?=some (.cells #[.pointer (some ⟨b,0,none⟩),.slice none 0 0] T (0,0))) (aI:ui T e eR.drew w' b):ui T e w w' b:=by
 obtain ⟨dJ,h1,af,aJ,bo,cu⟩:=aI.row;refine ⟨?_,dJ,h1,af,aJ,λc J=>Nat.le_trans h.size (bo c J),cu⟩;exact h.drew.trans aI.ei λc _ h=>h
theorem T7 {T e:TypeId}{b:Nat}{w eR:World}(h:Fr w eR (λc=>c=b)) (au:eR.heap[b]?=some (.cells #[.pointer (some ⟨b,0,none⟩),.slice none 0 0] T (0,0))):ui T e w eR.drew b :=
 ⟨h.drew,.slice none 0 0,au,World.ownsRow_nil _ _ _ _,by simp [Value.ownBlock],λc J=>by simp [Value.ownBlock] at J,rfl⟩
set_option maxHeartbeats 2000000 in
set_option maxRecDepth 1000000 in
/-- (*strings.Builder).Grow at a builder that holds nothing and has no room. -/
theorem R_ (L:Lays.n165 P ρ) (X:Builder.Extra P ρ) {b n:Nat}{p:Value}{T:TypeId}(w:World) (iA:w.heap[b]?=some (.cells #[p,.slice none 0 0] T (0,0)))
  (av:(p=.pointer none/\T=ρ.t 72)\/p=.pointer (some ⟨b,0,none⟩)) (az:n<=281474976710656) :
  Calls P (ρ.f 165) #[.pointer (some ⟨b,0,none⟩),.int .i64 n] w λe w'=>e=.returned (.tuple #[])/\ui T (ρ.t 5) w w' b:=by
 have mixed:=L.mixed;have t72:=L.t72; have a72:=L.a72; have z72:=L.z72; have v72:=L.v72; have Dk:=run_underlying L.t72;have t70:=L.t70; have a70:=L.a70; have z70:=L.z70; have v70:=L.v70; have Dj:=run_underlying L.t70;have t37:=L.t37; have a37:=L.a37; have z37:=L.z37; have v37:=L.v37; have KW:=run_underlying L.t37;have t3:=L.t3; have a3:=L.a3; have z3:=L.z3; have v3:=L.v3; have F0:=run_underlying L.t3;have t9:=L.t9; have a9:=L.a9; have z9:=L.z9; have v9:=L.v9; have F1:=run_underlying L.t9;have t4:=L.t4; have a4:=L.a4; have z4:=L.z4; have v4:=L.v4; have KX:=run_underlying L.t4;have t164:=L.t164; have a164:=L.a164; have z164:=L.z164; have v164:=L.v164; have KV:=run_underlying L.t164;have t5:=X.t5; have a5:=X.a5; have z5:=X.z5; have v5:=X.v5; have KY:=run_underlying X.t5;have Tp:∀ args w,(callFunc (ρ.f 240) args).run P w=.ok (.enter (ρ.f 240) args) w:=enters_of L.f240 (by kernel_rfl) rfl;have acr:∀ args w,(callFunc (ρ.f 241) args).run P w=.ok (.enter (ρ.f 241) args) w:=enters_of L.f241 (by kernel_rfl) rfl;have I0:T=ρ.t 72->liesAt P P.depth T ((#[p,.slice none 0 0]:Array Value).size / P.cellsOf T) 0 (ρ.t 72) 1=true:=λh=>by rw [h]; exact X.toX72.liesBuilder
 have Iz:=Me (ρ:=ρ) { L with } X.toX72 w iA (k:=0) rfl (av.imp (λh=>⟨h.1,I0 h.2⟩) id)
 go_enter L.f165,Body.n165_ntmps ρ
 go_wp2_with (go_at_fn (ρ.f 240); refine Iz.mono ?_)
 rintro bZ eR ⟨rfl,yM,ku⟩;have Ey:eR.heap[b]?=some (.cells #[.pointer (some ⟨b,0,none⟩),.slice none 0 0] T (0,0)):=ku;have G3:eR.drew.cell? ⟨b,1,none⟩=some (.slice none 0 0):=by
  have:eR.drew.heap[b]?=_:=Ey;rw [Lib.cell_of_heap this]; rfl
 go_wp2
 go_region_o
 all_goals go_wp2_with (go_at_fn (ρ.f 241); refine (Sa { L with } X b n eR.drew Ey az).mono ?_; rintro e w' ⟨rfl,h1⟩)
 all_goals first
  | (go_end0; exact ⟨rfl,T8 yM Ey h1⟩)
  | (go_end0; exact ⟨rfl,T7 yM Ey⟩)
end Go.Proofs
