/- Parts of the proof that the last text states. -/
import Derived.Deep.Draws
import Derived.Deep.LoopGhost
import Derived.Ground.SlsfProg
import Derived.KernelRfl
import Derived.Laws.Externs
import Derived.Lib.SliceRun
import Derived.Lib.SlicesCompact
import Derived.Lib.Walk
import Derived.Shelf.RegionOpenPlain
import Derived.Shelf.SlGeneric
import Derived.Shelf.SlLaysQ
import Derived.Shelf.SlSortCmp.NoneTotal
import Derived.Shelf.SlicesE.Kit
import Derived.Shelf.SlicesQ.Load
import Derived.Shelf.Strconv.Itoa3
import Derived.Shelf.Strings.BuilderK
import Derived.Sort.WalkB12
import Derived.Test.YtcfiphoaldlmiaaGreatDoorRows
import Derived.WalkKit
import Derived.Test.YtcfiphoaldlmiaaGreatDoorE6
namespace Go.Own
open Go Go.Proofs Go.Shelf Go.Lib
set_option linter.unusedSectionVars false
variable [cw]
def vZ (_:Unit) (n:Int):Option ByteArray:=if 0<=n/\n<=281474976710656 then some ⟨#[]⟩ else none
section
variable {P:Program}{ρ:Ren}
theorem bH.Mf (L:Lays.n165 P ρ) (X:Builder.Extra P ρ) {n:Int}{y:ByteArray}(h:vZ () n=some y) :
  bH P (ρ.f 165) [.obj [.self (0,ρ.t 72),.bf],ae n] [some (.obj [.self (0,ρ.t 72),.dv (ρ.t 5) (strCells y)]),none] (.bN []):=by
 refine ⟨rfl,λw I vs Fs mZ a_=>?_⟩
 match vs,mZ with
 | [v0,v1],_ =>
 obtain ⟨z1,sr,fj⟩:=a_.rel 0 _ rfl;obtain ⟨ZT,Jh,q_⟩:=a_.rel 1 _ rfl;cases sr; cases Jh;have my:=(q_.fS (by simp)).gK.1;subst my;unfold vZ at h
 split at h <;> cases h
 rename_i az;obtain ⟨m,rfl⟩:=Int.eq_ofNat_of_zero_le az.1;have aV:=fj.fS (by simp);cases aV with
 | ref j=>simp [ab.isRef] at j
 | @obj _ b e arr bK _ aM ah h1 aj aO au aE ax =>
  have pG:arr.size=2:=ah.symm;have oQ:arr[0]?=some arr[0]:=Array.getElem?_eq_getElem (by omega);have nD:arr[1]?=some arr[1]:=Array.getElem?_eq_getElem (by omega);have av:=ax 0 _ _ rfl oQ;have qm:arr[1]=.slice none 0 0:=(aj 1 _ _ rfl nD).pT;have jX:arr=#[arr[0],.slice none 0 0]:=by
   apply Array.ext_getElem?;intro i
   match i with
   | 0=>rw [oQ]; rfl
   | 1=>rw [nD,qm]; rfl
   | i+2=>rw [Array.getElem?_eq_none (by omega)]; simp
  rw [jX] at aM;refine (R_ L X (n:=m) w aM (av.imp (λh=>h) λh=>h) (by omega)).mono ?_;rintro bZ w' ⟨rfl,fF,dJ,iA,iW,yV,hblk,uS⟩;have yI:b<w.heap.size:=(Array.getElem?_eq_some_iff.1 aM).1;refine ⟨_,I,λt c=>t=0/\(c=b\/dJ.ownBlock=some c),rfl,⟨λt x j=>?_,λt ak c J=>?_,λt t' c J dX=>J.1.trans dX.1.symm,λt c J hi=>?_,λc J=>Nat.lt_of_lt_of_le (a_.lt c J) fF.size,λt t' z p n m new br ck bm cK h1 _=>?_,cw.keep a_.hd (λc J=>fF.block c (a_.lt c J) λh=>a_.bc 0 c ((aE c).2 (.inl h)) J) λ_ h=>h⟩,⟨?_,λ_ h=>h,λ_ h=>.inl h,λc J=>?_⟩⟩
  ·match t,j with
   | 0,j =>
    cases j;refine ⟨_,rfl,.tree ?_⟩;refine .obj (Fs:=λk c=>k=1/\dJ.ownBlock=some c) iA (by simp) (λk u hu=>?_) (λk y u ai hu=>?_) (λaa k c _ _ h1 af=>h1.1.trans af.1.symm) (λk _ h=>yV h.2) (λc=>⟨λh=>h.2.imp id λh=>⟨1,by simp,rfl,h⟩,λh=>⟨rfl,h.imp id λ⟨_,_,_,h⟩=>h⟩⟩) (λk aa u ai hu=>?_)
    ·match k,hu with
     | 0,hu=>simp at hu; subst hu; rfl
     | 1,hu=>simp at hu; subst hu; exact uS
     | k+2,hu=>simp at hu
    ·match k,ai,hu with
     | 0,ai,hu=>cases ai; exact .j1 λc h=>by cases h.1
     | 1,ai,hu =>
      cases ai;simp at hu;subst hu;exact .dv iW uS λc=>⟨λh=>h.2,λh=>⟨rfl,h⟩⟩
     | k+2,ai,hu=>cases ai
    ·match k,ai,hu with
     | 0,ai,hu =>
      cases ai;simp at hu;exact .inr hu.symm
     | 1,ai,hu=>cases ai
     | k+2,ai,hu=>cases ai
   | 1,j=>cases j
   | 2,j =>
    cases j;exact ⟨_,rfl,.tree (.bN (Fs:=λ_=>cb) rfl (λk y u ai hu=>by cases ai) (λ_ _ _ _ _ h=>h.elim) (λc=>⟨λh=>(by cases h.1),λ⟨_,_,h⟩=>h.elim⟩))⟩
   | t+3,j=>simp [h5] at j
  ·rw [J.1] at ak; cases ak
  ·rcases J.2 with rfl | h
   ·exact a_.bc 0 _ ((aE _).2 (.inl rfl)) hi
   ·have h1:=hblk c h; have af:=a_.lt c hi; omega
  ·match t,h1 with
   | 0,h1=>cases h1
   | 1,h1=>cases h1
   | 2,h1=>cases h1
   | t+3,h1=>simp [h5] at h1
  ·exact fF.mono λc _ h=>⟨0,(aE c).2 (.inl h)⟩
  ·obtain ⟨t,_,J⟩:=J;rcases J with rfl | h
   ·exact .inl ⟨0,(aE _).2 (.inl rfl)⟩
   ·exact .inr (hblk c h)
end
end Go.Own
namespace Go.Own
open Go
set_option linter.unusedSectionVars false
variable [cw]
variable {P:Program}{N:cN}{g:aG}{ty:TypeId}
theorem O.Sg {e ty t k:Nat}{a:Operand}{y:ab}{cs cs':List ab}(j:Rd g a y) (J:h0 y=some cs) (aH:cs[k]?=some (.lit (.pointer none))) (h1:cs[k+1]?=some .bf) (he:(cs.set k (.self (k,e))).set (k+1) (.dv t [])=cs'):b5 P g (.box e a) ty (.obj cs'):=by
 subst he;exact .o0 (.D3 j.bj J aH h1)
end Go.Own
namespace Go.Proofs
open Tryz
open Go Go.Shelf Go.RowKit Go.Lib Go.Own
def Tryz.OV:Go.Shelf.Ren:=⟨fun | 169=>30 | n=>n,fun | 70=>91 | 9=>9 | 0=>0 | 72=>94 | 37=>92 | 127=>139 | 3=>3 | 5=>5 | n=>n,fun | n=>n⟩
theorem Tryz.JW:Go.Proofs.Lays.n169 prog Tryz.OV:={
 mixed:=by kernel_rfl
 f169:=func30.trans (congrArg some (by kernel_rfl))
 t0:=Tryz.underlying0
 a0:=Tryz.isAgg0
 z0:=Tryz.sizeOf0
 v0:=Tryz.zeroValue0
 t3:=Tryz.underlying3
 a3:=Tryz.isAgg3
 z3:=Tryz.sizeOf3
 v3:=Tryz.zeroValue3
 t9:=Tryz.underlying9
 a9:=Tryz.isAgg9
 z9:=Tryz.sizeOf9
 v9:=Tryz.zeroValue9
 t37:=Tryz.underlying92
 a37:=Tryz.isAgg92
 z37:=Tryz.sizeOf92
 v37:=Tryz.zeroValue92
 t70:=Tryz.underlying91
 a70:=Tryz.isAgg91
 z70:=Tryz.sizeOf91
 v70:=Tryz.zeroValue91
 t72:=Tryz.underlying94
 a72:=Tryz.isAgg94
 z72:=Tryz.sizeOf94
 v72:=Tryz.zeroValue94
 t127:=Tryz.underlying139
 a127:=Tryz.isAgg139
 z127:=Tryz.sizeOf139
 v127:=Tryz.zeroValue139 }
def Tryz.XK:Go.Shelf.Ren:=⟨fun | 171=>29 | 243=>55 | 246=>83 | 283=>107 | 284=>108 | 285=>109 | 286=>110 | 129=>127 | 317=>130 | 318=>131 | 319=>132 | 320=>133 | 337=>144 | 338=>145 | n=>n,fun | 3=>3 | 9=>9 | 2=>2 | 4=>4 | 171=>198 | 0=>0 | 53=>117 | 37=>92 | 5=>5 | 173=>201 | 212=>219 | 51=>186 | 20=>20 | 213=>220 | 46=>162 | 232=>232 | 233=>233 | n=>n,fun | 17=>0 | 18=>2 | 19=>3 | n=>n⟩
theorem Tryz.OW:Go.Proofs.LaysM.n171 prog Tryz.XK:={
 mixed:=by kernel_rfl
 f129:=func127.trans (congrArg some (by kernel_rfl))
 f171:=func29.trans (congrArg some (by kernel_rfl))
 f243:=func55.trans (congrArg some (by kernel_rfl))
 f246:=func83.trans (congrArg some (by kernel_rfl))
 f283:=func107.trans (congrArg some (by kernel_rfl))
 f284:=func108.trans (congrArg some (by kernel_rfl))
 f285:=func109.trans (congrArg some (by kernel_rfl))
 f286:=func110.trans (congrArg some (by kernel_rfl))
 f317:=func130.trans (congrArg some (by kernel_rfl))
 f318:=func131.trans (congrArg some (by kernel_rfl))
 f319:=func132.trans (congrArg some (by kernel_rfl))
 f320:=func133.trans (congrArg some (by kernel_rfl))
 f337:=func144.trans (congrArg some (by kernel_rfl))
 f338:=func145.trans (congrArg some (by kernel_rfl))
 t0:=Tryz.underlying0
 a0:=Tryz.isAgg0
 z0:=Tryz.sizeOf0
 v0:=Tryz.zeroValue0
 t2:=Tryz.underlying2
 a2:=Tryz.isAgg2
 z2:=Tryz.sizeOf2
 v2:=Tryz.zeroValue2
 t3:=Tryz.underlying3
 a3:=Tryz.isAgg3
 z3:=Tryz.sizeOf3
 v3:=Tryz.zeroValue3
 t4:=Tryz.underlying4
 a4:=Tryz.isAgg4
 z4:=Tryz.sizeOf4
 v4:=Tryz.zeroValue4
 t5:=Tryz.underlying5
 a5:=Tryz.isAgg5
 z5:=Tryz.sizeOf5
 v5:=Tryz.zeroValue5
 t9:=Tryz.underlying9
 a9:=Tryz.isAgg9
 z9:=Tryz.sizeOf9
 v9:=Tryz.zeroValue9
 t20:=Tryz.underlying20
 a20:=Tryz.isAgg20
 z20:=Tryz.sizeOf20
 v20:=Tryz.zeroValue20
 t37:=Tryz.underlying92
 a37:=Tryz.isAgg92
 z37:=Tryz.sizeOf92
 v37:=Tryz.zeroValue92
 t46:=Tryz.underlying162
 a46:=Tryz.isAgg162
 z46:=Tryz.sizeOf162
 v46:=Tryz.zeroValue162
 t51:=Tryz.underlying186
 a51:=Tryz.isAgg186
 z51:=Tryz.sizeOf186
 v51:=Tryz.zeroValue186
 t53:=Tryz.underlying117
 a53:=Tryz.isAgg117
 z53:=Tryz.sizeOf117
 v53:=Tryz.zeroValue117
 t171:=Tryz.underlying198
 a171:=Tryz.isAgg198
 z171:=Tryz.sizeOf198
 v171:=Tryz.zeroValue198
 t173:=Tryz.underlying201
 a173:=Tryz.isAgg201
 z173:=Tryz.sizeOf201
 v173:=Tryz.zeroValue201
 t212:=Tryz.underlying219
 a212:=Tryz.isAgg219
 z212:=Tryz.sizeOf219
 v212:=Tryz.zeroValue219
 t213:=Tryz.underlying220
 a213:=Tryz.isAgg220
 z213:=Tryz.sizeOf220
 t232:=Tryz.underlying232
 a232:=Tryz.isAgg232
 z232:=Tryz.sizeOf232
 v232:=Tryz.zeroValue232
 t233:=Tryz.underlying233
 a233:=Tryz.isAgg233
 z233:=Tryz.sizeOf233
 v233:=Tryz.zeroValue233
 g17:=by kernel_rfl
 g18:=by kernel_rfl
 g19:=by kernel_rfl
 i0:=by kernel_rfl
 i2:=by kernel_rfl
 i3:=by kernel_rfl
 i4:=by kernel_rfl
 i5:=by kernel_rfl
 i9:=by kernel_rfl
 i20:=by kernel_rfl
 i37:=by kernel_rfl
 i46:=by kernel_rfl
 i51:=by kernel_rfl
 i53:=by kernel_rfl
 i171:=by kernel_rfl
 i173:=by kernel_rfl
 i212:=by kernel_rfl
 i232:=by kernel_rfl
 i233:=by kernel_rfl
 m17:=by kernel_rfl
 m18:=by kernel_rfl
 m19:=by kernel_rfl }
def Tryz.OU:Go.Shelf.Ren:=⟨fun | 240=>76 | 276=>100 | 166=>49 | n=>n,fun | 70=>91 | 9=>9 | 3=>3 | 75=>135 | 0=>0 | 72=>94 | 37=>92 | 4=>4 | 164=>191 | 20=>20 | 80=>107 | n=>n,fun | n=>n⟩
theorem Tryz.JV:Go.Proofs.Lays.n166 prog Tryz.OU:={
 mixed:=by kernel_rfl
 f166:=func49.trans (congrArg some (by kernel_rfl))
 f240:=func76.trans (congrArg some (by kernel_rfl))
 f276:=func100.trans (congrArg some (by kernel_rfl))
 t0:=Tryz.underlying0
 a0:=Tryz.isAgg0
 z0:=Tryz.sizeOf0
 v0:=Tryz.zeroValue0
 t3:=Tryz.underlying3
 a3:=Tryz.isAgg3
 z3:=Tryz.sizeOf3
 v3:=Tryz.zeroValue3
 t4:=Tryz.underlying4
 a4:=Tryz.isAgg4
 z4:=Tryz.sizeOf4
 v4:=Tryz.zeroValue4
 t9:=Tryz.underlying9
 a9:=Tryz.isAgg9
 z9:=Tryz.sizeOf9
 v9:=Tryz.zeroValue9
 t20:=Tryz.underlying20
 a20:=Tryz.isAgg20
 z20:=Tryz.sizeOf20
 v20:=Tryz.zeroValue20
 t37:=Tryz.underlying92
 a37:=Tryz.isAgg92
 z37:=Tryz.sizeOf92
 v37:=Tryz.zeroValue92
 t70:=Tryz.underlying91
 a70:=Tryz.isAgg91
 z70:=Tryz.sizeOf91
 v70:=Tryz.zeroValue91
 t72:=Tryz.underlying94
 a72:=Tryz.isAgg94
 z72:=Tryz.sizeOf94
 v72:=Tryz.zeroValue94
 t75:=Tryz.underlying135
 a75:=Tryz.isAgg135
 z75:=Tryz.sizeOf135
 v75:=Tryz.zeroValue135
 t164:=Tryz.underlying191
 a164:=Tryz.isAgg191
 z164:=Tryz.sizeOf191
 v164:=Tryz.zeroValue191
}
def Tryz.OT:Go.Shelf.Ren:=⟨fun | 240=>76 | 241=>84 | 276=>100 | 277=>111 | 165=>56 | n=>n,fun | 70=>91 | 3=>3 | 0=>0 | 4=>4 | 9=>9 | 20=>20 | 72=>94 | 37=>92 | 164=>191 | 80=>107 | n=>n,fun | n=>n⟩
theorem Tryz.OS:Go.Proofs.Lays.n165 prog Tryz.OT:={
 mixed:=by kernel_rfl
 f165:=func56.trans (congrArg some (by kernel_rfl))
 f240:=func76.trans (congrArg some (by kernel_rfl))
 f241:=func84.trans (congrArg some (by kernel_rfl))
 f276:=func100.trans (congrArg some (by kernel_rfl))
 f277:=func111.trans (congrArg some (by kernel_rfl))
 t0:=Tryz.underlying0
 a0:=Tryz.isAgg0
 z0:=Tryz.sizeOf0
 v0:=Tryz.zeroValue0
 t3:=Tryz.underlying3
 a3:=Tryz.isAgg3
 z3:=Tryz.sizeOf3
 v3:=Tryz.zeroValue3
 t4:=Tryz.underlying4
 a4:=Tryz.isAgg4
 z4:=Tryz.sizeOf4
 v4:=Tryz.zeroValue4
 t9:=Tryz.underlying9
 a9:=Tryz.isAgg9
 z9:=Tryz.sizeOf9
 v9:=Tryz.zeroValue9
 t20:=Tryz.underlying20
 a20:=Tryz.isAgg20
 z20:=Tryz.sizeOf20
 v20:=Tryz.zeroValue20
 t37:=Tryz.underlying92
 a37:=Tryz.isAgg92
 z37:=Tryz.sizeOf92
 v37:=Tryz.zeroValue92
 t70:=Tryz.underlying91
 a70:=Tryz.isAgg91
 z70:=Tryz.sizeOf91
 v70:=Tryz.zeroValue91
 t72:=Tryz.underlying94
 a72:=Tryz.isAgg94
 z72:=Tryz.sizeOf94
 v72:=Tryz.zeroValue94
 t164:=Tryz.underlying191
 a164:=Tryz.isAgg191
 z164:=Tryz.sizeOf191
 v164:=Tryz.zeroValue191
}
theorem Tryz.GV:Builder.Extra prog Tryz.OU where
 sizeBuilder:=by kernel_rfl
 liesBuilder:=by kernel_rfl
 t5:=Tryz.underlying5
 a5:=Tryz.isAgg5
 z5:=Tryz.sizeOf5
 v5:=Tryz.zeroValue5
 infoByte:=by kernel_rfl
 cellsByte:=by kernel_rfl
 sizeByte:=by kernel_rfl
 neB5:=by decide
theorem Tryz.GW:Builder.Extra prog Tryz.OV where
 sizeBuilder:=by kernel_rfl
 liesBuilder:=by kernel_rfl
 t5:=Tryz.underlying5
 a5:=Tryz.isAgg5
 z5:=Tryz.sizeOf5
 v5:=Tryz.zeroValue5
 infoByte:=by kernel_rfl
 cellsByte:=by kernel_rfl
 sizeByte:=by kernel_rfl
 neB5:=by decide
theorem Tryz.KT : prog.globalNamed "internal/strconv.uint64pow10" = some 0 := by kernel_rfl
instance : cw := ⟨λw I => I 0 /\ Lib.TabIs prog w "internal/strconv.uint64pow10" .u64 Lib.pow10Tab, λ{w w' I I'} h au bb => ⟨bb _ h.1, by
 have af:=h.2;unfold Lib.TabIs World.var? at af ⊢;rw [Tryz.KT] at af ⊢;simp only [Option.bind_some] at af ⊢;rw [au _ h.1];exact af⟩⟩
theorem Tryz.Qu (w : World) (I : a6) (h : cw.q w I) : Lib.TabIs prog w "internal/strconv.uint64pow10" .u64 Lib.pow10Tab := h.2
instance:Lm prog 94 5:={}
instance {x s y:ByteArray}:bJ prog 49 (mP x s=some y) [.obj [.self (0,94),.dv 5 (strCells x)],ao s] [some (.obj [.self (0,94),.dv 5 (strCells y)]),none] (.bN [ae s.size,.lit .nilIface]):=⟨bH.Ax Tryz.JV Tryz.GV⟩
instance {x y:ByteArray}:bJ prog 30 (pj x=some y) [.obj [.self (0,94),.dv 5 (strCells x)]] [some (.obj [.self (0,94),.dead])] (ao y):=⟨bH.bs Tryz.JW Tryz.GW⟩
instance {n:Int}{r:ByteArray}:bJ prog 29 (nK n=some r) [ae n] [none] (ao r):=⟨bH.itoa (P:=prog) Tryz.OW Tryz.Qu⟩
theorem Tryz.L_:Builder.Extra prog Tryz.OT where
 sizeBuilder:=by kernel_rfl
 liesBuilder:=by kernel_rfl
 t5:=Tryz.underlying5
 a5:=Tryz.isAgg5
 z5:=Tryz.sizeOf5
 v5:=Tryz.zeroValue5
 infoByte:=by kernel_rfl
 cellsByte:=by kernel_rfl
 sizeByte:=by kernel_rfl
 neB5:=by decide
instance {n:Int}{y:ByteArray}:bJ prog 56 (vZ () n=some y) [.obj [.self (0,94),.bf],ae n] [some (.obj [.self (0,94),.dv 5 (strCells y)]),none] (.bN []):=⟨bH.Mf Tryz.OS Tryz.L_⟩
theorem Hk (x s y:ByteArray) (h:mP x s=some y):bH prog 49 [.obj [.self (0,94),.dv 5 (strCells x)],ao s] [some (.obj [.self (0,94),.dv 5 (strCells y)]),none] (.bN [ae s.size,.lit .nilIface]):=bH.Ax Tryz.JV Tryz.GV h
theorem SU (x y:ByteArray) (h:pj x=some y):bH prog 30 [.obj [.self (0,94),.dv 5 (strCells x)]] [some (.obj [.self (0,94),.dead])] (ao y):=bH.bs Tryz.JW Tryz.GW h
theorem D9 (n:Int) (r:ByteArray) (h:nK n=some r):bH prog 29 [ae n] [none] (ao r):=bH.itoa (P:=prog) Tryz.OW Tryz.Qu h
theorem S3 (_u:Unit) (n:Int) (y:ByteArray) (h:vZ () n=some y):bH prog 56 [.obj [.self (0,94),.bf],ae n] [some (.obj [.self (0,94),.dv 5 (strCells y)]),none] (.bN []):=bH.Mf Tryz.OS Tryz.L_ h
theorem My {cs:List ab}{k e0:Nat}{x s y:ByteArray}(jA:cs[k]?=some (.self (k,e0))) (eM:cs[k+1]?=some (.dv 5 (strCells x))) (ah:liesAt prog prog.depth e0 (cs.length / prog.cellsOf e0) k 94 1=true) (h:mP x s=some y) :
  sU prog 49 k cs [.string s] (cs.set (k+1) (.dv 5 (strCells y))) (.bN [ae s.size,.lit .nilIface]):=sU.Ax Tryz.JV Tryz.GV jA eM ah h
theorem SV {cs:List ab}{k:Nat}{x y:ByteArray}(eM:cs[k+1]?=some (.dv 5 (strCells x))) (h:pj x=some y):sU prog 30 k cs [] (cs.set (k+1) .dead) (ao y):=sU.bs Tryz.JW Tryz.GW eM h
open Go Go.Shelf Go.RowKit Go.Lib Go.Sort Go.Own
def Tryz.Zn:Go.Shelf.Ren:=⟨fun | 6=>79 | 15=>102 | 14=>101 | 28=>126 | 29=>127 | 20=>118 | 21=>119 | 22=>120 | 23=>121 | 24=>122 | 25=>123 | 26=>124 | 27=>125 | 46=>138 | 47=>139 | 48=>140 | 49=>141 | 50=>142 | 57=>149 | n=>n,fun | 22=>97 | 24=>112 | 25=>167 | 3=>3 | 39=>162 | 0=>0 | 53=>186 | 55=>117 | 4=>4 | 46=>211 | 45=>210 | 50=>215 | 5=>5 | 9=>9 | 66=>224 | 70=>228 | 76=>230 | 77=>102 | n=>n,fun | n=>n⟩
theorem Tryz.Zm:Go.Proofs.SlLaysF0.n6 prog Tryz.Zn:={
 mixed:=by kernel_rfl
 f6:=⟨Tryz.f79.name,by decide,func79.trans (congrArg some (by kernel_rfl))⟩
 f14:=⟨Tryz.f101.name,by decide,func101.trans (congrArg some (by kernel_rfl))⟩
 f15:=func102.trans (congrArg some (by kernel_rfl))
 f20:=⟨Tryz.f118.name,by decide,func118.trans (congrArg some (by kernel_rfl))⟩
 f21:=⟨Tryz.f119.name,by decide,func119.trans (congrArg some (by kernel_rfl))⟩
 f22:=⟨Tryz.f120.name,by decide,func120.trans (congrArg some (by kernel_rfl))⟩
 f23:=⟨Tryz.f121.name,by decide,func121.trans (congrArg some (by kernel_rfl))⟩
 f24:=⟨Tryz.f122.name,by decide,func122.trans (congrArg some (by kernel_rfl))⟩
 f25:=⟨Tryz.f123.name,by decide,func123.trans (congrArg some (by kernel_rfl))⟩
 f26:=⟨Tryz.f124.name,by decide,func124.trans (congrArg some (by kernel_rfl))⟩
 f27:=⟨Tryz.f125.name,by decide,func125.trans (congrArg some (by kernel_rfl))⟩
 f28:=func126.trans (congrArg some (by kernel_rfl))
 f29:=func127.trans (congrArg some (by kernel_rfl))
 f46:=⟨Tryz.f138.name,by decide,func138.trans (congrArg some (by kernel_rfl))⟩
 f47:=func139.trans (congrArg some (by kernel_rfl))
 f48:=func140.trans (congrArg some (by kernel_rfl))
 f49:=⟨Tryz.f141.name,by decide,func141.trans (congrArg some (by kernel_rfl))⟩
 f50:=⟨Tryz.f142.name,by decide,func142.trans (congrArg some (by kernel_rfl))⟩
 f57:=⟨Tryz.f149.name,by decide,func149.trans (congrArg some (by kernel_rfl))⟩
 t0:=Tryz.underlying0
 a0:=Tryz.isAgg0
 z0:=Tryz.sizeOf0
 v0:=Tryz.zeroValue0
 t3:=Tryz.underlying3
 a3:=Tryz.isAgg3
 z3:=Tryz.sizeOf3
 v3:=Tryz.zeroValue3
 t4:=Tryz.underlying4
 a4:=Tryz.isAgg4
 z4:=Tryz.sizeOf4
 v4:=Tryz.zeroValue4
 t5:=Tryz.underlying5
 a5:=Tryz.isAgg5
 z5:=Tryz.sizeOf5
 v5:=Tryz.zeroValue5
 t9:=Tryz.underlying9
 a9:=Tryz.isAgg9
 z9:=Tryz.sizeOf9
 v9:=Tryz.zeroValue9
 t22:=Tryz.underlying97
 a22:=Tryz.isAgg97
 z22:=Tryz.sizeOf97
 v22:=Tryz.zeroValue97
 t25:=Tryz.underlying167
 a25:=Tryz.isAgg167
 z25:=Tryz.sizeOf167
 v25:=Tryz.zeroValue167
 t39:=Tryz.underlying162
 a39:=Tryz.isAgg162
 z39:=Tryz.sizeOf162
 v39:=Tryz.zeroValue162
 t45:=Tryz.underlying210
 a45:=Tryz.isAgg210
 z45:=Tryz.sizeOf210
 v45:=Tryz.zeroValue210
 t46:=Tryz.underlying211
 a46:=Tryz.isAgg211
 z46:=Tryz.sizeOf211
 v46:=Tryz.zeroValue211
 t50:=Tryz.underlying215
 a50:=Tryz.isAgg215
 z50:=Tryz.sizeOf215
 v50:=Tryz.zeroValue215
 t53:=Tryz.underlying186
 a53:=Tryz.isAgg186
 z53:=Tryz.sizeOf186
 v53:=Tryz.zeroValue186
 t55:=Tryz.underlying117
 a55:=Tryz.isAgg117
 z55:=Tryz.sizeOf117
 v55:=Tryz.zeroValue117
 t66:=Tryz.underlying224
 a66:=Tryz.isAgg224
 z66:=Tryz.sizeOf224
 v66:=Tryz.zeroValue224
 t70:=Tryz.underlying228
 a70:=Tryz.isAgg228
 z70:=Tryz.sizeOf228
 v70:=Tryz.zeroValue228
 t76:=Tryz.underlying230
 a76:=Tryz.isAgg230
 z76:=Tryz.sizeOf230
 v76:=Tryz.zeroValue230
 t77:=Tryz.underlying102
 a77:=Tryz.isAgg102
 z77:=Tryz.sizeOf102
 v77:=Tryz.zeroValue102 }
end Go.Proofs
section
namespace Go.Proofs
open Tryz
open Go Go.Shelf Go.RowKit Go.Lib Go.Sort
variable {α:Type} [Inhabited α] [DecidableEq α]
set_option maxHeartbeats 4000000
set_option maxRecDepth 1000000
set_option linter.unusedVariables false
theorem SJ (w:World) (p:Option Addr) (cap:Nat):Calls prog 81 #[.slice p 0 cap] w λbZ w'=>bZ=.returned (.slice p 0 cap)/\w'=w:=by
 go_enter func81,Tryz.ntmps81
 go_wp2
 go_ret
 exact ⟨rfl,rfl⟩
theorem SL (e0 bO:α->Value) (UU:OneCell e0) (UW:OneCell bO)
  (acY:∀ (x y:α) (w:World),Sem.run prog (binOp .eql 112 (.agg #[e0 x,bO x]) (.agg #[e0 y,bO y])) w=.ok (.bool (decide (x=y))) w)
  (yV:∀ (x y:α) (w:World),Sem.run prog (binOp .neq 112 (.agg #[e0 x,bO x]) (.agg #[e0 y,bO y])) w=.ok (.bool (!decide (x=y))) w)
  (ac1:∀ (op:BinOp) (a b:Operand) (x y:α) (w:World),Sem.run prog (eqGuard op 112 a b (.agg #[e0 x,bO x]) (.agg #[e0 y,bO y])) w=.ok () w)
  (aS:[e0 default,bO default]=[.int .i64 0,.int .i64 0])
  (w:World) (fD cap:Nat) (d:Array α) (pK:0<d.size) (hH:HoldsK (λx=>[e0 x,bO x]) 2 w fD 0 d) (hblk:fD<w.heap.size) (kv:d.size<=cap) (Ez:d.size<4611686018427387904) :
  Calls prog 81 #[.slice (some ⟨fD,0,none⟩) d.size cap] w λbZ w'=>bZ=.returned (.slice (some ⟨fD,0,none⟩) (compactUpTo d d.size).length cap)/\∃ q,w'=putRowK (λx=>[e0 x,bO x]) 2 (Sort.ahead w q) fD 0 (compactUpTo d d.size++List.replicate (d.size - (compactUpTo d d.size).length) default).toArray:=by
 have adq:=UU.store prog;have adr:=UW.store prog;have mixed:prog.follows .mixedOrders=true:=by kernel_rfl
 have jy:∀ (W:World) (iR:Array α),iR.size=d.size->HoldsK (λx=>[e0 x,bO x]) 2 W fD 0 iR->∀ aa,aa<d.size->(W.cell? ⟨fD,aa * 2,none⟩=some (e0 iR[aa]!)/\W.frozen? ⟨fD,aa * 2,none⟩=false)/\(W.cell? ⟨fD,aa * 2+1,none⟩=some (bO iR[aa]!)/\W.frozen? ⟨fD,aa * 2+1,none⟩=false):=by
  intro W iR ax h aa ag;obtain ⟨aw,a2⟩:=h (aa * 2) (by simp; omega);obtain ⟨gH,hs⟩:=h (aa * 2+1) (by simp; omega);rw [get_flatK _ _ _ _ (by omega),Nat.zero_add,show aa * 2 / 2=aa by omega,show aa * 2 % 2=0 by omega] at aw;rw [get_flatK _ _ _ _ (by omega),Nat.zero_add,show (aa * 2+1) / 2=aa by omega,show (aa * 2+1) % 2=1 by omega] at gH;rw [Nat.zero_add] at a2 hs;exact ⟨⟨aw,a2⟩,⟨gH,hs⟩⟩
 have same:∀ q,(∀ aa,aa<d.size->keeps d aa=true)->(compactUpTo d d.size).length=d.size/\w.drewN q=putRowK (λx=>[e0 x,bO x]) 2 (Sort.ahead w q) fD 0 (compactUpTo d d.size++List.replicate (d.size - (compactUpTo d d.size).length) default).toArray:=by
  intro q fN;have e:compactUpTo d d.size=d.toList:=by rw [compactUpTo_all d _ fN,range_map_get]
  rw [e];refine ⟨by simp,?_⟩;simp only [Array.length_toList,Nat.sub_self,List.replicate_zero,List.append_nil,Array.toArray_toList];exact (putRowK_self _ 2 (Sort.ahead w q) fD 0 d (holdsK_ahead _ 2 w q fD 0 d hH)).symm
 have Lt:Aside (∀ q,(∀ aa,aa<d.size->keeps d aa=true)->(compactUpTo d d.size).length=d.size/\w.drewN q=putRowK (λx=>[e0 x,bO x]) 2 (Sort.ahead w q) fD 0 (compactUpTo d d.size++List.replicate (d.size - (compactUpTo d d.size).length) default).toArray):=same;clear same;by_cases af:d.size<2
 ·have DF:Aside (HoldsK (λx=>[e0 x,bO x]) 2 w fD 0 d):=hH;clear hH jy
  go_enter func81,Tryz.ntmps81
  go_wp2
  go_ret
  obtain ⟨bO,b7⟩:=Lt.out 0 (λaa ag=>keeps_lt_one d aa (by omega));exact ⟨by rw [bO]; rfl,0,b7⟩
 ·go_enter func81,Tryz.ntmps81
  go_wp2
  go_loopg [3] d.size (λg dE wr=>∃ k q:Nat,1<=k/\k<=d.size/\d.size - k<=g/\dE=.int .i64 k/\wr=w.drewN q/\∀ aa,aa<k->keeps d aa=true)
  case atStart=>exact ⟨1,0,Nat.le_refl _,by omega,by omega,rfl,rfl,keeps_lt_one d⟩
  case round =>
   obtain ⟨k,q,eM,hk,aI,rfl,rfl,fN⟩:=hrel;by_cases aN:k<d.size
   ·obtain ⟨⟨c1,f1⟩,⟨G3,TM⟩⟩:=jy w d rfl hH k aN;obtain ⟨⟨AA,f0⟩,⟨Mn,TL⟩⟩:=jy w d rfl hH (k - 1) (by omega);have A:Aside (∀ aa,aa<k->keeps d aa=true):=fN;have DF:Aside (HoldsK (λx=>[e0 x,bO x]) 2 w fD 0 d):=hH;have Q7:Aside (∀ (W:World) (iR:Array α),iR.size=d.size->HoldsK (λx=>[e0 x,bO x]) 2 W fD 0 iR->∀ aa,aa<d.size->(W.cell? ⟨fD,aa * 2,none⟩=some (e0 iR[aa]!)/\W.frozen? ⟨fD,aa * 2,none⟩=false)/\(W.cell? ⟨fD,aa * 2+1,none⟩=some (bO iR[aa]!)/\W.frozen? ⟨fD,aa * 2+1,none⟩=false)):=jy;clear fN hH jy;generalize j:d[k]! = x at c1 G3;generalize ai:d[k - 1]! = y at AA Mn;have B:Aside (d[k]! = x/\d[k - 1]! = y):=⟨j,ai⟩;clear j ai;by_cases NJ:x=y
    ·subst NJ
     go_wp2_with fail
     go_region_o
     go_wp2
     clear AA c1 f0 f1 Mn G3 TL TM
     go_loopg [3,5] d.size (λg dE dW wr=>∃ (jH gm p1:Nat) (iR:Array α),dE=.int .i64 jH/\dW=.int .i64 gm/\1<=gm/\k+gm<=d.size/\d.size - (k+gm)<=g/\wr=putRowK (λx=>[e0 x,bO x]) 2 (Sort.ahead w p1) fD 0 iR/\CompInv d (k+gm) jH iR)
     case atStart=>exact ⟨k,1,q+1,d,rfl,rfl,Nat.le_refl _,by omega,by omega,(putRowK_self _ 2 (Sort.ahead w (q+1)) fD 0 d (holdsK_ahead _ 2 w (q+1) fD 0 d DF.out)).symm,CompInv.start A.out (keeps_neg (by omega) (by rw [B.out.1,B.out.2]))⟩
     case round =>
      obtain ⟨jH,gm,p1,iR,rfl,rfl,h1,hle,Bp,Jm,bb⟩:=hrel;have Bt:=bb.lt;have sf:=bb.size;have Eu:HoldsK (λx=>[e0 x,bO x]) 2 wr fD 0 iR:=by rw [Jm]; exact holdsK_putRowK _ 2 _ fD 0 d iR (holdsK_ahead _ 2 w p1 fD 0 d DF.out) sf
      have Bj:=Q7.out wr iR sf Eu;have GJ:Aside (wr=putRowK (λx=>[e0 x,bO x]) 2 (Sort.ahead w p1) fD 0 iR):=Jm;have uj:Aside (CompInv d (k+gm) jH iR):=bb;clear Jm;by_cases pH:k+gm<d.size
      ·obtain ⟨⟨Mv,_⟩,⟨Mw,_⟩⟩:=Bj (k+gm) (by omega);obtain ⟨⟨bD,_⟩,⟨MB,_⟩⟩:=Bj (k+gm - 1) (by omega);obtain ⟨⟨Sz,acw⟩,⟨SA,acx⟩⟩:=Bj jH (by omega);rw [bb.high (k+gm) (by omega),show (k+gm) * 2=k * 2+gm * 2 by omega] at Mv Mw;rw [bb.high (k+gm - 1) (by omega),show (k+gm - 1) * 2=k * 2+(gm - 1) * 2 by omega] at bD MB;clear Eu bb Bj;generalize hu:d[k+gm]! = u at Mv Mw;generalize hv:d[k+gm - 1]! = v at bD MB;generalize iR[jH]! = iF at Sz SA;have C:Aside (d[k+gm]! = u/\d[k+gm - 1]! = v):=⟨hu,hv⟩;clear hu hv;by_cases wQ:u=v
       ·subst wQ
        go_wp2_with fail
        go_region_o
        go_wp2
        go_roundg (d.size - (k+(gm+1)))
        case measure=>omega
        case rel=>exact ⟨jH,gm+1,p1+1,iR,rfl,by go_num,by omega,by omega,Nat.le_refl _,by rw [GJ.out]; rfl,uj.out.skip (keeps_neg (by omega) (by rw [C.out.1,C.out.2]))⟩
       ·go_wp2_with fail
        go_region_o
        go_wp2
        go_roundg (d.size - (k+(gm+1)))
        case measure=>omega
        case rel =>
         refine ⟨jH+1,gm+1,p1+1,iR.setIfInBounds jH u,by go_num,by go_num,by omega,by omega,Nat.le_refl _,?_,by have:=uj.out.keep pH (keeps_pos (by rw [C.out.1,C.out.2]; exact wQ)); rwa [C.out.1] at this⟩;have:=PF (λx=>[e0 x,bO x]) (Sort.ahead w (p1+1)) fD iR jH [u] (by simp; omega);rw [XJ,TV] at this;rw [<- this,GJ.out];rfl
      ·have VO:k+gm=d.size:=by omega
       have Oy:(Builtin.zeroCells (Value.agg #[.int .i64 0,.int .i64 0]).cells (d.size - jH)).toList=(flatK (λx=>[e0 x,bO x]) 2 (List.replicate (d.size - jH) (default:α)).toArray).toList:=by
        rw [show (Value.agg #[.int .i64 0,.int .i64 0]).cells=#[Value.int .i64 0,.int .i64 0] from rfl,aaj,M6 _ _ _ aS]
       have pE:((flatK (λx=>[e0 x,bO x]) 2 (List.replicate (d.size - jH) (default:α)).toArray).toList).length=(d.size - jH) * 2:=by simp
       have fy:∀ v∈(flatK (λx=>[e0 x,bO x]) 2 (List.replicate (d.size - jH) (default:α)).toArray).toList,v.oneCell'=true:=by
        intro v hv;rw [M6 _ _ _ aS] at hv;rw [List.eq_of_mem_replicate hv]; rfl
       have Bh:∀ aa,aa<(d.size - jH) * 2->(wr.cell? ⟨fD,jH * 2+aa,none⟩).isSome=true/\wr.frozen? ⟨fD,jH * 2+aa,none⟩=false:=by
        intro aa ag;obtain ⟨aw,a2⟩:=Eu (jH * 2+aa) (by simp; omega);rw [Nat.zero_add] at aw a2;exact ⟨by rw [aw]; rfl,a2⟩
       have h3:∀ ty,(Builtin.clear_ #[97] ty #[.slice (some ⟨fD,jH * 2,none⟩) (d.size - jH) (cap - jH)]).run prog wr=.ok (.tuple #[]) (wr.setCells fD (jH * 2) (flatK (λx=>[e0 x,bO x]) 2 (List.replicate (d.size - jH) (default:α)).toArray).toList) :=
        λty=>YZ prog wr 97 112 ty (.agg #[.int .i64 0,.int .i64 0]) Tryz.underlying97 Tryz.zeroValue112 fD (jH * 2) _ _ _ Oy fy (by omega) (λaa ag=>(Bh aa (by rw [<- pE]; exact ag)).1) (λaa ag=>(Bh aa (by rw [<- pE]; exact ag)).2)
       clear Eu bb Bj Oy fy pE Bh
       go_wp2
       go_ret
       have bb:=uj.out;rw [VO] at bb;refine ⟨by rw [bb.len]; rfl,p1,?_⟩;rw [bb.len,<- bb.done default,<- PF _ _ fD iR jH _ (by simp; omega),<- GJ.out,List.toArray_replicate]
    ·go_wp2_with fail
     go_region_o
     go_wp2
     go_roundg (d.size - (k+1))
     case measure=>omega
     case rel =>
      refine ⟨k+1,q+1,by omega,by omega,Nat.le_refl _,by go_num,rfl,λaa ag=>?_⟩;by_cases e:aa=k
      ·subst e;exact keeps_pos (by rw [B.out.1,B.out.2]; exact NJ)
      ·exact A.out aa (by omega)
   ·have:k=d.size:=by omega
    subst this;have DF:Aside (HoldsK (λx=>[e0 x,bO x]) 2 w fD 0 d):=hH;clear hH jy
    go_wp2
    go_ret
    obtain ⟨bO,b7⟩:=Lt.out q fN;exact ⟨by rw [bO]; rfl,q,b7⟩
end Go.Proofs
end
namespace Go.Proofs
open Tryz
open Go Go.Own
set_option maxRecDepth 100000
set_option linter.unusedVariables false
def kf (a0:Int):Option (ByteArray) :=
 ((bif decide (a0<0) then
 some (IntKind.u64.wrap (-(IntKind.u64.wrap a0)))
 else
 some (IntKind.u64.wrap a0))).bind λiZ =>
 (b0 (R:=ByteArray) (λ(dE:Int × ByteArray) =>
 ((bif decide (0<dE.1) then some true else some (decide (dE.2=⟨#[]⟩)))).bind λpn =>
 (bif pn then
 (o3 dE.1 10).bind λcR =>
 (cj (strOfNums [tZ (IntKind.u64.wrap (48+cR))]) dE.2).bind λbR =>
 (o1 dE.1 10).bind λdt =>
 some (.inl (dt,bR))
 else
 some (.inr dE.2))) (iZ,⟨#[]⟩)).bind λb4 =>
 (bif decide (a0<0) then
 (cj (⟨#[45]⟩) b4).bind λe8 =>
 some e8
 else
 some b4)
def CB (a0:Int):Option (Bool) :=
 ((bif decide (97<=a0) then (bif decide (a0<=122) then some true else (bif decide (65<=a0) then (bif decide (a0<=90) then some true else some (decide (a0=95))) else some (decide (a0=95)))) else (bif decide (65<=a0) then (bif decide (a0<=90) then some true else some (decide (a0=95))) else some (decide (a0=95))))).bind λpn =>
 some pn
def CC (a0:Int):Option (Bool) :=
 ((bif decide (48<=a0) then some (decide (a0<=57)) else some false)).bind λc2 =>
 some c2
def CA (a0:ByteArray) (aw:Int):Option (Int) :=
 (b0 (R:=Int) (λ(s1:Int) =>
 ((bif decide (aR (aw+s1)<(a0.size:Int)) then ((iP a0 (aR (aw+s1))).bind λcd=>((CB cd).bind λb2=>(bif b2 then some true else (bif decide (0<s1) then ((iP a0 (aR (aw+s1))).bind λcR=>((CC cR).bind λbR=>(bif bR then some true else ((iP a0 (aR (aw+s1))).bind λc0=>some (decide (c0=46)))))) else some false)))) else some false)).bind λl1 =>
 (bif l1 then
 some (.inl (aR (s1+1)))
 else
 some (.inr s1))) 0).bind λx2 =>
 some x2
def vm (a0:ByteArray):Option (Bool) :=
 ((bif decide (1<=(a0.size:Int)) then (bif decide ((a0.size:Int)<=20) then ((CA a0 0).bind λaZ=>some (decide (aZ=(a0.size:Int)))) else some false) else some false)).bind λc4 =>
 some c4
def xu (a0:Int):Option (Int × Bool) :=
 (bif decide (a0=10) then
 some (110,true)
 else
 (bif decide (a0=9) then
 some (116,true)
 else
 (bif decide (a0=13) then
 some (114,true)
 else
 ((bif decide (a0=92) then
 some (decide (a0=92))
 else
 some (decide (a0=39)))).bind λvg =>
 (bif vg then
 some (a0,true)
 else
 ((bif decide (32<=a0) then some (0,decide (a0<=126)) else some (0,false))).bind λn3 =>
 some (n3.1,n3.2)))))
structure Sym where
 Name:ByteArray
 Lit:Bool
 bT:Int
 At:Int
 deriving DecidableEq,Inhabited
def dI:bz Sym:=⟨4,λx=>[ao x.Name,bg x.Lit,ae x.bT,ae x.At],λ_=>rfl,λ_=>df.bd⟩
instance:Flat dI:=⟨λ_=>rfl⟩
instance:lU dI:=⟨λx=>(inferInstance:js [ao x.Name,bg x.Lit,ae x.bT,ae x.At])⟩
instance:gQ dI dI:=⟨rfl,λx=>(inferInstance:du [ao x.Name,bg x.Lit,ae x.bT,ae x.At] [ao x.Name,bg x.Lit,ae x.bT,ae x.At])⟩
instance {x:Sym}:du (dI.cells x) [ao x.Name,bg x.Lit,ae x.bT,ae x.At]:=(inferInstance:du [ao x.Name,bg x.Lit,ae x.bT,ae x.At] [ao x.Name,bg x.Lit,ae x.bT,ae x.At])
def tM (a0:Sym) (aw:Bool) (a2:Bool):Option (Bool) :=
 (bif a0.Lit then
 ((bif !a2 then some true else (bif !decide ((a0.Name.size:Int)=1) then some true else some (!decide (a0.bT=0))))).bind λc4 =>
 (bif c4 then
 some false
 else
 (iP a0.Name 0).bind λb2 =>
 (xu b2).bind λbt =>
 some bt.2)
 else
 (((vm a0.Name).bind λcf=>(bif cf then (bif decide (a0.bT=0) then some true else (bif aw then (bif decide (1<=a0.bT) then some (decide (a0.bT<=50000)) else some false) else some false)) else some false))).bind λl1 =>
 some l1)
structure Decl where
 Kind:Int
 Tag:ByteArray
 er:(List Sym)
 At:Int
 deriving DecidableEq,Inhabited
def dG:bz Decl:=⟨4,λx=>[ae x.Kind,ao x.Tag,ay dI x.er,ae x.At],λ_=>rfl,λ_=>df.bd⟩
instance:Flat dG:=⟨λ_=>rfl⟩
instance:gQ dG dG:=⟨rfl,λx=>(inferInstance:du [ae x.Kind,ao x.Tag,ay dI x.er,ae x.At] [ae x.Kind,ao x.Tag,ay dI x.er,ae x.At])⟩
instance {x:Decl}:du (dG.cells x) [ae x.Kind,ao x.Tag,ay dI x.er,ae x.At]:=(inferInstance:du [ae x.Kind,ao x.Tag,ay dI x.er,ae x.At] [ae x.Kind,ao x.Tag,ay dI x.er,ae x.At])
def xj (a0:Decl):Option (Bool) :=
 ((bif decide (a0.Kind<1) then some true else (bif decide (6<a0.Kind) then some true else (bif decide ((a0.er.length:Int)=0) then some true else (bif decide (a0.Kind=6) then (bif !decide ((a0.er.length:Int)=1) then some true else (bif !decide (a0.Tag=⟨#[]⟩) then some true else (bif decide (a0.Kind=5) then (bif decide (a0.Tag=⟨#[]⟩) then some true else some false) else some false))) else (bif decide (a0.Kind=5) then (bif decide (a0.Tag=⟨#[]⟩) then some true else (bif !decide (a0.Tag=⟨#[]⟩) then ((vm a0.Tag).bind λc0=>some (!c0)) else some false)) else (bif !decide (a0.Tag=⟨#[]⟩) then ((vm a0.Tag).bind λdx=>some (!dx)) else some false))))))).bind λv' =>
 (bif v' then
 some false
 else
 (b0 (R:=(Unit) ⊕ (Bool)) (λ(ln:Int) =>
 (bif decide (ln<(a0.er.length:Int)) then
 (idx a0.er ln).bind λgB =>
 (tM gB (decide (a0.Kind=1)) (decide (a0.Kind<5))).bind λfa =>
 (bif !fa then
 some (.inr (.inr false))
 else
 some (.inl (aR (ln+1))))
 else
 some (.inr (.inl ())))) 0).bind λeu =>
 (match eu with
 | .inl e3 =>
 some true
 | .inr hf =>
 some hf))
def tN (a0:Sym):Option (Bool) :=
 ((bif decide (a0.Name=⟨#[]⟩) then (bif !a0.Lit then some (decide (a0.bT=0)) else some false) else some false)).bind λj8 =>
 some j8
def xl (a0:ByteArray) (aw:Int) (a2:ByteArray):Option (Bool) :=
 ((bif decide ((a2.size:Int)<=aR ((a0.size:Int) - aw)) then ((pr a0 aw (aR (aw+(a2.size:Int)))).bind λx2=>some (decide (x2=a2))) else some false)).bind λj8 =>
 some j8
def CD (a0:ByteArray) (aw:Int):Option (Int) :=
 (((iP a0 aw).bind λaX=>(bif decide (aX=34) then some true else ((iP a0 aw).bind λaZ=>some (decide (aZ=39)))))).bind λc4 =>
 (bif c4 then
 (b0 (R:=(Unit) ⊕ (Int)) (λ(cL:Int) =>
 ((bif decide (cL<(a0.size:Int)) then ((iP a0 cL).bind λdt=>some (!decide (dt=10))) else some false)).bind λv_ =>
 (bif v_ then
 (iP a0 cL).bind λdx =>
 (iP a0 aw).bind λdF =>
 (bif decide (dx=dF) then
 some (.inr (.inr (aR (cL+1))))
 else
 (iP a0 cL).bind λbG =>
 (bif decide (bG=92) then
 ((bif decide (aR (cL+1)<(a0.size:Int)) then ((iP a0 (aR (cL+1))).bind λhf=>some (decide (hf=10))) else some false)).bind λpk =>
 (bif pk then
 some (.inr (.inr (-1)))
 else
 some (.inl (aR ((aR (cL+1))+1))))
 else
 some (.inl (aR (cL+1)))))
 else
 some (.inr (.inl ())))) (aR (aw+1))).bind λbt =>
 (match bt with
 | .inl cf =>
 some (-1)
 | .inr cR =>
 some cR)
 else
 (iP a0 aw).bind λfa =>
 (bif decide (fa=96) then
 (b0 (R:=(Unit) ⊕ (Int)) (λ(kD:Int) =>
 (bif decide (kD<(a0.size:Int)) then
 (iP a0 kD).bind λgC =>
 (bif decide (gC=96) then
 some (.inr (.inr (aR (kD+1))))
 else
 some (.inl (aR (kD+1))))
 else
 some (.inr (.inl ())))) (aR (aw+1))).bind λkk =>
 (match kk with
 | .inl lq =>
 some (-1)
 | .inr cz =>
 some cz)
 else
 (xl a0 aw (⟨#[47,47]⟩)).bind λeO =>
 (bif eO then
 (b0 (R:=Int) (λ(lL:Int) =>
 ((bif decide (lL<(a0.size:Int)) then ((iP a0 lL).bind λcI=>some (!decide (cI=10))) else some false)).bind λtc =>
 (bif tc then
 some (.inl (aR (lL+1)))
 else
 some (.inr lL))) aw).bind λgu =>
 some gu
 else
 (xl a0 aw (⟨#[47,42]⟩)).bind λsS =>
 (bif sS then
 (b0 (R:=(Unit) ⊕ (Int)) (λ(zQ:Int) =>
 (bif decide (zQ<(a0.size:Int)) then
 (xl a0 zQ (⟨#[42,47]⟩)).bind λsT =>
 (bif sT then
 some (.inr (.inr (aR (zQ+2))))
 else
 some (.inl (aR (zQ+1))))
 else
 some (.inr (.inl ())))) (aR (aw+2))).bind λz' =>
 (match z' with
 | .inl Gj =>
 some (-1)
 | .inr mc =>
 some mc)
 else
 some aw))))
def zi (a0:ByteArray) (aw:Int):Option (Int) :=
 ((bif decide (aw<0) then some true else (bif decide ((a0.size:Int)<=aw) then some true else ((iP a0 aw).bind λaZ=>some (!decide (aZ=123)))))).bind λc4 =>
 (bif c4 then
 some (-1)
 else
 (b0 (R:=(Unit) ⊕ (Int)) (λ(cL:Int × Int) =>
 (bif decide (cL.2<(a0.size:Int)) then
 (CD a0 cL.2).bind λdt =>
 (bif decide (dt<0) then
 some (.inr (.inr (-1)))
 else
 (bif decide (cL.2<dt) then
 some (.inl (cL.1,dt))
 else
 (iP a0 cL.2).bind λdx =>
 ((bif decide (dx=123) then
 some (aR (cL.1+1))
 else
 some cL.1)).bind λvf =>
 (iP a0 cL.2).bind λbG =>
 ((bif decide (bG=125) then
 some (aR (vf - 1))
 else
 some vf)).bind λE4 =>
 (bif decide (E4=0) then
 some (.inr (.inr (aR (cL.2+1))))
 else
 some (.inl (E4,aR (cL.2+1))))))
 else
 some (.inr (.inl ())))) (0,aw)).bind λbt =>
 (match bt with
 | .inl cf =>
 some (-1)
 | .inr cR =>
 some cR))
structure Part where
 Sym:Sym
 Code:ByteArray
 At:Int
 deriving DecidableEq,Inhabited
structure Alt where
 Parts:(List Part)
 Prec:Sym
 At:Int
 deriving DecidableEq,Inhabited
def fx:bz Part:=⟨6,λx=>[ao x.Sym.Name,bg x.Sym.Lit,ae x.Sym.bT,ae x.Sym.At,ao x.Code,ae x.At],λ_=>rfl,λ_=>df.bd⟩
instance:Flat fx:=⟨λ_=>rfl⟩
instance:lU fx:=⟨λx=>(inferInstance:js [ao x.Sym.Name,bg x.Sym.Lit,ae x.Sym.bT,ae x.Sym.At,ao x.Code,ae x.At])⟩
instance:gQ fx fx:=⟨rfl,λx=>(inferInstance:du [ao x.Sym.Name,bg x.Sym.Lit,ae x.Sym.bT,ae x.Sym.At,ao x.Code,ae x.At] [ao x.Sym.Name,bg x.Sym.Lit,ae x.Sym.bT,ae x.Sym.At,ao x.Code,ae x.At])⟩
instance {x:Part}:du (fx.cells x) [ao x.Sym.Name,bg x.Sym.Lit,ae x.Sym.bT,ae x.Sym.At,ao x.Code,ae x.At]:=(inferInstance:du [ao x.Sym.Name,bg x.Sym.Lit,ae x.Sym.bT,ae x.Sym.At,ao x.Code,ae x.At] [ao x.Sym.Name,bg x.Sym.Lit,ae x.Sym.bT,ae x.Sym.At,ao x.Code,ae x.At])
def fe:bz Alt:=⟨6,λx=>[ay fx x.Parts,ao x.Prec.Name,bg x.Prec.Lit,ae x.Prec.bT,ae x.Prec.At,ae x.At],λ_=>rfl,λ_=>df.bd⟩
instance:Flat fe:=⟨λ_=>rfl⟩
instance:gQ fe fe:=⟨rfl,λx=>(inferInstance:du [ay fx x.Parts,ao x.Prec.Name,bg x.Prec.Lit,ae x.Prec.bT,ae x.Prec.At,ae x.At] [ay fx x.Parts,ao x.Prec.Name,bg x.Prec.Lit,ae x.Prec.bT,ae x.Prec.At,ae x.At])⟩
instance {x:Alt}:du (fe.cells x) [ay fx x.Parts,ao x.Prec.Name,bg x.Prec.Lit,ae x.Prec.bT,ae x.Prec.At,ae x.At]:=(inferInstance:du [ay fx x.Parts,ao x.Prec.Name,bg x.Prec.Lit,ae x.Prec.bT,ae x.Prec.At,ae x.At] [ay fx x.Parts,ao x.Prec.Name,bg x.Prec.Lit,ae x.Prec.bT,ae x.Prec.At,ae x.At])
def xk (a0:Alt):Option (Bool) :=
 (b0 (R:=(Unit) ⊕ (Bool)) (λ(s1:Int) =>
 (bif decide (s1<(a0.Parts.length:Int)) then
 (idx a0.Parts s1).bind λb2 =>
 ((bif decide (b2.Code=⟨#[]⟩) then ((tM b2.Sym false true).bind λcf=>(bif !cf then some true else (bif !decide (b2.Code=⟨#[]⟩) then ((tN b2.Sym).bind λdt=>(bif !dt then some true else ((zi b2.Code 0).bind λe8=>some (!decide (e8=(b2.Code.size:Int)))))) else some false))) else (bif !decide (b2.Code=⟨#[]⟩) then ((tN b2.Sym).bind λdF=>(bif !dF then some true else ((zi b2.Code 0).bind λbG=>some (!decide (bG=(b2.Code.size:Int)))))) else some false))).bind λn2 =>
 (bif n2 then
 some (.inr (.inr false))
 else
 some (.inl (aR (s1+1))))
 else
 some (.inr (.inl ())))) 0).bind λx2 =>
 (match x2 with
 | .inl aZ =>
 (((tN a0.Prec).bind λhf=>(bif hf then some true else ((tM a0.Prec false true).bind λgB=>some gB)))).bind λAB =>
 some AB
 | .inr b4 =>
 some b4)
structure eZ where
 Left:ByteArray
 eA:(List Alt)
 At:Int
 deriving DecidableEq,Inhabited
structure Source where
 b_:ByteArray
 Decls:(List Decl)
 dB:(List eZ)
 ch:ByteArray
 deriving DecidableEq,Inhabited
def h2:bz eZ:=⟨3,λx=>[ao x.Left,ay fe x.eA,ae x.At],λ_=>rfl,λ_=>df.bd⟩
instance:Flat h2:=⟨λ_=>rfl⟩
instance:gQ h2 h2:=⟨rfl,λx=>(inferInstance:du [ao x.Left,ay fe x.eA,ae x.At] [ao x.Left,ay fe x.eA,ae x.At])⟩
instance {x:eZ}:du (h2.cells x) [ao x.Left,ay fe x.eA,ae x.At]:=(inferInstance:du [ao x.Left,ay fe x.eA,ae x.At] [ao x.Left,ay fe x.eA,ae x.At])
def hI:bz Source:=⟨4,λx=>[ao x.b_,ay dG x.Decls,ay h2 x.dB,ao x.ch],λ_=>rfl,λ_=>df.bd⟩
instance:Flat hI:=⟨λ_=>rfl⟩
instance:gQ hI hI:=⟨rfl,λx=>(inferInstance:du [ao x.b_,ay dG x.Decls,ay h2 x.dB,ao x.ch] [ao x.b_,ay dG x.Decls,ay h2 x.dB,ao x.ch])⟩
instance {x:Source}:du (hI.cells x) [ao x.b_,ay dG x.Decls,ay h2 x.dB,ao x.ch]:=(inferInstance:du [ao x.b_,ay dG x.Decls,ay h2 x.dB,ao x.ch] [ao x.b_,ay dG x.Decls,ay h2 x.dB,ao x.ch])
def xv (a0:Source):Option (Bool) :=
 (b0 (R:=(Unit) ⊕ (Bool)) (λ(s1:Int) =>
 (bif decide (aR (s1+1)<(a0.b_.size:Int)) then
 (pr a0.b_ s1 (aR (s1+2))).bind λb2 =>
 (bif decide (b2=⟨#[37,125]⟩) then
 some (.inr (.inr false))
 else
 some (.inl (aR (s1+1))))
 else
 some (.inr (.inl ())))) 0).bind λx2 =>
 (match x2 with
 | .inl aZ =>
 (b0 (R:=(Unit) ⊕ (Bool)) (λ(ct:Int) =>
 (bif decide (ct<(a0.Decls.length:Int)) then
 (idx a0.Decls ct).bind λe8 =>
 (xj e8).bind λdx =>
 (bif !dx then
 some (.inr (.inr false))
 else
 some (.inl (aR (ct+1))))
 else
 some (.inr (.inl ())))) 0).bind λcR =>
 (match cR with
 | .inl bR =>
 (b0 (R:=(Unit) ⊕ (Bool)) (λ(C':Int) =>
 (bif decide (C'<(a0.dB.length:Int)) then
 (idx a0.dB C').bind λfU =>
 (((vm fU.Left).bind λgB=>(bif !gB then some true else some (decide ((fU.eA.length:Int)=0))))).bind λAD =>
 (bif AD then
 some (.inr (.inr false))
 else
 (b0 (R:=(Unit) ⊕ (Bool)) (λ(Da:Int) =>
 (bif decide (Da<(fU.eA.length:Int)) then
 (idx fU.eA Da).bind λlr =>
 (xk lr).bind λeO =>
 (bif !eO then
 some (.inr (.inr false))
 else
 some (.inl (aR (Da+1))))
 else
 some (.inr (.inl ())))) 0).bind λlq =>
 (match lq with
 | .inl cz =>
 some (.inl (aR (C'+1)))
 | .inr ev =>
 some (.inr (.inr ev))))
 else
 some (.inr (.inl ())))) 0).bind λbG =>
 (match bG with
 | .inl eu =>
 some (decide (0<(a0.dB.length:Int)))
 | .inr e3 =>
 some e3)
 | .inr dt =>
 some dt)
 | .inr b4 =>
 some b4)
structure Tok where
 Name:ByteArray
 Lit:Bool
 bT:Int
 Level:Int
 e9:Int
 Tag:ByteArray
 deriving DecidableEq,Inhabited
structure fb where
 Name:ByteArray
 Tag:ByteArray
 deriving DecidableEq,Inhabited
structure Prod where
 Left:Int
 eI:(List Int)
 Prec:Int
 Code:ByteArray
 vK:(List Int)
 At:Int
 deriving DecidableEq,Inhabited
structure bx where
 aW:(List Tok)
 bA:(List fb)
 a7:(List Prod)
 b_:ByteArray
 ch:ByteArray
 deriving DecidableEq,Inhabited
structure db where
 aA:bx
 cg:(List Bool)
 cx:(List fb)
 bX:(List ByteArray)
 cO:Int
 c8:Int
 c5:ByteArray
 ca:Int
 bU:Int
 deriving DecidableEq,Inhabited
def bP:bz Tok:=⟨6,λx=>[ao x.Name,bg x.Lit,ae x.bT,ae x.Level,ae x.e9,ao x.Tag],λ_=>rfl,λ_=>df.bd⟩
instance:Flat bP:=⟨λ_=>rfl⟩
instance:lU bP:=⟨λx=>(inferInstance:js [ao x.Name,bg x.Lit,ae x.bT,ae x.Level,ae x.e9,ao x.Tag])⟩
instance:gQ bP bP:=⟨rfl,λx=>(inferInstance:du [ao x.Name,bg x.Lit,ae x.bT,ae x.Level,ae x.e9,ao x.Tag] [ao x.Name,bg x.Lit,ae x.bT,ae x.Level,ae x.e9,ao x.Tag])⟩
instance {x:Tok}:du (bP.cells x) [ao x.Name,bg x.Lit,ae x.bT,ae x.Level,ae x.e9,ao x.Tag]:=(inferInstance:du [ao x.Name,bg x.Lit,ae x.bT,ae x.Level,ae x.e9,ao x.Tag] [ao x.Name,bg x.Lit,ae x.bT,ae x.Level,ae x.e9,ao x.Tag])
def bq:bz fb:=⟨2,λx=>[ao x.Name,ao x.Tag],λ_=>rfl,λ_=>df.bd⟩
instance:Flat bq:=⟨λ_=>rfl⟩
instance:lU bq:=⟨λx=>(inferInstance:js [ao x.Name,ao x.Tag])⟩
instance:gQ bq bq:=⟨rfl,λx=>(inferInstance:du [ao x.Name,ao x.Tag] [ao x.Name,ao x.Tag])⟩
def cm:bz Prod:=⟨6,λx=>[ae x.Left,ay aY x.eI,ae x.Prec,ao x.Code,ay aY x.vK,ae x.At],λ_=>rfl,λ_=>df.bd⟩
instance:Flat cm:=⟨λ_=>rfl⟩
instance:gQ cm cm:=⟨rfl,λx=>(inferInstance:du [ae x.Left,ay aY x.eI,ae x.Prec,ao x.Code,ay aY x.vK,ae x.At] [ae x.Left,ay aY x.eI,ae x.Prec,ao x.Code,ay aY x.vK,ae x.At])⟩
instance {x:Prod}:du (cm.cells x) [ae x.Left,ay aY x.eI,ae x.Prec,ao x.Code,ay aY x.vK,ae x.At]:=(inferInstance:du [ae x.Left,ay aY x.eI,ae x.Prec,ao x.Code,ay aY x.vK,ae x.At] [ae x.Left,ay aY x.eI,ae x.Prec,ao x.Code,ay aY x.vK,ae x.At])
def c':bz bx:=⟨5,λx=>[ay bP x.aW,ay bq x.bA,ay cm x.a7,ao x.b_,ao x.ch],λ_=>rfl,λ_=>df.bd⟩
instance:Flat c':=⟨λ_=>rfl⟩
instance:gQ c' c':=⟨rfl,λx=>(inferInstance:du [ay bP x.aW,ay bq x.bA,ay cm x.a7,ao x.b_,ao x.ch] [ay bP x.aW,ay bq x.bA,ay cm x.a7,ao x.b_,ao x.ch])⟩
instance {x:bx}:du (c'.cells x) [ay bP x.aW,ay bq x.bA,ay cm x.a7,ao x.b_,ao x.ch]:=(inferInstance:du [ay bP x.aW,ay bq x.bA,ay cm x.a7,ao x.b_,ao x.ch] [ay bP x.aW,ay bq x.bA,ay cm x.a7,ao x.b_,ao x.ch])
def Eh:bz db:=⟨13,λx=>[ay bP x.aA.aW,ay bq x.aA.bA,ay cm x.aA.a7,ao x.aA.b_,ao x.aA.ch,ay cr x.cg,ay bq x.cx,ay cQ x.bX,ae x.cO,ae x.c8,ao x.c5,ae x.ca,ae x.bU],λ_=>rfl,λ_=>df.bd⟩
instance:Flat Eh:=⟨λ_=>rfl⟩
instance:gQ Eh Eh:=⟨rfl,λx=>(inferInstance:du [ay bP x.aA.aW,ay bq x.aA.bA,ay cm x.aA.a7,ao x.aA.b_,ao x.aA.ch,ay cr x.cg,ay bq x.cx,ay cQ x.bX,ae x.cO,ae x.c8,ao x.c5,ae x.ca,ae x.bU] [ay bP x.aA.aW,ay bq x.aA.bA,ay cm x.aA.a7,ao x.aA.b_,ao x.aA.ch,ay cr x.cg,ay bq x.cx,ay cQ x.bX,ae x.cO,ae x.c8,ao x.c5,ae x.ca,ae x.bU])⟩
instance {x:db}:du (Eh.cells x) [ay bP x.aA.aW,ay bq x.aA.bA,ay cm x.aA.a7,ao x.aA.b_,ao x.aA.ch,ay cr x.cg,ay bq x.cx,ay cQ x.bX,ae x.cO,ae x.c8,ao x.c5,ae x.ca,ae x.bU]:=(inferInstance:du [ay bP x.aA.aW,ay bq x.aA.bA,ay cm x.aA.a7,ao x.aA.b_,ao x.aA.ch,ay cr x.cg,ay bq x.cx,ay cQ x.bX,ae x.cO,ae x.c8,ao x.c5,ae x.ca,ae x.bU] [ay bP x.aA.aW,ay bq x.aA.bA,ay cm x.aA.a7,ao x.aA.b_,ao x.aA.ch,ay cr x.cg,ay bq x.cx,ay cQ x.bX,ae x.cO,ae x.c8,ao x.c5,ae x.ca,ae x.bU])
def MN:bz bx:=⟨5,λx=>[ar bP x.aW,ar bq x.bA,ar cm x.a7,ao x.b_,ao x.ch],λ_=>rfl,λ_=>df.bd⟩
instance:gQ MN c':=⟨rfl,λx=>(inferInstance:du [ar bP x.aW,ar bq x.bA,ar cm x.a7,ao x.b_,ao x.ch] [ay bP x.aW,ay bq x.bA,ay cm x.a7,ao x.b_,ao x.ch])⟩
instance {x:bx}:du (MN.cells x) [ay bP x.aW,ay bq x.bA,ay cm x.a7,ao x.b_,ao x.ch]:=(inferInstance:du [ar bP x.aW,ar bq x.bA,ar cm x.a7,ao x.b_,ao x.ch] [ay bP x.aW,ay bq x.bA,ay cm x.a7,ao x.b_,ao x.ch])
def dH:bz db:=⟨13,λx=>[ar bP x.aA.aW,ar bq x.aA.bA,ar cm x.aA.a7,ao x.aA.b_,ao x.aA.ch,ar cr x.cg,ar bq x.cx,ar cQ x.bX,ae x.cO,ae x.c8,ao x.c5,ae x.ca,ae x.bU],λ_=>rfl,λ_=>df.bd⟩
instance {x:db}:du (dH.cells x) [ay bP x.aA.aW,ay bq x.aA.bA,ay cm x.aA.a7,ao x.aA.b_,ao x.aA.ch,ay cr x.cg,ay bq x.cx,ay cQ x.bX,ae x.cO,ae x.c8,ao x.c5,ae x.ca,ae x.bU]:=(inferInstance:du [ar bP x.aA.aW,ar bq x.aA.bA,ar cm x.aA.a7,ao x.aA.b_,ao x.aA.ch,ar cr x.cg,ar bq x.cx,ar cQ x.bX,ae x.cO,ae x.c8,ao x.c5,ae x.ca,ae x.bU] [ay bP x.aA.aW,ay bq x.aA.bA,ay cm x.aA.a7,ao x.aA.b_,ao x.aA.ch,ay cr x.cg,ay bq x.cx,ay cQ x.bX,ae x.cO,ae x.c8,ao x.c5,ae x.ca,ae x.bU])
def nk (a0:db) (aw:Int) (a2:ByteArray):Option (db) :=
 ((bif decide (a0.cO=0) then
 some (⟨a0.aA,a0.cg,a0.cx,a0.bX,3,aw,a2,a0.ca,a0.bU⟩:db)
 else
 some a0)).bind λiZ =>
 some iZ
def zA (a0:db) (aw:ByteArray):Option (Int) :=
 (b0 (R:=(Unit) ⊕ (Int)) (λ(s1:Int) =>
 (bif decide (s1<(a0.cx.length:Int)) then
 (idx a0.cx s1).bind λb2 =>
 (bif decide (b2.Name=aw) then
 some (.inr (.inr s1))
 else
 some (.inl (aR (s1+1))))
 else
 some (.inr (.inl ())))) 0).bind λx2 =>
 (match x2 with
 | .inl aZ =>
 some (-1)
 | .inr b4 =>
 some b4)
def tP (a0:db) (aw:Sym):Option (Int) :=
 (b0 (R:=(Unit) ⊕ (Int)) (λ(s1:Int) =>
 (bif decide (s1<(a0.aA.aW.length:Int)) then
 (((idx a0.aA.aW s1).bind λb2=>(bif decide (b2.Name=aw.Name) then ((idx a0.aA.aW s1).bind λcf=>(bif (cf.Lit == aw.Lit) then some (!decide (s1=2)) else some false)) else some false))).bind λje =>
 (bif je then
 some (.inr (.inr s1))
 else
 some (.inl (aR (s1+1))))
 else
 some (.inr (.inl ())))) 1).bind λx2 =>
 (match x2 with
 | .inl aZ =>
 some (-1)
 | .inr b4 =>
 some b4)
def vo (a0:db) (aw:Int):Option (Int) :=
 (b0 (R:=(Unit) ⊕ (Int)) (λ(s1:Int) =>
 (bif decide (s1<(a0.aA.aW.length:Int)) then
 (idx a0.aA.aW s1).bind λb2 =>
 (bif decide (b2.bT=aw) then
 some (.inr (.inr s1))
 else
 some (.inl (aR (s1+1))))
 else
 some (.inr (.inl ())))) 3).bind λx2 =>
 (match x2 with
 | .inl aZ =>
 some (-1)
 | .inr b4 =>
 some b4)
def vn (a0:db) (aw:Sym):Option (Int × db) :=
 (tP a0 aw).bind λaX =>
 (bif decide (0<=aX) then
 some (aX,a0)
 else
 ((bif aw.Lit then
 (iP aw.Name 0).bind λcd =>
 (vo a0 (aR cd)).bind λb2 =>
 ((bif decide (0<=b2) then
 (nk a0 aw.At aw.Name).bind λcR =>
 some cR
 else
 some a0)).bind λkz =>
 some (kz,aR cd)
 else
 some (a0,0))).bind λhW =>
 (dP hW.1.aA.aW [(⟨aw.Name,aw.Lit,hW.2,0,0,⟨#[]⟩⟩:Tok)]).bind λbR =>
 (dP hW.1.cg [aw.Lit]).bind λdt =>
 some (aR (((hW.1.aA.aW++[(⟨aw.Name,aw.Lit,hW.2,0,0,⟨#[]⟩⟩:Tok)]).length:Int) - 1),(⟨(⟨hW.1.aA.aW++[(⟨aw.Name,aw.Lit,hW.2,0,0,⟨#[]⟩⟩:Tok)],hW.1.aA.bA,hW.1.aA.a7,hW.1.aA.b_,hW.1.aA.ch⟩:bx),hW.1.cg++[aw.Lit],hW.1.cx,hW.1.bX,hW.1.cO,hW.1.c8,hW.1.c5,hW.1.ca,hW.1.bU⟩:db)))
def vv (a0:db) (aw:Decl) (a2:Sym):Option (db) :=
 (bif decide (aw.Kind=5) then
 (zA a0 a2.Name).bind λx2 =>
 ((bif decide (x2<0) then
 (dP a0.cx [(⟨a2.Name,aw.Tag⟩:fb)]).bind λcd =>
 some (⟨a0.aA,a0.cg,a0.cx++[(⟨a2.Name,aw.Tag⟩:fb)],a0.bX,a0.cO,a0.c8,a0.c5,a0.ca,a0.bU⟩:db)
 else
 (idx a0.cx x2).bind λb2 =>
 ((bif !decide (b2.Tag=aw.Tag) then
 (nk a0 a2.At a2.Name).bind λcR =>
 some cR
 else
 some a0)).bind λkz =>
 some kz)).bind λhW =>
 some hW
 else
 (vn a0 a2).bind λbR =>
 (idx bR.2.aA.aW bR.1).bind λdt =>
 ((bif !decide (aw.Kind=1) then
 ((bif decide (0<dt.Level) then
 (nk bR.2 a2.At a2.Name).bind λb8 =>
 some (⟨(⟨bR.2.aA.aW,b8.aA.bA,b8.aA.a7,b8.aA.b_,b8.aA.ch⟩:bx),b8.cg,b8.cx,b8.bX,b8.cO,b8.c8,b8.c5,b8.ca,b8.bU⟩:db)
 else
 some bR.2)).bind λcZ =>
 (idx cZ.aA.aW bR.1).bind λbG =>
 some (⟨(⟨(cZ.aA.aW.set bR.1.toNat (⟨bG.Name,bG.Lit,bG.bT,cZ.ca,bG.e9,bG.Tag⟩:Tok)).set bR.1.toNat (⟨(⟨bG.Name,bG.Lit,bG.bT,cZ.ca,bG.e9,bG.Tag⟩:Tok).Name,(⟨bG.Name,bG.Lit,bG.bT,cZ.ca,bG.e9,bG.Tag⟩:Tok).Lit,(⟨bG.Name,bG.Lit,bG.bT,cZ.ca,bG.e9,bG.Tag⟩:Tok).bT,(⟨bG.Name,bG.Lit,bG.bT,cZ.ca,bG.e9,bG.Tag⟩:Tok).Level,aR (aw.Kind - 1),(⟨bG.Name,bG.Lit,bG.bT,cZ.ca,bG.e9,bG.Tag⟩:Tok).Tag⟩:Tok),cZ.aA.bA,cZ.aA.a7,cZ.aA.b_,cZ.aA.ch⟩:bx),cZ.cg,cZ.cx,cZ.bX,cZ.cO,cZ.c8,cZ.c5,cZ.ca,cZ.bU⟩:db)
 else
 some bR.2)).bind λfl =>
 (idx fl.aA.aW bR.1).bind λeu =>
 ((bif decide (0<a2.bT) then
 ((bif decide (bR.1=1) then some true else ((idx fl.cg bR.1).bind λgB=>(bif gB then some true else ((vo fl a2.bT).bind λhg=>some (decide (0<=hg))))))).bind λG9 =>
 ((bif G9 then
 (nk fl a2.At a2.Name).bind λcz =>
 some (⟨(⟨fl.aA.aW,cz.aA.bA,cz.aA.a7,cz.aA.b_,cz.aA.ch⟩:bx),cz.cg,cz.cx,cz.bX,cz.cO,cz.c8,cz.c5,cz.ca,cz.bU⟩:db)
 else
 some fl)).bind λdw =>
 (idx dw.aA.aW bR.1).bind λev =>
 (idx dw.cg bR.1).bind λgC =>
 some (⟨(⟨dw.aA.aW.set bR.1.toNat (⟨ev.Name,ev.Lit,a2.bT,ev.Level,ev.e9,ev.Tag⟩:Tok),dw.aA.bA,dw.aA.a7,dw.aA.b_,dw.aA.ch⟩:bx),dw.cg.set bR.1.toNat true,dw.cx,dw.bX,dw.cO,dw.c8,dw.c5,dw.ca,dw.bU⟩:db)
 else
 some fl)).bind λeJ =>
 (idx eJ.aA.aW bR.1).bind λlr =>
 ((bif !decide (aw.Tag=⟨#[]⟩) then
 ((bif !decide (lr.Tag=⟨#[]⟩) then some (!decide (lr.Tag=aw.Tag)) else some false)).bind λwa =>
 ((bif wa then
 (nk eJ a2.At a2.Name).bind λcI =>
 some (⟨(⟨eJ.aA.aW,cI.aA.bA,cI.aA.a7,cI.aA.b_,cI.aA.ch⟩:bx),cI.cg,cI.cx,cI.bX,cI.cO,cI.c8,cI.c5,cI.ca,cI.bU⟩:db)
 else
 some eJ)).bind λkb =>
 (idx kb.aA.aW bR.1).bind λjL =>
 some (⟨(⟨kb.aA.aW.set bR.1.toNat (⟨jL.Name,jL.Lit,jL.bT,jL.Level,jL.e9,aw.Tag⟩:Tok),kb.aA.bA,kb.aA.a7,kb.aA.b_,kb.aA.ch⟩:bx),kb.cg,kb.cx,kb.bX,kb.cO,kb.c8,kb.c5,kb.ca,kb.bU⟩:db)
 else
 some eJ)).bind λoU =>
 some oU)
def sJ (a0:db) (aw:ByteArray):Option (Int) :=
 (b0 (R:=(Unit) ⊕ (Int)) (λ(s1:Int) =>
 (bif decide (s1<(a0.bX.length:Int)) then
 (idx a0.bX s1).bind λb2 =>
 (bif decide (b2=aw) then
 some (.inr (.inr s1))
 else
 some (.inl (aR (s1+1))))
 else
 some (.inr (.inl ())))) 0).bind λx2 =>
 (match x2 with
 | .inl aZ =>
 some (-1)
 | .inr b4 =>
 some b4)
def sF (a0:db) (aw:Sym):Option (Int × db) :=
 (bif aw.Lit then
 (vn a0 aw).bind λx2 =>
 some (x2.1,x2.2)
 else
 (sJ a0 aw.Name).bind λaZ =>
 (bif decide (0<=aZ) then
 some (aR (1001+aZ),a0)
 else
 (tP a0 aw).bind λcd =>
 (bif decide (cd<0) then
 (nk a0 aw.At aw.Name).bind λbt =>
 some (0,bt)
 else
 some (cd,a0))))
def vx (a0:db) (aw:ByteArray) (a2:Alt):Option (db) :=
 (sJ a0 aw).bind λaX =>
 (b0 (R:=db × List Int × ByteArray × Int) (λ(s2:db × List Int × ByteArray × Int × Int) =>
 (bif decide (s2.2.2.2.2<(a2.Parts.length:Int)) then
 ((idx a2.Parts s2.2.2.2.2).bind λbt =>
 (((bif decide (bt.Code=⟨#[]⟩) then
 (sF s2.1 bt.Sym).bind λdt =>
 (dP s2.2.1 [dt.1]).bind λc0 =>
 some (dt.2,s2.2.1++[dt.1],s2.2.2.1,s2.2.2.2.1)
 else
 ((bif decide (aR (s2.2.2.2.2+1)=(a2.Parts.length:Int)) then
 some (s2.1.aA.a7,s2.1.bU,s2.2.1,bt.Code,bt.At)
 else
 (dP ([]:List Int) s2.2.1).bind λdF =>
 (dP s2.1.aA.a7 [(⟨aR ((s2.1.bX.length:Int)+(aR (s2.1.bU+1))),([]:List Int),(-1),bt.Code,([]:List Int)++s2.2.1,bt.At⟩:Prod)]).bind λb8 =>
 (dP s2.2.1 [aR ((aR (1000+(s2.1.bX.length:Int)))+(aR (s2.1.bU+1)))]).bind λbG =>
 some (s2.1.aA.a7++[(⟨aR ((s2.1.bX.length:Int)+(aR (s2.1.bU+1))),([]:List Int),(-1),bt.Code,([]:List Int)++s2.2.1,bt.At⟩:Prod)],aR (s2.1.bU+1),s2.2.1++[aR ((aR (1000+(s2.1.bX.length:Int)))+(aR (s2.1.bU+1)))],s2.2.2.1,s2.2.2.2.1))).bind λjl =>
 some ((⟨(⟨s2.1.aA.aW,s2.1.aA.bA,jl.1,s2.1.aA.b_,s2.1.aA.ch⟩:bx),s2.1.cg,s2.1.cx,s2.1.bX,s2.1.cO,s2.1.c8,s2.1.c5,s2.1.ca,jl.2.1⟩:db),jl.2.2.1,jl.2.2.2.1,jl.2.2.2.2))).bind λpV =>
 some (pV.1,pV.2.1,pV.2.2.1,pV.2.2.2)).bind λnc =>
 some (nc.1,nc.2.1,nc.2.2.1,nc.2.2.2)).bind λiE =>
 some (.inl (iE.1,iE.2.1,iE.2.2.1,iE.2.2.2,aR (s2.2.2.2.2+1)))
 else
 some (.inr (s2.1,s2.2.1,s2.2.2.1,s2.2.2.2.1)))) (a0,([]:List Int),⟨#[]⟩,a2.At,0)).bind λaZ =>
 (b0 (R:=Int) (λ(il:Int × Int) =>
 (bif decide (il.2<(aZ.2.1.length:Int)) then
 ((idx aZ.2.1 il.2).bind λfa =>
 ((bif decide (fa<1000) then
 (idx aZ.2.1 il.2).bind λkk =>
 some kk
 else
 some il.1)).bind λrC =>
 some rC).bind λoi =>
 some (.inl (oi,aR (il.2+1)))
 else
 some (.inr il.1))) ((-1),0)).bind λe3 =>
 ((bif !decide (a2.Prec.Name=⟨#[]⟩) then
 ((bif a2.Prec.Lit then some true else ((sJ aZ.1 a2.Prec.Name).bind λgC=>some (decide (gC<0))))).bind λtb =>
 ((bif tb then
 (sF aZ.1 a2.Prec).bind λgD =>
 some (gD.2,gD.1)
 else
 (nk aZ.1 a2.Prec.At a2.Prec.Name).bind λgu =>
 some (gu,(-1)))).bind λoU =>
 some (oU.1,oU.2)
 else
 some (aZ.1,e3))).bind λjG =>
 (dP ([]:List Int) aZ.2.1).bind λlP =>
 (dP jG.1.aA.a7 [(⟨aR (1+aX),aZ.2.1,jG.2,aZ.2.2.1,([]:List Int)++aZ.2.1,aZ.2.2.2⟩:Prod)]).bind λlv =>
 some (⟨(⟨jG.1.aA.aW,jG.1.aA.bA,jG.1.aA.a7++[(⟨aR (1+aX),aZ.2.1,jG.2,aZ.2.2.1,([]:List Int)++aZ.2.1,aZ.2.2.2⟩:Prod)],jG.1.aA.b_,jG.1.aA.ch⟩:bx),jG.1.cg,jG.1.cx,jG.1.bX,jG.1.cO,jG.1.c8,jG.1.c5,jG.1.ca,jG.1.bU⟩:db)
def vu (a0:Source):Option (bx × Int × Int × ByteArray) :=
 (xv a0).bind λaX =>
 (bif !aX then
 some ((⟨([]:List Tok),([]:List fb),([]:List Prod),⟨#[]⟩,⟨#[]⟩⟩:bx),1,0,⟨#[]⟩)
 else
 (nM 3 false).bind λaZ =>
 (b0 (R:=db × ByteArray) (λ(dd:db × ByteArray × Int) =>
 (bif decide (dd.2.2<(a0.Decls.length:Int)) then
 (idx a0.Decls dd.2.2).bind λcf =>
 ((bif decide (2<=cf.Kind) then some (decide (cf.Kind<=4)) else some false)).bind λje =>
 ((bif je then
 some (aR (dd.1.ca+1))
 else
 some dd.1.ca)).bind λjF =>
 (b0 (R:=db × ByteArray) (λ(dS:db × ByteArray × Int) =>
 (bif decide (dS.2.2<(cf.er.length:Int)) then
 ((bif !decide (cf.Kind=6) then
 (idx cf.er dS.2.2).bind λe3 =>
 (vv dS.1 cf e3).bind λhf =>
 some (hf,dS.2.1)
 else
 ((bif !decide (dS.2.1=⟨#[]⟩) then
 (idx cf.er dS.2.2).bind λfa =>
 (idx cf.er dS.2.2).bind λhg =>
 (nk dS.1 fa.At hg.Name).bind λgP =>
 some gP
 else
 some dS.1)).bind λrB =>
 (idx cf.er dS.2.2).bind λkk =>
 some (rB,kk.Name))).bind λky =>
 some (.inl (ky.1,ky.2,aR (dS.2.2+1)))
 else
 some (.inr (dS.1,dS.2.1)))) ((⟨dd.1.aA,dd.1.cg,dd.1.cx,dd.1.bX,dd.1.cO,dd.1.c8,dd.1.c5,jF,dd.1.bU⟩:db),dd.2.1,0)).bind λdx =>
 some (.inl (dx.1,dx.2,aR (dd.2.2+1)))
 else
 some (.inr (dd.1,dd.2.1)))) ((⟨(⟨[(⟨⟨#[36,101,110,100]⟩,false,0,0,0,⟨#[]⟩⟩:Tok),(⟨⟨#[101,114,114,111,114]⟩,false,(-1),0,0,⟨#[]⟩⟩:Tok),(⟨⟨#[36,117,110,107]⟩,false,(-1),0,0,⟨#[]⟩⟩:Tok)],[],[],⟨#[]⟩,⟨#[]⟩⟩:bx),aZ,[],[],0,0,⟨#[]⟩,0,0⟩:db),⟨#[]⟩,0)).bind λcd =>
 (b0 (R:=db) (λ(p2:db × Int) =>
 (bif decide (p2.2<(a0.dB.length:Int)) then
 ((idx a0.dB p2.2).bind λeO =>
 (tP p2.1 (⟨eO.Left,false,0,0⟩:Sym)).bind λlu =>
 ((bif decide (0<=lu) then
 (nk p2.1 eO.At eO.Left).bind λlP =>
 some lP
 else
 some p2.1)).bind λij =>
 (sJ ij eO.Left).bind λlv =>
 ((bif decide (lv<0) then
 (dP ij.bX [eO.Left]).bind λrU =>
 some (ij.bX++[eO.Left])
 else
 some ij.bX)).bind λJK =>
 some (⟨ij.aA,ij.cg,ij.cx,JK,ij.cO,ij.c8,ij.c5,ij.ca,ij.bU⟩:db)).bind λw0 =>
 some (.inl (w0,aR (p2.2+1)))
 else
 some (.inr p2.1))) (cd.1,0)).bind λcz =>
 (b0 (R:=db) (λ(p3:db × Int) =>
 (bif decide (p3.2<(a0.Decls.length:Int)) then
 (b0 (R:=db) (λ(p4:db × Int) =>
 (idx a0.Decls p3.2).bind λsT =>
 (bif decide (p4.2<(sT.er.length:Int)) then
 ((idx a0.Decls p3.2).bind λnu =>
 (idx nu.er p4.2).bind λj3 =>
 (((idx a0.Decls p3.2).bind λnS=>(bif decide (5<=nS.Kind) then ((sJ p4.1 j3.Name).bind λk2=>some (decide (k2<0))) else some false))).bind λHd =>
 ((bif Hd then
 (nk p4.1 j3.At j3.Name).bind λGk =>
 some Gk
 else
 some p4.1)).bind λJN =>
 some JN).bind λJM =>
 some (.inl (JM,aR (p4.2+1)))
 else
 some (.inr p4.1))) (p3.1,0)).bind λmc =>
 some (.inl (mc,aR (p3.2+1)))
 else
 some (.inr p3.1))) (cz,0)).bind λgb =>
 ((bif decide (cd.2=⟨#[]⟩) then
 (idx a0.dB 0).bind λvG =>
 some vG.Left
 else
 some cd.2)).bind λw4 =>
 (sJ gb w4).bind λme =>
 (b0 (R:=db) (λ(o5:db × Int) =>
 (bif decide (o5.2<(a0.dB.length:Int)) then
 (b0 (R:=db) (λ(qE:db × Int) =>
 (idx a0.dB o5.2).bind λrV =>
 (bif decide (qE.2<(rV.eA.length:Int)) then
 (idx a0.dB o5.2).bind λvH =>
 (idx a0.dB o5.2).bind λDv =>
 (idx Dv.eA qE.2).bind λxR =>
 (vx qE.1 vH.Left xR).bind λAc =>
 some (.inl (Ac,aR (qE.2+1)))
 else
 some (.inr qE.1))) (o5.1,0)).bind λiq =>
 some (.inl (iq,aR (o5.2+1)))
 else
 some (.inr o5.1))) ((⟨(⟨gb.aA.aW,gb.aA.bA,[(⟨0,[aR (1001+me)],(-1),⟨#[]⟩,([]:List Int),0⟩:Prod)],gb.aA.b_,gb.aA.ch⟩:bx),gb.cg,gb.cx,gb.bX,gb.cO,gb.c8,gb.c5,gb.ca,gb.bU⟩:db),0)).bind λbl =>
 (bif !decide (bl.cO=0) then
 some ((⟨([]:List Tok),([]:List fb),([]:List Prod),⟨#[]⟩,⟨#[]⟩⟩:bx),bl.cO,bl.c8,bl.c5)
 else
 (b0 (R:=List fb) (λ(qF:List fb × Int) =>
 (bif decide (qF.2<(bl.bX.length:Int)) then
 (idx bl.bX qF.2).bind λoB =>
 (zA (⟨(⟨bl.aA.aW,qF.1,bl.aA.a7,bl.aA.b_,bl.aA.ch⟩:bx),bl.cg,bl.cx,bl.bX,bl.cO,bl.c8,bl.c5,bl.ca,bl.bU⟩:db) oB).bind λua =>
 ((bif decide (0<=ua) then
 (idx bl.cx ua).bind λDw =>
 some Dw.Tag
 else
 some (⟨#[]⟩))).bind λtH =>
 (dP qF.1 [(⟨oB,tH⟩:fb)]).bind λGl =>
 some (.inl (qF.1++[(⟨oB,tH⟩:fb)],aR (qF.2+1)))
 else
 some (.inr qF.1))) ([(⟨⟨#[36,97,99,99,101,112,116]⟩,⟨#[]⟩⟩:fb)],0)).bind λrW =>
 (b0 (R:=List fb) (λ(rN:List fb × Int) =>
 (bif decide (rN.2<=bl.bU) then
 (kf rN.2).bind λGm =>
 (cj (⟨#[64]⟩) Gm).bind λvI =>
 (dP rN.1 [(⟨vI,⟨#[]⟩⟩:fb)]).bind λQD =>
 some (.inl (rN.1++[(⟨vI,⟨#[]⟩⟩:fb)],aR (rN.2+1)))
 else
 some (.inr rN.1))) (rW,1)).bind λj4 =>
 (b0 (R:=List Tok) (λ(lM:List Tok × Int × Int) =>
 (bif decide (lM.2.2<(lM.1.length:Int)) then
 ((idx bl.cg lM.2.2).bind λK4 =>
 ((bif !K4 then
 (idx lM.1 lM.2.2).bind λrT =>
 some (lM.1.set lM.2.2.toNat (⟨rT.Name,rT.Lit,lM.2.1,rT.Level,rT.e9,rT.Tag⟩:Tok),aR (lM.2.1+1))
 else
 some (lM.1,lM.2.1))).bind λB5 =>
 some (B5.1,B5.2)).bind λB_ =>
 some (.inl (B_.1,B_.2,aR (lM.2.2+1)))
 else
 some (.inr lM.1))) (bl.aA.aW,57346,3)).bind λlQ =>
 ((bif decide (40<(lQ.length:Int)) then some true else (bif decide (24<(j4.length:Int)) then some true else some (decide (60<(bl.aA.a7.length:Int)))))).bind λD4 =>
 (b0 (R:=Bool) (λ(sM:Bool × Int) =>
 (bif decide (sM.2<(bl.aA.a7.length:Int)) then
 ((bif sM.1 then some true else ((idx bl.aA.a7 sM.2).bind λK5=>some (decide (8<(K5.eI.length:Int)))))).bind λG7 =>
 some (.inl (G7,aR (sM.2+1)))
 else
 some (.inr sM.1))) (D4,0)).bind λz_ =>
 (bif z_ then
 some ((⟨([]:List Tok),([]:List fb),([]:List Prod),⟨#[]⟩,⟨#[]⟩⟩:bx),4,0,⟨#[]⟩)
 else
 some ((⟨lQ,j4,bl.aA.a7,a0.b_,a0.ch⟩:bx),0,0,⟨#[]⟩))))
def zq (a0:Source):Option (bx × Bool) :=
 (vu a0).bind λaX =>
 some (aX.1,decide (aX.2.1=0))
structure Item where
 Prod:Int
 cP:Int
 deriving DecidableEq,Inhabited
def cW:bz Item:=⟨2,λx=>[ae x.Prod,ae x.cP],λ_=>rfl,λ_=>df.bd⟩
instance:Flat cW:=⟨λ_=>rfl⟩
instance:lU cW:=⟨λx=>(inferInstance:js [ae x.Prod,ae x.cP])⟩
instance:gQ cW cW:=⟨rfl,λx=>(inferInstance:du [ae x.Prod,ae x.cP] [ae x.Prod,ae x.cP])⟩
def xq (a0:(List Item)) (aw:Item):Option ((List Item)) :=
 (b0 (R:=Int) (λ(s1:Int) =>
 ((bif decide (0<s1) then ((idx a0 (aR (s1 - 1))).bind λcd=>(bif decide (aw.Prod<cd.Prod) then some true else ((idx a0 (aR (s1 - 1))).bind λbt=>(bif decide (bt.Prod=aw.Prod) then ((idx a0 (aR (s1 - 1))).bind λcR=>some (decide (aw.cP<cR.cP))) else some false)))) else some false)).bind λje =>
 (bif je then
 some (.inl (aR (s1 - 1)))
 else
 some (.inr s1))) (a0.length:Int)).bind λx2 =>
 ((bif decide (0<x2) then ((idx a0 (aR (x2 - 1))).bind λe8=>some (decide (e8.Prod=aw.Prod)&&(decide (e8.cP=aw.cP)&&true))) else some false)).bind λqZ =>
 (bif qZ then
 some a0
 else
 (lN a0 0 x2).bind λb8 =>
 (dP ([]:List Item) b8).bind λbG =>
 (dP (([]:List Item)++b8) [aw]).bind λeu =>
 (lN a0 x2 a0.length).bind λe3 =>
 (dP ((([]:List Item)++b8)++[aw]) e3).bind λhf =>
 some ((([]:List Item)++b8)++[aw]++e3))
def xr (a0:bx) (aw:Item):Option (Bool) :=
 ((bif decide (0<=aw.Prod) then (bif decide (aw.Prod<(a0.a7.length:Int)) then (bif decide (0<=aw.cP) then ((idx a0.a7 aw.Prod).bind λb4=>some (decide (aw.cP<=(b4.eI.length:Int)))) else some false) else some false) else some false)).bind λjf =>
 some jf
def CP (a0:bx) (aw:(List Item)):Option ((List Item)) :=
 (b0 (R:=List Item) (λ(s1:List Item × Int) =>
 (bif decide (s1.2<(aw.length:Int)) then
 ((idx aw s1.2).bind λb2 =>
 (xr a0 b2).bind λbt =>
 ((bif bt then
 (idx aw s1.2).bind λbR =>
 (xq s1.1 bR).bind λdt =>
 some dt
 else
 some s1.1)).bind λnc =>
 some nc).bind λom =>
 some (.inl (om,aR (s1.2+1)))
 else
 some (.inr s1.1))) (([]:List Item),0)).bind λx2 =>
 some x2
def xp (a0:bx) (aw:Item):Option (Int) :=
 (((xr a0 aw).bind λaX=>(bif !aX then some true else ((idx a0.a7 aw.Prod).bind λaZ=>some (decide (aw.cP=(aZ.eI.length:Int))))))).bind λc4 =>
 (bif c4 then
 some (-1)
 else
 (idx a0.a7 aw.Prod).bind λb2 =>
 (idx b2.eI aw.cP).bind λbt =>
 some bt)
def sH (a0:bx) (aw:(List Item)):Option ((List Item)) :=
 (CP a0 aw).bind λaX =>
 (b0 (R:=List Item) (λ(s2:List Item × Int) =>
 (bif !decide (s2.2=(s2.1.length:Int)) then
 (((b0 (R:=List Item) (λ(ct:List Item × Int) =>
 (bif decide (ct.2<(s2.1.length:Int)) then
 (idx ct.1 ct.2).bind λc0 =>
 (xp a0 c0).bind λe8 =>
 (b0 (R:=List Item) (λ(lk:List Item × Int) =>
 ((bif decide (lk.2<(a0.a7.length:Int)) then some (decide (1000<=e8)) else some false)).bind λn2 =>
 (bif n2 then
 ((idx a0.a7 lk.2).bind λfU =>
 ((bif decide (fU.Left=aR (e8 - 1000)) then
 (xq lk.1 (⟨lk.2,0⟩:Item)).bind λhg =>
 some hg
 else
 some lk.1)).bind λoi =>
 some oi).bind λJF =>
 some (.inl (JF,aR (lk.2+1)))
 else
 some (.inr lk.1))) (ct.1,0)).bind λdF =>
 (bif !decide ((dF.length:Int)=(s2.1.length:Int)) then
 some (.inr dF)
 else
 some (.inl (dF,aR (ct.2+1))))
 else
 some (.inr ct.1))) (s2.1,0)).bind λcR =>
 some cR).bind λkz =>
 some (kz,(s2.1.length:Int))).bind λiE =>
 some (.inl (iE.1,iE.2))
 else
 some (.inr s2.1))) (aX,(-1))).bind λaZ =>
 some aZ
def zs (a0:(List Int)) (aw:Int):Option (Bool) :=
 (b0 (R:=(Unit) ⊕ (Bool)) (λ(s1:Int) =>
 (bif decide (s1<(a0.length:Int)) then
 (idx a0 s1).bind λb2 =>
 (bif decide (b2=aw) then
 some (.inr (.inr true))
 else
 some (.inl (aR (s1+1))))
 else
 some (.inr (.inl ())))) 0).bind λx2 =>
 (match x2 with
 | .inl aZ =>
 some false
 | .inr b4 =>
 some b4)
def qB (a0:(List Int)) (aw:Int):Option ((List Int)) :=
 (b0 (R:=Int) (λ(s1:Int) =>
 ((bif decide (0<s1) then ((idx a0 (aR (s1 - 1))).bind λcd=>some (decide (aw<cd))) else some false)).bind λwb =>
 (bif wb then
 some (.inl (aR (s1 - 1)))
 else
 some (.inr s1))) (a0.length:Int)).bind λx2 =>
 ((bif decide (0<x2) then ((idx a0 (aR (x2 - 1))).bind λcR=>some (decide (cR=aw))) else some false)).bind λje =>
 (bif je then
 some a0
 else
 (lN a0 0 x2).bind λc0 =>
 (dP ([]:List Int) c0).bind λe8 =>
 (dP (([]:List Int)++c0) [aw]).bind λdx =>
 (lN a0 x2 a0.length).bind λdF =>
 (dP ((([]:List Int)++c0)++[aw]) dF).bind λb8 =>
 some ((([]:List Int)++c0)++[aw]++dF))
def CS (a0:bx):Option ((List Int)) :=
 (b0 (R:=List Int) (λ(s1:List Int × Int) =>
 (bif decide (s1.2<(a0.aW.length:Int)) then
 (dP s1.1 [s1.2]).bind λcd =>
 some (.inl (s1.1++[s1.2],aR (s1.2+1)))
 else
 some (.inr s1.1))) (([]:List Int),0)).bind λx2 =>
 (b0 (R:=List Int) (λ(cL:List Int × Int) =>
 (bif decide (cL.2<(a0.bA.length:Int)) then
 (dP cL.1 [aR (1000+cL.2)]).bind λbR =>
 some (.inl (cL.1++[aR (1000+cL.2)],aR (cL.2+1)))
 else
 some (.inr cL.1))) (x2,0)).bind λbt =>
 some bt
def CT (a0:bx) (aw:(List Item)) (a2:Int):Option ((List Item)) :=
 (sH a0 aw).bind λaX =>
 (b0 (R:=List Item) (λ(s2:List Item × Int) =>
 (bif decide (s2.2<(aX.length:Int)) then
 ((idx aX s2.2).bind λbt =>
 (xp a0 bt).bind λcf =>
 ((bif decide (0<=cf) then some (decide (cf=a2)) else some false)).bind λje =>
 ((bif je then
 (idx aX s2.2).bind λe8 =>
 (idx aX s2.2).bind λdx =>
 (xq s2.1 (⟨e8.Prod,aR (dx.cP+1)⟩:Item)).bind λdF =>
 some dF
 else
 some s2.1)).bind λjF =>
 some jF).bind λiE =>
 some (.inl (iE,aR (s2.2+1)))
 else
 some (.inr s2.1))) (([]:List Item),0)).bind λaZ =>
 some aZ
def C1 (a0:(List Item)) (aw:(List Item)):Option (Bool) :=
 (bif !decide ((a0.length:Int)=(aw.length:Int)) then
 some false
 else
 (b0 (R:=(Unit) ⊕ (Bool)) (λ(s2:Int) =>
 (bif decide (s2<(a0.length:Int)) then
 (idx a0 s2).bind λbt =>
 (idx aw s2).bind λcf =>
 (bif !(decide (bt.Prod=cf.Prod)&&(decide (bt.cP=cf.cP)&&true)) then
 some (.inr (.inr false))
 else
 some (.inl (aR (s2+1))))
 else
 some (.inr (.inl ())))) 0).bind λaZ =>
 (match aZ with
 | .inl b4 =>
 some true
 | .inr cd =>
 some cd))
structure Move where
 Sym:Int
 hF:Int
 deriving DecidableEq,Inhabited
structure State where
 Kernel:(List Item)
 de:(List Move)
 deriving DecidableEq,Inhabited
def hG:bz Move:=⟨2,λx=>[ae x.Sym,ae x.hF],λ_=>rfl,λ_=>df.bd⟩
instance:Flat hG:=⟨λ_=>rfl⟩
instance:lU hG:=⟨λx=>(inferInstance:js [ae x.Sym,ae x.hF])⟩
instance:gQ hG hG:=⟨rfl,λx=>(inferInstance:du [ae x.Sym,ae x.hF] [ae x.Sym,ae x.hF])⟩
def ff:bz State:=⟨2,λx=>[ay cW x.Kernel,ay hG x.de],λ_=>rfl,λ_=>df.bd⟩
instance:Flat ff:=⟨λ_=>rfl⟩
instance:gQ ff ff:=⟨rfl,λx=>(inferInstance:du [ay cW x.Kernel,ay hG x.de] [ay cW x.Kernel,ay hG x.de])⟩
def CU (a0:(List State)) (aw:(List Item)):Option (Int) :=
 (b0 (R:=(Unit) ⊕ (Int)) (λ(s1:Int) =>
 (bif decide (s1<(a0.length:Int)) then
 (idx a0 s1).bind λb2 =>
 (C1 b2.Kernel aw).bind λbt =>
 (bif bt then
 some (.inr (.inr s1))
 else
 some (.inl (aR (s1+1))))
 else
 some (.inr (.inl ())))) 0).bind λx2 =>
 (match x2 with
 | .inl aZ =>
 some (-1)
 | .inr b4 =>
 some b4)
def gx:bz State:=⟨2,λx=>[ay cW x.Kernel,ar hG x.de],λ_=>rfl,λ_=>df.bd⟩
instance:gQ gx ff:=⟨rfl,λx=>(inferInstance:du [ay cW x.Kernel,ar hG x.de] [ay cW x.Kernel,ay hG x.de])⟩
def zr (a0:bx):Option ((List State) × Int) :=
 (CS a0).bind λaX =>
 (b0 (R:=(List State) ⊕ (List State × Int)) (λ(s2:List State × Int) =>
 (bif decide (s2.2<(s2.1.length:Int)) then
 (idx s2.1 s2.2).bind λbt =>
 (sH a0 bt.Kernel).bind λcf =>
 (b0 (R:=List Int) (λ(nP:List Int × Int) =>
 (bif decide (nP.2<(cf.length:Int)) then
 ((idx cf nP.2).bind λdx =>
 (xp a0 dx).bind λdF =>
 ((bif decide (0<=dF) then
 (qB nP.1 dF).bind λeu =>
 some eu
 else
 some nP.1)).bind λlg =>
 some lg).bind λjl =>
 some (.inl (jl,aR (nP.2+1)))
 else
 some (.inr nP.1))) (([]:List Int),0)).bind λbR =>
 (b0 (R:=(List State) ⊕ (List State × Int)) (λ(e7:List State × Int) =>
 (bif decide (e7.2<(aX.length:Int)) then
 (idx aX e7.2).bind λhg =>
 (zs bR hg).bind λgP =>
 (bif !gP then
 some (.inl (e7.1,aR (e7.2+1)))
 else
 (idx e7.1 s2.2).bind λlq =>
 (idx aX e7.2).bind λcz =>
 (CT a0 lq.Kernel cz).bind λev =>
 (CU e7.1 ev).bind λgC =>
 (bif decide (gC<0) then
 (bif decide ((e7.1.length:Int)=150) then
 some (.inr (.inr (([]:List State),4)))
 else
 (dP e7.1 [(⟨ev,([]:List Move)⟩:State)]).bind λlu =>
 (idx (e7.1++[(⟨ev,([]:List Move)⟩:State)]) s2.2).bind λgD =>
 (idx aX e7.2).bind λgu =>
 (dP gD.de [(⟨gu,(e7.1.length:Int)⟩:Move)]).bind λlP =>
 some (.inl ((e7.1++[(⟨ev,([]:List Move)⟩:State)]).set s2.2.toNat (⟨gD.Kernel,gD.de++[(⟨gu,(e7.1.length:Int)⟩:Move)]⟩:State),aR (e7.2+1))))
 else
 (idx e7.1 s2.2).bind λlv =>
 (idx aX e7.2).bind λcI =>
 (dP lv.de [(⟨cI,gC⟩:Move)]).bind λjL =>
 some (.inl (e7.1.set s2.2.toNat (⟨lv.Kernel,lv.de++[(⟨cI,gC⟩:Move)]⟩:State),aR (e7.2+1)))))
 else
 some (.inr (.inl e7.1)))) (s2.1,0)).bind λhf =>
 (match hf with
 | .inl fU =>
 some (.inl (fU,aR (s2.2+1)))
 | .inr gB =>
 some (.inr (.inr (gB.1,gB.2))))
 else
 some (.inr (.inl s2.1)))) ([(⟨[(⟨0,0⟩:Item)],([]:List Move)⟩:State)],0)).bind λaZ =>
 (match aZ with
 | .inl b4 =>
 some (b4,0)
 | .inr cd =>
 some (cd.1,cd.2))
def zl (a0:Source):Option (bx × (List State) × Bool) :=
 (zq a0).bind λaX =>
 (bif !aX.2 then
 some (aX.1,([]:List State),false)
 else
 (zr aX.1).bind λaZ =>
 some (aX.1,aZ.1,decide (aZ.2=0)))
def rJ (a0:(List State)) (aw:Int) (a2:Int):Option (Int) :=
 (b0 (R:=(Unit) ⊕ (Int)) (λ(s1:Int) =>
 ((bif decide (0<=aw) then (bif decide (aw<(a0.length:Int)) then ((idx a0 aw).bind λbt=>some (decide (s1<(bt.de.length:Int)))) else some false) else some false)).bind λn3 =>
 (bif n3 then
 (idx a0 aw).bind λbR =>
 (idx bR.de s1).bind λdt =>
 (bif decide (dt.Sym=a2) then
 (idx a0 aw).bind λe8 =>
 (idx e8.de s1).bind λdx =>
 some (.inr (.inr dx.hF))
 else
 some (.inl (aR (s1+1))))
 else
 some (.inr (.inl ())))) 0).bind λx2 =>
 (match x2 with
 | .inl aZ =>
 some (-1)
 | .inr b4 =>
 some b4)
structure Cell where
 State:Int
 Tok:Int
 jd:Int
 lx:Bool
 a7:(List Int)
 deriving DecidableEq,Inhabited
def iS:bz Cell:=⟨5,λx=>[ae x.State,ae x.Tok,ae x.jd,bg x.lx,ay aY x.a7],λ_=>rfl,λ_=>df.bd⟩
instance:Flat iS:=⟨λ_=>rfl⟩
instance:gQ iS iS:=⟨rfl,λx=>(inferInstance:du [ae x.State,ae x.Tok,ae x.jd,bg x.lx,ay aY x.a7] [ae x.State,ae x.Tok,ae x.jd,bg x.lx,ay aY x.a7])⟩
instance {x:Cell}:du (iS.cells x) [ae x.State,ae x.Tok,ae x.jd,bg x.lx,ay aY x.a7]:=(inferInstance:du [ae x.State,ae x.Tok,ae x.jd,bg x.lx,ay aY x.a7] [ae x.State,ae x.Tok,ae x.jd,bg x.lx,ay aY x.a7])
def CJ (a0:Cell):Option (Int) :=
 ((bif decide (0<=a0.jd) then
 some (aR ((a0.a7.length:Int)+1))
 else
 some (a0.a7.length:Int))).bind λiZ =>
 ((bif a0.lx then
 some (aR (iZ+1))
 else
 some iZ)).bind λhW =>
 some hW
structure kJ where
 State:Int
 Prod:Int
 aW:(List Int)
 deriving DecidableEq,Inhabited
def q4:bz kJ:=⟨3,λx=>[ae x.State,ae x.Prod,ay aY x.aW],λ_=>rfl,λ_=>df.bd⟩
instance:Flat q4:=⟨λ_=>rfl⟩
instance:gQ q4 q4:=⟨rfl,λx=>(inferInstance:du [ae x.State,ae x.Prod,ay aY x.aW] [ae x.State,ae x.Prod,ay aY x.aW])⟩
instance {x:kJ}:du (q4.cells x) [ae x.State,ae x.Prod,ay aY x.aW]:=(inferInstance:du [ae x.State,ae x.Prod,ay aY x.aW] [ae x.State,ae x.Prod,ay aY x.aW])
def CF (a0:bx) (aw:(List State)) (a2:(List kJ)):Option ((List Cell)) :=
 (b0 (R:=List Cell) (λ(s1:List Cell × Int) =>
 (bif decide (s1.2<(aw.length:Int)) then
 (b0 (R:=List Cell) (λ(dW:List Cell × Int) =>
 (bif decide (dW.2<(a0.aW.length:Int)) then
 ((rJ aw s1.2 dW.2).bind λbR =>
 (b0 (R:=Bool) (λ(gO:Bool × Int) =>
 (idx aw s1.2).bind λdx =>
 (bif decide (gO.2<(dx.Kernel.length:Int)) then
 (idx aw s1.2).bind λb8 =>
 (idx b8.Kernel gO.2).bind λbG =>
 ((bif gO.1 then some true else (bif decide (dW.2=0) then (bif decide (bG.Prod=0) then some (decide (bG.cP=1)) else some false) else some false))).bind λpk =>
 some (.inl (pk,aR (gO.2+1)))
 else
 some (.inr gO.1))) (false,0)).bind λc0 =>
 (b0 (R:=List Int) (λ(h6:List Int × Int) =>
 (bif decide (h6.2<(a2.length:Int)) then
 ((((idx a2 h6.2).bind λlq=>(bif decide (lq.State=s1.2) then ((idx a2 h6.2).bind λev=>((zs ev.aW dW.2).bind λgC=>some gC)) else some false))).bind λtb =>
 ((bif tb then
 (idx a2 h6.2).bind λgD =>
 (qB h6.1 gD.Prod).bind λgu =>
 some gu
 else
 some h6.1)).bind λoU =>
 some oU).bind λdw =>
 some (.inl (dw,aR (h6.2+1)))
 else
 some (.inr h6.1))) (([]:List Int),0)).bind λfa =>
 (CJ (⟨s1.2,dW.2,bR,c0,fa⟩:Cell)).bind λlP =>
 ((bif decide (0<lP) then
 (dP dW.1 [(⟨s1.2,dW.2,bR,c0,fa⟩:Cell)]).bind λjL =>
 some (dW.1++[(⟨s1.2,dW.2,bR,c0,fa⟩:Cell)])
 else
 some dW.1)).bind λJJ =>
 some JJ).bind λpV =>
 some (.inl (pV,aR (dW.2+1)))
 else
 some (.inr dW.1))) (s1.1,0)).bind λb2 =>
 some (.inl (b2,aR (s1.2+1)))
 else
 some (.inr s1.1))) (([]:List Cell),0)).bind λx2 =>
 some x2
def zv (a0:(List (List Int))) (aw:(List (List Int))):Option ((List (List Int))) :=
 (b0 (R:=List (List Int)) (λ(s1:List (List Int) × Bool) =>
 (bif s1.2 then
 (b0 (R:=List (List Int) × Bool) (λ(dW:List (List Int) × Bool × Int) =>
 (bif decide (dW.2.2<(dW.1.length:Int)) then
 (idx aw dW.2.2).bind λcR =>
 (idx dW.1 dW.2.2).bind λbR =>
 (b0 (R:=List (List Int)) (λ(gO:List (List Int) × Int) =>
 (bif decide (gO.2<(cR.length:Int)) then
 (b0 (R:=List (List Int)) (λ(ll:List (List Int) × Int) =>
 (idx cR gO.2).bind λeu =>
 (idx ll.1 eu).bind λe3 =>
 (bif decide (ll.2<(e3.length:Int)) then
 (idx ll.1 dW.2.2).bind λfU =>
 (idx cR gO.2).bind λgB =>
 (idx ll.1 gB).bind λfa =>
 (idx fa ll.2).bind λhg =>
 (qB fU hg).bind λgP =>
 some (.inl (ll.1.set dW.2.2.toNat gP,aR (ll.2+1)))
 else
 some (.inr ll.1))) (gO.1,0)).bind λb8 =>
 some (.inl (b8,aR (gO.2+1)))
 else
 some (.inr gO.1))) (dW.1,0)).bind λc0 =>
 ((bif dW.2.1 then some true else ((idx c0 dW.2.2).bind λlq=>some (!decide ((lq.length:Int)=(bR.length:Int)))))).bind λAE =>
 some (.inl (c0,AE,aR (dW.2.2+1)))
 else
 some (.inr (dW.1,dW.2.1)))) (s1.1,false,0)).bind λb2 =>
 some (.inl (b2.1,b2.2))
 else
 some (.inr s1.1))) (a0,true)).bind λx2 =>
 some x2
structure Trans where
 State:Int
 fb:Int
 deriving DecidableEq,Inhabited
def pt:bz Trans:=⟨2,λx=>[ae x.State,ae x.fb],λ_=>rfl,λ_=>df.bd⟩
instance:Flat pt:=⟨λ_=>rfl⟩
instance:lU pt:=⟨λx=>(inferInstance:js [ae x.State,ae x.fb])⟩
instance:gQ pt pt:=⟨rfl,λx=>(inferInstance:du [ae x.State,ae x.fb] [ae x.State,ae x.fb])⟩
def pZ (a0:(List State)):Option ((List Trans)) :=
 (b0 (R:=List Trans) (λ(s1:List Trans × Int) =>
 (bif decide (s1.2<(a0.length:Int)) then
 (b0 (R:=List Trans) (λ(dW:List Trans × Int) =>
 (idx a0 s1.2).bind λcf =>
 (bif decide (dW.2<(cf.de.length:Int)) then
 ((idx a0 s1.2).bind λdt =>
 (idx dt.de dW.2).bind λc0 =>
 ((bif decide (1000<=c0.Sym) then
 (idx a0 s1.2).bind λdF =>
 (idx dF.de dW.2).bind λb8 =>
 (dP dW.1 [(⟨s1.2,b8.Sym⟩:Trans)]).bind λbG =>
 some (dW.1++[(⟨s1.2,b8.Sym⟩:Trans)])
 else
 some dW.1)).bind λjl =>
 some jl).bind λpU =>
 some (.inl (pU,aR (dW.2+1)))
 else
 some (.inr dW.1))) (s1.1,0)).bind λb2 =>
 some (.inl (b2,aR (s1.2+1)))
 else
 some (.inr s1.1))) (([]:List Trans),0)).bind λx2 =>
 some x2
def C2 (a0:(List Item)):Option (Bool) :=
 (b0 (R:=(Unit) ⊕ (Bool)) (λ(s1:Int) =>
 (bif decide (s1<(a0.length:Int)) then
 (((idx a0 s1).bind λb2=>(bif decide (b2.Prod=0) then ((idx a0 s1).bind λcf=>some (decide (cf.cP=1))) else some false))).bind λtd =>
 (bif td then
 some (.inr (.inr true))
 else
 some (.inl (aR (s1+1))))
 else
 some (.inr (.inl ())))) 0).bind λx2 =>
 (match x2 with
 | .inl aZ =>
 some false
 | .inr b4 =>
 some b4)
def CV (a0:(List State)):Option ((List (List Int))) :=
 (pZ a0).bind λaX =>
 (b0 (R:=List (List Int)) (λ(s2:List (List Int) × Int) =>
 (bif decide (s2.2<(aX.length:Int)) then
 (idx aX s2.2).bind λb2 =>
 (idx aX s2.2).bind λbt =>
 (rJ a0 b2.State bt.fb).bind λcf =>
 (idx a0 cf).bind λcR =>
 (C2 cR.Kernel).bind λbR =>
 ((bif bR then
 (dP ([]:List Int) [0]).bind λe8 =>
 some [0]
 else
 some ([]:List Int))).bind λjF =>
 (b0 (R:=List Int) (λ(lk:List Int × Int) =>
 (idx a0 cf).bind λbG =>
 (bif decide (lk.2<(bG.de.length:Int)) then
 ((idx a0 cf).bind λhf =>
 (idx hf.de lk.2).bind λfU =>
 ((bif decide (fU.Sym<1000) then
 (idx a0 cf).bind λhg =>
 (idx hg.de lk.2).bind λgP =>
 (qB lk.1 gP.Sym).bind λkk =>
 some kk
 else
 some lk.1)).bind λoi =>
 some oi).bind λeJ =>
 some (.inl (eJ,aR (lk.2+1)))
 else
 some (.inr lk.1))) (jF,0)).bind λdF =>
 (dP s2.1 [dF]).bind λlq =>
 some (.inl (s2.1++[dF],aR (s2.2+1)))
 else
 some (.inr s2.1))) (([]:List (List Int)),0)).bind λaZ =>
 some aZ
def zD (a0:(List Bool)) (aw:(List Int)):Option (Bool) :=
 (b0 (R:=(Unit) ⊕ (Bool)) (λ(s1:Int) =>
 (bif decide (s1<(aw.length:Int)) then
 (((idx aw s1).bind λb2=>(bif decide (b2<1000) then some true else ((idx aw s1).bind λcf=>((idx a0 (aR (cf - 1000))).bind λcR=>some (!cR)))))).bind λje =>
 (bif je then
 some (.inr (.inr false))
 else
 some (.inl (aR (s1+1))))
 else
 some (.inr (.inl ())))) 0).bind λx2 =>
 (match x2 with
 | .inl aZ =>
 some true
 | .inr b4 =>
 some b4)
def zB (a0:bx):Option ((List Bool)) :=
 (nM (a0.bA.length:Int) false).bind λaX =>
 (b0 (R:=List Bool) (λ(s2:List Bool × Bool) =>
 (bif s2.2 then
 (b0 (R:=List Bool × Bool) (λ(cL:List Bool × Bool × Int) =>
 (bif decide (cL.2.2<(a0.a7.length:Int)) then
 ((idx a0.a7 cL.2.2).bind λdt =>
 (((idx cL.1 dt.Left).bind λc0=>(bif !c0 then ((zD cL.1 dt.eI).bind λdx=>some dx) else some false))).bind λv' =>
 ((bif v' then
 (idx cL.1 dt.Left).bind λeu =>
 some (cL.1.set dt.Left.toNat true,true)
 else
 some (cL.1,cL.2.1))).bind λlg =>
 some (lg.1,lg.2)).bind λpU =>
 some (.inl (pU.1,pU.2,aR (cL.2.2+1)))
 else
 some (.inr (cL.1,cL.2.1)))) (s2.1,false,0)).bind λbt =>
 some (.inl (bt.1,bt.2))
 else
 some (.inr s2.1))) (aX,true)).bind λaZ =>
 some aZ
def zC (a0:(List Trans)) (aw:Int) (a2:Int):Option (Int) :=
 (b0 (R:=(Unit) ⊕ (Int)) (λ(s1:Int) =>
 (bif decide (s1<(a0.length:Int)) then
 (((idx a0 s1).bind λb2=>(bif decide (b2.State=aw) then ((idx a0 s1).bind λcf=>some (decide (cf.fb=a2))) else some false))).bind λtd =>
 (bif td then
 some (.inr (.inr s1))
 else
 some (.inl (aR (s1+1))))
 else
 some (.inr (.inl ())))) 0).bind λx2 =>
 (match x2 with
 | .inl aZ =>
 some (-1)
 | .inr b4 =>
 some b4)
def CW (a0:bx) (aw:(List State)):Option ((List (List Int))) :=
 (pZ aw).bind λaX =>
 (zB a0).bind λx2 =>
 (b0 (R:=List (List Int)) (λ(dE:List (List Int) × Int) =>
 (bif decide (dE.2<(aX.length:Int)) then
 (idx aX dE.2).bind λbt =>
 (idx aX dE.2).bind λcf =>
 (rJ aw bt.State cf.fb).bind λcR =>
 (b0 (R:=List Int) (λ(f_:List Int × Int) =>
 (idx aw cR).bind λe8 =>
 (bif decide (f_.2<(e8.de.length:Int)) then
 ((idx aw cR).bind λb8 =>
 (idx b8.de f_.2).bind λbG =>
 ((bif decide (1000<=bG.Sym) then ((idx x2 (aR (bG.Sym - 1000))).bind λe3=>some e3) else some false)).bind λG8 =>
 ((bif G8 then
 (zC aX cR bG.Sym).bind λfa =>
 (qB f_.1 fa).bind λhg =>
 some hg
 else
 some f_.1)).bind λrB =>
 some rB).bind λvf =>
 some (.inl (vf,aR (f_.2+1)))
 else
 some (.inr f_.1))) (([]:List Int),0)).bind λdt =>
 (dP dE.1 [dt]).bind λgP =>
 some (.inl (dE.1++[dt],aR (dE.2+1)))
 else
 some (.inr dE.1))) (([]:List (List Int)),0)).bind λb4 =>
 some b4
def zx (a0:(List State)) (aw:Int) (a2:(List Int)):Option (Int) :=
 (b0 (R:=Int) (λ(s1:Int × Int) =>
 ((bif decide (s1.2<(a2.length:Int)) then some (decide (0<=s1.1)) else some false)).bind λjf =>
 (bif jf then
 (idx a2 s1.2).bind λbt =>
 (rJ a0 s1.1 bt).bind λcf =>
 some (.inl (cf,aR (s1.2+1)))
 else
 some (.inr s1.1))) (aw,0)).bind λx2 =>
 some x2
def CX (a0:bx) (aw:(List State)):Option ((List (List Int))) :=
 (pZ aw).bind λaX =>
 (zB a0).bind λx2 =>
 (nM (aX.length:Int) ([]:List Int)).bind λaZ =>
 (b0 (R:=List (List Int)) (λ(dd:List (List Int) × Int) =>
 (bif decide (dd.2<(aX.length:Int)) then
 (b0 (R:=List (List Int)) (λ(ct:List (List Int) × Int) =>
 (bif decide (ct.2<(a0.a7.length:Int)) then
 ((idx a0.a7 ct.2).bind λe8 =>
 (idx a0.a7 ct.2).bind λdx =>
 (idx aX dd.2).bind λdF =>
 (bif !decide (aR (1000+dx.Left)=dF.fb) then
 some ct.1
 else
 (b0 (R:=List (List Int)) (λ(ln:List (List Int) × Int) =>
 (bif decide (ln.2<(e8.eI.length:Int)) then
 ((((idx e8.eI ln.2).bind λgB=>(bif decide (gB<1000) then some true else ((lN e8.eI (aR (ln.2+1)) e8.eI.length).bind λhg=>((zD x2 hg).bind λgP=>some (!gP)))))).bind λyu =>
 (bif yu then
 some ln.1
 else
 (idx aX dd.2).bind λcz =>
 (lN e8.eI 0 ln.2).bind λev =>
 (zx aw cz.State ev).bind λgC =>
 ((bif decide (0<=gC) then
 (idx e8.eI ln.2).bind λlu =>
 (zC aX gC lu).bind λgD =>
 ((bif decide (0<=gD) then
 (idx ln.1 gD).bind λlv =>
 (qB lv dd.2).bind λcI =>
 some (ln.1.set gD.toNat cI)
 else
 some ln.1)).bind λJI =>
 some JI
 else
 some ln.1)).bind λw0 =>
 some w0)).bind λrB =>
 some (.inl (rB,aR (ln.2+1)))
 else
 some (.inr ln.1))) (ct.1,0)).bind λeu =>
 some eu)).bind λfl =>
 some (.inl (fl,aR (ct.2+1)))
 else
 some (.inr ct.1))) (dd.1,0)).bind λcR =>
 some (.inl (cR,aR (dd.2+1)))
 else
 some (.inr dd.1))) (aZ,0)).bind λcd =>
 some cd
def zt (a0:bx) (aw:(List State)):Option ((List (List Int))) :=
 (CV aw).bind λaX =>
 (CW a0 aw).bind λx2 =>
 (zv aX x2).bind λaZ =>
 (CX a0 aw).bind λb4 =>
 (zv aZ b4).bind λcd =>
 some cd
def CK (a0:bx) (aw:(List Item)):Option ((List Int)) :=
 (sH a0 aw).bind λaX =>
 (b0 (R:=List Int) (λ(s2:List Int × Int) =>
 (bif decide (s2.2<(aX.length:Int)) then
 ((((idx aX s2.2).bind λbt=>(bif decide (0<bt.Prod) then ((idx aX s2.2).bind λcR=>((idx aX s2.2).bind λbR=>((idx a0.a7 bR.Prod).bind λdt=>some (decide (cR.cP=(dt.eI.length:Int)))))) else some false))).bind λv_ =>
 ((bif v_ then
 (idx aX s2.2).bind λdF =>
 (dP s2.1 [dF.Prod]).bind λb8 =>
 some (s2.1++[dF.Prod])
 else
 some s2.1)).bind λjl =>
 some jl).bind λiE =>
 some (.inl (iE,aR (s2.2+1)))
 else
 some (.inr s2.1))) (([]:List Int),0)).bind λaZ =>
 some aZ
def CL (a0:bx) (aw:(List State)) (a2:Int) (a3:Int):Option ((List Int)) :=
 ((bif decide (a2<0) then some true else (bif decide ((aw.length:Int)<=a2) then some true else (bif decide (a3<1) then some true else some (decide ((a0.a7.length:Int)<=a3)))))).bind λc4 =>
 (bif c4 then
 some ([]:List Int)
 else
 (pZ aw).bind λb2 =>
 (b0 (R:=List Int) (λ(hb:List Int × Int) =>
 (bif decide (hb.2<(b2.length:Int)) then
 ((((idx b2 hb.2).bind λc0=>((idx a0.a7 a3).bind λe8=>(bif decide (c0.fb=aR (1000+e8.Left)) then ((idx b2 hb.2).bind λdF=>((idx a0.a7 a3).bind λb8=>((zx aw dF.State b8.eI).bind λbG=>some (decide (bG=a2))))) else some false)))).bind λn2 =>
 ((bif n2 then
 (dP hb.1 [hb.2]).bind λfU =>
 some (hb.1++[hb.2])
 else
 some hb.1)).bind λeJ =>
 some eJ).bind λjF =>
 some (.inl (jF,aR (hb.2+1)))
 else
 some (.inr hb.1))) (([]:List Int),0)).bind λcf =>
 some cf)
def CG (a0:bx) (aw:(List State)):Option ((List kJ)) :=
 (zt a0 aw).bind λaX =>
 (b0 (R:=List kJ) (λ(s2:List kJ × Int) =>
 (bif decide (s2.2<(aw.length:Int)) then
 (idx aw s2.2).bind λb2 =>
 (CK a0 b2.Kernel).bind λbt =>
 (b0 (R:=List kJ) (λ(ct:List kJ × Int) =>
 (bif decide (ct.2<(bt.length:Int)) then
 (idx bt ct.2).bind λc0 =>
 (idx bt ct.2).bind λe8 =>
 (CL a0 aw s2.2 e8).bind λdx =>
 (b0 (R:=List Int) (λ(ll:List Int × Int) =>
 (bif decide (ll.2<(dx.length:Int)) then
 (b0 (R:=List Int) (λ(e7:List Int × Int) =>
 (idx dx ll.2).bind λgB =>
 (idx aX gB).bind λfa =>
 (bif decide (e7.2<(fa.length:Int)) then
 (idx dx ll.2).bind λgP =>
 (idx aX gP).bind λkk =>
 (idx kk e7.2).bind λlq =>
 (qB e7.1 lq).bind λcz =>
 some (.inl (cz,aR (e7.2+1)))
 else
 some (.inr e7.1))) (ll.1,0)).bind λhf =>
 some (.inl (hf,aR (ll.2+1)))
 else
 some (.inr ll.1))) (([]:List Int),0)).bind λb8 =>
 (dP ct.1 [(⟨s2.2,c0,b8⟩:kJ)]).bind λev =>
 some (.inl (ct.1++[(⟨s2.2,c0,b8⟩:kJ)],aR (ct.2+1)))
 else
 some (.inr ct.1))) (s2.1,0)).bind λcR =>
 some (.inl (cR,aR (s2.2+1)))
 else
 some (.inr s2.1))) (([]:List kJ),0)).bind λaZ =>
 some aZ
def tO (a0:Source):Option (bx × (List State) × (List Cell) × Bool) :=
 (zl a0).bind λaX =>
 (bif !aX.2.2 then
 some (aX.1,([]:List State),([]:List Cell),false)
 else
 (CG aX.1 aX.2.1).bind λaZ =>
 (CF aX.1 aX.2.1 aZ).bind λb4 =>
 some (aX.1,aX.2.1,b4,true))
def Kq (a0:Int) (aw:Int):Option (Int × Int) :=
 some (IntKind.u32.wrap (qH .u64 (IntKind.u64.wrap ((IntKind.u64.wrap a0) * (IntKind.u64.wrap aw))) 32),IntKind.u32.wrap (IntKind.u64.wrap ((IntKind.u64.wrap a0) * (IntKind.u64.wrap aw))))
def FA (a0:Int) (aw:Int):Option (Int × Int) :=
 some (IntKind.u64.wrap ((IntKind.u64.wrap ((IntKind.u64.wrap ((qH .u64 a0 32) * (qH .u64 aw 32)))+(qH .u64 (IntKind.u64.wrap ((IntKind.u64.wrap ((qH .u64 a0 32) * (r2 .u64 aw 4294967295)))+(qH .u64 (IntKind.u64.wrap ((r2 .u64 a0 4294967295) * (r2 .u64 aw 4294967295))) 32))) 32)))+(qH .u64 (IntKind.u64.wrap ((r2 .u64 (IntKind.u64.wrap ((IntKind.u64.wrap ((qH .u64 a0 32) * (r2 .u64 aw 4294967295)))+(qH .u64 (IntKind.u64.wrap ((r2 .u64 a0 4294967295) * (r2 .u64 aw 4294967295))) 32))) 4294967295)+(IntKind.u64.wrap ((r2 .u64 a0 4294967295) * (qH .u64 aw 32))))) 32)),IntKind.u64.wrap (a0 * aw))
def Fz (a0:Int) (aw:Int):Option (Int × Int) :=
 (FA a0 aw).bind λaX =>
 some (aX.1,aX.2)
def CM (a0:(List Int)) (aw:Int):Option ((List Int)) :=
 (bif decide (aw<0) then
 none
 else
 (Fz (IntKind.u64.wrap (a0.length:Int)) (IntKind.u64.wrap aw)).bind λx2 =>
 ((bif decide (0<x2.1) then some true else some (decide (9223372036854775807<x2.2)))).bind λc4 =>
 (bif c4 then
 none
 else
 (nM (aR x2.2) 0).bind λb2 =>
 (Ea 0 b2.length b2 a0).bind λbt =>
 (b0 (R:=List Int) (λ(ct:List Int × Int) =>
 (bif decide (ct.2<(ct.1.length:Int)) then
 (vc ct.1 ct.2).bind λc0 =>
 (vc ct.1 ct.2).bind λe8 =>
 (Ea ct.2.toNat (ct.1.length - ct.2.toNat) ct.1 (ct.1.take ct.2.toNat)).bind λdx =>
 some (.inl (dx,aR (ct.2+((min (ct.1.take ct.2.toNat).length (ct.1.length - ct.2.toNat):Nat):Int))))
 else
 some (.inr ct.1))) (bt,((min a0.length b2.length:Nat):Int))).bind λcR =>
 some cR))
structure Act where
 Kind:Int
 N:Int
 deriving DecidableEq,Inhabited
structure kn where
 fm:(List (List Act))
 eP:(List (List Int))
 deriving DecidableEq,Inhabited
def dQ:bz Act:=⟨2,λx=>[ae x.Kind,ae x.N],λ_=>rfl,λ_=>df.bd⟩
instance:Flat dQ:=⟨λ_=>rfl⟩
instance:lU dQ:=⟨λx=>(inferInstance:js [ae x.Kind,ae x.N])⟩
instance:gQ dQ dQ:=⟨rfl,λx=>(inferInstance:du [ae x.Kind,ae x.N] [ae x.Kind,ae x.N])⟩
def zm (a0:bx) (aw:(List State)):Option (kn) :=
 (b0 (R:=List (List Act) × List (List Int)) (λ(s1:List (List Act) × List (List Int) × Int) =>
 (bif decide (s1.2.2<(aw.length:Int)) then
 (idx aw s1.2.2).bind λcd =>
 (CM [(-1)] (a0.bA.length:Int)).bind λb2 =>
 (b0 (R:=List Int) (λ(hb:List Int × Int) =>
 (bif decide (hb.2<(cd.de.length:Int)) then
 ((idx cd.de hb.2).bind λc0 =>
 ((bif decide (1000<=c0.Sym) then
 (idx hb.1 (aR (c0.Sym - 1000))).bind λdF =>
 some (hb.1.set (aR (c0.Sym - 1000)).toNat c0.hF)
 else
 some hb.1)).bind λjl =>
 some jl).bind λjF =>
 some (.inl (jF,aR (hb.2+1)))
 else
 some (.inr hb.1))) (b2,0)).bind λcf =>
 (dP s1.2.1 [cf]).bind λb8 =>
 (nM (a0.aW.length:Int) (⟨0,0⟩:Act)).bind λbG =>
 (dP s1.1 [bG]).bind λeu =>
 some (.inl (s1.1++[bG],s1.2.1++[cf],aR (s1.2.2+1)))
 else
 some (.inr (s1.1,s1.2.1)))) (([]:List (List Act)),([]:List (List Int)),0)).bind λx2 =>
 some (⟨x2.1,x2.2⟩:kn)
def vr (a0:(List Int)):Option (Int) :=
 (bif decide ((a0.length:Int)<1) then
 none
 else
 (idx a0 0).bind λx2 =>
 (b0 (R:=Int) (λ(dE:Int × Int) =>
 (bif decide (dE.2<(a0.length:Int)) then
 (idx a0 dE.2).bind λbt =>
 some (.inl (min dE.1 bt,aR (dE.2+1)))
 else
 some (.inr dE.1))) (x2,1)).bind λb4 =>
 some b4)
def zy (a0:bx) (aw:Int):Option (Int × Int) :=
 ((bif decide (aw<0) then some true else some (decide ((a0.aW.length:Int)<=aw)))).bind λc2 =>
 (bif c2 then
 some (0,0)
 else
 (idx a0.aW aw).bind λb4 =>
 (idx a0.aW aw).bind λcd =>
 some (b4.Level,cd.e9))
def CY (a0:bx) (aw:Int):Option (Int × Int) :=
 ((bif decide (aw<0) then some true else some (decide ((a0.a7.length:Int)<=aw)))).bind λc2 =>
 (bif c2 then
 some (0,0)
 else
 (idx a0.a7 aw).bind λb4 =>
 (zy a0 b4.Prec).bind λcd =>
 some (cd.1,cd.2))
def CN (a0:bx) (aw:Int) (a2:Int):Option (Int) :=
 (CY a0 aw).bind λaX =>
 (zy a0 a2).bind λx2 =>
 ((bif decide (aX.1=0) then some true else some (decide (x2.1=0)))).bind λc4 =>
 (bif c4 then
 some 0
 else
 ((bif decide (aX.1<x2.1) then some true else (bif decide (x2.1=aX.1) then some (decide (x2.2=2)) else some false))).bind λn3 =>
 (bif n3 then
 some 1
 else
 ((bif decide (x2.1<aX.1) then some true else some (decide (x2.2=1)))).bind λG6 =>
 (bif G6 then
 some 2
 else
 some 3)))
def CH (a0:bx) (aw:Cell):Option (Act × Bool) :=
 (bif decide ((aw.a7.length:Int)=0) then
 (bif aw.lx then
 some ((⟨3,0⟩:Act),false)
 else
 some ((⟨1,aw.jd⟩:Act),false))
 else
 (vr aw.a7).bind λaZ =>
 (bif aw.lx then
 some ((⟨3,0⟩:Act),true)
 else
 (bif decide (aw.jd<0) then
 some ((⟨2,aZ⟩:Act),false)
 else
 (CN a0 aZ aw.Tok).bind λb2 =>
 (bif decide (b2=2) then
 some ((⟨2,aZ⟩:Act),false)
 else
 (bif decide (b2=3) then
 some ((⟨4,0⟩:Act),false)
 else
 (bif decide (b2=1) then
 some ((⟨1,aw.jd⟩:Act),false)
 else
 some ((⟨1,aw.jd⟩:Act),true)))))))
structure eS where
 State:Int
 Tok:Int
 gF:Int
 Drop:Int
 deriving DecidableEq,Inhabited
def fv:bz eS:=⟨4,λx=>[ae x.State,ae x.Tok,ae x.gF,ae x.Drop],λ_=>rfl,λ_=>df.bd⟩
instance:Flat fv:=⟨λ_=>rfl⟩
instance:lU fv:=⟨λx=>(inferInstance:js [ae x.State,ae x.Tok,ae x.gF,ae x.Drop])⟩
instance:gQ fv fv:=⟨rfl,λx=>(inferInstance:du [ae x.State,ae x.Tok,ae x.gF,ae x.Drop] [ae x.State,ae x.Tok,ae x.gF,ae x.Drop])⟩
instance {x:eS}:du (fv.cells x) [ae x.State,ae x.Tok,ae x.gF,ae x.Drop]:=(inferInstance:du [ae x.State,ae x.Tok,ae x.gF,ae x.Drop] [ae x.State,ae x.Tok,ae x.gF,ae x.Drop])
def xw (a0:bx) (aw:(List State)) (a2:(List Cell)):Option (kn × (List eS)) :=
 (zm a0 aw).bind λaX =>
 (b0 (R:=List (List Act) × List eS) (λ(s2:List (List Act) × List eS × Int) =>
 (bif decide (s2.2.2<(a2.length:Int)) then
 ((idx a2 s2.2.2).bind λbt =>
 (CH a0 bt).bind λcf =>
 (idx s2.1 bt.State).bind λcR =>
 (idx cR bt.Tok).bind λbR =>
 (bif decide ((bt.a7.length:Int)=0) then
 some (s2.1.set bt.State.toNat (cR.set bt.Tok.toNat cf.1),s2.2.1)
 else
 (vr bt.a7).bind λc0 =>
 (b0 (R:=List eS) (λ(dS:List eS × Int) =>
 (bif decide (dS.2<(bt.a7.length:Int)) then
 ((idx bt.a7 dS.2).bind λeu =>
 ((bif !decide (eu=c0) then
 (dP dS.1 [(⟨bt.State,bt.Tok,c0,eu⟩:eS)]).bind λfU =>
 some (dS.1++[(⟨bt.State,bt.Tok,c0,eu⟩:eS)])
 else
 some dS.1)).bind λeJ =>
 some eJ).bind λky =>
 some (.inl (ky,aR (dS.2+1)))
 else
 some (.inr dS.1))) (s2.2.1,0)).bind λdx =>
 ((bif cf.2 then
 (dP dx [(⟨bt.State,bt.Tok,(-1),c0⟩:eS)]).bind λhg =>
 some (dx++[(⟨bt.State,bt.Tok,(-1),c0⟩:eS)])
 else
 some dx)).bind λoi =>
 some (s2.1.set bt.State.toNat (cR.set bt.Tok.toNat cf.1),oi))).bind λiE =>
 some (.inl (iE.1,iE.2,aR (s2.2.2+1)))
 else
 some (.inr (s2.1,s2.2.1)))) (aX.fm,([]:List eS),0)).bind λaZ =>
 some ((⟨aZ.1,aX.eP⟩:kn),aZ.2)
def xt (a0:bx) (aw:Item):Option (Bool) :=
 ((bif decide (0<=aw.Prod) then (bif decide (aw.Prod<(a0.a7.length:Int)) then (bif decide (0<=aw.cP) then ((idx a0.a7 aw.Prod).bind λb4=>some (decide (aw.cP<=(b4.eI.length:Int)))) else some false) else some false) else some false)).bind λjf =>
 some jf
def CZ (a0:bx) (aw:Item):Option (Int) :=
 (((xt a0 aw).bind λaX=>(bif !aX then some true else ((idx a0.a7 aw.Prod).bind λaZ=>some (decide (aw.cP=(aZ.eI.length:Int))))))).bind λc4 =>
 (bif c4 then
 some (-1)
 else
 (idx a0.a7 aw.Prod).bind λb2 =>
 (idx b2.eI aw.cP).bind λbt =>
 some bt)
def Cy (a0:(List Int)):Option (Int) :=
 (b0 (R:=(Unit) ⊕ (Int)) (λ(s1:Int) =>
 (bif decide (s1<(a0.length:Int)) then
 (idx a0 s1).bind λb2 =>
 (bif !decide (b2=0) then
 some (.inr (.inr b2))
 else
 some (.inl (aR (s1+1))))
 else
 some (.inr (.inl ())))) 0).bind λx2 =>
 (match x2 with
 | .inl aZ =>
 some 0
 | .inr b4 =>
 some b4)
def zh (a0:Int):Option (Bool) :=
 some (!decide (a0=a0))
def zg (a0:Int) (aw:Int):Option (Int) :=
 (zh a0).bind λaX =>
 (zh aw).bind λx2 =>
 (bif aX then
 (bif x2 then
 some 0
 else
 some (-1))
 else
 (bif x2 then
 some 1
 else
 (bif decide (a0<aw) then
 some (-1)
 else
 (bif decide (aw<a0) then
 some 1
 else
 some 0))))
def C0 (a0:Item) (aw:Item):Option (Int) :=
 (zg a0.Prod aw.Prod).bind λaX =>
 (zg a0.cP aw.cP).bind λx2 =>
 (Cy [aX,x2]).bind λaZ =>
 some aZ
def xn (a0:bx) (aw:(List Item)):Option ((List Item)) :=
 (b0 (R:=List Item) (λ(s1:List Item × Int) =>
 (bif decide (s1.2<(aw.length:Int)) then
 ((idx aw s1.2).bind λb2 =>
 (xt a0 b2).bind λbt =>
 ((bif bt then
 (dP s1.1 [b2]).bind λbR =>
 some (s1.1++[b2])
 else
 some s1.1)).bind λnc =>
 some nc).bind λom =>
 some (.inl (om,aR (s1.2+1)))
 else
 some (.inr s1.1))) (([]:List Item),0)).bind λx2 =>
 (nM (a0.bA.length:Int) false).bind λdt =>
 (b0 (R:=List Item) (λ(mF:List Item × List Bool × Int) =>
 (bif decide (mF.2.2<(mF.1.length:Int)) then
 ((idx mF.1 mF.2.2).bind λbG =>
 (CZ a0 bG).bind λeu =>
 ((bif decide (aR (eu - 1000)<0) then some true else ((idx mF.2.1 (aR (eu - 1000))).bind λhf=>some hf))).bind λpk =>
 (bif pk then
 some (mF.1,mF.2.1)
 else
 (idx mF.2.1 (aR (eu - 1000))).bind λfa =>
 (b0 (R:=List Item) (λ(nq:List Item × Int) =>
 (bif decide (nq.2<(a0.a7.length:Int)) then
 ((idx a0.a7 nq.2).bind λev =>
 ((bif decide (ev.Left=aR (eu - 1000)) then
 (dP nq.1 [(⟨nq.2,0⟩:Item)]).bind λeO =>
 some (nq.1++[(⟨nq.2,0⟩:Item)])
 else
 some nq.1)).bind λJH =>
 some JH).bind λJG =>
 some (.inl (JG,aR (nq.2+1)))
 else
 some (.inr nq.1))) (mF.1,0)).bind λgP =>
 some (gP,mF.2.1.set (aR (eu - 1000)).toNat true))).bind λlg =>
 some (.inl (lg.1,lg.2,aR (mF.2.2+1)))
 else
 some (.inr mF.1))) (x2,dt,0)).bind λe8 =>
 (vD (λa b=>C0 a b) e8).bind λlu =>
 (yw lu).bind λgD =>
 some gD
def Kn (a0:Int):Option (Bool) :=
 ((bif decide (32<=a0) then (bif decide (a0<=126) then (bif !decide (a0=39) then some (!decide (a0=92)) else some false) else some false) else some false)).bind λc4 =>
 some c4
def Fx (a0:ByteArray) (aw:Int):Option (Int) :=
 some (firstIdx a0 aw.toNat.toUInt8)
def Ko (a0:ByteArray) (aw:Int):Option (Int) :=
 (Fx a0 aw).bind λaX =>
 some aX
def zz (a0:Int):Option (ByteArray) :=
 (Kn a0).bind λaX =>
 (bif aX then
 (cj (⟨#[39]⟩) (strOfNums [a0])).bind λaZ =>
 (cj aZ (⟨#[39]⟩)).bind λb4 =>
 some b4
 else
 (Ko (⟨#[10,9,13,92,39]⟩) a0).bind λcd =>
 (bif decide (0<=cd) then
 (pr (⟨#[110,116,114,92,39]⟩) cd (aR (cd+1))).bind λbt =>
 (cj (⟨#[39,92]⟩) bt).bind λcf =>
 (cj cf (⟨#[39]⟩)).bind λcR =>
 some cR
 else
 some (⟨#[]⟩)))
def nj (a0:bx) (aw:Int):Option (ByteArray) :=
 ((bif decide (0<=aw) then (bif decide (aw<(a0.aW.length:Int)) then ((idx a0.aW aw).bind λaZ=>some aZ.Lit) else some false) else some false)).bind λc4 =>
 (bif c4 then
 (idx a0.aW aw).bind λb2 =>
 (iP b2.Name 0).bind λbt =>
 (zz bt).bind λcf =>
 some cf
 else
 ((bif decide (0<=aw) then some (decide (aw<(a0.aW.length:Int))) else some false)).bind λje =>
 (bif je then
 (idx a0.aW aw).bind λc0 =>
 some c0.Name
 else
 ((bif decide (1000<=aw) then some (decide (aR (aw - 1000)<(a0.bA.length:Int))) else some false)).bind λqZ =>
 (bif qZ then
 (idx a0.bA (aR (aw - 1000))).bind λb8 =>
 some b8.Name
 else
 some (⟨#[]⟩))))
def xo (a0:bx) (aw:Item):Option (ByteArray) :=
 (xt a0 aw).bind λaX =>
 (bif !aX then
 some (⟨#[]⟩)
 else
 (idx a0.a7 aw.Prod).bind λaZ =>
 (nj a0 (aR (1000+aZ.Left))).bind λb4 =>
 (cj b4 (⟨#[32,58]⟩)).bind λcd =>
 (b0 (R:=ByteArray) (λ(cL:ByteArray × Int) =>
 (bif decide (cL.2<(aZ.eI.length:Int)) then
 (idx aZ.eI cL.2).bind λbR =>
 ((bif decide (cL.2=aw.cP) then
 (cj cL.1 (⟨#[32,46]⟩)).bind λe8 =>
 some e8
 else
 some cL.1)).bind λjF =>
 (nj a0 bR).bind λdx =>
 (cj (⟨#[32]⟩) dx).bind λdF =>
 (cj jF dF).bind λb8 =>
 some (.inl (b8,aR (cL.2+1)))
 else
 some (.inr cL.1))) (cd,0)).bind λbt =>
 ((bif decide (aw.cP=(aZ.eI.length:Int)) then
 (cj bt (⟨#[32,46]⟩)).bind λe3 =>
 some e3
 else
 some bt)).bind λky =>
 some ky)
def rK (a0:Act):Option (ByteArray) :=
 (bif decide (a0.Kind=1) then
 (nK a0.N).bind λx2 =>
 (cj (⟨#[32,115,104,105,102,116,32]⟩) x2).bind λaZ =>
 some aZ
 else
 (bif decide (a0.Kind=2) then
 (nK a0.N).bind λcd =>
 (cj (⟨#[32,114,101,100,117,99,101,32]⟩) cd).bind λb2 =>
 some b2
 else
 (bif decide (a0.Kind=3) then
 some (⟨#[32,97,99,99,101,112,116]⟩)
 else
 (bif decide (a0.Kind=4) then
 some (⟨#[32,101,114,114,111,114]⟩)
 else
 some (⟨#[]⟩)))))
def zo (a0:(List eS)):Option (Int × Int) :=
 (b0 (R:=Int) (λ(s1:Int × Int) =>
 (bif decide (s1.2<(a0.length:Int)) then
 ((idx a0 s1.2).bind λb2 =>
 ((bif decide (b2.gF=(-1)) then
 some (aR (s1.1+1))
 else
 some s1.1)).bind λkz =>
 some kz).bind λom =>
 some (.inl (om,aR (s1.2+1)))
 else
 some (.inr s1.1))) (0,0)).bind λx2 =>
 some (x2,aR ((a0.length:Int) - x2))
def zp (a0:(List ByteArray)) (aw:ByteArray):Option (ByteArray) :=
 (bif decide ((a0.length:Int)=0) then
 some (⟨#[]⟩)
 else
 (bif decide ((a0.length:Int)=1) then
 (idx a0 0).bind λaZ =>
 some aZ
 else
 ((bif decide (0<(aw.size:Int)) then
 (zJ 9223372036854775807 (aR ((a0.length:Int) - 1))).bind λb2 =>
 (bif decide (b2<=(aw.size:Int)) then
 none
 else
 some (aR (0+(aR ((aw.size:Int) * (aR ((a0.length:Int) - 1)))))))
 else
 some 0)).bind λvg =>
 (b0 (R:=Int) (λ(ct:Int × Int) =>
 (bif decide (ct.2<(a0.length:Int)) then
 (idx a0 ct.2).bind λc0 =>
 (bif decide (aR (9223372036854775807 - ct.1)<(c0.size:Int)) then
 none
 else
 some (.inl (aR (ct.1+(c0.size:Int)),aR (ct.2+1))))
 else
 some (.inr ct.1))) (vg,0)).bind λcR =>
 (vZ () cR).bind λdx =>
 (idx a0 0).bind λdF =>
 (mP dx dF).bind λb8 =>
 (lN a0 1 a0.length).bind λbG =>
 (b0 (R:=ByteArray) (λ(il:ByteArray × Int) =>
 (bif decide (il.2<(bG.length:Int)) then
 (idx bG il.2).bind λgB =>
 (mP il.1 aw).bind λfa =>
 (mP fa gB).bind λhg =>
 some (.inl (hg,aR (il.2+1)))
 else
 some (.inr il.1))) (b8,0)).bind λe3 =>
 (pj e3).bind λgP =>
 some gP))
structure eH where
 aA:bx
 ti:ByteArray
 deriving DecidableEq,Inhabited
def gX:bz eH:=⟨7,λx=>[ay bP x.aA.aW,ay bq x.aA.bA,ay cm x.aA.a7,ao x.aA.b_,ao x.aA.ch,.self (5,96),.dv 5 (Lib.strCells x.ti)],λ_=>rfl,λ_=>df.bd⟩
def pY (a0:eH) (aw:ByteArray):Option (eH) :=
 (cj (⟨#[9]⟩) aw).bind λaX =>
 (cj aX (⟨#[10]⟩)).bind λx2 =>
 (mP a0.ti x2).bind λaZ =>
 some (⟨a0.aA,aZ⟩:eH)
def zn (a0:eH) (aw:Int) (a2:State) (a3:kn) (a4:(List eS)):Option (eH) :=
 (nK aw).bind λaX =>
 (cj (⟨#[115,116,97,116,101,32]⟩) aX).bind λx2 =>
 (cj x2 (⟨#[10]⟩)).bind λaZ =>
 (mP a0.ti aZ).bind λb4 =>
 (xn a0.aA a2.Kernel).bind λcd =>
 (b0 (R:=eH) (λ(cL:eH × Int) =>
 (bif decide (cL.2<(cd.length:Int)) then
 (idx cd cL.2).bind λbR =>
 (xo cL.1.aA bR).bind λdt =>
 (pY cL.1 dt).bind λc0 =>
 some (.inl (c0,aR (cL.2+1)))
 else
 some (.inr cL.1))) ((⟨a0.aA,b4⟩:eH),0)).bind λbt =>
 (b0 (R:=eH) (λ(dS:eH × Int) =>
 (bif decide (dS.2<(a4.length:Int)) then
 ((idx a4 dS.2).bind λeu =>
 ((bif decide (eu.State=aw) then
 (nj dS.1.aA eu.Tok).bind λfU =>
 (cj (⟨#[99,111,110,102,108,105,99,116,32]⟩) fU).bind λgB =>
 (cj gB (⟨#[58,32]⟩)).bind λfa =>
 (nK eu.Drop).bind λhg =>
 (cj fa hg).bind λgP =>
 (cj gP (⟨#[32,108,101,102,116,32,111,117,116]⟩)).bind λkk =>
 (pY dS.1 kk).bind λlq =>
 some lq
 else
 some dS.1)).bind λeJ =>
 some eJ).bind λky =>
 some (.inl (ky,aR (dS.2+1)))
 else
 some (.inr dS.1))) (bt,0)).bind λdx =>
 (idx a3.fm aw).bind λcz =>
 (b0 (R:=eH) (λ(kh:eH × Int) =>
 (bif decide (kh.2<(cz.length:Int)) then
 ((idx cz kh.2).bind λgD =>
 (rK gD).bind λgu =>
 ((bif !decide (gu=⟨#[]⟩) then
 (nj kh.1.aA kh.2).bind λcI =>
 (cj cI gu).bind λjL =>
 (pY kh.1 jL).bind λrU =>
 some rU
 else
 some kh.1)).bind λkb =>
 some kb).bind λB7 =>
 some (.inl (B7,aR (kh.2+1)))
 else
 some (.inr kh.1))) (dx,0)).bind λgC =>
 (idx a3.eP aw).bind λsS =>
 (b0 (R:=eH) (λ(ki:eH × Int) =>
 (bif decide (ki.2<(sS.length:Int)) then
 ((idx sS ki.2).bind λk1 =>
 ((bif decide (0<=k1) then
 (nj ki.1.aA (aR (1000+ki.2))).bind λqM =>
 (cj qM (⟨#[32,103,111,116,111,32]⟩)).bind λnu =>
 (nK k1).bind λj3 =>
 (cj nu j3).bind λnS =>
 (pY ki.1 nS).bind λp8 =>
 some p8
 else
 some ki.1)).bind λB9 =>
 some B9).bind λB8 =>
 some (.inl (B8,aR (ki.2+1)))
 else
 some (.inr ki.1))) (gC,0)).bind λo9 =>
 some o9
structure _anon105 where
 q6:Int
 r7:ByteArray
 deriving DecidableEq,Inhabited
def r6:bz _anon105:=⟨2,λx=>[ae x.q6,ao x.r7],λ_=>rfl,λ_=>df.bd⟩
instance:Flat r6:=⟨λ_=>rfl⟩
instance:lU r6:=⟨λx=>(inferInstance:js [ae x.q6,ao x.r7])⟩
instance:gQ r6 r6:=⟨rfl,λx=>(inferInstance:du [ae x.q6,ao x.r7] [ae x.q6,ao x.r7])⟩
def xi (a0:bx) (aw:(List State)) (a2:kn) (a3:(List eS)):Option (ByteArray) :=
 (b0 (R:=eH) (λ(s1:eH × Int) =>
 (bif decide (s1.2<(aw.length:Int)) then
 (idx aw s1.2).bind λcd =>
 (zn s1.1 s1.2 cd a2 a3).bind λb2 =>
 some (.inl (b2,aR (s1.2+1)))
 else
 some (.inr s1.1))) ((⟨a0,⟨#[]⟩⟩:eH),0)).bind λx2 =>
 (zo a3).bind λbt =>
 (b0 (R:=List ByteArray) (λ(ct:List ByteArray × Int) =>
 (bif decide (ct.2<([(⟨(a0.aW.length:Int),⟨#[32,116,111,107,101,110,115]⟩⟩:_anon105),(⟨(a0.bA.length:Int),⟨#[32,110,111,110,116,101,114,109,105,110,97,108,115]⟩⟩:_anon105),(⟨(a0.a7.length:Int),⟨#[32,112,114,111,100,117,99,116,105,111,110,115]⟩⟩:_anon105),(⟨(aw.length:Int),⟨#[32,115,116,97,116,101,115]⟩⟩:_anon105),(⟨bt.1,⟨#[32,115,104,105,102,116,47,114,101,100,117,99,101]⟩⟩:_anon105),(⟨bt.2,⟨#[32,114,101,100,117,99,101,47,114,101,100,117,99,101]⟩⟩:_anon105)].length:Int)) then
 (idx [(⟨(a0.aW.length:Int),⟨#[32,116,111,107,101,110,115]⟩⟩:_anon105),(⟨(a0.bA.length:Int),⟨#[32,110,111,110,116,101,114,109,105,110,97,108,115]⟩⟩:_anon105),(⟨(a0.a7.length:Int),⟨#[32,112,114,111,100,117,99,116,105,111,110,115]⟩⟩:_anon105),(⟨(aw.length:Int),⟨#[32,115,116,97,116,101,115]⟩⟩:_anon105),(⟨bt.1,⟨#[32,115,104,105,102,116,47,114,101,100,117,99,101]⟩⟩:_anon105),(⟨bt.2,⟨#[32,114,101,100,117,99,101,47,114,101,100,117,99,101]⟩⟩:_anon105)] ct.2).bind λc0 =>
 (nK c0.q6).bind λe8 =>
 (cj e8 c0.r7).bind λdx =>
 (dP ct.1 [dx]).bind λdF =>
 some (.inl (ct.1++[dx],aR (ct.2+1)))
 else
 some (.inr ct.1))) (([]:List ByteArray),0)).bind λcR =>
 (pj x2.ti).bind λb8 =>
 (zp cR (⟨#[44,32]⟩)).bind λbG =>
 (cj b8 bG).bind λeu =>
 (cj eu (⟨#[10]⟩)).bind λe3 =>
 some e3
def CO :Option (Bool) :=
 (tO (⟨⟨#[]⟩,([]:List Decl),[(⟨⟨#[115]⟩,[(⟨[(⟨(⟨⟨#[120]⟩,true,0,0⟩:Sym),⟨#[]⟩,0⟩:Part)],(⟨⟨#[]⟩,false,0,0⟩:Sym),0⟩:Alt)],0⟩:eZ)],⟨#[]⟩⟩:Source)).bind λaX =>
 (xw aX.1 aX.2.1 aX.2.2.1).bind λx2 =>
 ((bif aX.2.2.2 then (bif decide ((x2.1.fm.length:Int)=3) then ((xi aX.1 aX.2.1 x2.1 x2.2).bind λcd=>some (decide (cd=⟨#[115,116,97,116,101,32,48,10,9,36,97,99,99,101,112,116,32,58,32,46,32,115,10,9,115,32,58,32,46,32,39,120,39,10,9,39,120,39,32,115,104,105,102,116,32,49,10,9,115,32,103,111,116,111,32,50,10,115,116,97,116,101,32,49,10,9,115,32,58,32,39,120,39,32,46,10,9,36,101,110,100,32,114,101,100,117,99,101,32,49,10,115,116,97,116,101,32,50,10,9,36,97,99,99,101,112,116,32,58,32,115,32,46,10,9,36,101,110,100,32,97,99,99,101,112,116,10,52,32,116,111,107,101,110,115,44,32,50,32,110,111,110,116,101,114,109,105,110,97,108,115,44,32,50,32,112,114,111,100,117,99,116,105,111,110,115,44,32,51,32,115,116,97,116,101,115,44,32,48,32,115,104,105,102,116,47,114,101,100,117,99,101,44,32,48,32,114,101,100,117,99,101,47,114,101,100,117,99,101,10]⟩))) else some false) else some false)).bind λwb =>
 some wb
def sG (a0:ByteArray) (aw:Int):Option (ByteArray) :=
 (bif decide (aw<(a0.size:Int)) then
 (pr a0 0 aw).bind λx2 =>
 some x2
 else
 some a0)
def xm (a0:Sym):Option (Sym) :=
 (sG a0.Name 25).bind λaX =>
 some (⟨aX,a0.Lit,a0.bT,a0.At⟩:Sym)
def CQ (a0:Source):Option (Source) :=
 (sG a0.b_ 40).bind λaX =>
 (sG a0.ch 40).bind λx2 =>
 (b0 (R:=List Decl) (λ(dE:List Decl × Int) =>
 ((bif decide (dE.2<(a0.Decls.length:Int)) then some (decide (dE.2<8)) else some false)).bind λpn =>
 (bif pn then
 (idx a0.Decls dE.2).bind λcR =>
 (idx a0.Decls dE.2).bind λbR =>
 (sG bR.Tag 25).bind λdt =>
 (idx a0.Decls dE.2).bind λc0 =>
 (b0 (R:=List Sym) (λ(dS:List Sym × Int) =>
 (((idx a0.Decls dE.2).bind λb8=>(bif decide (dS.2<(b8.er.length:Int)) then some (decide (dS.2<6)) else some false))).bind λn2 =>
 (bif n2 then
 (idx a0.Decls dE.2).bind λhf =>
 (idx hf.er dS.2).bind λfU =>
 (xm fU).bind λgB =>
 (dP dS.1 [gB]).bind λfa =>
 some (.inl (dS.1++[gB],aR (dS.2+1)))
 else
 some (.inr dS.1))) (([]:List Sym),0)).bind λdx =>
 (dP dE.1 [(⟨cR.Kind,dt,dx,c0.At⟩:Decl)]).bind λhg =>
 some (.inl (dE.1++[(⟨cR.Kind,dt,dx,c0.At⟩:Decl)],aR (dE.2+1)))
 else
 some (.inr dE.1))) (([]:List Decl),0)).bind λb4 =>
 (b0 (R:=List eZ) (λ(kD:List eZ × Int) =>
 ((bif decide (kD.2<(a0.dB.length:Int)) then some (decide (kD.2<6)) else some false)).bind λG' =>
 (bif G' then
 (idx a0.dB kD.2).bind λlr =>
 (sG lr.Left 25).bind λeO =>
 (idx a0.dB kD.2).bind λlu =>
 (b0 (R:=List Alt) (λ(lL:List Alt × Int) =>
 (((idx a0.dB kD.2).bind λlv=>(bif decide (lL.2<(lv.eA.length:Int)) then some (decide (lL.2<5)) else some false))).bind λtc =>
 (bif tc then
 (idx a0.dB kD.2).bind λsS =>
 (idx sS.eA lL.2).bind λgb =>
 (xm gb.Prec).bind λo9 =>
 (idx a0.dB kD.2).bind λz' =>
 (idx z'.eA lL.2).bind λGj =>
 (b0 (R:=List Part) (λ(sN:List Part × Int) =>
 (((idx a0.dB kD.2).bind λxQ=>((idx xQ.eA lL.2).bind λqM=>(bif decide (sN.2<(qM.Parts.length:Int)) then some (decide (sN.2<6)) else some false)))).bind λHc =>
 (bif Hc then
 (idx a0.dB kD.2).bind λp8 =>
 (idx p8.eA lL.2).bind λk2 =>
 (idx k2.Parts sN.2).bind λnT =>
 (xm nT.Sym).bind λK6 =>
 (sG nT.Code 60).bind λqN =>
 (dP sN.1 [(⟨K6,qN,nT.At⟩:Part)]).bind λGk =>
 some (.inl (sN.1++[(⟨K6,qN,nT.At⟩:Part)],aR (sN.2+1)))
 else
 some (.inr sN.1))) (([]:List Part),0)).bind λk1 =>
 (dP lL.1 [(⟨k1,o9,Gj.At⟩:Alt)]).bind λAa =>
 some (.inl (lL.1++[(⟨k1,o9,Gj.At⟩:Alt)],aR (lL.2+1)))
 else
 some (.inr lL.1))) (([]:List Alt),0)).bind λgu =>
 (dP kD.1 [(⟨eO,gu,lu.At⟩:eZ)]).bind λAb =>
 some (.inl (kD.1++[(⟨eO,gu,lu.At⟩:eZ)],aR (kD.2+1)))
 else
 some (.inr kD.1))) (([]:List eZ),0)).bind λkk =>
 some (⟨aX,b4,kk,x2⟩:Source)
def vp (a0:Int) (aw:Int):Option (Int) :=
 (qD a0 aw).bind λaX =>
 ((bif decide (aX<0) then
 some (aR (aX+aw))
 else
 some aX)).bind λJE =>
 some JE
def Kp :Option (ByteArray) :=
 some (⟨#[112,113,114,115]⟩)
def vq (a0:Int):Option (Sym) :=
 (Kp ).bind λaX =>
 (qD a0 4).bind λx2 =>
 (qD a0 4).bind λaZ =>
 (pr aX x2 (aR (aZ+1))).bind λb4 =>
 some (⟨b4,true,0,0⟩:Sym)
def l2:bz Decl:=⟨4,λx=>[ae x.Kind,ao x.Tag,ar dI x.er,ae x.At],λ_=>rfl,λ_=>df.bd⟩
instance:gQ l2 dG:=⟨rfl,λx=>(inferInstance:du [ae x.Kind,ao x.Tag,ar dI x.er,ae x.At] [ae x.Kind,ao x.Tag,ay dI x.er,ae x.At])⟩
instance {x:Decl}:du (l2.cells x) [ae x.Kind,ao x.Tag,ay dI x.er,ae x.At]:=(inferInstance:du [ae x.Kind,ao x.Tag,ar dI x.er,ae x.At] [ae x.Kind,ao x.Tag,ay dI x.er,ae x.At])
def zj (a0:(List Int)):Option ((List Decl)) :=
 (b0 (R:=List Decl) (λ(s1:List Decl × Int) =>
 ((bif decide (s1.2<(a0.length:Int)) then some (decide (s1.2<4)) else some false)).bind λjf =>
 (bif jf then
 ((idx a0 s1.2).bind λcf =>
 (vp cf 8).bind λcR =>
 (qD cR 4).bind λbR =>
 (bif decide (bR=0) then
 some s1.1
 else
 ((bif decide (4<cR) then some (decide (0<(s1.1.length:Int))) else some false)).bind λl1 =>
 (bif l1 then
 (idx s1.1 (aR ((s1.1.length:Int) - 1))).bind λdF =>
 (vq s1.2).bind λb8 =>
 (dP dF.er [b8]).bind λbG =>
 some (s1.1.set (aR ((s1.1.length:Int) - 1)).toNat (⟨dF.Kind,dF.Tag,dF.er++[b8],dF.At⟩:Decl))
 else
 (qD cR 4).bind λeu =>
 (vq s1.2).bind λe3 =>
 (dP s1.1 [(⟨aR (1+eu),⟨#[]⟩,[e3],0⟩:Decl)]).bind λhf =>
 some (s1.1++[(⟨aR (1+eu),⟨#[]⟩,[e3],0⟩:Decl)])))).bind λkz =>
 some (.inl (kz,aR (s1.2+1)))
 else
 some (.inr s1.1))) (([]:List Decl),0)).bind λx2 =>
 some x2
def zk (a0:Int):Option (ByteArray) :=
 some (strOfNums [tZ (aR (97+a0))])
def CE (a0:Int) (aw:Int):Option (Sym) :=
 (vp a0 14).bind λaX =>
 (bif decide (aX<5) then
 (qD aX aw).bind λaZ =>
 (zk aZ).bind λb4 =>
 some (⟨b4,false,0,0⟩:Sym)
 else
 (bif decide (aX=13) then
 some (⟨⟨#[101,114,114,111,114]⟩,false,0,0⟩:Sym)
 else
 (vq (aR (aX - 5))).bind λb2 =>
 some b2))
structure qO where
 bA:Int
 dB:(List (List Int))
 qa:(List Int)
 mG:(List Int)
 rX:Bool
 deriving DecidableEq,Inhabited
def q5:bz qO:=⟨5,λx=>[ae x.bA,ay (b6 aY) x.dB,ay aY x.qa,ay aY x.mG,bg x.rX],λ_=>rfl,λ_=>df.bd⟩
instance:Flat q5:=⟨λ_=>rfl⟩
instance:gQ q5 q5:=⟨rfl,λx=>(inferInstance:du [ae x.bA,ay (b6 aY) x.dB,ay aY x.qa,ay aY x.mG,bg x.rX] [ae x.bA,ay (b6 aY) x.dB,ay aY x.qa,ay aY x.mG,bg x.rX])⟩
instance {x:qO}:du (q5.cells x) [ae x.bA,ay (b6 aY) x.dB,ay aY x.qa,ay aY x.mG,bg x.rX]:=(inferInstance:du [ae x.bA,ay (b6 aY) x.dB,ay aY x.qa,ay aY x.mG,bg x.rX] [ae x.bA,ay (b6 aY) x.dB,ay aY x.qa,ay aY x.mG,bg x.rX])
def fi:bz eZ:=⟨3,λx=>[ao x.Left,ar fe x.eA,ae x.At],λ_=>rfl,λ_=>df.bd⟩
instance:gQ fi h2:=⟨rfl,λx=>(inferInstance:du [ao x.Left,ar fe x.eA,ae x.At] [ao x.Left,ay fe x.eA,ae x.At])⟩
instance {x:eZ}:du (fi.cells x) [ao x.Left,ay fe x.eA,ae x.At]:=(inferInstance:du [ao x.Left,ar fe x.eA,ae x.At] [ao x.Left,ay fe x.eA,ae x.At])
def zw (a0:qO):Option (Source) :=
 (vp a0.bA 4).bind λaX =>
 (zj a0.qa).bind λx2 =>
 (nM (aR (1+aX)) false).bind λaZ =>
 (b0 (R:=List eZ) (λ(dd:List eZ × Int) =>
 (bif decide (dd.2<aR (1+aX)) then
 (zk dd.2).bind λcf =>
 (dP dd.1 [(⟨cf,([]:List Alt),0⟩:eZ)]).bind λcR =>
 some (.inl (dd.1++[(⟨cf,([]:List Alt),0⟩:eZ)],aR (dd.2+1)))
 else
 some (.inr dd.1))) (([]:List eZ),0)).bind λcd =>
 (b0 (R:=List eZ × List Bool) (λ(f_:List eZ × List Bool × Int) =>
 ((bif decide (f_.2.2<(a0.dB.length:Int)) then some (decide (f_.2.2<9)) else some false)).bind λqZ =>
 (bif qZ then
 ((idx a0.dB f_.2.2).bind λbG =>
 (bif decide ((bG.length:Int)=0) then
 some (f_.1,f_.2.1)
 else
 (idx a0.dB f_.2.2).bind λe3 =>
 (idx e3 0).bind λhf =>
 (vp hf (aR (1+aX))).bind λfU =>
 (b0 (R:=List Part × Bool) (λ(h6:List Part × Bool × Int) =>
 (((idx a0.dB f_.2.2).bind λgP=>(bif decide (h6.2.2<(gP.length:Int)) then some (decide (h6.2.2<5)) else some false))).bind λG_ =>
 (bif G_ then
 ((idx a0.dB f_.2.2).bind λgC =>
 (idx gC h6.2.2).bind λlr =>
 (CE lr (aR (1+aX))).bind λeO =>
 ((bif h6.2.1 then (bif eO.Lit then some true else some (decide (eO.Name=⟨#[101,114,114,111,114]⟩))) else some false)).bind λwa =>
 (dP h6.1 [(⟨eO,⟨#[]⟩,0⟩:Part)]).bind λlP =>
 ((bif decide (f_.2.2<(a0.mG.length:Int)) then (bif decide (h6.2.2=1) then ((idx a0.mG f_.2.2).bind λjL=>((qD jL 3).bind λrU=>some (decide (rU=1)))) else some false) else some false)).bind λyv =>
 ((bif yv then
 (dP (h6.1++[(⟨eO,⟨#[]⟩,0⟩:Part)]) [(⟨(⟨⟨#[]⟩,false,0,0⟩:Sym),⟨#[123,36,36,32,61,32,36,49,125]⟩,0⟩:Part)]).bind λz' =>
 some ((h6.1++[(⟨eO,⟨#[]⟩,0⟩:Part)])++[(⟨(⟨⟨#[]⟩,false,0,0⟩:Sym),⟨#[123,36,36,32,61,32,36,49,125]⟩,0⟩:Part)])
 else
 some (h6.1++[(⟨eO,⟨#[]⟩,0⟩:Part)]))).bind λJL =>
 some (JL,wa)).bind λB6 =>
 some (.inl (B6.1,B6.2,aR (h6.2.2+1)))
 else
 some (.inr (h6.1,h6.2.1)))) (([]:List Part),true,1)).bind λfa =>
 ((bif decide (f_.2.2<(a0.mG.length:Int)) then ((idx a0.mG f_.2.2).bind λmc=>((qD mc 2).bind λk1=>some (!decide (k1=0)))) else some false)).bind λHb =>
 ((bif Hb then
 (dP fa.1 [(⟨(⟨⟨#[]⟩,false,0,0⟩:Sym),⟨#[123,102,40,36,36,41,125]⟩,0⟩:Part)]).bind λnu =>
 some (fa.1++[(⟨(⟨⟨#[]⟩,false,0,0⟩:Sym),⟨#[123,102,40,36,36,41,125]⟩,0⟩:Part)])
 else
 some fa.1)).bind λoj =>
 (((idx f_.2.1 fU).bind λj3=>(bif j3 then some (f_.2.1.set fU.toNat true) else some (f_.2.1.set fU.toNat fa.2)))).bind λD7 =>
 (idx f_.1 fU).bind λk2 =>
 (dP k2.eA [(⟨oj,(⟨⟨#[]⟩,false,0,0⟩:Sym),0⟩:Alt)]).bind λnT =>
 some (f_.1.set fU.toNat (⟨k2.Left,k2.eA++[(⟨oj,(⟨⟨#[]⟩,false,0,0⟩:Sym),0⟩:Alt)],k2.At⟩:eZ),D7))).bind λlg =>
 some (.inl (lg.1,lg.2,aR (f_.2.2+1)))
 else
 some (.inr (f_.1,f_.2.1)))) (cd,aZ,0)).bind λdt =>
 (b0 (R:=List eZ) (λ(iJ:List eZ × Int) =>
 (bif decide (iJ.2<aR (1+aX)) then
 ((((idx iJ.1 iJ.2).bind λvG=>(bif decide ((vG.eA.length:Int)=0) then some true else ((idx dt.2 iJ.2).bind λt_=>(bif !t_ then some (!a0.rX) else some false))))).bind λAG =>
 ((bif AG then
 (idx iJ.1 iJ.2).bind λiq =>
 (vq iJ.2).bind λir =>
 (dP iq.eA [(⟨[(⟨ir,⟨#[]⟩,0⟩:Part)],(⟨⟨#[]⟩,false,0,0⟩:Sym),0⟩:Alt)]).bind λrV =>
 some (iJ.1.set iJ.2.toNat (⟨iq.Left,iq.eA++[(⟨[(⟨ir,⟨#[]⟩,0⟩:Part)],(⟨⟨#[]⟩,false,0,0⟩:Sym),0⟩:Alt)],iq.At⟩:eZ))
 else
 some iJ.1)).bind λJP =>
 some JP).bind λJO =>
 some (.inl (JO,aR (iJ.2+1)))
 else
 some (.inr iJ.1))) (dt.1,0)).bind λqN =>
 some (⟨⟨#[]⟩,x2,qN,⟨#[]⟩⟩:Source)
def CR (a0:bx) (aw:Int):Option (Bool) :=
 ((bif decide (0<=aw) then (bif decide (aw<(a0.aW.length:Int)) then some true else (bif decide (1000<=aw) then some (decide (aw<aR (1000+(a0.bA.length:Int)))) else some false)) else (bif decide (1000<=aw) then some (decide (aw<aR (1000+(a0.bA.length:Int)))) else some false))).bind λjf =>
 some jf
def zu (a0:Int):Option (ByteArray) :=
 (xu a0).bind λaX =>
 (bif !aX.2 then
 some (⟨#[]⟩)
 else
 (bif !decide (aX.1=0) then
 (cj (⟨#[39,92]⟩) (strOfNums [aX.1])).bind λb4 =>
 (cj b4 (⟨#[39]⟩)).bind λcd =>
 some cd
 else
 (cj (⟨#[39]⟩) (strOfNums [a0])).bind λb2 =>
 (cj b2 (⟨#[39]⟩)).bind λbt =>
 some bt))
def qA (a0:bx) (aw:Int):Option (ByteArray) :=
 (CR a0 aw).bind λaX =>
 (bif !aX then
 some (⟨#[]⟩)
 else
 (bif decide (1000<=aw) then
 (idx a0.bA (aR (aw - 1000))).bind λb4 =>
 some b4.Name
 else
 (idx a0.aW aw).bind λcd =>
 (bif cd.Lit then
 (idx a0.aW aw).bind λbt =>
 (iP bt.Name 0).bind λcf =>
 (zu cf).bind λcR =>
 some cR
 else
 (idx a0.aW aw).bind λbR =>
 some bR.Name)))
def vt (a0:bx) (aw:Item):Option (ByteArray) :=
 (xr a0 aw).bind λaX =>
 (bif !aX then
 some (⟨#[]⟩)
 else
 (idx a0.a7 aw.Prod).bind λaZ =>
 (idx a0.bA aZ.Left).bind λb4 =>
 (cj b4.Name (⟨#[32,58]⟩)).bind λcd =>
 (b0 (R:=ByteArray) (λ(cL:ByteArray × Int) =>
 (bif decide (cL.2<(aZ.eI.length:Int)) then
 ((bif decide (cL.2=aw.cP) then
 (cj cL.1 (⟨#[32,46]⟩)).bind λc0 =>
 some c0
 else
 some cL.1)).bind λpU =>
 (cj pU (⟨#[32]⟩)).bind λe8 =>
 (idx aZ.eI cL.2).bind λdx =>
 (qA a0 dx).bind λdF =>
 (cj e8 dF).bind λb8 =>
 some (.inl (b8,aR (cL.2+1)))
 else
 some (.inr cL.1))) (cd,0)).bind λbt =>
 ((bif decide (aw.cP=(aZ.eI.length:Int)) then
 (cj bt (⟨#[32,46]⟩)).bind λe3 =>
 some e3
 else
 some bt)).bind λky =>
 some ky)
def sI (a0:Act):Option (ByteArray) :=
 (bif decide (a0.Kind=1) then
 (kf a0.N).bind λx2 =>
 (cj (⟨#[115,104,105,102,116,32]⟩) x2).bind λaZ =>
 some aZ
 else
 (bif decide (a0.Kind=2) then
 (kf a0.N).bind λcd =>
 (cj (⟨#[114,101,100,117,99,101,32]⟩) cd).bind λb2 =>
 some b2
 else
 (bif decide (a0.Kind=3) then
 some (⟨#[97,99,99,101,112,116]⟩)
 else
 some (⟨#[101,114,114,111,114]⟩))))
def Fy (a0:(List eS)):Option (Int × Int) :=
 (b0 (R:=Int) (λ(s1:Int × Int) =>
 (bif decide (s1.2<(a0.length:Int)) then
 ((idx a0 s1.2).bind λb2 =>
 ((bif decide (b2.gF=(-1)) then
 some (aR (s1.1+1))
 else
 some s1.1)).bind λkz =>
 some kz).bind λom =>
 some (.inl (om,aR (s1.2+1)))
 else
 some (.inr s1.1))) (0,0)).bind λx2 =>
 some (x2,aR ((a0.length:Int) - x2))
def Cz (a0:bx) (aw:(List State)) (a2:kn) (a3:(List eS)):Option (ByteArray) :=
 (b0 (R:=ByteArray) (λ(s1:ByteArray × Int) =>
 (bif decide (s1.2<(aw.length:Int)) then
 (cj s1.1 (⟨#[115,116,97,116,101,32]⟩)).bind λcd =>
 (kf s1.2).bind λb2 =>
 (cj cd b2).bind λbt =>
 (cj bt (⟨#[10]⟩)).bind λcf =>
 (idx aw s1.2).bind λcR =>
 (sH a0 cR.Kernel).bind λbR =>
 (b0 (R:=ByteArray) (λ(gO:ByteArray × Int) =>
 (bif decide (gO.2<(bR.length:Int)) then
 (cj gO.1 (⟨#[9]⟩)).bind λdF =>
 (idx bR gO.2).bind λb8 =>
 (vt a0 b8).bind λbG =>
 (cj dF bG).bind λeu =>
 (cj eu (⟨#[10]⟩)).bind λe3 =>
 some (.inl (e3,aR (gO.2+1)))
 else
 some (.inr gO.1))) (cf,0)).bind λc0 =>
 (b0 (R:=ByteArray) (λ(iG:ByteArray × Int) =>
 (bif decide (iG.2<(a3.length:Int)) then
 ((idx a3 iG.2).bind λgP =>
 ((bif decide (gP.State=s1.2) then
 (cj iG.1 (⟨#[9,99,111,110,102,108,105,99,116,32]⟩)).bind λcz =>
 (idx a3 iG.2).bind λev =>
 (qA a0 ev.Tok).bind λgC =>
 (cj cz gC).bind λlr =>
 (cj lr (⟨#[58,32]⟩)).bind λeO =>
 (idx a3 iG.2).bind λlu =>
 (kf lu.Drop).bind λgD =>
 (cj eO gD).bind λgu =>
 (cj gu (⟨#[32,108,101,102,116,32,111,117,116,10]⟩)).bind λlP =>
 some lP
 else
 some iG.1)).bind λdw =>
 some dw).bind λrC =>
 some (.inl (rC,aR (iG.2+1)))
 else
 some (.inr iG.1))) (c0,0)).bind λfU =>
 (b0 (R:=ByteArray) (λ(iH:ByteArray × Int) =>
 (bif decide (iH.2<(a0.aW.length:Int)) then
 ((idx a2.fm s1.2).bind λgb =>
 (idx gb iH.2).bind λo9 =>
 ((bif !decide (o9.Kind=0) then
 (cj iH.1 (⟨#[9]⟩)).bind λmc =>
 (qA a0 iH.2).bind λk1 =>
 (cj mc k1).bind λsT =>
 (cj sT (⟨#[32]⟩)).bind λxQ =>
 (idx a2.fm s1.2).bind λqM =>
 (idx qM iH.2).bind λnu =>
 (sI nu).bind λj3 =>
 (cj xQ j3).bind λnS =>
 (cj nS (⟨#[10]⟩)).bind λp8 =>
 some p8
 else
 some iH.1)).bind λw2 =>
 some w2).bind λw1 =>
 some (.inl (w1,aR (iH.2+1)))
 else
 some (.inr iH.1))) (fU,0)).bind λcI =>
 (b0 (R:=ByteArray) (λ(iI:ByteArray × Int) =>
 (bif decide (iI.2<(a0.bA.length:Int)) then
 ((idx a2.eP s1.2).bind λAa =>
 (idx Aa iI.2).bind λAb =>
 ((bif decide (0<=Ab) then
 (cj iI.1 (⟨#[9]⟩)).bind λt_ =>
 (idx a0.bA iI.2).bind λbl =>
 (cj t_ bl.Name).bind λDr =>
 (cj Dr (⟨#[32,103,111,116,111,32]⟩)).bind λDs =>
 (idx a2.eP s1.2).bind λDt =>
 (idx Dt iI.2).bind λiq =>
 (kf iq).bind λir =>
 (cj Ds ir).bind λrV =>
 (cj rV (⟨#[10]⟩)).bind λDu =>
 some Du
 else
 some iI.1)).bind λw5 =>
 some w5).bind λw3 =>
 some (.inl (w3,aR (iI.2+1)))
 else
 some (.inr iI.1))) (cI,0)).bind λnT =>
 some (.inl (nT,aR (s1.2+1)))
 else
 some (.inr s1.1))) (⟨#[]⟩,0)).bind λx2 =>
 (Fy a3).bind λvH =>
 (kf (a0.aW.length:Int)).bind λDv =>
 (cj x2 Dv).bind λxR =>
 (cj xR (⟨#[32,116,111,107,101,110,115,44,32]⟩)).bind λAc =>
 (kf (a0.bA.length:Int)).bind λZ' =>
 (cj Ac Z').bind λaaa =>
 (cj aaa (⟨#[32,110,111,110,116,101,114,109,105,110,97,108,115,44,32]⟩)).bind λrW =>
 (kf (a0.a7.length:Int)).bind λaab =>
 (cj rW aab).bind λaac =>
 (cj aac (⟨#[32,112,114,111,100,117,99,116,105,111,110,115,44,32]⟩)).bind λoB =>
 (kf (aw.length:Int)).bind λua =>
 (cj oB ua).bind λaad =>
 (cj aad (⟨#[32,115,116,97,116,101,115,44,32]⟩)).bind λaae =>
 (kf vH.1).bind λDw =>
 (cj aae Dw).bind λGl =>
 (cj Gl (⟨#[32,115,104,105,102,116,47,114,101,100,117,99,101,44,32]⟩)).bind λaaf =>
 (kf vH.2).bind λj4 =>
 (cj aaf j4).bind λaag =>
 (cj aag (⟨#[32,114,101,100,117,99,101,47,114,101,100,117,99,101,10]⟩)).bind λaah =>
 some aah
def CI (a0:Source) (aw:qO):Option (Bool) :=
 (CO ).bind λaX =>
 (bif !aX then
 some false
 else
 (CQ a0).bind λaZ =>
 (zw aw).bind λb4 =>
 (b0 (R:=(Unit) ⊕ (Bool)) (λ(dW:Int) =>
 (bif decide (dW<([aZ,b4].length:Int)) then
 (idx [aZ,b4] dW).bind λbR =>
 (tO bR).bind λdt =>
 (bif !dt.2.2.2 then
 some (.inl (aR (dW+1)))
 else
 (xw dt.1 dt.2.1 dt.2.2.1).bind λe8 =>
 (xi dt.1 dt.2.1 e8.1 e8.2).bind λdx =>
 (Cz dt.1 dt.2.1 e8.1 e8.2).bind λdF =>
 (bif !decide (dx=dF) then
 some (.inr (.inr false))
 else
 some (.inl (aR (dW+1)))))
 else
 some (.inr (.inl ())))) 0).bind λb2 =>
 (match b2 with
 | .inl bt =>
 some true
 | .inr cf =>
 some cf))
end Go.Proofs
namespace Go.Own
open Go
variable {α β S R:Type}
abbrev h8 (p:S->Prop) (q:R->Prop) (x:S ⊕ R):Prop:=Sum.elim p q x
def Tot (x:Option α) (Φ:α->Prop):Prop:=∃ a,x=some a/\Φ a
namespace Tot
variable {Φ dZ:α->Prop}
theorem al {a:α}(h:Φ a):Tot (some a) Φ:=⟨a,rfl,h⟩
theorem bi {x:Option β}{f:β->Option α}(h:Tot x λa=>Tot (f a) Φ):Tot (x.bind f) Φ:=by
 obtain ⟨a,rfl,b,au,nb⟩:=h;exact ⟨b,au,nb⟩
theorem sm {f:β->Option α}{a:β}(h:Tot (f a) Φ):Tot ((some a).bind f) Φ:=h
theorem use {x:Option α}(h:Tot x dZ) (hi:∀ a,dZ a->Φ a):Tot x Φ:=by
 obtain ⟨a,aQ,Ju⟩:=h;exact ⟨a,aQ,hi a Ju⟩
theorem aB {x:Option β}{f:β->Option α}{Ξ:β->Prop}(h:Tot x Ξ) (hk:∀ a,Ξ a->Tot (f a) Φ):Tot (x.bind f) Φ:=bi (h.use hk)
theorem bB {c:Bool}{a b:Option α}(ak:c=true->Tot a Φ) (aU:c=false->Tot b Φ):Tot (cond c a b) Φ:=by
 grind
theorem bD {p:Prop} [Decidable p] {a b:Option α}(ak:p->Tot a Φ) (aU:¬ p->Tot b Φ):Tot (cond (decide p) a b) Φ:=by grind
theorem pq {p:Prop} [Decidable p] {a b:Option α}(ak:¬ p->Tot a Φ) (aU:p->Tot b Φ):Tot (cond (!decide p) a b) Φ:=by grind
theorem gM {l:List α}{i:Int}(aH:0<=i) (h1:i<l.length) (hk:∀ y,idx l i=some y->y∈l->Φ y):Tot (idx l i) Φ:=by
 have aN:i.toNat<l.length:=by omega
 have:idx l i=some l[i.toNat]:=by simp [idx,aH,aN]
 exact ⟨_,this,hk _ this (List.getElem_mem aN)⟩
theorem ap {Φ:List α->Prop}{l m:List α}(h:l.length+m.length<=lim) (hk:Φ (l++m)):Tot (dP l m) Φ:=by
 refine ⟨l++m,?_,hk⟩
 grind [dP]
theorem loop {f:S->Option (S ⊕ R)}{eD:S}{dZ:R->Prop}(Inv:S->Prop) (ue:S->Nat) (aH:Inv eD) (Jv:ue eD<fuel)
  (ax:∀ s,Inv s->Tot (f s) (h8 (λcG=>Inv cG/\ue cG<ue s) dZ)):Tot (b0 f eD) dZ:=by
 have key:∀ n s,Inv s->ue s<n->Tot (iter f n s) dZ:=by
  intro n
  induction n with
  | zero=>intro s _ h; omega
  | succ n aK =>
   intro s bb hm;obtain ⟨x,j,cV⟩:=ax s bb;cases x with
   | inl cG =>
    grind [iter]
   | inr r =>
    simp only [iter,j];exact ⟨r,rfl,cV⟩
 exact key fuel eD aH Jv
theorem count {f:S->Option (S ⊕ R)}{eD:S}{dZ:R->Prop}(i:S->Int) (n:Int) (Inv:S->Prop) (aH:Inv eD) (az:n - i eD<1000000000000000000)
  (ax:∀ s,Inv s->Tot (f s) (h8 (λcG=>Inv cG/\i s<i cG/\i cG<=n) dZ)):Tot (b0 f eD) dZ:=by
 refine loop Inv (λs=>(n - i s).toNat) aH (by show (n - i eD).toNat<1000000000000000000; omega) λs bb=>(ax s bb).use λx j=>?_
 grind
end Tot
theorem cD (n:Int):aR n=(n+9223372036854775808) % 18446744073709551616 - 9223372036854775808:=IntKind.wrap_i64 n
namespace Tot
theorem cat {Φ:ByteArray->Prop}{s u:ByteArray}(h:s.size+u.size<=4611686018427387904) (hk:Φ (s++u)):Tot (cj s u) Φ:=by
 refine ⟨s++u,?_,hk⟩
 grind [cj]
theorem cut {Φ:ByteArray->Prop}{s:ByteArray}{m n:Int}(h:0<=m/\m<=n/\n<=s.size) (hk:Φ (q2 s m n)):Tot (pr s m n) Φ:=by
 refine ⟨_,?_,hk⟩
 grind [pr]
theorem nA {Φ:Int->Prop}{s:ByteArray}{m:Int}(h:0<=m/\m<s.size) (hk:Φ (jv s m)):Tot (iP s m) Φ:=by
 refine ⟨_,?_,hk⟩
 grind [iP]
theorem sub {Φ:List α->Prop}{l:List α}{m n:Int}(h:0<=m/\m<=n/\n<=l.length) (hk:Φ ((l.drop m.toNat).take (n - m).toNat)):Tot (lN l m n) Φ:=by
 refine ⟨_,?_,hk⟩
 grind [lN]
theorem rem {Φ:Int->Prop}{m n:Int}(h:n≠0) (hk:Φ (m.tmod n)):Tot (qD m n) Φ:=by
 refine ⟨_,?_,hk⟩
 grind [qD]
theorem quo {Φ:Int->Prop}{m n:Int}(h:n≠0) (hk:Φ (aR (m.tdiv n))):Tot (zJ m n) Φ:=by
 refine ⟨_,?_,hk⟩
 grind [zJ]
theorem o3 {Φ:Int->Prop}{m n:Int}(h:n≠0) (hk:Φ (m.tmod n)):Tot (Own.o3 m n) Φ:=by
 refine ⟨_,?_,hk⟩
 grind [Own.o3]
theorem o1 {Φ:Int->Prop}{m n:Int}(h:n≠0) (hk:Φ (IntKind.u64.wrap (m.tdiv n))):Tot (Own.o1 m n) Φ:=by
 refine ⟨_,?_,hk⟩
 grind [Own.o1]
theorem mk {Φ:List α->Prop}{m:Int}{z:α}(h:0<=m/\m<=lim) (hk:Φ (List.replicate m.toNat z)):Tot (nM m z) Φ:=by
 refine ⟨_,?_,hk⟩
 grind [nM]
theorem eq {x:Option α}{Φ:α->Prop}{a:α}(h:Tot x Φ) (e:x=some a):Φ a:=by
 obtain ⟨b,au,nb⟩:=h
 grind
theorem ex {x:Option α}{Φ:α->Prop}(h:Tot x Φ):∃ a,x=some a/\Φ a:=h
end Tot
namespace Tot
theorem scan {f:Int->Option (Int ⊕ (Unit ⊕ R))}(l:List β) (P:β->Prop) (Q:R->Prop) (ah:l.length<=100000000000000000)
  (ax:∀ (s:Int) (y:β),0<=s->s<l.length->idx l s=some y->y∈l->Tot (f s) (h8 (λcG=>cG=s+1/\P y) (h8 (λ_=>False) Q)))
  (he:∀ s:Int,¬ s<l.length->f s=some (.inr (.inl ()))):Tot (b0 f 0) (h8 (λ_=>∀ y∈l,P y) Q):=by
 refine count (λs=>s) l.length (λs=>0<=s/\s<=l.length/\∀ (aa:Nat) (y:β),(aa:Int)<s->l[aa]?=some y->P y) ⟨by omega,by omega,λaa y h=>by omega⟩ (by show (l.length:Int) - 0<_; omega) λs bb=>?_;obtain ⟨aH,h1,af⟩:=bb;by_cases aN:s<l.length
 ·have mr:s.toNat<l.length:=by omega
  have hi:idx l s=some l[s.toNat]:=by simp [idx,aH,mr]
  refine (ax s _ aH aN hi (List.getElem_mem mr)).use λx j=>?_;rcases x with cG | ⟨⟨⟩⟩ | r
  ·obtain ⟨rfl,cV⟩:=j
   grind
  ·grind
  grind
 ·rw [he s aN];refine al λy ai=>?_;obtain ⟨aa,ag,rfl⟩:=List.mem_iff_getElem.1 ai;exact af aa _ (by omega) (List.getElem?_eq_getElem ag)
end Tot
end Go.Own
namespace Go.Own
open Go
variable {α β S R:Type}
def Par (x:Option α) (Φ:α->Prop):Prop:=∀ a,x=some a->Φ a
set_option linter.unusedVariables false
namespace Par
variable {Φ dZ:α->Prop}
theorem al {a:α}(h:Φ a):Par (some a) Φ:=λb e=>by cases e; exact h
theorem no:Par (none:Option α) Φ:=λb e=>by cases e
theorem use {x:Option α}(h:Par x dZ) (hi:∀ a,dZ a->Φ a):Par x Φ:=λa e=>hi a (h a e)
theorem aB {x:Option β}{f:β->Option α}{Ξ:β->Prop}(h:Par x Ξ) (hk:∀ a,Ξ a->Par (f a) Φ):Par (x.bind f) Φ:=λa e=>by
 cases x with
 | none=>cases e
 | some b=>exact hk b (h b rfl) a e
theorem go {x:Option β}{f:β->Option α}(hk:∀ a,x=some a->Par (f a) Φ):Par (x.bind f) Φ:=λa e=>by
 cases x with
 | none=>cases e
 | some b=>exact hk b rfl a e
theorem bB {c:Bool}{a b:Option α}(ak:c=true->Par a Φ) (aU:c=false->Par b Φ):Par (cond c a b) Φ:=by
 cases c
 ·exact aU rfl
 ·exact ak rfl
theorem bD {p:Prop} [Decidable p] {a b:Option α}(ak:p->Par a Φ) (aU:¬ p->Par b Φ):Par (cond (decide p) a b) Φ :=
 bB (λh=>ak (of_decide_eq_true h)) (λh=>aU (of_decide_eq_false h))
theorem pq {p:Prop} [Decidable p] {a b:Option α}(ak:¬ p->Par a Φ) (aU:p->Par b Φ):Par (cond (!decide p) a b) Φ :=
 bB (λh=>ak (of_decide_eq_false (by simpa using h))) (λh=>aU (of_decide_eq_true (by simpa using h)))
theorem ap {l m:List β}{f:List β->Option α}(hk:l.length+m.length<=lim->Par (f (l++m)) Φ):Par ((dP l m).bind f) Φ:=by
 unfold dP;split
 ·rename_i h; exact hk h
 ·exact no
theorem cat {s u:ByteArray}{f:ByteArray->Option α}(hk:Par (f (s++u)) Φ):Par ((cj s u).bind f) Φ:=by
 unfold cj;split
 ·exact hk
 ·exact no
theorem loop {f:S->Option (S ⊕ R)}{eD:S}{dZ:R->Prop}(Inv:S->Prop) (aH:Inv eD) (ax:∀ s,Inv s->Par (f s) (h8 Inv dZ)):Par (b0 f eD) dZ:=by
 have key:∀ n s,Inv s->Par (iter f n s) dZ:=by
  intro n
  induction n with
  | zero=>intro s _ a e; cases e
  | succ n aK =>
   intro s bb a e;simp only [iter] at e;cases j:f s with
   | none=>rw [j] at e; cases e
   | some x =>
    have cV:=ax s bb x j;rw [j] at e;cases x with
    | inl cG=>exact aK cG cV a e
    | inr r=>cases e; exact cV
 exact key fuel eD aH
theorem i' {x:Option α}(h:Tot x Φ) (aL:Par x dZ):Tot x λa=>Φ a/\dZ a:=by
 obtain ⟨a,aQ,nb⟩:=h;exact ⟨a,aQ,nb,aL a aQ⟩
theorem of {x:Option α}(h:Tot x Φ):Par x Φ:=λa e=>h.eq e
theorem scan {f:Int->Option (Int ⊕ (Unit ⊕ R))}(l:List β) (ah:l.length<=100000000000000000) (P:β->Prop) (Q:R->Prop)
  (ax:∀ (s:Int) (y:β),0<=s->s<l.length->idx l s=some y->y∈l->Par (f s) (h8 (λcG=>cG=s+1/\P y) (h8 (λ_=>False) Q)))
  (he:∀ s:Int,¬ s<l.length->f s=some (.inr (.inl ()))):Par (b0 f 0) (h8 (λ_=>∀ y∈l,P y) Q):=by
 refine loop (λs=>0<=s/\s<=l.length/\∀ (aa:Nat) (y:β),(aa:Int)<s->l[aa]?=some y->P y) ⟨by omega,by omega,λaa y h=>by omega⟩ λs bb=>?_;obtain ⟨aH,h1,af⟩:=bb;by_cases aN:s<l.length
 ·have mr:s.toNat<l.length:=by omega
  have hi:idx l s=some l[s.toNat]:=by simp [idx,aH,mr]
  refine (ax s _ aH aN hi (List.getElem_mem mr)).use λx j=>?_;rcases x with cG | ⟨⟨⟩⟩ | r
  ·obtain ⟨rfl,cV⟩:=j;refine ⟨by omega,by omega,λaa y ag ai=>?_⟩;by_cases yQ:(aa:Int)<s
   ·exact af aa y yQ ai
   ·have:aa=s.toNat:=by omega
    subst this;rw [List.getElem?_eq_getElem mr] at ai;cases ai; exact cV
  ·exact j.elim
  ·exact j
 ·rw [he s aN];refine al λy ai=>?_;obtain ⟨aa,ag,rfl⟩:=List.mem_iff_getElem.1 ai;exact af aa _ (by omega) (List.getElem?_eq_getElem ag)
end Par
end Go.Own
namespace Go.Own
open Go
variable {α β S R:Type}
namespace Tot
theorem upto {f:S->Option (S ⊕ R)}{eD:S}{dZ:R->Prop}(i:S->Int) (n:Nat) (Inv:Nat->S->Prop) (hi:i eD=0) (az:n<=100000000000000000) (aH:Inv 0 eD)
  (ax:∀ (k:Nat) (s:S),k<=n->i s=(k:Int)->Inv k s->Tot (f s) (h8 (λcG=>k<n/\i cG=((k+1:Nat):Int)/\Inv (k+1) cG) dZ)):Tot (b0 f eD) dZ:=by
 refine count i n (λs=>∃ k:Nat,k<=n/\i s=(k:Int)/\Inv k s) ⟨0,Nat.zero_le _,hi,aH⟩ (by rw [hi]; omega) λs ⟨k,hk,he,bb⟩=>(ax k s hk he bb).use λx j=>?_;rcases x with cG | r
 ·obtain ⟨h1,af,aJ⟩:=j;exact ⟨⟨k+1,by omega,af,aJ⟩,by omega,by omega⟩
 ·exact j
end Tot
namespace Par
theorem upto {f:S->Option (S ⊕ R)}{eD:S}{dZ:R->Prop}(i:S->Int) (n:Nat) (Inv:Nat->S->Prop) (hi:i eD=0) (aH:Inv 0 eD)
  (ax:∀ (k:Nat) (s:S),k<=n->i s=(k:Int)->Inv k s->Par (f s) (h8 (λcG=>k<n/\i cG=((k+1:Nat):Int)/\Inv (k+1) cG) dZ)):Par (b0 f eD) dZ:=by
 refine loop (λs=>∃ k:Nat,k<=n/\i s=(k:Int)/\Inv k s) ⟨0,Nat.zero_le _,hi,aH⟩ λs ⟨k,hk,he,bb⟩=>(ax k s hk he bb).use λx j=>?_;rcases x with cG | r
 ·obtain ⟨h1,af,aJ⟩:=j;exact ⟨k+1,by omega,af,aJ⟩
 ·exact j
end Par
theorem eE (k:Nat) (h:k<=1000000000000000000):aR ((k:Int)+1)=((k+1:Nat):Int):=by rw [cD]; omega
end Go.Own
namespace Go.Own
open Go
variable {α β uc ud S T R Q:Type}
def Rel (x:Option α) (y:Option β) (Φ:α->β->Prop):Prop:=∃ a b,x=some a/\y=some b/\Φ a b
abbrev LL (p:S->T->Prop) (q:R->Q->Prop):S ⊕ R->T ⊕ Q->Prop
 | .inl a,.inl b=>p a b
 | .inr a,.inr b=>q a b
 | _,_=>False
namespace Rel
variable {Φ dZ:α->β->Prop}
theorem al {a:α}{b:β}(h:Φ a b):Rel (some a) (some b) Φ:=⟨a,b,rfl,rfl,h⟩
theorem use {x:Option α}{y:Option β}(h:Rel x y dZ) (hi:∀ a b,dZ a b->Φ a b):Rel x y Φ:=by
 obtain ⟨a,b,aQ,au,Ju⟩:=h;exact ⟨a,b,aQ,au,hi a b Ju⟩
theorem aB {x:Option uc}{y:Option ud}{f:uc->Option α}{g:ud->Option β}{Ξ:uc->ud->Prop}(h:Rel x y Ξ) (hk:∀ a b,Ξ a b->Rel (f a) (g b) Φ):Rel (x.bind f) (y.bind g) Φ:=by
 obtain ⟨a,b,rfl,rfl,B3⟩:=h;exact hk a b B3
theorem l {x:Option uc}{y:Option β}{f:uc->Option α}{Ξ:uc->Prop}(h:Tot x Ξ) (hk:∀ a,Ξ a->Rel (f a) y Φ):Rel (x.bind f) y Φ:=by
 obtain ⟨a,rfl,B3⟩:=h;exact hk a B3
theorem r {x:Option α}{y:Option ud}{g:ud->Option β}{Ξ:ud->Prop}(h:Tot y Ξ) (hk:∀ a,Ξ a->Rel x (g a) Φ):Rel x (y.bind g) Φ:=by
 obtain ⟨a,rfl,B3⟩:=h;exact hk a B3
theorem bB {c d:Bool}{a b:Option α}{b3 ix:Option β}(J:c=d) (ak:c=true->Rel a b3 Φ) (aU:c=false->Rel b ix Φ):Rel (cond c a b) (cond d b3 ix) Φ:=by
 subst J;cases c
 ·exact aU rfl
 ·exact ak rfl
theorem cl {c:Bool}{a b:Option α}{y:Option β}(ak:c=true->Rel a y Φ) (aU:c=false->Rel b y Φ):Rel (cond c a b) y Φ:=by
 cases c
 ·exact aU rfl
 ·exact ak rfl
theorem i' {x:Option α}{y:Option β}{P:α->Prop}{Q:β->Prop}(h:Tot x P) (aL:Tot y Q) (hi:∀ a b,P a->Q b->Φ a b):Rel x y Φ:=by
 obtain ⟨a,aQ,cV⟩:=h;obtain ⟨b,au,dD⟩:=aL;exact ⟨a,b,aQ,au,hi a b cV dD⟩
theorem fst {x:Option α}{y:Option β}(h:Rel x y Φ):Tot x λa=>∃ b,y=some b/\Φ a b:=by
 obtain ⟨a,b,aQ,au,nb⟩:=h;exact ⟨a,aQ,b,au,nb⟩
theorem loop {f:S->Option (S ⊕ R)}{g:T->Option (T ⊕ Q)}{eD:S}{t0:T}{dZ:R->Q->Prop}(Inv:S->T->Prop) (ue:S->Nat) (aH:Inv eD t0) (Jv:ue eD<fuel)
  (ax:∀ s t,Inv s t->Rel (f s) (g t) (LL (λcG t'=>Inv cG t'/\ue cG<ue s) dZ)):Rel (b0 f eD) (b0 g t0) dZ:=by
 have key:∀ n s t,Inv s t->ue s<n->Rel (iter f n s) (iter g n t) dZ:=by
  intro n
  induction n with
  | zero=>intro s t _ h; omega
  | succ n aK =>
   intro s t bb hm;obtain ⟨x,y,j,ai,cV⟩:=ax s t bb;rcases x with cG | r <;> rcases y with t' | q
   ·obtain ⟨h1,af⟩:=cV;simp only [iter,j,ai];exact aK cG t' h1 (by omega)
   ·exact cV.elim
   ·exact cV.elim
   ·simp only [iter,j,ai];exact ⟨r,q,rfl,rfl,cV⟩
 exact key fuel eD t0 aH Jv
theorem upto {f:S->Option (S ⊕ R)}{g:T->Option (T ⊕ Q)}{eD:S}{t0:T}{dZ:R->Q->Prop}(i:S->Int) (n:Nat) (Inv:Nat->S->T->Prop) (hi:i eD=0) (az:n<=100000000000000000) (aH:Inv 0 eD t0)
  (ax:∀ (k:Nat) (s:S) (t:T),k<=n->i s=(k:Int)->Inv k s t->Rel (f s) (g t) (LL (λcG t'=>k<n/\i cG=((k+1:Nat):Int)/\Inv (k+1) cG t') dZ)):Rel (b0 f eD) (b0 g t0) dZ:=by
 refine loop (λs t=>∃ k:Nat,k<=n/\i s=(k:Int)/\Inv k s t) (λs=>(n - (i s).toNat)) ⟨0,Nat.zero_le _,hi,aH⟩ (by rw [hi]; show n - 0<1000000000000000000; omega) λs t ⟨k,hk,he,bb⟩=>(ax k s t hk he bb).use λx y EV=>?_;rcases x with cG | r <;> rcases y with t' | q
 ·obtain ⟨h1,af,aJ⟩:=EV;refine ⟨⟨k+1,by omega,af,aJ⟩,?_⟩;show n - (i cG).toNat<n - (i s).toNat;rw [af,he]; omega
 ·exact EV
 ·exact EV
 ·exact EV
end Rel
end Go.Own

