/- Parts of the proof that the last text states. -/
import Derived.Deep.Draws
import Derived.Deep.LoopGhost
import Derived.Ground.SlsfProg
import Derived.KernelRfl
import Derived.Laws.Externs
import Derived.Lib.SliceRun
import Derived.Lib.SlicesCompact
import Derived.Lib.Walk
import Derived.Shelf.RegionOpenPlain
import Derived.Shelf.SlGeneric
import Derived.Shelf.SlLaysQ
import Derived.Shelf.SlSortCmp.NoneTotal
import Derived.Shelf.SlicesE.Kit
import Derived.Shelf.SlicesQ.Load
import Derived.Sort.WalkB12
import Derived.Test.YtfndjemfpidfpaaGreatDoorRows
import Derived.WalkKit
import Derived.Test.YtfndjemfpidfpaaGreatDoorE6
namespace Go.Proofs
open Tryz
open Go Go.Shelf Go.RowKit Go.Lib Go.Sort Go.Own
def Tryz.ZX:Go.Shelf.Ren:=⟨fun | 6=>66 | 15=>91 | 14=>90 | 28=>115 | 29=>116 | 20=>107 | 21=>108 | 22=>109 | 23=>110 | 24=>111 | 25=>112 | 26=>113 | 27=>114 | 46=>127 | 47=>128 | 48=>129 | 49=>130 | 50=>131 | 57=>139 | n=>n,fun | 22=>53 | 24=>112 | 25=>157 | 3=>3 | 39=>151 | 0=>0 | 53=>180 | 55=>105 | 4=>4 | 46=>205 | 45=>204 | 50=>209 | 5=>5 | 9=>9 | 66=>219 | 70=>223 | 76=>227 | 77=>59 | n=>n,fun | n=>n⟩
theorem Tryz.ZW:Go.Proofs.SlLaysF0.n6 prog Tryz.ZX:={
 mixed:=by kernel_rfl
 f6:=⟨Tryz.f66.name,by decide,func66.trans (congrArg some (by kernel_rfl))⟩
 f14:=⟨Tryz.f90.name,by decide,func90.trans (congrArg some (by kernel_rfl))⟩
 f15:=func91.trans (congrArg some (by kernel_rfl))
 f20:=⟨Tryz.f107.name,by decide,func107.trans (congrArg some (by kernel_rfl))⟩
 f21:=⟨Tryz.f108.name,by decide,func108.trans (congrArg some (by kernel_rfl))⟩
 f22:=⟨Tryz.f109.name,by decide,func109.trans (congrArg some (by kernel_rfl))⟩
 f23:=⟨Tryz.f110.name,by decide,func110.trans (congrArg some (by kernel_rfl))⟩
 f24:=⟨Tryz.f111.name,by decide,func111.trans (congrArg some (by kernel_rfl))⟩
 f25:=⟨Tryz.f112.name,by decide,func112.trans (congrArg some (by kernel_rfl))⟩
 f26:=⟨Tryz.f113.name,by decide,func113.trans (congrArg some (by kernel_rfl))⟩
 f27:=⟨Tryz.f114.name,by decide,func114.trans (congrArg some (by kernel_rfl))⟩
 f28:=func115.trans (congrArg some (by kernel_rfl))
 f29:=func116.trans (congrArg some (by kernel_rfl))
 f46:=⟨Tryz.f127.name,by decide,func127.trans (congrArg some (by kernel_rfl))⟩
 f47:=func128.trans (congrArg some (by kernel_rfl))
 f48:=func129.trans (congrArg some (by kernel_rfl))
 f49:=⟨Tryz.f130.name,by decide,func130.trans (congrArg some (by kernel_rfl))⟩
 f50:=⟨Tryz.f131.name,by decide,func131.trans (congrArg some (by kernel_rfl))⟩
 f57:=⟨Tryz.f139.name,by decide,func139.trans (congrArg some (by kernel_rfl))⟩
 t0:=Tryz.underlying0
 a0:=Tryz.isAgg0
 z0:=Tryz.sizeOf0
 v0:=Tryz.zeroValue0
 t3:=Tryz.underlying3
 a3:=Tryz.isAgg3
 z3:=Tryz.sizeOf3
 v3:=Tryz.zeroValue3
 t4:=Tryz.underlying4
 a4:=Tryz.isAgg4
 z4:=Tryz.sizeOf4
 v4:=Tryz.zeroValue4
 t5:=Tryz.underlying5
 a5:=Tryz.isAgg5
 z5:=Tryz.sizeOf5
 v5:=Tryz.zeroValue5
 t9:=Tryz.underlying9
 a9:=Tryz.isAgg9
 z9:=Tryz.sizeOf9
 v9:=Tryz.zeroValue9
 t22:=Tryz.underlying53
 a22:=Tryz.isAgg53
 z22:=Tryz.sizeOf53
 v22:=Tryz.zeroValue53
 t25:=Tryz.underlying157
 a25:=Tryz.isAgg157
 z25:=Tryz.sizeOf157
 v25:=Tryz.zeroValue157
 t39:=Tryz.underlying151
 a39:=Tryz.isAgg151
 z39:=Tryz.sizeOf151
 v39:=Tryz.zeroValue151
 t45:=Tryz.underlying204
 a45:=Tryz.isAgg204
 z45:=Tryz.sizeOf204
 v45:=Tryz.zeroValue204
 t46:=Tryz.underlying205
 a46:=Tryz.isAgg205
 z46:=Tryz.sizeOf205
 v46:=Tryz.zeroValue205
 t50:=Tryz.underlying209
 a50:=Tryz.isAgg209
 z50:=Tryz.sizeOf209
 v50:=Tryz.zeroValue209
 t53:=Tryz.underlying180
 a53:=Tryz.isAgg180
 z53:=Tryz.sizeOf180
 v53:=Tryz.zeroValue180
 t55:=Tryz.underlying105
 a55:=Tryz.isAgg105
 z55:=Tryz.sizeOf105
 v55:=Tryz.zeroValue105
 t66:=Tryz.underlying219
 a66:=Tryz.isAgg219
 z66:=Tryz.sizeOf219
 v66:=Tryz.zeroValue219
 t70:=Tryz.underlying223
 a70:=Tryz.isAgg223
 z70:=Tryz.sizeOf223
 v70:=Tryz.zeroValue223
 t76:=Tryz.underlying227
 a76:=Tryz.isAgg227
 z76:=Tryz.sizeOf227
 v76:=Tryz.zeroValue227
 t77:=Tryz.underlying59
 a77:=Tryz.isAgg59
 z77:=Tryz.sizeOf59
 v77:=Tryz.zeroValue59 }
end Go.Proofs
section
namespace Go.Proofs
open Tryz
open Go Go.Shelf Go.RowKit Go.Lib Go.Sort
variable {α:Type} [Inhabited α] [DecidableEq α]
set_option maxHeartbeats 4000000
set_option maxRecDepth 1000000
set_option linter.unusedVariables false
theorem S2 (w:World) (p:Option Addr) (cap:Nat):Calls prog 68 #[.slice p 0 cap] w λb0 w'=>b0=.returned (.slice p 0 cap)/\w'=w:=by
 go_enter func68,Tryz.ntmps68
 go_wp2
 go_ret
 exact ⟨rfl,rfl⟩
theorem S4 (e0 bP:α->Value) (Vh:OneCell e0) (Vi:OneCell bP)
  (adK:∀ (x y:α) (w:World),Sem.run prog (binOp .eql 112 (.agg #[e0 x,bP x]) (.agg #[e0 y,bP y])) w=.ok (.bool (decide (x=y))) w)
  (zc:∀ (x y:α) (w:World),Sem.run prog (binOp .neq 112 (.agg #[e0 x,bP x]) (.agg #[e0 y,bP y])) w=.ok (.bool (!decide (x=y))) w)
  (adN:∀ (op:BinOp) (a b:Operand) (x y:α) (w:World),Sem.run prog (eqGuard op 112 a b (.agg #[e0 x,bP x]) (.agg #[e0 y,bP y])) w=.ok () w)
  (aT:[e0 default,bP default]=[.int .i64 0,.int .i64 0])
  (w:World) (fG cap:Nat) (d:Array α) (oU:0<d.size) (hH:HoldsK (λx=>[e0 x,bP x]) 2 w fG 0 d) (hblk:fG<w.heap.size) (kx:d.size<=cap) (EB:d.size<4611686018427387904) :
  Calls prog 68 #[.slice (some ⟨fG,0,none⟩) d.size cap] w λb0 w'=>b0=.returned (.slice (some ⟨fG,0,none⟩) (compactUpTo d d.size).length cap)/\∃ q,w'=putRowK (λx=>[e0 x,bP x]) 2 (Sort.ahead w q) fG 0 (compactUpTo d d.size++List.replicate (d.size - (compactUpTo d d.size).length) default).toArray:=by
 have ad':=Vh.store prog;have aea:=Vi.store prog;have mixed:prog.follows .mixedOrders=true:=by kernel_rfl
 have jt:∀ (W:World) (iM:Array α),iM.size=d.size->HoldsK (λx=>[e0 x,bP x]) 2 W fG 0 iM->∀ j,j<d.size->(W.cell? ⟨fG,j * 2,none⟩=some (e0 iM[j]!)/\W.frozen? ⟨fG,j * 2,none⟩=false)/\(W.cell? ⟨fG,j * 2+1,none⟩=some (bP iM[j]!)/\W.frozen? ⟨fG,j * 2+1,none⟩=false):=by
  intro W iM av h j ag;obtain ⟨ax,a2⟩:=h (j * 2) (by simp; omega);obtain ⟨fF,fQ⟩:=h (j * 2+1) (by simp; omega);rw [get_flatK _ _ _ _ (by omega),Nat.zero_add,show j * 2 / 2=j by omega,show j * 2 % 2=0 by omega] at ax;rw [get_flatK _ _ _ _ (by omega),Nat.zero_add,show (j * 2+1) / 2=j by omega,show (j * 2+1) % 2=1 by omega] at fF;rw [Nat.zero_add] at a2 fQ;exact ⟨⟨ax,a2⟩,⟨fF,fQ⟩⟩
 have same:∀ q,(∀ j,j<d.size->keeps d j=true)->(compactUpTo d d.size).length=d.size/\w.drewN q=putRowK (λx=>[e0 x,bP x]) 2 (Sort.ahead w q) fG 0 (compactUpTo d d.size++List.replicate (d.size - (compactUpTo d d.size).length) default).toArray:=by
  intro q fv;have e:compactUpTo d d.size=d.toList:=by rw [compactUpTo_all d _ fv,range_map_get]
  rw [e];refine ⟨by simp,?_⟩;simp only [Array.length_toList,Nat.sub_self,List.replicate_zero,List.append_nil,Array.toArray_toList];exact (putRowK_self _ 2 (Sort.ahead w q) fG 0 d (holdsK_ahead _ 2 w q fG 0 d hH)).symm
 have LC:Aside (∀ q,(∀ j,j<d.size->keeps d j=true)->(compactUpTo d d.size).length=d.size/\w.drewN q=putRowK (λx=>[e0 x,bP x]) 2 (Sort.ahead w q) fG 0 (compactUpTo d d.size++List.replicate (d.size - (compactUpTo d d.size).length) default).toArray):=same;clear same;by_cases af:d.size<2
 ·have DH:Aside (HoldsK (λx=>[e0 x,bP x]) 2 w fG 0 d):=hH;clear hH jt
  go_enter func68,Tryz.ntmps68
  go_wp2
  go_ret
  obtain ⟨bP,cu⟩:=LC.out 0 (λj ag=>keeps_lt_one d j (by omega));exact ⟨by rw [bP]; rfl,0,cu⟩
 ·go_enter func68,Tryz.ntmps68
  go_wp2
  go_loopg [3] d.size (λg ee wr=>∃ k q:Nat,1<=k/\k<=d.size/\d.size - k<=g/\ee=.int .i64 k/\wr=w.drewN q/\∀ j,j<k->keeps d j=true)
  case atStart=>exact ⟨1,0,Nat.le_refl _,by omega,by omega,rfl,rfl,keeps_lt_one d⟩
  case round =>
   obtain ⟨k,q,eX,hk,aL,rfl,rfl,fv⟩:=hrel;by_cases aK:k<d.size
   ·obtain ⟨⟨c1,f1⟩,⟨G_,T6⟩⟩:=jt w d rfl hH k aK;obtain ⟨⟨oI,f0⟩,⟨Mw,T5⟩⟩:=jt w d rfl hH (k - 1) (by omega);have A:Aside (∀ j,j<k->keeps d j=true):=fv;have DH:Aside (HoldsK (λx=>[e0 x,bP x]) 2 w fG 0 d):=hH;have Rs:Aside (∀ (W:World) (iM:Array α),iM.size=d.size->HoldsK (λx=>[e0 x,bP x]) 2 W fG 0 iM->∀ j,j<d.size->(W.cell? ⟨fG,j * 2,none⟩=some (e0 iM[j]!)/\W.frozen? ⟨fG,j * 2,none⟩=false)/\(W.cell? ⟨fG,j * 2+1,none⟩=some (bP iM[j]!)/\W.frozen? ⟨fG,j * 2+1,none⟩=false)):=jt;clear fv hH jt;generalize J:d[k]! = x at c1 G_;generalize ai:d[k - 1]! = y at oI Mw;have B:Aside (d[k]! = x/\d[k - 1]! = y):=⟨J,ai⟩;clear J ai;by_cases NS:x=y
    ·subst NS
     go_wp2_with fail
     go_region_o
     go_wp2
     clear oI c1 f0 f1 Mw G_ T5 T6
     go_loopg [3,5] d.size (λg ee ej wr=>∃ (jB fX iz:Nat) (iM:Array α),ee=.int .i64 jB/\ej=.int .i64 fX/\1<=fX/\k+fX<=d.size/\d.size - (k+fX)<=g/\wr=putRowK (λx=>[e0 x,bP x]) 2 (Sort.ahead w iz) fG 0 iM/\CompInv d (k+fX) jB iM)
     case atStart=>exact ⟨k,1,q+1,d,rfl,rfl,Nat.le_refl _,by omega,by omega,(putRowK_self _ 2 (Sort.ahead w (q+1)) fG 0 d (holdsK_ahead _ 2 w (q+1) fG 0 d DH.out)).symm,CompInv.start A.out (keeps_neg (by omega) (by rw [B.out.1,B.out.2]))⟩
     case round =>
      obtain ⟨jB,fX,iz,iM,rfl,rfl,h1,hle,BA,Jo,a'⟩:=hrel;have EK:=a'.lt;have sq:=a'.size;have Ev:HoldsK (λx=>[e0 x,bP x]) 2 wr fG 0 iM:=by rw [Jo]; exact holdsK_putRowK _ 2 _ fG 0 d iM (holdsK_ahead _ 2 w iz fG 0 d DH.out) sq
      have uY:=Rs.out wr iM sq Ev;have GJ:Aside (wr=putRowK (λx=>[e0 x,bP x]) 2 (Sort.ahead w iz) fG 0 iM):=Jo;have ux:Aside (CompInv d (k+fX) jB iM):=a';clear Jo;by_cases pP:k+fX<d.size
      ·obtain ⟨⟨MC,_⟩,⟨MD,_⟩⟩:=uY (k+fX) (by omega);obtain ⟨⟨bA,_⟩,⟨MH,_⟩⟩:=uY (k+fX - 1) (by omega);obtain ⟨⟨SQ,ade⟩,⟨SR,adf⟩⟩:=uY jB (by omega);rw [a'.high (k+fX) (by omega),show (k+fX) * 2=k * 2+fX * 2 by omega] at MC MD;rw [a'.high (k+fX - 1) (by omega),show (k+fX - 1) * 2=k * 2+(fX - 1) * 2 by omega] at bA MH;clear Ev a' uY;generalize hu:d[k+fX]! = u at MC MD;generalize hv:d[k+fX - 1]! = v at bA MH;generalize iM[jB]! = iy at SQ SR;have C:Aside (d[k+fX]! = u/\d[k+fX - 1]! = v):=⟨hu,hv⟩;clear hu hv;by_cases w_:u=v
       ·subst w_
        go_wp2_with fail
        go_region_o
        go_wp2
        go_roundg (d.size - (k+(fX+1)))
        case measure=>omega
        case rel=>exact ⟨jB,fX+1,iz+1,iM,rfl,by go_num,by omega,by omega,Nat.le_refl _,by rw [GJ.out]; rfl,ux.out.skip (keeps_neg (by omega) (by rw [C.out.1,C.out.2]))⟩
       ·go_wp2_with fail
        go_region_o
        go_wp2
        go_roundg (d.size - (k+(fX+1)))
        case measure=>omega
        case rel =>
         refine ⟨jB+1,fX+1,iz+1,iM.setIfInBounds jB u,by go_num,by go_num,by omega,by omega,Nat.le_refl _,?_,by have:=ux.out.keep pP (keeps_pos (by rw [C.out.1,C.out.2]; exact w_)); rwa [C.out.1] at this⟩;have:=PS (λx=>[e0 x,bP x]) (Sort.ahead w (iz+1)) fG iM jB [u] (by simp; omega);rw [Yc,Ue] at this;rw [<- this,GJ.out];rfl
      ·have Wf:k+fX=d.size:=by omega
       have OF:(Builtin.zeroCells (Value.agg #[.int .i64 0,.int .i64 0]).cells (d.size - jB)).toList=(flatK (λx=>[e0 x,bP x]) 2 (List.replicate (d.size - jB) (default:α)).toArray).toList:=by
        rw [show (Value.agg #[.int .i64 0,.int .i64 0]).cells=#[Value.int .i64 0,.int .i64 0] from rfl,aaW,Nb _ _ _ aT]
       have pN:((flatK (λx=>[e0 x,bP x]) 2 (List.replicate (d.size - jB) (default:α)).toArray).toList).length=(d.size - jB) * 2:=by simp
       have fw:∀ v∈(flatK (λx=>[e0 x,bP x]) 2 (List.replicate (d.size - jB) (default:α)).toArray).toList,v.oneCell'=true:=by
        intro v hv;rw [Nb _ _ _ aT] at hv;rw [List.eq_of_mem_replicate hv]; rfl
       have Bt:∀ j,j<(d.size - jB) * 2->(wr.cell? ⟨fG,jB * 2+j,none⟩).isSome=true/\wr.frozen? ⟨fG,jB * 2+j,none⟩=false:=by
        intro j ag;obtain ⟨ax,a2⟩:=Ev (jB * 2+j) (by simp; omega);rw [Nat.zero_add] at ax a2;exact ⟨by rw [ax]; rfl,a2⟩
       have hZ:∀ ty,(Builtin.clear_ #[53] ty #[.slice (some ⟨fG,jB * 2,none⟩) (d.size - jB) (cap - jB)]).run prog wr=.ok (.tuple #[]) (wr.setCells fG (jB * 2) (flatK (λx=>[e0 x,bP x]) 2 (List.replicate (d.size - jB) (default:α)).toArray).toList) :=
        λty=>Zx prog wr 53 112 ty (.agg #[.int .i64 0,.int .i64 0]) Tryz.underlying53 Tryz.zeroValue112 fG (jB * 2) _ _ _ OF fw (by omega) (λj ag=>(Bt j (by rw [<- pN]; exact ag)).1) (λj ag=>(Bt j (by rw [<- pN]; exact ag)).2)
       clear Ev a' uY OF fw pN Bt
       go_wp2
       go_ret
       have a':=ux.out;rw [Wf] at a';refine ⟨by rw [a'.len]; rfl,iz,?_⟩;rw [a'.len,<- a'.done default,<- PS _ _ fG iM jB _ (by simp; omega),<- GJ.out,List.toArray_replicate]
    ·go_wp2_with fail
     go_region_o
     go_wp2
     go_roundg (d.size - (k+1))
     case measure=>omega
     case rel =>
      refine ⟨k+1,q+1,by omega,by omega,Nat.le_refl _,by go_num,rfl,λj ag=>?_⟩;by_cases e:j=k
      ·subst e;exact keeps_pos (by rw [B.out.1,B.out.2]; exact NS)
      ·exact A.out j (by omega)
   ·have:k=d.size:=by omega
    subst this;have DH:Aside (HoldsK (λx=>[e0 x,bP x]) 2 w fG 0 d):=hH;clear hH jt
    go_wp2
    go_ret
    obtain ⟨bP,cu⟩:=LC.out q fv;exact ⟨by rw [bP]; rfl,q,cu⟩
end Go.Proofs
end
namespace Go.Proofs
open Tryz
open Go Go.Own
set_option maxRecDepth 100000
set_option linter.unusedVariables false
def nS (a0:Int):Option (ByteArray) :=
 ((bif decide (a0<0) then
 some (IntKind.u64.wrap (-(IntKind.u64.wrap a0)))
 else
 some (IntKind.u64.wrap a0))).bind λiU =>
 (cc (R:=ByteArray) (λ(ee:Int × ByteArray) =>
 ((bif decide (0<ee.1) then some true else some (decide (ee.2=⟨#[]⟩)))).bind λrj =>
 (bif rj then
 (o7 ee.1 10).bind λcz =>
 (er (strOfNums [uk (IntKind.u64.wrap (48+cz))]) ee.2).bind λbY =>
 (o5 ee.1 10).bind λdF =>
 some (.inl (dF,bY))
 else
 some (.inr ee.2))) (iU,⟨#[]⟩)).bind λbT =>
 (bif decide (a0<0) then
 (er (⟨#[45]⟩) bT).bind λe_ =>
 some e_
 else
 some bT)
def CA (a0:Int):Option (Bool) :=
 ((bif decide (97<=a0) then (bif decide (a0<=122) then some true else (bif decide (65<=a0) then (bif decide (a0<=90) then some true else some (decide (a0=95))) else some (decide (a0=95)))) else (bif decide (65<=a0) then (bif decide (a0<=90) then some true else some (decide (a0=95))) else some (decide (a0=95))))).bind λrj =>
 some rj
def CB (a0:Int):Option (Bool) :=
 ((bif decide (48<=a0) then some (decide (a0<=57)) else some false)).bind λc2 =>
 some c2
def Cz (a0:ByteArray) (ax:Int):Option (Int) :=
 (cc (R:=Int) (λ(s1:Int) =>
 ((bif decide (aS (ax+s1)<(a0.size:Int)) then ((hg a0 (aS (ax+s1))).bind λcv=>((CA cv).bind λbZ=>(bif bZ then some true else (bif decide (0<s1) then ((hg a0 (aS (ax+s1))).bind λcz=>((CB cz).bind λbY=>(bif bY then some true else ((hg a0 (aS (ax+s1))).bind λc7=>some (decide (c7=46)))))) else some false)))) else some false)).bind λpx =>
 (bif px then
 some (.inl (aS (s1+1)))
 else
 some (.inr s1))) 0).bind λx2 =>
 some x2
def vv (a0:ByteArray):Option (Bool) :=
 ((bif decide (1<=(a0.size:Int)) then (bif decide ((a0.size:Int)<=20) then ((Cz a0 0).bind λa6=>some (decide (a6=(a0.size:Int)))) else some false) else some false)).bind λc4 =>
 some c4
def zD (a0:Int):Option (Int × Bool) :=
 (bif decide (a0=10) then
 some (110,true)
 else
 (bif decide (a0=9) then
 some (116,true)
 else
 (bif decide (a0=13) then
 some (114,true)
 else
 ((bif decide (a0=92) then
 some (decide (a0=92))
 else
 some (decide (a0=39)))).bind λvo =>
 (bif vo then
 some (a0,true)
 else
 ((bif decide (32<=a0) then some (0,decide (a0<=126)) else some (0,false))).bind λpA =>
 some (pA.1,pA.2)))))
structure Sym where
 Name:ByteArray
 Lit:Bool
 bW:Int
 At:Int
 deriving DecidableEq,Inhabited
def dQ:bK Sym:=⟨4,λx=>[aq x.Name,bd x.Lit,ae x.bW,ae x.At],λ_=>rfl,λ_=>dp.bh⟩
instance:Flat dQ:=⟨λ_=>rfl⟩
instance:lU dQ:=⟨λx=>(inferInstance:jq [aq x.Name,bd x.Lit,ae x.bW,ae x.At])⟩
instance:gP dQ dQ:=⟨rfl,λx=>(inferInstance:ds [aq x.Name,bd x.Lit,ae x.bW,ae x.At] [aq x.Name,bd x.Lit,ae x.bW,ae x.At])⟩
instance {x:Sym}:ds (dQ.cells x) [aq x.Name,bd x.Lit,ae x.bW,ae x.At]:=(inferInstance:ds [aq x.Name,bd x.Lit,ae x.bW,ae x.At] [aq x.Name,bd x.Lit,ae x.bW,ae x.At])
def tY (a0:Sym) (ax:Bool) (a2:Bool):Option (Bool) :=
 (bif a0.Lit then
 ((bif !a2 then some true else (bif !decide ((a0.Name.size:Int)=1) then some true else some (!decide (a0.bW=0))))).bind λc4 =>
 (bif c4 then
 some false
 else
 (hg a0.Name 0).bind λbZ =>
 (zD bZ).bind λbw =>
 some bw.2)
 else
 (((vv a0.Name).bind λcq=>(bif cq then (bif decide (a0.bW=0) then some true else (bif ax then (bif decide (1<=a0.bW) then some (decide (a0.bW<=50000)) else some false) else some false)) else some false))).bind λpx =>
 some px)
structure Decl where
 Kind:Int
 Tag:ByteArray
 eJ:(List Sym)
 At:Int
 deriving DecidableEq,Inhabited
def dN:bK Decl:=⟨4,λx=>[ae x.Kind,aq x.Tag,ay dQ x.eJ,ae x.At],λ_=>rfl,λ_=>dp.bh⟩
instance:Flat dN:=⟨λ_=>rfl⟩
instance:gP dN dN:=⟨rfl,λx=>(inferInstance:ds [ae x.Kind,aq x.Tag,ay dQ x.eJ,ae x.At] [ae x.Kind,aq x.Tag,ay dQ x.eJ,ae x.At])⟩
instance {x:Decl}:ds (dN.cells x) [ae x.Kind,aq x.Tag,ay dQ x.eJ,ae x.At]:=(inferInstance:ds [ae x.Kind,aq x.Tag,ay dQ x.eJ,ae x.At] [ae x.Kind,aq x.Tag,ay dQ x.eJ,ae x.At])
def xE (a0:Decl):Option (Bool) :=
 ((bif decide (a0.Kind<1) then some true else (bif decide (6<a0.Kind) then some true else (bif decide ((a0.eJ.length:Int)=0) then some true else (bif decide (a0.Kind=6) then (bif !decide ((a0.eJ.length:Int)=1) then some true else (bif !decide (a0.Tag=⟨#[]⟩) then some true else (bif decide (a0.Kind=5) then (bif decide (a0.Tag=⟨#[]⟩) then some true else some false) else some false))) else (bif decide (a0.Kind=5) then (bif decide (a0.Tag=⟨#[]⟩) then some true else (bif !decide (a0.Tag=⟨#[]⟩) then ((vv a0.Tag).bind λc7=>some (!c7)) else some false)) else (bif !decide (a0.Tag=⟨#[]⟩) then ((vv a0.Tag).bind λdM=>some (!dM)) else some false))))))).bind λte =>
 (bif te then
 some false
 else
 (cc (R:=(Unit) ⊕ (Bool)) (λ(lq:Int) =>
 (bif decide (lq<(a0.eJ.length:Int)) then
 (idx a0.eJ lq).bind λgw =>
 (tY gw (decide (a0.Kind=1)) (decide (a0.Kind<5))).bind λeT =>
 (bif !eT then
 some (.inr (.inr false))
 else
 some (.inl (aS (lq+1))))
 else
 some (.inr (.inl ())))) 0).bind λeg =>
 (match eg with
 | .inl fM =>
 some true
 | .inr hl =>
 some hl))
def tZ (a0:Sym):Option (Bool) :=
 ((bif decide (a0.Name=⟨#[]⟩) then (bif !a0.Lit then some (decide (a0.bW=0)) else some false) else some false)).bind λkQ =>
 some kQ
def xH (a0:ByteArray) (ax:Int) (a2:ByteArray):Option (Bool) :=
 ((bif decide ((a2.size:Int)<=aS ((a0.size:Int) - ax)) then ((j_ a0 ax (aS (ax+(a2.size:Int)))).bind λx2=>some (decide (x2=a2))) else some false)).bind λkQ =>
 some kQ
def CC (a0:ByteArray) (ax:Int):Option (Int) :=
 (((hg a0 ax).bind λaY=>(bif decide (aY=34) then some true else ((hg a0 ax).bind λa6=>some (decide (a6=39)))))).bind λc4 =>
 (bif c4 then
 (cc (R:=(Unit) ⊕ (Int)) (λ(c5:Int) =>
 ((bif decide (c5<(a0.size:Int)) then ((hg a0 c5).bind λdF=>some (!decide (dF=10))) else some false)).bind λtd =>
 (bif td then
 (hg a0 c5).bind λdM =>
 (hg a0 ax).bind λdC =>
 (bif decide (dM=dC) then
 some (.inr (.inr (aS (c5+1))))
 else
 (hg a0 c5).bind λbE =>
 (bif decide (bE=92) then
 ((bif decide (aS (c5+1)<(a0.size:Int)) then ((hg a0 (aS (c5+1))).bind λhl=>some (decide (hl=10))) else some false)).bind λpz =>
 (bif pz then
 some (.inr (.inr (-1)))
 else
 some (.inl (aS ((aS (c5+1))+1))))
 else
 some (.inl (aS (c5+1)))))
 else
 some (.inr (.inl ())))) (aS (ax+1))).bind λbw =>
 (match bw with
 | .inl cq =>
 some (-1)
 | .inr cz =>
 some cz)
 else
 (hg a0 ax).bind λeT =>
 (bif decide (eT=96) then
 (cc (R:=(Unit) ⊕ (Int)) (λ(Aa:Int) =>
 (bif decide (Aa<(a0.size:Int)) then
 (hg a0 Aa).bind λhC =>
 (bif decide (hC=96) then
 some (.inr (.inr (aS (Aa+1))))
 else
 some (.inl (aS (Aa+1))))
 else
 some (.inr (.inl ())))) (aS (ax+1))).bind λl' =>
 (match l' with
 | .inl iD =>
 some (-1)
 | .inr cy =>
 some cy)
 else
 (xH a0 ax (⟨#[47,47]⟩)).bind λe1 =>
 (bif e1 then
 (cc (R:=Int) (λ(Ab:Int) =>
 ((bif decide (Ab<(a0.size:Int)) then ((hg a0 Ab).bind λcS=>some (!decide (cS=10))) else some false)).bind λHh =>
 (bif Hh then
 some (.inl (aS (Ab+1)))
 else
 some (.inr Ab))) ax).bind λiE =>
 some iE
 else
 (xH a0 ax (⟨#[47,42]⟩)).bind λvQ =>
 (bif vQ then
 (cc (R:=(Unit) ⊕ (Int)) (λ(Ac:Int) =>
 (bif decide (Ac<(a0.size:Int)) then
 (xH a0 Ac (⟨#[42,47]⟩)).bind λGp =>
 (bif Gp then
 some (.inr (.inr (aS (Ac+2))))
 else
 some (.inl (aS (Ac+1))))
 else
 some (.inr (.inl ())))) (aS (ax+2))).bind λq5 =>
 (match q5 with
 | .inl vR =>
 some (-1)
 | .inr qg =>
 some qg)
 else
 some ax))))
def zB (a0:ByteArray) (ax:Int):Option (Int) :=
 ((bif decide (ax<0) then some true else (bif decide ((a0.size:Int)<=ax) then some true else ((hg a0 ax).bind λa6=>some (!decide (a6=123)))))).bind λc4 =>
 (bif c4 then
 some (-1)
 else
 (cc (R:=(Unit) ⊕ (Int)) (λ(c5:Int × Int) =>
 (bif decide (c5.2<(a0.size:Int)) then
 (CC a0 c5.2).bind λdF =>
 (bif decide (dF<0) then
 some (.inr (.inr (-1)))
 else
 (bif decide (c5.2<dF) then
 some (.inl (c5.1,dF))
 else
 (hg a0 c5.2).bind λdM =>
 ((bif decide (dM=123) then
 some (aS (c5.1+1))
 else
 some c5.1)).bind λvn =>
 (hg a0 c5.2).bind λbE =>
 ((bif decide (bE=125) then
 some (aS (vn - 1))
 else
 some vn)).bind λE_ =>
 (bif decide (E_=0) then
 some (.inr (.inr (aS (c5.2+1))))
 else
 some (.inl (E_,aS (c5.2+1))))))
 else
 some (.inr (.inl ())))) (0,ax)).bind λbw =>
 (match bw with
 | .inl cq =>
 some (-1)
 | .inr cz =>
 some cz))
structure Part where
 Sym:Sym
 Code:ByteArray
 At:Int
 deriving DecidableEq,Inhabited
structure Alt where
 Parts:(List Part)
 Prec:Sym
 At:Int
 deriving DecidableEq,Inhabited
def f_:bK Part:=⟨6,λx=>[aq x.Sym.Name,bd x.Sym.Lit,ae x.Sym.bW,ae x.Sym.At,aq x.Code,ae x.At],λ_=>rfl,λ_=>dp.bh⟩
instance:Flat f_:=⟨λ_=>rfl⟩
instance:lU f_:=⟨λx=>(inferInstance:jq [aq x.Sym.Name,bd x.Sym.Lit,ae x.Sym.bW,ae x.Sym.At,aq x.Code,ae x.At])⟩
instance:gP f_ f_:=⟨rfl,λx=>(inferInstance:ds [aq x.Sym.Name,bd x.Sym.Lit,ae x.Sym.bW,ae x.Sym.At,aq x.Code,ae x.At] [aq x.Sym.Name,bd x.Sym.Lit,ae x.Sym.bW,ae x.Sym.At,aq x.Code,ae x.At])⟩
instance {x:Part}:ds (f_.cells x) [aq x.Sym.Name,bd x.Sym.Lit,ae x.Sym.bW,ae x.Sym.At,aq x.Code,ae x.At]:=(inferInstance:ds [aq x.Sym.Name,bd x.Sym.Lit,ae x.Sym.bW,ae x.Sym.At,aq x.Code,ae x.At] [aq x.Sym.Name,bd x.Sym.Lit,ae x.Sym.bW,ae x.Sym.At,aq x.Code,ae x.At])
def fH:bK Alt:=⟨6,λx=>[ay f_ x.Parts,aq x.Prec.Name,bd x.Prec.Lit,ae x.Prec.bW,ae x.Prec.At,ae x.At],λ_=>rfl,λ_=>dp.bh⟩
instance:Flat fH:=⟨λ_=>rfl⟩
instance:gP fH fH:=⟨rfl,λx=>(inferInstance:ds [ay f_ x.Parts,aq x.Prec.Name,bd x.Prec.Lit,ae x.Prec.bW,ae x.Prec.At,ae x.At] [ay f_ x.Parts,aq x.Prec.Name,bd x.Prec.Lit,ae x.Prec.bW,ae x.Prec.At,ae x.At])⟩
instance {x:Alt}:ds (fH.cells x) [ay f_ x.Parts,aq x.Prec.Name,bd x.Prec.Lit,ae x.Prec.bW,ae x.Prec.At,ae x.At]:=(inferInstance:ds [ay f_ x.Parts,aq x.Prec.Name,bd x.Prec.Lit,ae x.Prec.bW,ae x.Prec.At,ae x.At] [ay f_ x.Parts,aq x.Prec.Name,bd x.Prec.Lit,ae x.Prec.bW,ae x.Prec.At,ae x.At])
def xF (a0:Alt):Option (Bool) :=
 (cc (R:=(Unit) ⊕ (Bool)) (λ(s1:Int) =>
 (bif decide (s1<(a0.Parts.length:Int)) then
 (idx a0.Parts s1).bind λbZ =>
 ((bif decide (bZ.Code=⟨#[]⟩) then ((tY bZ.Sym false true).bind λcq=>(bif !cq then some true else (bif !decide (bZ.Code=⟨#[]⟩) then ((tZ bZ.Sym).bind λdF=>(bif !dF then some true else ((zB bZ.Code 0).bind λe_=>some (!decide (e_=(bZ.Code.size:Int)))))) else some false))) else (bif !decide (bZ.Code=⟨#[]⟩) then ((tZ bZ.Sym).bind λdC=>(bif !dC then some true else ((zB bZ.Code 0).bind λbE=>some (!decide (bE=(bZ.Code.size:Int)))))) else some false))).bind λri =>
 (bif ri then
 some (.inr (.inr false))
 else
 some (.inl (aS (s1+1))))
 else
 some (.inr (.inl ())))) 0).bind λx2 =>
 (match x2 with
 | .inl a6 =>
 (((tZ a0.Prec).bind λhl=>(bif hl then some true else ((tY a0.Prec false true).bind λgw=>some gw)))).bind λyM =>
 some yM
 | .inr bT =>
 some bT)
structure fP where
 Left:ByteArray
 fm:(List Alt)
 At:Int
 deriving DecidableEq,Inhabited
structure Source where
 ca:ByteArray
 Decls:(List Decl)
 ef:(List fP)
 cm:ByteArray
 deriving DecidableEq,Inhabited
def jR:bK fP:=⟨3,λx=>[aq x.Left,ay fH x.fm,ae x.At],λ_=>rfl,λ_=>dp.bh⟩
instance:Flat jR:=⟨λ_=>rfl⟩
instance:gP jR jR:=⟨rfl,λx=>(inferInstance:ds [aq x.Left,ay fH x.fm,ae x.At] [aq x.Left,ay fH x.fm,ae x.At])⟩
instance {x:fP}:ds (jR.cells x) [aq x.Left,ay fH x.fm,ae x.At]:=(inferInstance:ds [aq x.Left,ay fH x.fm,ae x.At] [aq x.Left,ay fH x.fm,ae x.At])
def ik:bK Source:=⟨4,λx=>[aq x.ca,ay dN x.Decls,ay jR x.ef,aq x.cm],λ_=>rfl,λ_=>dp.bh⟩
instance:Flat ik:=⟨λ_=>rfl⟩
instance:gP ik ik:=⟨rfl,λx=>(inferInstance:ds [aq x.ca,ay dN x.Decls,ay jR x.ef,aq x.cm] [aq x.ca,ay dN x.Decls,ay jR x.ef,aq x.cm])⟩
instance {x:Source}:ds (ik.cells x) [aq x.ca,ay dN x.Decls,ay jR x.ef,aq x.cm]:=(inferInstance:ds [aq x.ca,ay dN x.Decls,ay jR x.ef,aq x.cm] [aq x.ca,ay dN x.Decls,ay jR x.ef,aq x.cm])
def xP (a0:Source):Option (Bool) :=
 (cc (R:=(Unit) ⊕ (Bool)) (λ(s1:Int) =>
 (bif decide (aS (s1+1)<(a0.ca.size:Int)) then
 (j_ a0.ca s1 (aS (s1+2))).bind λbZ =>
 (bif decide (bZ=⟨#[37,125]⟩) then
 some (.inr (.inr false))
 else
 some (.inl (aS (s1+1))))
 else
 some (.inr (.inl ())))) 0).bind λx2 =>
 (match x2 with
 | .inl a6 =>
 (cc (R:=(Unit) ⊕ (Bool)) (λ(ct:Int) =>
 (bif decide (ct<(a0.Decls.length:Int)) then
 (idx a0.Decls ct).bind λe_ =>
 (xE e_).bind λdM =>
 (bif !dM then
 some (.inr (.inr false))
 else
 some (.inl (aS (ct+1))))
 else
 some (.inr (.inl ())))) 0).bind λcz =>
 (match cz with
 | .inl bY =>
 (cc (R:=(Unit) ⊕ (Bool)) (λ(C9:Int) =>
 (bif decide (C9<(a0.ef.length:Int)) then
 (idx a0.ef C9).bind λgp =>
 (((vv gp.Left).bind λgw=>(bif !gw then some true else some (decide ((gp.fm.length:Int)=0))))).bind λHc =>
 (bif Hc then
 some (.inr (.inr false))
 else
 (cc (R:=(Unit) ⊕ (Bool)) (λ(C_:Int) =>
 (bif decide (C_<(gp.fm.length:Int)) then
 (idx gp.fm C_).bind λqf =>
 (xF qf).bind λe1 =>
 (bif !e1 then
 some (.inr (.inr false))
 else
 some (.inl (aS (C_+1))))
 else
 some (.inr (.inl ())))) 0).bind λiD =>
 (match iD with
 | .inl cy =>
 some (.inl (aS (C9+1)))
 | .inr eO =>
 some (.inr (.inr eO))))
 else
 some (.inr (.inl ())))) 0).bind λbE =>
 (match bE with
 | .inl eg =>
 some (decide (0<(a0.ef.length:Int)))
 | .inr fM =>
 some fM)
 | .inr dF =>
 some dF)
 | .inr bT =>
 some bT)
structure Tok where
 Name:ByteArray
 Lit:Bool
 bW:Int
 Level:Int
 e2:Int
 Tag:ByteArray
 deriving DecidableEq,Inhabited
structure e5 where
 Name:ByteArray
 Tag:ByteArray
 deriving DecidableEq,Inhabited
structure Prod where
 Left:Int
 ez:(List Int)
 Prec:Int
 Code:ByteArray
 v7:(List Int)
 At:Int
 deriving DecidableEq,Inhabited
structure bt where
 aX:(List Tok)
 bF:(List e5)
 a8:(List Prod)
 ca:ByteArray
 cm:ByteArray
 deriving DecidableEq,Inhabited
structure de where
 az:bt
 cg:(List Bool)
 cx:(List e5)
 bX:(List ByteArray)
 cM:Int
 c_:Int
 c8:ByteArray
 b_:Int
 bU:Int
 deriving DecidableEq,Inhabited
def bN:bK Tok:=⟨6,λx=>[aq x.Name,bd x.Lit,ae x.bW,ae x.Level,ae x.e2,aq x.Tag],λ_=>rfl,λ_=>dp.bh⟩
instance:Flat bN:=⟨λ_=>rfl⟩
instance:lU bN:=⟨λx=>(inferInstance:jq [aq x.Name,bd x.Lit,ae x.bW,ae x.Level,ae x.e2,aq x.Tag])⟩
instance:gP bN bN:=⟨rfl,λx=>(inferInstance:ds [aq x.Name,bd x.Lit,ae x.bW,ae x.Level,ae x.e2,aq x.Tag] [aq x.Name,bd x.Lit,ae x.bW,ae x.Level,ae x.e2,aq x.Tag])⟩
instance {x:Tok}:ds (bN.cells x) [aq x.Name,bd x.Lit,ae x.bW,ae x.Level,ae x.e2,aq x.Tag]:=(inferInstance:ds [aq x.Name,bd x.Lit,ae x.bW,ae x.Level,ae x.e2,aq x.Tag] [aq x.Name,bd x.Lit,ae x.bW,ae x.Level,ae x.e2,aq x.Tag])
def bq:bK e5:=⟨2,λx=>[aq x.Name,aq x.Tag],λ_=>rfl,λ_=>dp.bh⟩
instance:Flat bq:=⟨λ_=>rfl⟩
instance:lU bq:=⟨λx=>(inferInstance:jq [aq x.Name,aq x.Tag])⟩
instance:gP bq bq:=⟨rfl,λx=>(inferInstance:ds [aq x.Name,aq x.Tag] [aq x.Name,aq x.Tag])⟩
def cj:bK Prod:=⟨6,λx=>[ae x.Left,ay aZ x.ez,ae x.Prec,aq x.Code,ay aZ x.v7,ae x.At],λ_=>rfl,λ_=>dp.bh⟩
instance:Flat cj:=⟨λ_=>rfl⟩
instance:gP cj cj:=⟨rfl,λx=>(inferInstance:ds [ae x.Left,ay aZ x.ez,ae x.Prec,aq x.Code,ay aZ x.v7,ae x.At] [ae x.Left,ay aZ x.ez,ae x.Prec,aq x.Code,ay aZ x.v7,ae x.At])⟩
instance {x:Prod}:ds (cj.cells x) [ae x.Left,ay aZ x.ez,ae x.Prec,aq x.Code,ay aZ x.v7,ae x.At]:=(inferInstance:ds [ae x.Left,ay aZ x.ez,ae x.Prec,aq x.Code,ay aZ x.v7,ae x.At] [ae x.Left,ay aZ x.ez,ae x.Prec,aq x.Code,ay aZ x.v7,ae x.At])
def df:bK bt:=⟨5,λx=>[ay bN x.aX,ay bq x.bF,ay cj x.a8,aq x.ca,aq x.cm],λ_=>rfl,λ_=>dp.bh⟩
instance:Flat df:=⟨λ_=>rfl⟩
instance:gP df df:=⟨rfl,λx=>(inferInstance:ds [ay bN x.aX,ay bq x.bF,ay cj x.a8,aq x.ca,aq x.cm] [ay bN x.aX,ay bq x.bF,ay cj x.a8,aq x.ca,aq x.cm])⟩
instance {x:bt}:ds (df.cells x) [ay bN x.aX,ay bq x.bF,ay cj x.a8,aq x.ca,aq x.cm]:=(inferInstance:ds [ay bN x.aX,ay bq x.bF,ay cj x.a8,aq x.ca,aq x.cm] [ay bN x.aX,ay bq x.bF,ay cj x.a8,aq x.ca,aq x.cm])
def Ej:bK de:=⟨13,λx=>[ay bN x.az.aX,ay bq x.az.bF,ay cj x.az.a8,aq x.az.ca,aq x.az.cm,ay cr x.cg,ay bq x.cx,ay cH x.bX,ae x.cM,ae x.c_,aq x.c8,ae x.b_,ae x.bU],λ_=>rfl,λ_=>dp.bh⟩
instance:Flat Ej:=⟨λ_=>rfl⟩
instance:gP Ej Ej:=⟨rfl,λx=>(inferInstance:ds [ay bN x.az.aX,ay bq x.az.bF,ay cj x.az.a8,aq x.az.ca,aq x.az.cm,ay cr x.cg,ay bq x.cx,ay cH x.bX,ae x.cM,ae x.c_,aq x.c8,ae x.b_,ae x.bU] [ay bN x.az.aX,ay bq x.az.bF,ay cj x.az.a8,aq x.az.ca,aq x.az.cm,ay cr x.cg,ay bq x.cx,ay cH x.bX,ae x.cM,ae x.c_,aq x.c8,ae x.b_,ae x.bU])⟩
instance {x:de}:ds (Ej.cells x) [ay bN x.az.aX,ay bq x.az.bF,ay cj x.az.a8,aq x.az.ca,aq x.az.cm,ay cr x.cg,ay bq x.cx,ay cH x.bX,ae x.cM,ae x.c_,aq x.c8,ae x.b_,ae x.bU]:=(inferInstance:ds [ay bN x.az.aX,ay bq x.az.bF,ay cj x.az.a8,aq x.az.ca,aq x.az.cm,ay cr x.cg,ay bq x.cx,ay cH x.bX,ae x.cM,ae x.c_,aq x.c8,ae x.b_,ae x.bU] [ay bN x.az.aX,ay bq x.az.bF,ay cj x.az.a8,aq x.az.ca,aq x.az.cm,ay cr x.cg,ay bq x.cx,ay cH x.bX,ae x.cM,ae x.c_,aq x.c8,ae x.b_,ae x.bU])
def MU:bK bt:=⟨5,λx=>[ar bN x.aX,ar bq x.bF,ar cj x.a8,aq x.ca,aq x.cm],λ_=>rfl,λ_=>dp.bh⟩
instance:gP MU df:=⟨rfl,λx=>(inferInstance:ds [ar bN x.aX,ar bq x.bF,ar cj x.a8,aq x.ca,aq x.cm] [ay bN x.aX,ay bq x.bF,ay cj x.a8,aq x.ca,aq x.cm])⟩
instance {x:bt}:ds (MU.cells x) [ay bN x.aX,ay bq x.bF,ay cj x.a8,aq x.ca,aq x.cm]:=(inferInstance:ds [ar bN x.aX,ar bq x.bF,ar cj x.a8,aq x.ca,aq x.cm] [ay bN x.aX,ay bq x.bF,ay cj x.a8,aq x.ca,aq x.cm])
def dy:bK de:=⟨13,λx=>[ar bN x.az.aX,ar bq x.az.bF,ar cj x.az.a8,aq x.az.ca,aq x.az.cm,ar cr x.cg,ar bq x.cx,ar cH x.bX,ae x.cM,ae x.c_,aq x.c8,ae x.b_,ae x.bU],λ_=>rfl,λ_=>dp.bh⟩
instance {x:de}:ds (dy.cells x) [ay bN x.az.aX,ay bq x.az.bF,ay cj x.az.a8,aq x.az.ca,aq x.az.cm,ay cr x.cg,ay bq x.cx,ay cH x.bX,ae x.cM,ae x.c_,aq x.c8,ae x.b_,ae x.bU]:=(inferInstance:ds [ar bN x.az.aX,ar bq x.az.bF,ar cj x.az.a8,aq x.az.ca,aq x.az.cm,ar cr x.cg,ar bq x.cx,ar cH x.bX,ae x.cM,ae x.c_,aq x.c8,ae x.b_,ae x.bU] [ay bN x.az.aX,ay bq x.az.bF,ay cj x.az.a8,aq x.az.ca,aq x.az.cm,ay cr x.cg,ay bq x.cx,ay cH x.bX,ae x.cM,ae x.c_,aq x.c8,ae x.b_,ae x.bU])
def nm (a0:de) (ax:Int) (a2:ByteArray):Option (de) :=
 ((bif decide (a0.cM=0) then
 some (⟨a0.az,a0.cg,a0.cx,a0.bX,3,ax,a2,a0.b_,a0.bU⟩:de)
 else
 some a0)).bind λiU =>
 some iU
def zR (a0:de) (ax:ByteArray):Option (Int) :=
 (cc (R:=(Unit) ⊕ (Int)) (λ(s1:Int) =>
 (bif decide (s1<(a0.cx.length:Int)) then
 (idx a0.cx s1).bind λbZ =>
 (bif decide (bZ.Name=ax) then
 some (.inr (.inr s1))
 else
 some (.inl (aS (s1+1))))
 else
 some (.inr (.inl ())))) 0).bind λx2 =>
 (match x2 with
 | .inl a6 =>
 some (-1)
 | .inr bT =>
 some bT)
def ua (a0:de) (ax:Sym):Option (Int) :=
 (cc (R:=(Unit) ⊕ (Int)) (λ(s1:Int) =>
 (bif decide (s1<(a0.az.aX.length:Int)) then
 (((idx a0.az.aX s1).bind λbZ=>(bif decide (bZ.Name=ax.Name) then ((idx a0.az.aX s1).bind λcq=>(bif (cq.Lit == ax.Lit) then some (!decide (s1=2)) else some false)) else some false))).bind λgT =>
 (bif gT then
 some (.inr (.inr s1))
 else
 some (.inl (aS (s1+1))))
 else
 some (.inr (.inl ())))) 1).bind λx2 =>
 (match x2 with
 | .inl a6 =>
 some (-1)
 | .inr bT =>
 some bT)
def vy (a0:de) (ax:Int):Option (Int) :=
 (cc (R:=(Unit) ⊕ (Int)) (λ(s1:Int) =>
 (bif decide (s1<(a0.az.aX.length:Int)) then
 (idx a0.az.aX s1).bind λbZ =>
 (bif decide (bZ.bW=ax) then
 some (.inr (.inr s1))
 else
 some (.inl (aS (s1+1))))
 else
 some (.inr (.inl ())))) 3).bind λx2 =>
 (match x2 with
 | .inl a6 =>
 some (-1)
 | .inr bT =>
 some bT)
def vx (a0:de) (ax:Sym):Option (Int × de) :=
 (ua a0 ax).bind λaY =>
 (bif decide (0<=aY) then
 some (aY,a0)
 else
 ((bif ax.Lit then
 (hg ax.Name 0).bind λcv =>
 (vy a0 (aS cv)).bind λbZ =>
 ((bif decide (0<=bZ) then
 (nm a0 ax.At ax.Name).bind λcz =>
 some cz
 else
 some a0)).bind λjY =>
 some (jY,aS cv)
 else
 some (a0,0))).bind λhU =>
 (ea hU.1.az.aX [(⟨ax.Name,ax.Lit,hU.2,0,0,⟨#[]⟩⟩:Tok)]).bind λbY =>
 (ea hU.1.cg [ax.Lit]).bind λdF =>
 some (aS (((hU.1.az.aX++[(⟨ax.Name,ax.Lit,hU.2,0,0,⟨#[]⟩⟩:Tok)]).length:Int) - 1),(⟨(⟨hU.1.az.aX++[(⟨ax.Name,ax.Lit,hU.2,0,0,⟨#[]⟩⟩:Tok)],hU.1.az.bF,hU.1.az.a8,hU.1.az.ca,hU.1.az.cm⟩:bt),hU.1.cg++[ax.Lit],hU.1.cx,hU.1.bX,hU.1.cM,hU.1.c_,hU.1.c8,hU.1.b_,hU.1.bU⟩:de)))
def vE (a0:de) (ax:Decl) (a2:Sym):Option (de) :=
 (bif decide (ax.Kind=5) then
 (zR a0 a2.Name).bind λx2 =>
 ((bif decide (x2<0) then
 (ea a0.cx [(⟨a2.Name,ax.Tag⟩:e5)]).bind λcv =>
 some (⟨a0.az,a0.cg,a0.cx++[(⟨a2.Name,ax.Tag⟩:e5)],a0.bX,a0.cM,a0.c_,a0.c8,a0.b_,a0.bU⟩:de)
 else
 (idx a0.cx x2).bind λbZ =>
 ((bif !decide (bZ.Tag=ax.Tag) then
 (nm a0 a2.At a2.Name).bind λcz =>
 some cz
 else
 some a0)).bind λjY =>
 some jY)).bind λhU =>
 some hU
 else
 (vx a0 a2).bind λbY =>
 (idx bY.2.az.aX bY.1).bind λdF =>
 ((bif !decide (ax.Kind=1) then
 ((bif decide (0<dF.Level) then
 (nm bY.2 a2.At a2.Name).bind λb' =>
 some (⟨(⟨bY.2.az.aX,b'.az.bF,b'.az.a8,b'.az.ca,b'.az.cm⟩:bt),b'.cg,b'.cx,b'.bX,b'.cM,b'.c_,b'.c8,b'.b_,b'.bU⟩:de)
 else
 some bY.2)).bind λc6 =>
 (idx c6.az.aX bY.1).bind λbE =>
 some (⟨(⟨(c6.az.aX.set bY.1.toNat (⟨bE.Name,bE.Lit,bE.bW,c6.b_,bE.e2,bE.Tag⟩:Tok)).set bY.1.toNat (⟨(⟨bE.Name,bE.Lit,bE.bW,c6.b_,bE.e2,bE.Tag⟩:Tok).Name,(⟨bE.Name,bE.Lit,bE.bW,c6.b_,bE.e2,bE.Tag⟩:Tok).Lit,(⟨bE.Name,bE.Lit,bE.bW,c6.b_,bE.e2,bE.Tag⟩:Tok).bW,(⟨bE.Name,bE.Lit,bE.bW,c6.b_,bE.e2,bE.Tag⟩:Tok).Level,aS (ax.Kind - 1),(⟨bE.Name,bE.Lit,bE.bW,c6.b_,bE.e2,bE.Tag⟩:Tok).Tag⟩:Tok),c6.az.bF,c6.az.a8,c6.az.ca,c6.az.cm⟩:bt),c6.cg,c6.cx,c6.bX,c6.cM,c6.c_,c6.c8,c6.b_,c6.bU⟩:de)
 else
 some bY.2)).bind λfe =>
 (idx fe.az.aX bY.1).bind λeg =>
 ((bif decide (0<a2.bW) then
 ((bif decide (bY.1=1) then some true else ((idx fe.cg bY.1).bind λgw=>(bif gw then some true else ((vy fe a2.bW).bind λhf=>some (decide (0<=hf))))))).bind λHd =>
 ((bif Hd then
 (nm fe a2.At a2.Name).bind λcy =>
 some (⟨(⟨fe.az.aX,cy.az.bF,cy.az.a8,cy.az.ca,cy.az.cm⟩:bt),cy.cg,cy.cx,cy.bX,cy.cM,cy.c_,cy.c8,cy.b_,cy.bU⟩:de)
 else
 some fe)).bind λdE =>
 (idx dE.az.aX bY.1).bind λeO =>
 (idx dE.cg bY.1).bind λhC =>
 some (⟨(⟨dE.az.aX.set bY.1.toNat (⟨eO.Name,eO.Lit,a2.bW,eO.Level,eO.e2,eO.Tag⟩:Tok),dE.az.bF,dE.az.a8,dE.az.ca,dE.az.cm⟩:bt),dE.cg.set bY.1.toNat true,dE.cx,dE.bX,dE.cM,dE.c_,dE.c8,dE.b_,dE.bU⟩:de)
 else
 some fe)).bind λeM =>
 (idx eM.az.aX bY.1).bind λqf =>
 ((bif !decide (ax.Tag=⟨#[]⟩) then
 ((bif !decide (qf.Tag=⟨#[]⟩) then some (!decide (qf.Tag=ax.Tag)) else some false)).bind λtf =>
 ((bif tf then
 (nm eM a2.At a2.Name).bind λcS =>
 some (⟨(⟨eM.az.aX,cS.az.bF,cS.az.a8,cS.az.ca,cS.az.cm⟩:bt),cS.cg,cS.cx,cS.bX,cS.cM,cS.c_,cS.c8,cS.b_,cS.bU⟩:de)
 else
 some eM)).bind λkd =>
 (idx kd.az.aX bY.1).bind λhE =>
 some (⟨(⟨kd.az.aX.set bY.1.toNat (⟨hE.Name,hE.Lit,hE.bW,hE.Level,hE.e2,ax.Tag⟩:Tok),kd.az.bF,kd.az.a8,kd.az.ca,kd.az.cm⟩:bt),kd.cg,kd.cx,kd.bX,kd.cM,kd.c_,kd.c8,kd.b_,kd.bU⟩:de)
 else
 some eM)).bind λo0 =>
 some o0)
def sO (a0:de) (ax:ByteArray):Option (Int) :=
 (cc (R:=(Unit) ⊕ (Int)) (λ(s1:Int) =>
 (bif decide (s1<(a0.bX.length:Int)) then
 (idx a0.bX s1).bind λbZ =>
 (bif decide (bZ=ax) then
 some (.inr (.inr s1))
 else
 some (.inl (aS (s1+1))))
 else
 some (.inr (.inl ())))) 0).bind λx2 =>
 (match x2 with
 | .inl a6 =>
 some (-1)
 | .inr bT =>
 some bT)
def sN (a0:de) (ax:Sym):Option (Int × de) :=
 (bif ax.Lit then
 (vx a0 ax).bind λx2 =>
 some (x2.1,x2.2)
 else
 (sO a0 ax.Name).bind λa6 =>
 (bif decide (0<=a6) then
 some (aS (1001+a6),a0)
 else
 (ua a0 ax).bind λcv =>
 (bif decide (cv<0) then
 (nm a0 ax.At ax.Name).bind λbw =>
 some (0,bw)
 else
 some (cv,a0))))
def vF (a0:de) (ax:ByteArray) (a2:Alt):Option (de) :=
 (sO a0 ax).bind λaY =>
 (cc (R:=de × List Int × ByteArray × Int) (λ(s2:de × List Int × ByteArray × Int × Int) =>
 (bif decide (s2.2.2.2.2<(a2.Parts.length:Int)) then
 ((idx a2.Parts s2.2.2.2.2).bind λbw =>
 (((bif decide (bw.Code=⟨#[]⟩) then
 (sN s2.1 bw.Sym).bind λdF =>
 (ea s2.2.1 [dF.1]).bind λc7 =>
 some (dF.2,s2.2.1++[dF.1],s2.2.2.1,s2.2.2.2.1)
 else
 ((bif decide (aS (s2.2.2.2.2+1)=(a2.Parts.length:Int)) then
 some (s2.1.az.a8,s2.1.bU,s2.2.1,bw.Code,bw.At)
 else
 (ea ([]:List Int) s2.2.1).bind λdC =>
 (ea s2.1.az.a8 [(⟨aS ((s2.1.bX.length:Int)+(aS (s2.1.bU+1))),([]:List Int),(-1),bw.Code,([]:List Int)++s2.2.1,bw.At⟩:Prod)]).bind λb' =>
 (ea s2.2.1 [aS ((aS (1000+(s2.1.bX.length:Int)))+(aS (s2.1.bU+1)))]).bind λbE =>
 some (s2.1.az.a8++[(⟨aS ((s2.1.bX.length:Int)+(aS (s2.1.bU+1))),([]:List Int),(-1),bw.Code,([]:List Int)++s2.2.1,bw.At⟩:Prod)],aS (s2.1.bU+1),s2.2.1++[aS ((aS (1000+(s2.1.bX.length:Int)))+(aS (s2.1.bU+1)))],s2.2.2.1,s2.2.2.2.1))).bind λjk =>
 some ((⟨(⟨s2.1.az.aX,s2.1.az.bF,jk.1,s2.1.az.ca,s2.1.az.cm⟩:bt),s2.1.cg,s2.1.cx,s2.1.bX,s2.1.cM,s2.1.c_,s2.1.c8,s2.1.b_,jk.2.1⟩:de),jk.2.2.1,jk.2.2.2.1,jk.2.2.2.2))).bind λp2 =>
 some (p2.1,p2.2.1,p2.2.2.1,p2.2.2.2)).bind λnh =>
 some (nh.1,nh.2.1,nh.2.2.1,nh.2.2.2)).bind λix =>
 some (.inl (ix.1,ix.2.1,ix.2.2.1,ix.2.2.2,aS (s2.2.2.2.2+1)))
 else
 some (.inr (s2.1,s2.2.1,s2.2.2.1,s2.2.2.2.1)))) (a0,([]:List Int),⟨#[]⟩,a2.At,0)).bind λa6 =>
 (cc (R:=Int) (λ(ic:Int × Int) =>
 (bif decide (ic.2<(a6.2.1.length:Int)) then
 ((idx a6.2.1 ic.2).bind λeT =>
 ((bif decide (eT<1000) then
 (idx a6.2.1 ic.2).bind λl' =>
 some l'
 else
 some ic.1)).bind λJS =>
 some JS).bind λoj =>
 some (.inl (oj,aS (ic.2+1)))
 else
 some (.inr ic.1))) ((-1),0)).bind λfM =>
 ((bif !decide (a2.Prec.Name=⟨#[]⟩) then
 ((bif a2.Prec.Lit then some true else ((sO a6.1 a2.Prec.Name).bind λhC=>some (decide (hC<0))))).bind λsc =>
 ((bif sc then
 (sN a6.1 a2.Prec).bind λhD =>
 some (hD.2,hD.1)
 else
 (nm a6.1 a2.Prec.At a2.Prec.Name).bind λiE =>
 some (iE,(-1)))).bind λo0 =>
 some (o0.1,o0.2)
 else
 some (a6.1,fM))).bind λjA =>
 (ea ([]:List Int) a6.2.1).bind λk5 =>
 (ea jA.1.az.a8 [(⟨aS (1+aY),a6.2.1,jA.2,a6.2.2.1,([]:List Int)++a6.2.1,a6.2.2.2⟩:Prod)]).bind λjG =>
 some (⟨(⟨jA.1.az.aX,jA.1.az.bF,jA.1.az.a8++[(⟨aS (1+aY),a6.2.1,jA.2,a6.2.2.1,([]:List Int)++a6.2.1,a6.2.2.2⟩:Prod)],jA.1.az.ca,jA.1.az.cm⟩:bt),jA.1.cg,jA.1.cx,jA.1.bX,jA.1.cM,jA.1.c_,jA.1.c8,jA.1.b_,jA.1.bU⟩:de)
def vC (a0:Source):Option (bt × Int × Int × ByteArray) :=
 (xP a0).bind λaY =>
 (bif !aY then
 some ((⟨([]:List Tok),([]:List e5),([]:List Prod),⟨#[]⟩,⟨#[]⟩⟩:bt),1,0,⟨#[]⟩)
 else
 (nQ 3 false).bind λa6 =>
 (cc (R:=de × ByteArray) (λ(dd:de × ByteArray × Int) =>
 (bif decide (dd.2.2<(a0.Decls.length:Int)) then
 (idx a0.Decls dd.2.2).bind λcq =>
 ((bif decide (2<=cq.Kind) then some (decide (cq.Kind<=4)) else some false)).bind λgT =>
 ((bif gT then
 some (aS (dd.1.b_+1))
 else
 some dd.1.b_)).bind λjz =>
 (cc (R:=de × ByteArray) (λ(eC:de × ByteArray × Int) =>
 (bif decide (eC.2.2<(cq.eJ.length:Int)) then
 ((bif !decide (cq.Kind=6) then
 (idx cq.eJ eC.2.2).bind λfM =>
 (vE eC.1 cq fM).bind λhl =>
 some (hl,eC.2.1)
 else
 ((bif !decide (eC.2.1=⟨#[]⟩) then
 (idx cq.eJ eC.2.2).bind λeT =>
 (idx cq.eJ eC.2.2).bind λhf =>
 (nm eC.1 eT.At hf.Name).bind λgx =>
 some gx
 else
 some eC.1)).bind λrQ =>
 (idx cq.eJ eC.2.2).bind λl' =>
 some (rQ,l'.Name))).bind λl5 =>
 some (.inl (l5.1,l5.2,aS (eC.2.2+1)))
 else
 some (.inr (eC.1,eC.2.1)))) ((⟨dd.1.az,dd.1.cg,dd.1.cx,dd.1.bX,dd.1.cM,dd.1.c_,dd.1.c8,jz,dd.1.bU⟩:de),dd.2.1,0)).bind λdM =>
 some (.inl (dM.1,dM.2,aS (dd.2.2+1)))
 else
 some (.inr (dd.1,dd.2.1)))) ((⟨(⟨[(⟨⟨#[36,101,110,100]⟩,false,0,0,0,⟨#[]⟩⟩:Tok),(⟨⟨#[101,114,114,111,114]⟩,false,(-1),0,0,⟨#[]⟩⟩:Tok),(⟨⟨#[36,117,110,107]⟩,false,(-1),0,0,⟨#[]⟩⟩:Tok)],[],[],⟨#[]⟩,⟨#[]⟩⟩:bt),a6,[],[],0,0,⟨#[]⟩,0,0⟩:de),⟨#[]⟩,0)).bind λcv =>
 (cc (R:=de) (λ(p_:de × Int) =>
 (bif decide (p_.2<(a0.ef.length:Int)) then
 ((idx a0.ef p_.2).bind λe1 =>
 (ua p_.1 (⟨e1.Left,false,0,0⟩:Sym)).bind λma =>
 ((bif decide (0<=ma) then
 (nm p_.1 e1.At e1.Left).bind λk5 =>
 some k5
 else
 some p_.1)).bind λgK =>
 (sO gK e1.Left).bind λjG =>
 ((bif decide (jG<0) then
 (ea gK.bX [e1.Left]).bind λmH =>
 some (gK.bX++[e1.Left])
 else
 some gK.bX)).bind λJW =>
 some (⟨gK.az,gK.cg,gK.cx,JW,gK.cM,gK.c_,gK.c8,gK.b_,gK.bU⟩:de)).bind λxp =>
 some (.inl (xp,aS (p_.2+1)))
 else
 some (.inr p_.1))) (cv.1,0)).bind λcy =>
 (cc (R:=de) (λ(p':de × Int) =>
 (bif decide (p'.2<(a0.Decls.length:Int)) then
 (cc (R:=de) (λ(qa:de × Int) =>
 (idx a0.Decls p'.2).bind λGp =>
 (bif decide (qa.2<(Gp.eJ.length:Int)) then
 ((idx a0.Decls p'.2).bind λr2 =>
 (idx r2.eJ qa.2).bind λmb =>
 (((idx a0.Decls p'.2).bind λsX=>(bif decide (5<=sX.Kind) then ((sO qa.1 mb.Name).bind λlQ=>some (decide (lQ<0))) else some false))).bind λAT =>
 ((bif AT then
 (nm qa.1 mb.At mb.Name).bind λvT =>
 some vT
 else
 some qa.1)).bind λJZ =>
 some JZ).bind λJY =>
 some (.inl (JY,aS (qa.2+1)))
 else
 some (.inr qa.1))) (p'.1,0)).bind λqg =>
 some (.inl (qg,aS (p'.2+1)))
 else
 some (.inr p'.1))) (cy,0)).bind λgb =>
 ((bif decide (cv.2=⟨#[]⟩) then
 (idx a0.ef 0).bind λvU =>
 some vU.Left
 else
 some cv.2)).bind λxq =>
 (sO gb xq).bind λj2 =>
 (cc (R:=de) (λ(o_:de × Int) =>
 (bif decide (o_.2<(a0.ef.length:Int)) then
 (cc (R:=de) (λ(qY:de × Int) =>
 (idx a0.ef o_.2).bind λvV =>
 (bif decide (qY.2<(vV.fm.length:Int)) then
 (idx a0.ef o_.2).bind λvW =>
 (idx a0.ef o_.2).bind λAo =>
 (idx Ao.fm qY.2).bind λvX =>
 (vF qY.1 vW.Left vX).bind λyc =>
 some (.inl (yc,aS (qY.2+1)))
 else
 some (.inr qY.1))) (o_.1,0)).bind λjn =>
 some (.inl (jn,aS (o_.2+1)))
 else
 some (.inr o_.1))) ((⟨(⟨gb.az.aX,gb.az.bF,[(⟨0,[aS (1001+j2)],(-1),⟨#[]⟩,([]:List Int),0⟩:Prod)],gb.az.ca,gb.az.cm⟩:bt),gb.cg,gb.cx,gb.bX,gb.cM,gb.c_,gb.c8,gb.b_,gb.bU⟩:de),0)).bind λbm =>
 (bif !decide (bm.cM=0) then
 some ((⟨([]:List Tok),([]:List e5),([]:List Prod),⟨#[]⟩,⟨#[]⟩⟩:bt),bm.cM,bm.c_,bm.c8)
 else
 (cc (R:=List e5) (λ(qZ:List e5 × Int) =>
 (bif decide (qZ.2<(bm.bX.length:Int)) then
 (idx bm.bX qZ.2).bind λqh =>
 (zR (⟨(⟨bm.az.aX,qZ.1,bm.az.a8,bm.az.ca,bm.az.cm⟩:bt),bm.cg,bm.cx,bm.bX,bm.cM,bm.c_,bm.c8,bm.b_,bm.bU⟩:de) qh).bind λr3 =>
 ((bif decide (0<=r3) then
 (idx bm.cx r3).bind λLg =>
 some Lg.Tag
 else
 some (⟨#[]⟩))).bind λtS =>
 (ea qZ.1 [(⟨qh,tS⟩:e5)]).bind λQX =>
 some (.inl (qZ.1++[(⟨qh,tS⟩:e5)],aS (qZ.2+1)))
 else
 some (.inr qZ.1))) ([(⟨⟨#[36,97,99,99,101,112,116]⟩,⟨#[]⟩⟩:e5)],0)).bind λq7 =>
 (cc (R:=List e5) (λ(rX:List e5 × Int) =>
 (bif decide (rX.2<=bm.bU) then
 (nS rX.2).bind λGr =>
 (er (⟨#[64]⟩) Gr).bind λvY =>
 (ea rX.1 [(⟨vY,⟨#[]⟩⟩:e5)]).bind λQY =>
 some (.inl (rX.1++[(⟨vY,⟨#[]⟩⟩:e5)],aS (rX.2+1)))
 else
 some (.inr rX.1))) (q7,1)).bind λkE =>
 (cc (R:=List Tok) (λ(lO:List Tok × Int × Int) =>
 (bif decide (lO.2.2<(lO.1.length:Int)) then
 ((idx bm.cg lO.2.2).bind λLe =>
 ((bif !Le then
 (idx lO.1 lO.2.2).bind λr1 =>
 some (lO.1.set lO.2.2.toNat (⟨r1.Name,r1.Lit,lO.2.1,r1.Level,r1.e2,r1.Tag⟩:Tok),aS (lO.2.1+1))
 else
 some (lO.1,lO.2.1))).bind λB8 =>
 some (B8.1,B8.2)).bind λCd =>
 some (.inl (Cd.1,Cd.2,aS (lO.2.2+1)))
 else
 some (.inr lO.1))) (bm.az.aX,57346,3)).bind λlR =>
 ((bif decide (40<(lR.length:Int)) then some true else (bif decide (24<(kE.length:Int)) then some true else some (decide (60<(bm.az.a8.length:Int)))))).bind λD6 =>
 (cc (R:=Bool) (λ(sR:Bool × Int) =>
 (bif decide (sR.2<(bm.az.a8.length:Int)) then
 ((bif sR.1 then some true else ((idx bm.az.a8 sR.2).bind λLf=>some (decide (8<(Lf.ez.length:Int)))))).bind λHa =>
 some (.inl (Ha,aS (sR.2+1)))
 else
 some (.inr sR.1))) (D6,0)).bind λAm =>
 (bif Am then
 some ((⟨([]:List Tok),([]:List e5),([]:List Prod),⟨#[]⟩,⟨#[]⟩⟩:bt),4,0,⟨#[]⟩)
 else
 some ((⟨lR,kE,bm.az.a8,a0.ca,a0.cm⟩:bt),0,0,⟨#[]⟩))))
def zH (a0:Source):Option (bt × Bool) :=
 (vC a0).bind λaY =>
 some (aY.1,decide (aY.2.1=0))
structure Item where
 Prod:Int
 cU:Int
 deriving DecidableEq,Inhabited
def c3:bK Item:=⟨2,λx=>[ae x.Prod,ae x.cU],λ_=>rfl,λ_=>dp.bh⟩
instance:Flat c3:=⟨λ_=>rfl⟩
instance:lU c3:=⟨λx=>(inferInstance:jq [ae x.Prod,ae x.cU])⟩
instance:gP c3 c3:=⟨rfl,λx=>(inferInstance:ds [ae x.Prod,ae x.cU] [ae x.Prod,ae x.cU])⟩
def xQ (a0:(List Item)) (ax:Item):Option ((List Item)) :=
 (cc (R:=Int) (λ(s1:Int) =>
 ((bif decide (0<s1) then ((idx a0 (aS (s1 - 1))).bind λcv=>(bif decide (ax.Prod<cv.Prod) then some true else ((idx a0 (aS (s1 - 1))).bind λbw=>(bif decide (bw.Prod=ax.Prod) then ((idx a0 (aS (s1 - 1))).bind λcz=>some (decide (ax.cU<cz.cU))) else some false)))) else some false)).bind λgT =>
 (bif gT then
 some (.inl (aS (s1 - 1)))
 else
 some (.inr s1))) (a0.length:Int)).bind λx2 =>
 ((bif decide (0<x2) then ((idx a0 (aS (x2 - 1))).bind λe_=>some (decide (e_.Prod=ax.Prod)&&(decide (e_.cU=ax.cU)&&true))) else some false)).bind λpy =>
 (bif py then
 some a0
 else
 (nt a0 0 x2).bind λb' =>
 (ea ([]:List Item) b').bind λbE =>
 (ea (([]:List Item)++b') [ax]).bind λeg =>
 (nt a0 x2 a0.length).bind λfM =>
 (ea ((([]:List Item)++b')++[ax]) fM).bind λhl =>
 some ((([]:List Item)++b')++[ax]++fM))
def zT (a0:bt) (ax:Item):Option (Bool) :=
 ((bif decide (0<=ax.Prod) then (bif decide (ax.Prod<(a0.a8.length:Int)) then (bif decide (0<=ax.cU) then ((idx a0.a8 ax.Prod).bind λbT=>some (decide (ax.cU<=(bT.ez.length:Int)))) else some false) else some false) else some false)).bind λkr =>
 some kr
def CX (a0:bt) (ax:(List Item)):Option ((List Item)) :=
 (cc (R:=List Item) (λ(s1:List Item × Int) =>
 (bif decide (s1.2<(ax.length:Int)) then
 ((idx ax s1.2).bind λbZ =>
 (zT a0 bZ).bind λbw =>
 ((bif bw then
 (idx ax s1.2).bind λbY =>
 (xQ s1.1 bY).bind λdF =>
 some dF
 else
 some s1.1)).bind λnh =>
 some nh).bind λng =>
 some (.inl (ng,aS (s1.2+1)))
 else
 some (.inr s1.1))) (([]:List Item),0)).bind λx2 =>
 some x2
def xM (a0:bt) (ax:Item):Option (Int) :=
 (((zT a0 ax).bind λaY=>(bif !aY then some true else ((idx a0.a8 ax.Prod).bind λa6=>some (decide (ax.cU=(a6.ez.length:Int))))))).bind λc4 =>
 (bif c4 then
 some (-1)
 else
 (idx a0.a8 ax.Prod).bind λbZ =>
 (idx bZ.ez ax.cU).bind λbw =>
 some bw)
def vD (a0:bt) (ax:(List Item)):Option ((List Item)) :=
 (CX a0 ax).bind λaY =>
 (cc (R:=List Item) (λ(s2:List Item × Int) =>
 (bif !decide (s2.2=(s2.1.length:Int)) then
 (((cc (R:=List Item) (λ(ct:List Item × Int) =>
 (bif decide (ct.2<(s2.1.length:Int)) then
 (idx ct.1 ct.2).bind λc7 =>
 (xM a0 c7).bind λe_ =>
 (cc (R:=List Item) (λ(ln:List Item × Int) =>
 ((bif decide (ln.2<(a0.a8.length:Int)) then some (decide (1000<=e_)) else some false)).bind λri =>
 (bif ri then
 ((idx a0.a8 ln.2).bind λgp =>
 ((bif decide (gp.Left=aS (e_ - 1000)) then
 (xQ ln.1 (⟨ln.2,0⟩:Item)).bind λhf =>
 some hf
 else
 some ln.1)).bind λoj =>
 some oj).bind λJR =>
 some (.inl (JR,aS (ln.2+1)))
 else
 some (.inr ln.1))) (ct.1,0)).bind λdC =>
 (bif !decide ((dC.length:Int)=(s2.1.length:Int)) then
 some (.inr dC)
 else
 some (.inl (dC,aS (ct.2+1))))
 else
 some (.inr ct.1))) (s2.1,0)).bind λcz =>
 some cz).bind λjY =>
 some (jY,(s2.1.length:Int))).bind λix =>
 some (.inl (ix.1,ix.2))
 else
 some (.inr s2.1))) (aY,(-1))).bind λa6 =>
 some a6
def zK (a0:(List Int)) (ax:Int):Option (Bool) :=
 (cc (R:=(Unit) ⊕ (Bool)) (λ(s1:Int) =>
 (bif decide (s1<(a0.length:Int)) then
 (idx a0 s1).bind λbZ =>
 (bif decide (bZ=ax) then
 some (.inr (.inr true))
 else
 some (.inl (aS (s1+1))))
 else
 some (.inr (.inl ())))) 0).bind λx2 =>
 (match x2 with
 | .inl a6 =>
 some false
 | .inr bT =>
 some bT)
def qT (a0:(List Int)) (ax:Int):Option ((List Int)) :=
 (cc (R:=Int) (λ(s1:Int) =>
 ((bif decide (0<s1) then ((idx a0 (aS (s1 - 1))).bind λcv=>some (decide (ax<cv))) else some false)).bind λwA =>
 (bif wA then
 some (.inl (aS (s1 - 1)))
 else
 some (.inr s1))) (a0.length:Int)).bind λx2 =>
 ((bif decide (0<x2) then ((idx a0 (aS (x2 - 1))).bind λcz=>some (decide (cz=ax))) else some false)).bind λgT =>
 (bif gT then
 some a0
 else
 (nt a0 0 x2).bind λc7 =>
 (ea ([]:List Int) c7).bind λe_ =>
 (ea (([]:List Int)++c7) [ax]).bind λdM =>
 (nt a0 x2 a0.length).bind λdC =>
 (ea ((([]:List Int)++c7)++[ax]) dC).bind λb' =>
 some ((([]:List Int)++c7)++[ax]++dC))
def CO (a0:bt):Option ((List Int)) :=
 (cc (R:=List Int) (λ(s1:List Int × Int) =>
 (bif decide (s1.2<(a0.aX.length:Int)) then
 (ea s1.1 [s1.2]).bind λcv =>
 some (.inl (s1.1++[s1.2],aS (s1.2+1)))
 else
 some (.inr s1.1))) (([]:List Int),0)).bind λx2 =>
 (cc (R:=List Int) (λ(c5:List Int × Int) =>
 (bif decide (c5.2<(a0.bF.length:Int)) then
 (ea c5.1 [aS (1000+c5.2)]).bind λbY =>
 some (.inl (c5.1++[aS (1000+c5.2)],aS (c5.2+1)))
 else
 some (.inr c5.1))) (x2,0)).bind λbw =>
 some bw
def CP (a0:bt) (ax:(List Item)) (a2:Int):Option ((List Item)) :=
 (vD a0 ax).bind λaY =>
 (cc (R:=List Item) (λ(s2:List Item × Int) =>
 (bif decide (s2.2<(aY.length:Int)) then
 ((idx aY s2.2).bind λbw =>
 (xM a0 bw).bind λcq =>
 ((bif decide (0<=cq) then some (decide (cq=a2)) else some false)).bind λgT =>
 ((bif gT then
 (idx aY s2.2).bind λe_ =>
 (idx aY s2.2).bind λdM =>
 (xQ s2.1 (⟨e_.Prod,aS (dM.cU+1)⟩:Item)).bind λdC =>
 some dC
 else
 some s2.1)).bind λjz =>
 some jz).bind λix =>
 some (.inl (ix,aS (s2.2+1)))
 else
 some (.inr s2.1))) (([]:List Item),0)).bind λa6 =>
 some a6
def CY (a0:(List Item)) (ax:(List Item)):Option (Bool) :=
 (bif !decide ((a0.length:Int)=(ax.length:Int)) then
 some false
 else
 (cc (R:=(Unit) ⊕ (Bool)) (λ(s2:Int) =>
 (bif decide (s2<(a0.length:Int)) then
 (idx a0 s2).bind λbw =>
 (idx ax s2).bind λcq =>
 (bif !(decide (bw.Prod=cq.Prod)&&(decide (bw.cU=cq.cU)&&true)) then
 some (.inr (.inr false))
 else
 some (.inl (aS (s2+1))))
 else
 some (.inr (.inl ())))) 0).bind λa6 =>
 (match a6 with
 | .inl bT =>
 some true
 | .inr cv =>
 some cv))
structure Move where
 Sym:Int
 nA:Int
 deriving DecidableEq,Inhabited
structure State where
 Kernel:(List Item)
 cE:(List Move)
 deriving DecidableEq,Inhabited
def hG:bK Move:=⟨2,λx=>[ae x.Sym,ae x.nA],λ_=>rfl,λ_=>dp.bh⟩
instance:Flat hG:=⟨λ_=>rfl⟩
instance:lU hG:=⟨λx=>(inferInstance:jq [ae x.Sym,ae x.nA])⟩
instance:gP hG hG:=⟨rfl,λx=>(inferInstance:ds [ae x.Sym,ae x.nA] [ae x.Sym,ae x.nA])⟩
def e6:bK State:=⟨2,λx=>[ay c3 x.Kernel,ay hG x.cE],λ_=>rfl,λ_=>dp.bh⟩
instance:Flat e6:=⟨λ_=>rfl⟩
instance:gP e6 e6:=⟨rfl,λx=>(inferInstance:ds [ay c3 x.Kernel,ay hG x.cE] [ay c3 x.Kernel,ay hG x.cE])⟩
def CQ (a0:(List State)) (ax:(List Item)):Option (Int) :=
 (cc (R:=(Unit) ⊕ (Int)) (λ(s1:Int) =>
 (bif decide (s1<(a0.length:Int)) then
 (idx a0 s1).bind λbZ =>
 (CY bZ.Kernel ax).bind λbw =>
 (bif bw then
 some (.inr (.inr s1))
 else
 some (.inl (aS (s1+1))))
 else
 some (.inr (.inl ())))) 0).bind λx2 =>
 (match x2 with
 | .inl a6 =>
 some (-1)
 | .inr bT =>
 some bT)
def gA:bK State:=⟨2,λx=>[ay c3 x.Kernel,ar hG x.cE],λ_=>rfl,λ_=>dp.bh⟩
instance:gP gA e6:=⟨rfl,λx=>(inferInstance:ds [ay c3 x.Kernel,ar hG x.cE] [ay c3 x.Kernel,ay hG x.cE])⟩
def zI (a0:bt):Option ((List State) × Int) :=
 (CO a0).bind λaY =>
 (cc (R:=(List State) ⊕ (List State × Int)) (λ(s2:List State × Int) =>
 (bif decide (s2.2<(s2.1.length:Int)) then
 (idx s2.1 s2.2).bind λbw =>
 (vD a0 bw.Kernel).bind λcq =>
 (cc (R:=List Int) (λ(nT:List Int × Int) =>
 (bif decide (nT.2<(cq.length:Int)) then
 ((idx cq nT.2).bind λdM =>
 (xM a0 dM).bind λdC =>
 ((bif decide (0<=dC) then
 (qT nT.1 dC).bind λeg =>
 some eg
 else
 some nT.1)).bind λlj =>
 some lj).bind λjk =>
 some (.inl (jk,aS (nT.2+1)))
 else
 some (.inr nT.1))) (([]:List Int),0)).bind λbY =>
 (cc (R:=(List State) ⊕ (List State × Int)) (λ(eZ:List State × Int) =>
 (bif decide (eZ.2<(aY.length:Int)) then
 (idx aY eZ.2).bind λhf =>
 (zK bY hf).bind λgx =>
 (bif !gx then
 some (.inl (eZ.1,aS (eZ.2+1)))
 else
 (idx eZ.1 s2.2).bind λiD =>
 (idx aY eZ.2).bind λcy =>
 (CP a0 iD.Kernel cy).bind λeO =>
 (CQ eZ.1 eO).bind λhC =>
 (bif decide (hC<0) then
 (bif decide ((eZ.1.length:Int)=150) then
 some (.inr (.inr (([]:List State),4)))
 else
 (ea eZ.1 [(⟨eO,([]:List Move)⟩:State)]).bind λma =>
 (idx (eZ.1++[(⟨eO,([]:List Move)⟩:State)]) s2.2).bind λhD =>
 (idx aY eZ.2).bind λiE =>
 (ea hD.cE [(⟨iE,(eZ.1.length:Int)⟩:Move)]).bind λk5 =>
 some (.inl ((eZ.1++[(⟨eO,([]:List Move)⟩:State)]).set s2.2.toNat (⟨hD.Kernel,hD.cE++[(⟨iE,(eZ.1.length:Int)⟩:Move)]⟩:State),aS (eZ.2+1))))
 else
 (idx eZ.1 s2.2).bind λjG =>
 (idx aY eZ.2).bind λcS =>
 (ea jG.cE [(⟨cS,hC⟩:Move)]).bind λhE =>
 some (.inl (eZ.1.set s2.2.toNat (⟨jG.Kernel,jG.cE++[(⟨cS,hC⟩:Move)]⟩:State),aS (eZ.2+1)))))
 else
 some (.inr (.inl eZ.1)))) (s2.1,0)).bind λhl =>
 (match hl with
 | .inl gp =>
 some (.inl (gp,aS (s2.2+1)))
 | .inr gw =>
 some (.inr (.inr (gw.1,gw.2))))
 else
 some (.inr (.inl s2.1)))) ([(⟨[(⟨0,0⟩:Item)],([]:List Move)⟩:State)],0)).bind λa6 =>
 (match a6 with
 | .inl bT =>
 some (bT,0)
 | .inr cv =>
 some (cv.1,cv.2))
def zC (a0:Source):Option (bt × (List State) × Bool) :=
 (zH a0).bind λaY =>
 (bif !aY.2 then
 some (aY.1,([]:List State),false)
 else
 (zI aY.1).bind λa6 =>
 some (aY.1,a6.1,decide (a6.2=0)))
def rW (a0:(List State)) (ax:Int) (a2:Int):Option (Int) :=
 (cc (R:=(Unit) ⊕ (Int)) (λ(s1:Int) =>
 ((bif decide (0<=ax) then (bif decide (ax<(a0.length:Int)) then ((idx a0 ax).bind λbw=>some (decide (s1<(bw.cE.length:Int)))) else some false) else some false)).bind λpA =>
 (bif pA then
 (idx a0 ax).bind λbY =>
 (idx bY.cE s1).bind λdF =>
 (bif decide (dF.Sym=a2) then
 (idx a0 ax).bind λe_ =>
 (idx e_.cE s1).bind λdM =>
 some (.inr (.inr dM.nA))
 else
 some (.inl (aS (s1+1))))
 else
 some (.inr (.inl ())))) 0).bind λx2 =>
 (match x2 with
 | .inl a6 =>
 some (-1)
 | .inr bT =>
 some bT)
structure Cell where
 State:Int
 Tok:Int
 jc:Int
 lu:Bool
 a8:(List Int)
 deriving DecidableEq,Inhabited
def ij:bK Cell:=⟨5,λx=>[ae x.State,ae x.Tok,ae x.jc,bd x.lu,ay aZ x.a8],λ_=>rfl,λ_=>dp.bh⟩
instance:Flat ij:=⟨λ_=>rfl⟩
instance:gP ij ij:=⟨rfl,λx=>(inferInstance:ds [ae x.State,ae x.Tok,ae x.jc,bd x.lu,ay aZ x.a8] [ae x.State,ae x.Tok,ae x.jc,bd x.lu,ay aZ x.a8])⟩
instance {x:Cell}:ds (ij.cells x) [ae x.State,ae x.Tok,ae x.jc,bd x.lu,ay aZ x.a8]:=(inferInstance:ds [ae x.State,ae x.Tok,ae x.jc,bd x.lu,ay aZ x.a8] [ae x.State,ae x.Tok,ae x.jc,bd x.lu,ay aZ x.a8])
def CI (a0:Cell):Option (Int) :=
 ((bif decide (0<=a0.jc) then
 some (aS ((a0.a8.length:Int)+1))
 else
 some (a0.a8.length:Int))).bind λiU =>
 ((bif a0.lu then
 some (aS (iU+1))
 else
 some iU)).bind λhU =>
 some hU
structure kJ where
 State:Int
 Prod:Int
 aX:(List Int)
 deriving DecidableEq,Inhabited
def rm:bK kJ:=⟨3,λx=>[ae x.State,ae x.Prod,ay aZ x.aX],λ_=>rfl,λ_=>dp.bh⟩
instance:Flat rm:=⟨λ_=>rfl⟩
instance:gP rm rm:=⟨rfl,λx=>(inferInstance:ds [ae x.State,ae x.Prod,ay aZ x.aX] [ae x.State,ae x.Prod,ay aZ x.aX])⟩
instance {x:kJ}:ds (rm.cells x) [ae x.State,ae x.Prod,ay aZ x.aX]:=(inferInstance:ds [ae x.State,ae x.Prod,ay aZ x.aX] [ae x.State,ae x.Prod,ay aZ x.aX])
def CD (a0:bt) (ax:(List State)) (a2:(List kJ)):Option ((List Cell)) :=
 (cc (R:=List Cell) (λ(s1:List Cell × Int) =>
 (bif decide (s1.2<(ax.length:Int)) then
 (cc (R:=List Cell) (λ(ej:List Cell × Int) =>
 (bif decide (ej.2<(a0.aX.length:Int)) then
 ((rW ax s1.2 ej.2).bind λbY =>
 (cc (R:=Bool) (λ(mD:Bool × Int) =>
 (idx ax s1.2).bind λdM =>
 (bif decide (mD.2<(dM.Kernel.length:Int)) then
 (idx ax s1.2).bind λb' =>
 (idx b'.Kernel mD.2).bind λbE =>
 ((bif mD.1 then some true else (bif decide (ej.2=0) then (bif decide (bE.Prod=0) then some (decide (bE.cU=1)) else some false) else some false))).bind λpz =>
 some (.inl (pz,aS (mD.2+1)))
 else
 some (.inr mD.1))) (false,0)).bind λc7 =>
 (cc (R:=List Int) (λ(h5:List Int × Int) =>
 (bif decide (h5.2<(a2.length:Int)) then
 ((((idx a2 h5.2).bind λiD=>(bif decide (iD.State=s1.2) then ((idx a2 h5.2).bind λeO=>((zK eO.aX ej.2).bind λhC=>some hC)) else some false))).bind λsc =>
 ((bif sc then
 (idx a2 h5.2).bind λhD =>
 (qT h5.1 hD.Prod).bind λiE =>
 some iE
 else
 some h5.1)).bind λo0 =>
 some o0).bind λdE =>
 some (.inl (dE,aS (h5.2+1)))
 else
 some (.inr h5.1))) (([]:List Int),0)).bind λeT =>
 (CI (⟨s1.2,ej.2,bY,c7,eT⟩:Cell)).bind λk5 =>
 ((bif decide (0<k5) then
 (ea ej.1 [(⟨s1.2,ej.2,bY,c7,eT⟩:Cell)]).bind λhE =>
 some (ej.1++[(⟨s1.2,ej.2,bY,c7,eT⟩:Cell)])
 else
 some ej.1)).bind λJV =>
 some JV).bind λp2 =>
 some (.inl (p2,aS (ej.2+1)))
 else
 some (.inr ej.1))) (s1.1,0)).bind λbZ =>
 some (.inl (bZ,aS (s1.2+1)))
 else
 some (.inr s1.1))) (([]:List Cell),0)).bind λx2 =>
 some x2
def zM (a0:(List (List Int))) (ax:(List (List Int))):Option ((List (List Int))) :=
 (cc (R:=List (List Int)) (λ(s1:List (List Int) × Bool) =>
 (bif s1.2 then
 (cc (R:=List (List Int) × Bool) (λ(ej:List (List Int) × Bool × Int) =>
 (bif decide (ej.2.2<(ej.1.length:Int)) then
 (idx ax ej.2.2).bind λcz =>
 (idx ej.1 ej.2.2).bind λbY =>
 (cc (R:=List (List Int)) (λ(mD:List (List Int) × Int) =>
 (bif decide (mD.2<(cz.length:Int)) then
 (cc (R:=List (List Int)) (λ(lp:List (List Int) × Int) =>
 (idx cz mD.2).bind λeg =>
 (idx lp.1 eg).bind λfM =>
 (bif decide (lp.2<(fM.length:Int)) then
 (idx lp.1 ej.2.2).bind λgp =>
 (idx cz mD.2).bind λgw =>
 (idx lp.1 gw).bind λeT =>
 (idx eT lp.2).bind λhf =>
 (qT gp hf).bind λgx =>
 some (.inl (lp.1.set ej.2.2.toNat gx,aS (lp.2+1)))
 else
 some (.inr lp.1))) (mD.1,0)).bind λb' =>
 some (.inl (b',aS (mD.2+1)))
 else
 some (.inr mD.1))) (ej.1,0)).bind λc7 =>
 ((bif ej.2.1 then some true else ((idx c7 ej.2.2).bind λiD=>some (!decide ((iD.length:Int)=(bY.length:Int)))))).bind λHf =>
 some (.inl (c7,Hf,aS (ej.2.2+1)))
 else
 some (.inr (ej.1,ej.2.1)))) (s1.1,false,0)).bind λbZ =>
 some (.inl (bZ.1,bZ.2))
 else
 some (.inr s1.1))) (a0,true)).bind λx2 =>
 some x2
structure Trans where
 State:Int
 e5:Int
 deriving DecidableEq,Inhabited
def pD:bK Trans:=⟨2,λx=>[ae x.State,ae x.e5],λ_=>rfl,λ_=>dp.bh⟩
instance:Flat pD:=⟨λ_=>rfl⟩
instance:lU pD:=⟨λx=>(inferInstance:jq [ae x.State,ae x.e5])⟩
instance:gP pD pD:=⟨rfl,λx=>(inferInstance:ds [ae x.State,ae x.e5] [ae x.State,ae x.e5])⟩
def p7 (a0:(List State)):Option ((List Trans)) :=
 (cc (R:=List Trans) (λ(s1:List Trans × Int) =>
 (bif decide (s1.2<(a0.length:Int)) then
 (cc (R:=List Trans) (λ(ej:List Trans × Int) =>
 (idx a0 s1.2).bind λcq =>
 (bif decide (ej.2<(cq.cE.length:Int)) then
 ((idx a0 s1.2).bind λdF =>
 (idx dF.cE ej.2).bind λc7 =>
 ((bif decide (1000<=c7.Sym) then
 (idx a0 s1.2).bind λdC =>
 (idx dC.cE ej.2).bind λb' =>
 (ea ej.1 [(⟨s1.2,b'.Sym⟩:Trans)]).bind λbE =>
 some (ej.1++[(⟨s1.2,b'.Sym⟩:Trans)])
 else
 some ej.1)).bind λjk =>
 some jk).bind λtQ =>
 some (.inl (tQ,aS (ej.2+1)))
 else
 some (.inr ej.1))) (s1.1,0)).bind λbZ =>
 some (.inl (bZ,aS (s1.2+1)))
 else
 some (.inr s1.1))) (([]:List Trans),0)).bind λx2 =>
 some x2
def CZ (a0:(List Item)):Option (Bool) :=
 (cc (R:=(Unit) ⊕ (Bool)) (λ(s1:Int) =>
 (bif decide (s1<(a0.length:Int)) then
 (((idx a0 s1).bind λbZ=>(bif decide (bZ.Prod=0) then ((idx a0 s1).bind λcq=>some (decide (cq.cU=1))) else some false))).bind λwB =>
 (bif wB then
 some (.inr (.inr true))
 else
 some (.inl (aS (s1+1))))
 else
 some (.inr (.inl ())))) 0).bind λx2 =>
 (match x2 with
 | .inl a6 =>
 some false
 | .inr bT =>
 some bT)
def CR (a0:(List State)):Option ((List (List Int))) :=
 (p7 a0).bind λaY =>
 (cc (R:=List (List Int)) (λ(s2:List (List Int) × Int) =>
 (bif decide (s2.2<(aY.length:Int)) then
 (idx aY s2.2).bind λbZ =>
 (idx aY s2.2).bind λbw =>
 (rW a0 bZ.State bw.e5).bind λcq =>
 (idx a0 cq).bind λcz =>
 (CZ cz.Kernel).bind λbY =>
 ((bif bY then
 (ea ([]:List Int) [0]).bind λe_ =>
 some [0]
 else
 some ([]:List Int))).bind λjz =>
 (cc (R:=List Int) (λ(ln:List Int × Int) =>
 (idx a0 cq).bind λbE =>
 (bif decide (ln.2<(bE.cE.length:Int)) then
 ((idx a0 cq).bind λhl =>
 (idx hl.cE ln.2).bind λgp =>
 ((bif decide (gp.Sym<1000) then
 (idx a0 cq).bind λhf =>
 (idx hf.cE ln.2).bind λgx =>
 (qT ln.1 gx.Sym).bind λl' =>
 some l'
 else
 some ln.1)).bind λoj =>
 some oj).bind λeM =>
 some (.inl (eM,aS (ln.2+1)))
 else
 some (.inr ln.1))) (jz,0)).bind λdC =>
 (ea s2.1 [dC]).bind λiD =>
 some (.inl (s2.1++[dC],aS (s2.2+1)))
 else
 some (.inr s2.1))) (([]:List (List Int)),0)).bind λa6 =>
 some a6
def zW (a0:(List Bool)) (ax:(List Int)):Option (Bool) :=
 (cc (R:=(Unit) ⊕ (Bool)) (λ(s1:Int) =>
 (bif decide (s1<(ax.length:Int)) then
 (((idx ax s1).bind λbZ=>(bif decide (bZ<1000) then some true else ((idx ax s1).bind λcq=>((idx a0 (aS (cq - 1000))).bind λcz=>some (!cz)))))).bind λgT =>
 (bif gT then
 some (.inr (.inr false))
 else
 some (.inl (aS (s1+1))))
 else
 some (.inr (.inl ())))) 0).bind λx2 =>
 (match x2 with
 | .inl a6 =>
 some true
 | .inr bT =>
 some bT)
def zU (a0:bt):Option ((List Bool)) :=
 (nQ (a0.bF.length:Int) false).bind λaY =>
 (cc (R:=List Bool) (λ(s2:List Bool × Bool) =>
 (bif s2.2 then
 (cc (R:=List Bool × Bool) (λ(c5:List Bool × Bool × Int) =>
 (bif decide (c5.2.2<(a0.a8.length:Int)) then
 ((idx a0.a8 c5.2.2).bind λdF =>
 (((idx c5.1 dF.Left).bind λc7=>(bif !c7 then ((zW c5.1 dF.ez).bind λdM=>some dM) else some false))).bind λte =>
 ((bif te then
 (idx c5.1 dF.Left).bind λeg =>
 some (c5.1.set dF.Left.toNat true,true)
 else
 some (c5.1,c5.2.1))).bind λlj =>
 some (lj.1,lj.2)).bind λtQ =>
 some (.inl (tQ.1,tQ.2,aS (c5.2.2+1)))
 else
 some (.inr (c5.1,c5.2.1)))) (s2.1,false,0)).bind λbw =>
 some (.inl (bw.1,bw.2))
 else
 some (.inr s2.1))) (aY,true)).bind λa6 =>
 some a6
def zV (a0:(List Trans)) (ax:Int) (a2:Int):Option (Int) :=
 (cc (R:=(Unit) ⊕ (Int)) (λ(s1:Int) =>
 (bif decide (s1<(a0.length:Int)) then
 (((idx a0 s1).bind λbZ=>(bif decide (bZ.State=ax) then ((idx a0 s1).bind λcq=>some (decide (cq.e5=a2))) else some false))).bind λwB =>
 (bif wB then
 some (.inr (.inr s1))
 else
 some (.inl (aS (s1+1))))
 else
 some (.inr (.inl ())))) 0).bind λx2 =>
 (match x2 with
 | .inl a6 =>
 some (-1)
 | .inr bT =>
 some bT)
def CS (a0:bt) (ax:(List State)):Option ((List (List Int))) :=
 (p7 ax).bind λaY =>
 (zU a0).bind λx2 =>
 (cc (R:=List (List Int)) (λ(ee:List (List Int) × Int) =>
 (bif decide (ee.2<(aY.length:Int)) then
 (idx aY ee.2).bind λbw =>
 (idx aY ee.2).bind λcq =>
 (rW ax bw.State cq.e5).bind λcz =>
 (cc (R:=List Int) (λ(cC:List Int × Int) =>
 (idx ax cz).bind λe_ =>
 (bif decide (cC.2<(e_.cE.length:Int)) then
 ((idx ax cz).bind λb' =>
 (idx b'.cE cC.2).bind λbE =>
 ((bif decide (1000<=bE.Sym) then ((idx x2 (aS (bE.Sym - 1000))).bind λfM=>some fM) else some false)).bind λHb =>
 ((bif Hb then
 (zV aY cz bE.Sym).bind λeT =>
 (qT cC.1 eT).bind λhf =>
 some hf
 else
 some cC.1)).bind λrQ =>
 some rQ).bind λvn =>
 some (.inl (vn,aS (cC.2+1)))
 else
 some (.inr cC.1))) (([]:List Int),0)).bind λdF =>
 (ea ee.1 [dF]).bind λgx =>
 some (.inl (ee.1++[dF],aS (ee.2+1)))
 else
 some (.inr ee.1))) (([]:List (List Int)),0)).bind λbT =>
 some bT
def zN (a0:(List State)) (ax:Int) (a2:(List Int)):Option (Int) :=
 (cc (R:=Int) (λ(s1:Int × Int) =>
 ((bif decide (s1.2<(a2.length:Int)) then some (decide (0<=s1.1)) else some false)).bind λkr =>
 (bif kr then
 (idx a2 s1.2).bind λbw =>
 (rW a0 s1.1 bw).bind λcq =>
 some (.inl (cq,aS (s1.2+1)))
 else
 some (.inr s1.1))) (ax,0)).bind λx2 =>
 some x2
def CT (a0:bt) (ax:(List State)):Option ((List (List Int))) :=
 (p7 ax).bind λaY =>
 (zU a0).bind λx2 =>
 (nQ (aY.length:Int) ([]:List Int)).bind λa6 =>
 (cc (R:=List (List Int)) (λ(dd:List (List Int) × Int) =>
 (bif decide (dd.2<(aY.length:Int)) then
 (cc (R:=List (List Int)) (λ(ct:List (List Int) × Int) =>
 (bif decide (ct.2<(a0.a8.length:Int)) then
 ((idx a0.a8 ct.2).bind λe_ =>
 (idx a0.a8 ct.2).bind λdM =>
 (idx aY dd.2).bind λdC =>
 (bif !decide (aS (1000+dM.Left)=dC.e5) then
 some ct.1
 else
 (cc (R:=List (List Int)) (λ(lq:List (List Int) × Int) =>
 (bif decide (lq.2<(e_.ez.length:Int)) then
 ((((idx e_.ez lq.2).bind λgw=>(bif decide (gw<1000) then some true else ((nt e_.ez (aS (lq.2+1)) e_.ez.length).bind λhf=>((zW x2 hf).bind λgx=>some (!gx)))))).bind λHe =>
 (bif He then
 some lq.1
 else
 (idx aY dd.2).bind λcy =>
 (nt e_.ez 0 lq.2).bind λeO =>
 (zN ax cy.State eO).bind λhC =>
 ((bif decide (0<=hC) then
 (idx e_.ez lq.2).bind λma =>
 (zV aY hC ma).bind λhD =>
 ((bif decide (0<=hD) then
 (idx lq.1 hD).bind λjG =>
 (qT jG dd.2).bind λcS =>
 some (lq.1.set hD.toNat cS)
 else
 some lq.1)).bind λJU =>
 some JU
 else
 some lq.1)).bind λxp =>
 some xp)).bind λrQ =>
 some (.inl (rQ,aS (lq.2+1)))
 else
 some (.inr lq.1))) (ct.1,0)).bind λeg =>
 some eg)).bind λfe =>
 some (.inl (fe,aS (ct.2+1)))
 else
 some (.inr ct.1))) (dd.1,0)).bind λcz =>
 some (.inl (cz,aS (dd.2+1)))
 else
 some (.inr dd.1))) (a6,0)).bind λcv =>
 some cv
def zL (a0:bt) (ax:(List State)):Option ((List (List Int))) :=
 (CR ax).bind λaY =>
 (CS a0 ax).bind λx2 =>
 (zM aY x2).bind λa6 =>
 (CT a0 ax).bind λbT =>
 (zM a6 bT).bind λcv =>
 some cv
def CJ (a0:bt) (ax:(List Item)):Option ((List Int)) :=
 (vD a0 ax).bind λaY =>
 (cc (R:=List Int) (λ(s2:List Int × Int) =>
 (bif decide (s2.2<(aY.length:Int)) then
 ((((idx aY s2.2).bind λbw=>(bif decide (0<bw.Prod) then ((idx aY s2.2).bind λcz=>((idx aY s2.2).bind λbY=>((idx a0.a8 bY.Prod).bind λdF=>some (decide (cz.cU=(dF.ez.length:Int)))))) else some false))).bind λtd =>
 ((bif td then
 (idx aY s2.2).bind λdC =>
 (ea s2.1 [dC.Prod]).bind λb' =>
 some (s2.1++[dC.Prod])
 else
 some s2.1)).bind λjk =>
 some jk).bind λix =>
 some (.inl (ix,aS (s2.2+1)))
 else
 some (.inr s2.1))) (([]:List Int),0)).bind λa6 =>
 some a6
def CK (a0:bt) (ax:(List State)) (a2:Int) (a3:Int):Option ((List Int)) :=
 ((bif decide (a2<0) then some true else (bif decide ((ax.length:Int)<=a2) then some true else (bif decide (a3<1) then some true else some (decide ((a0.a8.length:Int)<=a3)))))).bind λc4 =>
 (bif c4 then
 some ([]:List Int)
 else
 (p7 ax).bind λbZ =>
 (cc (R:=List Int) (λ(gZ:List Int × Int) =>
 (bif decide (gZ.2<(bZ.length:Int)) then
 ((((idx bZ gZ.2).bind λc7=>((idx a0.a8 a3).bind λe_=>(bif decide (c7.e5=aS (1000+e_.Left)) then ((idx bZ gZ.2).bind λdC=>((idx a0.a8 a3).bind λb'=>((zN ax dC.State b'.ez).bind λbE=>some (decide (bE=a2))))) else some false)))).bind λri =>
 ((bif ri then
 (ea gZ.1 [gZ.2]).bind λgp =>
 some (gZ.1++[gZ.2])
 else
 some gZ.1)).bind λeM =>
 some eM).bind λjz =>
 some (.inl (jz,aS (gZ.2+1)))
 else
 some (.inr gZ.1))) (([]:List Int),0)).bind λcq =>
 some cq)
def CE (a0:bt) (ax:(List State)):Option ((List kJ)) :=
 (zL a0 ax).bind λaY =>
 (cc (R:=List kJ) (λ(s2:List kJ × Int) =>
 (bif decide (s2.2<(ax.length:Int)) then
 (idx ax s2.2).bind λbZ =>
 (CJ a0 bZ.Kernel).bind λbw =>
 (cc (R:=List kJ) (λ(ct:List kJ × Int) =>
 (bif decide (ct.2<(bw.length:Int)) then
 (idx bw ct.2).bind λc7 =>
 (idx bw ct.2).bind λe_ =>
 (CK a0 ax s2.2 e_).bind λdM =>
 (cc (R:=List Int) (λ(lp:List Int × Int) =>
 (bif decide (lp.2<(dM.length:Int)) then
 (cc (R:=List Int) (λ(eZ:List Int × Int) =>
 (idx dM lp.2).bind λgw =>
 (idx aY gw).bind λeT =>
 (bif decide (eZ.2<(eT.length:Int)) then
 (idx dM lp.2).bind λgx =>
 (idx aY gx).bind λl' =>
 (idx l' eZ.2).bind λiD =>
 (qT eZ.1 iD).bind λcy =>
 some (.inl (cy,aS (eZ.2+1)))
 else
 some (.inr eZ.1))) (lp.1,0)).bind λhl =>
 some (.inl (hl,aS (lp.2+1)))
 else
 some (.inr lp.1))) (([]:List Int),0)).bind λb' =>
 (ea ct.1 [(⟨s2.2,c7,b'⟩:kJ)]).bind λeO =>
 some (.inl (ct.1++[(⟨s2.2,c7,b'⟩:kJ)],aS (ct.2+1)))
 else
 some (.inr ct.1))) (s2.1,0)).bind λcz =>
 some (.inl (cz,aS (s2.2+1)))
 else
 some (.inr s2.1))) (([]:List kJ),0)).bind λa6 =>
 some a6
def t_ (a0:Source):Option (bt × (List State) × (List Cell) × Bool) :=
 (zC a0).bind λaY =>
 (bif !aY.2.2 then
 some (aY.1,([]:List State),([]:List Cell),false)
 else
 (CE aY.1 aY.2.1).bind λa6 =>
 (CD aY.1 aY.2.1 a6).bind λbT =>
 some (aY.1,aY.2.1,bT,true))
def Y8 (a0:Int) (ax:Int):Option (Int × Int) :=
 some (IntKind.u32.wrap (q0 .u64 (IntKind.u64.wrap ((IntKind.u64.wrap a0) * (IntKind.u64.wrap ax))) 32),IntKind.u32.wrap (IntKind.u64.wrap ((IntKind.u64.wrap a0) * (IntKind.u64.wrap ax))))
def FH (a0:Int) (ax:Int):Option (Int × Int) :=
 some (IntKind.u64.wrap ((IntKind.u64.wrap ((IntKind.u64.wrap ((q0 .u64 a0 32) * (q0 .u64 ax 32)))+(q0 .u64 (IntKind.u64.wrap ((IntKind.u64.wrap ((q0 .u64 a0 32) * (r_ .u64 ax 4294967295)))+(q0 .u64 (IntKind.u64.wrap ((r_ .u64 a0 4294967295) * (r_ .u64 ax 4294967295))) 32))) 32)))+(q0 .u64 (IntKind.u64.wrap ((r_ .u64 (IntKind.u64.wrap ((IntKind.u64.wrap ((q0 .u64 a0 32) * (r_ .u64 ax 4294967295)))+(q0 .u64 (IntKind.u64.wrap ((r_ .u64 a0 4294967295) * (r_ .u64 ax 4294967295))) 32))) 4294967295)+(IntKind.u64.wrap ((r_ .u64 a0 4294967295) * (q0 .u64 ax 32))))) 32)),IntKind.u64.wrap (a0 * ax))
def FG (a0:Int) (ax:Int):Option (Int × Int) :=
 (FH a0 ax).bind λaY =>
 some (aY.1,aY.2)
def CL (a0:(List Int)) (ax:Int):Option ((List Int)) :=
 (bif decide (ax<0) then
 none
 else
 (FG (IntKind.u64.wrap (a0.length:Int)) (IntKind.u64.wrap ax)).bind λx2 =>
 ((bif decide (0<x2.1) then some true else some (decide (9223372036854775807<x2.2)))).bind λc4 =>
 (bif c4 then
 none
 else
 (nQ (aS x2.2) 0).bind λbZ =>
 (Ea 0 bZ.length bZ a0).bind λbw =>
 (cc (R:=List Int) (λ(ct:List Int × Int) =>
 (bif decide (ct.2<(ct.1.length:Int)) then
 (vi ct.1 ct.2).bind λc7 =>
 (vi ct.1 ct.2).bind λe_ =>
 (Ea ct.2.toNat (ct.1.length - ct.2.toNat) ct.1 (ct.1.take ct.2.toNat)).bind λdM =>
 some (.inl (dM,aS (ct.2+((min (ct.1.take ct.2.toNat).length (ct.1.length - ct.2.toNat):Nat):Int))))
 else
 some (.inr ct.1))) (bw,((min a0.length bZ.length:Nat):Int))).bind λcz =>
 some cz))
structure Act where
 Kind:Int
 N:Int
 deriving DecidableEq,Inhabited
structure kG where
 fl:(List (List Act))
 eQ:(List (List Int))
 deriving DecidableEq,Inhabited
def dJ:bK Act:=⟨2,λx=>[ae x.Kind,ae x.N],λ_=>rfl,λ_=>dp.bh⟩
instance:Flat dJ:=⟨λ_=>rfl⟩
instance:lU dJ:=⟨λx=>(inferInstance:jq [ae x.Kind,ae x.N])⟩
instance:gP dJ dJ:=⟨rfl,λx=>(inferInstance:ds [ae x.Kind,ae x.N] [ae x.Kind,ae x.N])⟩
def zF (a0:bt) (ax:(List State)):Option (kG) :=
 (cc (R:=List (List Act) × List (List Int)) (λ(s1:List (List Act) × List (List Int) × Int) =>
 (bif decide (s1.2.2<(ax.length:Int)) then
 (idx ax s1.2.2).bind λcv =>
 (CL [(-1)] (a0.bF.length:Int)).bind λbZ =>
 (cc (R:=List Int) (λ(gZ:List Int × Int) =>
 (bif decide (gZ.2<(cv.cE.length:Int)) then
 ((idx cv.cE gZ.2).bind λc7 =>
 ((bif decide (1000<=c7.Sym) then
 (idx gZ.1 (aS (c7.Sym - 1000))).bind λdC =>
 some (gZ.1.set (aS (c7.Sym - 1000)).toNat c7.nA)
 else
 some gZ.1)).bind λjk =>
 some jk).bind λjz =>
 some (.inl (jz,aS (gZ.2+1)))
 else
 some (.inr gZ.1))) (bZ,0)).bind λcq =>
 (ea s1.2.1 [cq]).bind λb' =>
 (nQ (a0.aX.length:Int) (⟨0,0⟩:Act)).bind λbE =>
 (ea s1.1 [bE]).bind λeg =>
 some (.inl (s1.1++[bE],s1.2.1++[cq],aS (s1.2.2+1)))
 else
 some (.inr (s1.1,s1.2.1)))) (([]:List (List Act)),([]:List (List Int)),0)).bind λx2 =>
 some (⟨x2.1,x2.2⟩:kG)
def vB (a0:(List Int)):Option (Int) :=
 (bif decide ((a0.length:Int)<1) then
 none
 else
 (idx a0 0).bind λx2 =>
 (cc (R:=Int) (λ(ee:Int × Int) =>
 (bif decide (ee.2<(a0.length:Int)) then
 (idx a0 ee.2).bind λbw =>
 some (.inl (min ee.1 bw,aS (ee.2+1)))
 else
 some (.inr ee.1))) (x2,1)).bind λbT =>
 some bT)
def zP (a0:bt) (ax:Int):Option (Int × Int) :=
 ((bif decide (ax<0) then some true else some (decide ((a0.aX.length:Int)<=ax)))).bind λc2 =>
 (bif c2 then
 some (0,0)
 else
 (idx a0.aX ax).bind λbT =>
 (idx a0.aX ax).bind λcv =>
 some (bT.Level,cv.e2))
def CU (a0:bt) (ax:Int):Option (Int × Int) :=
 ((bif decide (ax<0) then some true else some (decide ((a0.a8.length:Int)<=ax)))).bind λc2 =>
 (bif c2 then
 some (0,0)
 else
 (idx a0.a8 ax).bind λbT =>
 (zP a0 bT.Prec).bind λcv =>
 some (cv.1,cv.2))
def CM (a0:bt) (ax:Int) (a2:Int):Option (Int) :=
 (CU a0 ax).bind λaY =>
 (zP a0 a2).bind λx2 =>
 ((bif decide (aY.1=0) then some true else some (decide (x2.1=0)))).bind λc4 =>
 (bif c4 then
 some 0
 else
 ((bif decide (aY.1<x2.1) then some true else (bif decide (x2.1=aY.1) then some (decide (x2.2=2)) else some false))).bind λpA =>
 (bif pA then
 some 1
 else
 ((bif decide (x2.1<aY.1) then some true else some (decide (x2.2=1)))).bind λG' =>
 (bif G' then
 some 2
 else
 some 3)))
def CH (a0:bt) (ax:Cell):Option (Act × Bool) :=
 (bif decide ((ax.a8.length:Int)=0) then
 (bif ax.lu then
 some ((⟨3,0⟩:Act),false)
 else
 some ((⟨1,ax.jc⟩:Act),false))
 else
 (vB ax.a8).bind λa6 =>
 (bif ax.lu then
 some ((⟨3,0⟩:Act),true)
 else
 (bif decide (ax.jc<0) then
 some ((⟨2,a6⟩:Act),false)
 else
 (CM a0 a6 ax.Tok).bind λbZ =>
 (bif decide (bZ=2) then
 some ((⟨2,a6⟩:Act),false)
 else
 (bif decide (bZ=3) then
 some ((⟨4,0⟩:Act),false)
 else
 (bif decide (bZ=1) then
 some ((⟨1,ax.jc⟩:Act),false)
 else
 some ((⟨1,ax.jc⟩:Act),true)))))))
structure eW where
 State:Int
 Tok:Int
 hn:Int
 Drop:Int
 deriving DecidableEq,Inhabited
def fz:bK eW:=⟨4,λx=>[ae x.State,ae x.Tok,ae x.hn,ae x.Drop],λ_=>rfl,λ_=>dp.bh⟩
instance:Flat fz:=⟨λ_=>rfl⟩
instance:lU fz:=⟨λx=>(inferInstance:jq [ae x.State,ae x.Tok,ae x.hn,ae x.Drop])⟩
instance:gP fz fz:=⟨rfl,λx=>(inferInstance:ds [ae x.State,ae x.Tok,ae x.hn,ae x.Drop] [ae x.State,ae x.Tok,ae x.hn,ae x.Drop])⟩
instance {x:eW}:ds (fz.cells x) [ae x.State,ae x.Tok,ae x.hn,ae x.Drop]:=(inferInstance:ds [ae x.State,ae x.Tok,ae x.hn,ae x.Drop] [ae x.State,ae x.Tok,ae x.hn,ae x.Drop])
def xO (a0:bt) (ax:(List State)) (a2:(List Cell)):Option (kG × (List eW)) :=
 (zF a0 ax).bind λaY =>
 (cc (R:=List (List Act) × List eW) (λ(s2:List (List Act) × List eW × Int) =>
 (bif decide (s2.2.2<(a2.length:Int)) then
 ((idx a2 s2.2.2).bind λbw =>
 (CH a0 bw).bind λcq =>
 (idx s2.1 bw.State).bind λcz =>
 (idx cz bw.Tok).bind λbY =>
 (bif decide ((bw.a8.length:Int)=0) then
 some (s2.1.set bw.State.toNat (cz.set bw.Tok.toNat cq.1),s2.2.1)
 else
 (vB bw.a8).bind λc7 =>
 (cc (R:=List eW) (λ(eC:List eW × Int) =>
 (bif decide (eC.2<(bw.a8.length:Int)) then
 ((idx bw.a8 eC.2).bind λeg =>
 ((bif !decide (eg=c7) then
 (ea eC.1 [(⟨bw.State,bw.Tok,c7,eg⟩:eW)]).bind λgp =>
 some (eC.1++[(⟨bw.State,bw.Tok,c7,eg⟩:eW)])
 else
 some eC.1)).bind λeM =>
 some eM).bind λl5 =>
 some (.inl (l5,aS (eC.2+1)))
 else
 some (.inr eC.1))) (s2.2.1,0)).bind λdM =>
 ((bif cq.2 then
 (ea dM [(⟨bw.State,bw.Tok,(-1),c7⟩:eW)]).bind λhf =>
 some (dM++[(⟨bw.State,bw.Tok,(-1),c7⟩:eW)])
 else
 some dM)).bind λoj =>
 some (s2.1.set bw.State.toNat (cz.set bw.Tok.toNat cq.1),oj))).bind λix =>
 some (.inl (ix.1,ix.2,aS (s2.2.2+1)))
 else
 some (.inr (s2.1,s2.2.1)))) (aY.fl,([]:List eW),0)).bind λa6 =>
 some ((⟨a6.1,aY.eQ⟩:kG),a6.2)
def xN (a0:bt) (ax:Item):Option (Bool) :=
 ((bif decide (0<=ax.Prod) then (bif decide (ax.Prod<(a0.a8.length:Int)) then (bif decide (0<=ax.cU) then ((idx a0.a8 ax.Prod).bind λbT=>some (decide (ax.cU<=(bT.ez.length:Int)))) else some false) else some false) else some false)).bind λkr =>
 some kr
def CV (a0:bt) (ax:Item):Option (Int) :=
 (((xN a0 ax).bind λaY=>(bif !aY then some true else ((idx a0.a8 ax.Prod).bind λa6=>some (decide (ax.cU=(a6.ez.length:Int))))))).bind λc4 =>
 (bif c4 then
 some (-1)
 else
 (idx a0.a8 ax.Prod).bind λbZ =>
 (idx bZ.ez ax.cU).bind λbw =>
 some bw)
def C0 (a0:(List Int)):Option (Int) :=
 (cc (R:=(Unit) ⊕ (Int)) (λ(s1:Int) =>
 (bif decide (s1<(a0.length:Int)) then
 (idx a0 s1).bind λbZ =>
 (bif !decide (bZ=0) then
 some (.inr (.inr bZ))
 else
 some (.inl (aS (s1+1))))
 else
 some (.inr (.inl ())))) 0).bind λx2 =>
 (match x2 with
 | .inl a6 =>
 some 0
 | .inr bT =>
 some bT)
def zA (a0:Int):Option (Bool) :=
 some (!decide (a0=a0))
def zX (a0:Int) (ax:Int):Option (Int) :=
 (zA a0).bind λaY =>
 (zA ax).bind λx2 =>
 (bif aY then
 (bif x2 then
 some 0
 else
 some (-1))
 else
 (bif x2 then
 some 1
 else
 (bif decide (a0<ax) then
 some (-1)
 else
 (bif decide (ax<a0) then
 some 1
 else
 some 0))))
def CW (a0:Item) (ax:Item):Option (Int) :=
 (zX a0.Prod ax.Prod).bind λaY =>
 (zX a0.cU ax.cU).bind λx2 =>
 (C0 [aY,x2]).bind λa6 =>
 some a6
def xJ (a0:bt) (ax:(List Item)):Option ((List Item)) :=
 (cc (R:=List Item) (λ(s1:List Item × Int) =>
 (bif decide (s1.2<(ax.length:Int)) then
 ((idx ax s1.2).bind λbZ =>
 (xN a0 bZ).bind λbw =>
 ((bif bw then
 (ea s1.1 [bZ]).bind λbY =>
 some (s1.1++[bZ])
 else
 some s1.1)).bind λnh =>
 some nh).bind λng =>
 some (.inl (ng,aS (s1.2+1)))
 else
 some (.inr s1.1))) (([]:List Item),0)).bind λx2 =>
 (nQ (a0.bF.length:Int) false).bind λdF =>
 (cc (R:=List Item) (λ(mE:List Item × List Bool × Int) =>
 (bif decide (mE.2.2<(mE.1.length:Int)) then
 ((idx mE.1 mE.2.2).bind λbE =>
 (CV a0 bE).bind λeg =>
 ((bif decide (aS (eg - 1000)<0) then some true else ((idx mE.2.1 (aS (eg - 1000))).bind λhl=>some hl))).bind λpz =>
 (bif pz then
 some (mE.1,mE.2.1)
 else
 (idx mE.2.1 (aS (eg - 1000))).bind λeT =>
 (cc (R:=List Item) (λ(nq:List Item × Int) =>
 (bif decide (nq.2<(a0.a8.length:Int)) then
 ((idx a0.a8 nq.2).bind λeO =>
 ((bif decide (eO.Left=aS (eg - 1000)) then
 (ea nq.1 [(⟨nq.2,0⟩:Item)]).bind λe1 =>
 some (nq.1++[(⟨nq.2,0⟩:Item)])
 else
 some nq.1)).bind λom =>
 some om).bind λJT =>
 some (.inl (JT,aS (nq.2+1)))
 else
 some (.inr nq.1))) (mE.1,0)).bind λgx =>
 some (gx,mE.2.1.set (aS (eg - 1000)).toNat true))).bind λlj =>
 some (.inl (lj.1,lj.2,aS (mE.2.2+1)))
 else
 some (.inr mE.1))) (x2,dF,0)).bind λe_ =>
 (vL (λa b=>CW a b) e_).bind λma =>
 (yO ma).bind λhD =>
 some hD
def KA (a0:Int):Option (Bool) :=
 ((bif decide (32<=a0) then (bif decide (a0<=126) then (bif !decide (a0=39) then some (!decide (a0=92)) else some false) else some false) else some false)).bind λc4 =>
 some c4
def FF (a0:ByteArray) (ax:Int):Option (Int) :=
 some (firstIdx a0 ax.toNat.toUInt8)
def KB (a0:ByteArray) (ax:Int):Option (Int) :=
 (FF a0 ax).bind λaY =>
 some aY
def zQ (a0:Int):Option (ByteArray) :=
 (KA a0).bind λaY =>
 (bif aY then
 (er (⟨#[39]⟩) (strOfNums [a0])).bind λa6 =>
 (er a6 (⟨#[39]⟩)).bind λbT =>
 some bT
 else
 (KB (⟨#[10,9,13,92,39]⟩) a0).bind λcv =>
 (bif decide (0<=cv) then
 (j_ (⟨#[110,116,114,92,39]⟩) cv (aS (cv+1))).bind λbw =>
 (er (⟨#[39,92]⟩) bw).bind λcq =>
 (er cq (⟨#[39]⟩)).bind λcz =>
 some cz
 else
 some (⟨#[]⟩)))
def qU (a0:bt) (ax:Int):Option (ByteArray) :=
 ((bif decide (0<=ax) then (bif decide (ax<(a0.aX.length:Int)) then ((idx a0.aX ax).bind λa6=>some a6.Lit) else some false) else some false)).bind λc4 =>
 (bif c4 then
 (idx a0.aX ax).bind λbZ =>
 (hg bZ.Name 0).bind λbw =>
 (zQ bw).bind λcq =>
 some cq
 else
 ((bif decide (0<=ax) then some (decide (ax<(a0.aX.length:Int))) else some false)).bind λgT =>
 (bif gT then
 (idx a0.aX ax).bind λc7 =>
 some c7.Name
 else
 ((bif decide (1000<=ax) then some (decide (aS (ax - 1000)<(a0.bF.length:Int))) else some false)).bind λpy =>
 (bif py then
 (idx a0.bF (aS (ax - 1000))).bind λb' =>
 some b'.Name
 else
 some (⟨#[]⟩))))
def xK (a0:bt) (ax:Item):Option (ByteArray) :=
 (xN a0 ax).bind λaY =>
 (bif !aY then
 some (⟨#[]⟩)
 else
 (idx a0.a8 ax.Prod).bind λa6 =>
 (qU a0 (aS (1000+a6.Left))).bind λbT =>
 (er bT (⟨#[32,58]⟩)).bind λcv =>
 (cc (R:=ByteArray) (λ(c5:ByteArray × Int) =>
 (bif decide (c5.2<(a6.ez.length:Int)) then
 (idx a6.ez c5.2).bind λbY =>
 ((bif decide (c5.2=ax.cU) then
 (er c5.1 (⟨#[32,46]⟩)).bind λe_ =>
 some e_
 else
 some c5.1)).bind λjz =>
 (qU a0 bY).bind λdM =>
 (er (⟨#[32]⟩) dM).bind λdC =>
 (er jz dC).bind λb' =>
 some (.inl (b',aS (c5.2+1)))
 else
 some (.inr c5.1))) (cv,0)).bind λbw =>
 ((bif decide (ax.cU=(a6.ez.length:Int)) then
 (er bw (⟨#[32,46]⟩)).bind λfM =>
 some fM
 else
 some bw)).bind λl5 =>
 some l5)
def xL (a0:Act):Option (ByteArray) :=
 (bif decide (a0.Kind=1) then
 (nf a0.N).bind λx2 =>
 (er (⟨#[32,115,104,105,102,116,32]⟩) x2).bind λa6 =>
 some a6
 else
 (bif decide (a0.Kind=2) then
 (nf a0.N).bind λcv =>
 (er (⟨#[32,114,101,100,117,99,101,32]⟩) cv).bind λbZ =>
 some bZ
 else
 (bif decide (a0.Kind=3) then
 some (⟨#[32,97,99,99,101,112,116]⟩)
 else
 (bif decide (a0.Kind=4) then
 some (⟨#[32,101,114,114,111,114]⟩)
 else
 some (⟨#[]⟩)))))
def xG (a0:(List eW)):Option (Int × Int) :=
 (cc (R:=Int) (λ(s1:Int × Int) =>
 (bif decide (s1.2<(a0.length:Int)) then
 ((idx a0 s1.2).bind λbZ =>
 ((bif decide (bZ.hn=(-1)) then
 some (aS (s1.1+1))
 else
 some s1.1)).bind λjY =>
 some jY).bind λng =>
 some (.inl (ng,aS (s1.2+1)))
 else
 some (.inr s1.1))) (0,0)).bind λx2 =>
 some (x2,aS ((a0.length:Int) - x2))
def zG (a0:(List ByteArray)) (ax:ByteArray):Option (ByteArray) :=
 (bif decide ((a0.length:Int)=0) then
 some (⟨#[]⟩)
 else
 (bif decide ((a0.length:Int)=1) then
 (idx a0 0).bind λa6 =>
 some a6
 else
 ((bif decide (0<(ax.size:Int)) then
 (z1 9223372036854775807 (aS ((a0.length:Int) - 1))).bind λbZ =>
 (bif decide (bZ<=(ax.size:Int)) then
 none
 else
 some (aS (0+(aS ((ax.size:Int) * (aS ((a0.length:Int) - 1)))))))
 else
 some 0)).bind λvo =>
 (cc (R:=Int) (λ(ct:Int × Int) =>
 (bif decide (ct.2<(a0.length:Int)) then
 (idx a0 ct.2).bind λc7 =>
 (bif decide (aS (9223372036854775807 - ct.1)<(c7.size:Int)) then
 none
 else
 some (.inl (aS (ct.1+(c7.size:Int)),aS (ct.2+1))))
 else
 some (.inr ct.1))) (vo,0)).bind λcz =>
 (wy () cz).bind λdM =>
 (idx a0 0).bind λdC =>
 (mS dM dC).bind λb' =>
 (nt a0 1 a0.length).bind λbE =>
 (cc (R:=ByteArray) (λ(ic:ByteArray × Int) =>
 (bif decide (ic.2<(bE.length:Int)) then
 (idx bE ic.2).bind λgw =>
 (mS ic.1 ax).bind λeT =>
 (mS eT gw).bind λhf =>
 some (.inl (hf,aS (ic.2+1)))
 else
 some (.inr ic.1))) (b',0)).bind λfM =>
 (pw fM).bind λgx =>
 some gx))
structure eH where
 az:bt
 tl:ByteArray
 deriving DecidableEq,Inhabited
def gV:bK eH:=⟨7,λx=>[ay bN x.az.aX,ay bq x.az.bF,ay cj x.az.a8,aq x.az.ca,aq x.az.cm,.self (5,99),.dt 5 (Lib.strCells x.tl)],λ_=>rfl,λ_=>dp.bh⟩
def p6 (a0:eH) (ax:ByteArray):Option (eH) :=
 (er (⟨#[9]⟩) ax).bind λaY =>
 (er aY (⟨#[10]⟩)).bind λx2 =>
 (mS a0.tl x2).bind λa6 =>
 some (⟨a0.az,a6⟩:eH)
def xI (a0:eH) (ax:Int) (a2:State) (a3:kG) (a4:(List eW)):Option (eH) :=
 (nf ax).bind λaY =>
 (er (⟨#[115,116,97,116,101,32]⟩) aY).bind λx2 =>
 (er x2 (⟨#[10]⟩)).bind λa6 =>
 (mS a0.tl a6).bind λbT =>
 (xJ a0.az a2.Kernel).bind λcv =>
 (cc (R:=eH) (λ(c5:eH × Int) =>
 (bif decide (c5.2<(cv.length:Int)) then
 (idx cv c5.2).bind λbY =>
 (xK c5.1.az bY).bind λdF =>
 (p6 c5.1 dF).bind λc7 =>
 some (.inl (c7,aS (c5.2+1)))
 else
 some (.inr c5.1))) ((⟨a0.az,bT⟩:eH),0)).bind λbw =>
 (cc (R:=eH) (λ(eC:eH × Int) =>
 (bif decide (eC.2<(a4.length:Int)) then
 ((idx a4 eC.2).bind λeg =>
 ((bif decide (eg.State=ax) then
 (qU eC.1.az eg.Tok).bind λgp =>
 (er (⟨#[99,111,110,102,108,105,99,116,32]⟩) gp).bind λgw =>
 (er gw (⟨#[58,32]⟩)).bind λeT =>
 (nf eg.Drop).bind λhf =>
 (er eT hf).bind λgx =>
 (er gx (⟨#[32,108,101,102,116,32,111,117,116]⟩)).bind λl' =>
 (p6 eC.1 l').bind λiD =>
 some iD
 else
 some eC.1)).bind λeM =>
 some eM).bind λl5 =>
 some (.inl (l5,aS (eC.2+1)))
 else
 some (.inr eC.1))) (bw,0)).bind λdM =>
 (idx a3.fl ax).bind λcy =>
 (cc (R:=eH) (λ(kg:eH × Int) =>
 (bif decide (kg.2<(cy.length:Int)) then
 ((idx cy kg.2).bind λhD =>
 (xL hD).bind λiE =>
 ((bif !decide (iE=⟨#[]⟩) then
 (qU kg.1.az kg.2).bind λcS =>
 (er cS iE).bind λhE =>
 (p6 kg.1 hE).bind λmH =>
 some mH
 else
 some kg.1)).bind λkd =>
 some kd).bind λB_ =>
 some (.inl (B_,aS (kg.2+1)))
 else
 some (.inr kg.1))) (dM,0)).bind λhC =>
 (idx a3.eQ ax).bind λvQ =>
 (cc (R:=eH) (λ(kh:eH × Int) =>
 (bif decide (kh.2<(vQ.length:Int)) then
 ((idx vQ kh.2).bind λsW =>
 ((bif decide (0<=sW) then
 (qU kh.1.az (aS (1000+kh.2))).bind λum =>
 (er um (⟨#[32,103,111,116,111,32]⟩)).bind λr2 =>
 (nf sW).bind λmb =>
 (er r2 mb).bind λsX =>
 (p6 kh.1 sX).bind λq6 =>
 some q6
 else
 some kh.1)).bind λCb =>
 some Cb).bind λB' =>
 some (.inl (B',aS (kh.2+1)))
 else
 some (.inr kh.1))) (hC,0)).bind λGn =>
 some Gn
structure _anon101 where
 qz:Int
 qA:ByteArray
 deriving DecidableEq,Inhabited
def se:bK _anon101:=⟨2,λx=>[ae x.qz,aq x.qA],λ_=>rfl,λ_=>dp.bh⟩
instance:Flat se:=⟨λ_=>rfl⟩
instance:lU se:=⟨λx=>(inferInstance:jq [ae x.qz,aq x.qA])⟩
instance:gP se se:=⟨rfl,λx=>(inferInstance:ds [ae x.qz,aq x.qA] [ae x.qz,aq x.qA])⟩
def xR (a0:bt) (ax:(List State)) (a2:kG) (a3:(List eW)):Option (ByteArray) :=
 (cc (R:=eH) (λ(s1:eH × Int) =>
 (bif decide (s1.2<(ax.length:Int)) then
 (idx ax s1.2).bind λcv =>
 (xI s1.1 s1.2 cv a2 a3).bind λbZ =>
 some (.inl (bZ,aS (s1.2+1)))
 else
 some (.inr s1.1))) ((⟨a0,⟨#[]⟩⟩:eH),0)).bind λx2 =>
 (xG a3).bind λbw =>
 (cc (R:=List ByteArray) (λ(ct:List ByteArray × Int) =>
 (bif decide (ct.2<([(⟨(a0.aX.length:Int),⟨#[32,116,111,107,101,110,115]⟩⟩:_anon101),(⟨(a0.bF.length:Int),⟨#[32,110,111,110,116,101,114,109,105,110,97,108,115]⟩⟩:_anon101),(⟨(a0.a8.length:Int),⟨#[32,112,114,111,100,117,99,116,105,111,110,115]⟩⟩:_anon101),(⟨(ax.length:Int),⟨#[32,115,116,97,116,101,115]⟩⟩:_anon101),(⟨bw.1,⟨#[32,115,104,105,102,116,47,114,101,100,117,99,101]⟩⟩:_anon101),(⟨bw.2,⟨#[32,114,101,100,117,99,101,47,114,101,100,117,99,101]⟩⟩:_anon101)].length:Int)) then
 (idx [(⟨(a0.aX.length:Int),⟨#[32,116,111,107,101,110,115]⟩⟩:_anon101),(⟨(a0.bF.length:Int),⟨#[32,110,111,110,116,101,114,109,105,110,97,108,115]⟩⟩:_anon101),(⟨(a0.a8.length:Int),⟨#[32,112,114,111,100,117,99,116,105,111,110,115]⟩⟩:_anon101),(⟨(ax.length:Int),⟨#[32,115,116,97,116,101,115]⟩⟩:_anon101),(⟨bw.1,⟨#[32,115,104,105,102,116,47,114,101,100,117,99,101]⟩⟩:_anon101),(⟨bw.2,⟨#[32,114,101,100,117,99,101,47,114,101,100,117,99,101]⟩⟩:_anon101)] ct.2).bind λc7 =>
 (nf c7.qz).bind λe_ =>
 (er e_ c7.qA).bind λdM =>
 (ea ct.1 [dM]).bind λdC =>
 some (.inl (ct.1++[dM],aS (ct.2+1)))
 else
 some (.inr ct.1))) (([]:List ByteArray),0)).bind λcz =>
 (pw x2.tl).bind λb' =>
 (zG cz (⟨#[44,32]⟩)).bind λbE =>
 (er b' bE).bind λeg =>
 (er eg (⟨#[10]⟩)).bind λfM =>
 some fM
def CN :Option (Bool) :=
 (t_ (⟨⟨#[]⟩,([]:List Decl),[(⟨⟨#[115]⟩,[(⟨[(⟨(⟨⟨#[120]⟩,true,0,0⟩:Sym),⟨#[]⟩,0⟩:Part)],(⟨⟨#[]⟩,false,0,0⟩:Sym),0⟩:Alt)],0⟩:fP)],⟨#[]⟩⟩:Source)).bind λaY =>
 (xO aY.1 aY.2.1 aY.2.2.1).bind λx2 =>
 ((bif aY.2.2.2 then (bif decide ((x2.1.fl.length:Int)=3) then ((xR aY.1 aY.2.1 x2.1 x2.2).bind λcv=>some (decide (cv=⟨#[115,116,97,116,101,32,48,10,9,36,97,99,99,101,112,116,32,58,32,46,32,115,10,9,115,32,58,32,46,32,39,120,39,10,9,39,120,39,32,115,104,105,102,116,32,49,10,9,115,32,103,111,116,111,32,50,10,115,116,97,116,101,32,49,10,9,115,32,58,32,39,120,39,32,46,10,9,36,101,110,100,32,114,101,100,117,99,101,32,49,10,115,116,97,116,101,32,50,10,9,36,97,99,99,101,112,116,32,58,32,115,32,46,10,9,36,101,110,100,32,97,99,99,101,112,116,10,52,32,116,111,107,101,110,115,44,32,50,32,110,111,110,116,101,114,109,105,110,97,108,115,44,32,50,32,112,114,111,100,117,99,116,105,111,110,115,44,32,51,32,115,116,97,116,101,115,44,32,48,32,115,104,105,102,116,47,114,101,100,117,99,101,44,32,48,32,114,101,100,117,99,101,47,114,101,100,117,99,101,10]⟩))) else some false) else some false)).bind λwA =>
 some wA
def vz (a0:Int) (ax:Int):Option (Int) :=
 (qX a0 ax).bind λaY =>
 ((bif decide (aY<0) then
 some (aS (aY+ax))
 else
 some aY)).bind λJQ =>
 some JQ
def Kz :Option (ByteArray) :=
 some (⟨#[112,113,114,115]⟩)
def vA (a0:Int):Option (Sym) :=
 (Kz ).bind λaY =>
 (qX a0 4).bind λx2 =>
 (qX a0 4).bind λa6 =>
 (j_ aY x2 (aS (a6+1))).bind λbT =>
 some (⟨bT,true,0,0⟩:Sym)
def l0:bK Decl:=⟨4,λx=>[ae x.Kind,aq x.Tag,ar dQ x.eJ,ae x.At],λ_=>rfl,λ_=>dp.bh⟩
instance:gP l0 dN:=⟨rfl,λx=>(inferInstance:ds [ae x.Kind,aq x.Tag,ar dQ x.eJ,ae x.At] [ae x.Kind,aq x.Tag,ay dQ x.eJ,ae x.At])⟩
instance {x:Decl}:ds (l0.cells x) [ae x.Kind,aq x.Tag,ay dQ x.eJ,ae x.At]:=(inferInstance:ds [ae x.Kind,aq x.Tag,ar dQ x.eJ,ae x.At] [ae x.Kind,aq x.Tag,ay dQ x.eJ,ae x.At])
def zE (a0:(List Int)):Option ((List Decl)) :=
 (cc (R:=List Decl) (λ(s1:List Decl × Int) =>
 ((bif decide (s1.2<(a0.length:Int)) then some (decide (s1.2<4)) else some false)).bind λkr =>
 (bif kr then
 ((idx a0 s1.2).bind λcq =>
 (vz cq 8).bind λcz =>
 (qX cz 4).bind λbY =>
 (bif decide (bY=0) then
 some s1.1
 else
 ((bif decide (4<cz) then some (decide (0<(s1.1.length:Int))) else some false)).bind λpx =>
 (bif px then
 (idx s1.1 (aS ((s1.1.length:Int) - 1))).bind λdC =>
 (vA s1.2).bind λb' =>
 (ea dC.eJ [b']).bind λbE =>
 some (s1.1.set (aS ((s1.1.length:Int) - 1)).toNat (⟨dC.Kind,dC.Tag,dC.eJ++[b'],dC.At⟩:Decl))
 else
 (qX cz 4).bind λeg =>
 (vA s1.2).bind λfM =>
 (ea s1.1 [(⟨aS (1+eg),⟨#[]⟩,[fM],0⟩:Decl)]).bind λhl =>
 some (s1.1++[(⟨aS (1+eg),⟨#[]⟩,[fM],0⟩:Decl)])))).bind λjY =>
 some (.inl (jY,aS (s1.2+1)))
 else
 some (.inr s1.1))) (([]:List Decl),0)).bind λx2 =>
 some x2
def CF (a0:Int):Option (ByteArray) :=
 some (strOfNums [uk (aS (97+a0))])
def CG (a0:Int) (ax:Int):Option (Sym) :=
 (vz a0 14).bind λaY =>
 (bif decide (aY<5) then
 (qX aY ax).bind λa6 =>
 (CF a6).bind λbT =>
 some (⟨bT,false,0,0⟩:Sym)
 else
 (bif decide (aY=13) then
 some (⟨⟨#[101,114,114,111,114]⟩,false,0,0⟩:Sym)
 else
 (vA (aS (aY - 5))).bind λbZ =>
 some bZ))
structure qi where
 bF:Int
 ef:(List (List Int))
 qq:(List Int)
 mK:(List Int)
 r5:Bool
 deriving DecidableEq,Inhabited
def oN:bK qi:=⟨5,λx=>[ae x.bF,ay (b4 aZ) x.ef,ay aZ x.qq,ay aZ x.mK,bd x.r5],λ_=>rfl,λ_=>dp.bh⟩
instance:Flat oN:=⟨λ_=>rfl⟩
instance:gP oN oN:=⟨rfl,λx=>(inferInstance:ds [ae x.bF,ay (b4 aZ) x.ef,ay aZ x.qq,ay aZ x.mK,bd x.r5] [ae x.bF,ay (b4 aZ) x.ef,ay aZ x.qq,ay aZ x.mK,bd x.r5])⟩
instance {x:qi}:ds (oN.cells x) [ae x.bF,ay (b4 aZ) x.ef,ay aZ x.qq,ay aZ x.mK,bd x.r5]:=(inferInstance:ds [ae x.bF,ay (b4 aZ) x.ef,ay aZ x.qq,ay aZ x.mK,bd x.r5] [ae x.bF,ay (b4 aZ) x.ef,ay aZ x.qq,ay aZ x.mK,bd x.r5])
def fb:bK fP:=⟨3,λx=>[aq x.Left,ar fH x.fm,ae x.At],λ_=>rfl,λ_=>dp.bh⟩
instance:gP fb jR:=⟨rfl,λx=>(inferInstance:ds [aq x.Left,ar fH x.fm,ae x.At] [aq x.Left,ay fH x.fm,ae x.At])⟩
instance {x:fP}:ds (fb.cells x) [aq x.Left,ay fH x.fm,ae x.At]:=(inferInstance:ds [aq x.Left,ar fH x.fm,ae x.At] [aq x.Left,ay fH x.fm,ae x.At])
def zO (a0:qi):Option (Source) :=
 (vz a0.bF 4).bind λaY =>
 (zE a0.qq).bind λx2 =>
 (nQ (aS (1+aY)) false).bind λa6 =>
 (cc (R:=List fP) (λ(dd:List fP × Int) =>
 (bif decide (dd.2<aS (1+aY)) then
 (CF dd.2).bind λcq =>
 (ea dd.1 [(⟨cq,([]:List Alt),0⟩:fP)]).bind λcz =>
 some (.inl (dd.1++[(⟨cq,([]:List Alt),0⟩:fP)],aS (dd.2+1)))
 else
 some (.inr dd.1))) (([]:List fP),0)).bind λcv =>
 (cc (R:=List fP × List Bool) (λ(cC:List fP × List Bool × Int) =>
 ((bif decide (cC.2.2<(a0.ef.length:Int)) then some (decide (cC.2.2<9)) else some false)).bind λpy =>
 (bif py then
 ((idx a0.ef cC.2.2).bind λbE =>
 (bif decide ((bE.length:Int)=0) then
 some (cC.1,cC.2.1)
 else
 (idx a0.ef cC.2.2).bind λfM =>
 (idx fM 0).bind λhl =>
 (vz hl (aS (1+aY))).bind λgp =>
 (cc (R:=List Part × Bool) (λ(h5:List Part × Bool × Int) =>
 (((idx a0.ef cC.2.2).bind λgx=>(bif decide (h5.2.2<(gx.length:Int)) then some (decide (h5.2.2<5)) else some false))).bind λAR =>
 (bif AR then
 ((idx a0.ef cC.2.2).bind λhC =>
 (idx hC h5.2.2).bind λqf =>
 (CG qf (aS (1+aY))).bind λe1 =>
 ((bif h5.2.1 then (bif e1.Lit then some true else some (decide (e1.Name=⟨#[101,114,114,111,114]⟩))) else some false)).bind λtf =>
 (ea h5.1 [(⟨e1,⟨#[]⟩,0⟩:Part)]).bind λk5 =>
 ((bif decide (cC.2.2<(a0.mK.length:Int)) then (bif decide (h5.2.2=1) then ((idx a0.mK cC.2.2).bind λhE=>((qX hE 3).bind λmH=>some (decide (mH=1)))) else some false) else some false)).bind λAS =>
 ((bif AS then
 (ea (h5.1++[(⟨e1,⟨#[]⟩,0⟩:Part)]) [(⟨(⟨⟨#[]⟩,false,0,0⟩:Sym),⟨#[123,36,36,32,61,32,36,49,125]⟩,0⟩:Part)]).bind λq5 =>
 some ((h5.1++[(⟨e1,⟨#[]⟩,0⟩:Part)])++[(⟨(⟨⟨#[]⟩,false,0,0⟩:Sym),⟨#[123,36,36,32,61,32,36,49,125]⟩,0⟩:Part)])
 else
 some (h5.1++[(⟨e1,⟨#[]⟩,0⟩:Part)]))).bind λJX =>
 some (JX,tf)).bind λB9 =>
 some (.inl (B9.1,B9.2,aS (h5.2.2+1)))
 else
 some (.inr (h5.1,h5.2.1)))) (([]:List Part),true,1)).bind λeT =>
 ((bif decide (cC.2.2<(a0.mK.length:Int)) then ((idx a0.mK cC.2.2).bind λqg=>((qX qg 2).bind λsW=>some (!decide (sW=0)))) else some false)).bind λHi =>
 ((bif Hi then
 (ea eT.1 [(⟨(⟨⟨#[]⟩,false,0,0⟩:Sym),⟨#[123,102,40,36,36,41,125]⟩,0⟩:Part)]).bind λr2 =>
 some (eT.1++[(⟨(⟨⟨#[]⟩,false,0,0⟩:Sym),⟨#[123,102,40,36,36,41,125]⟩,0⟩:Part)])
 else
 some eT.1)).bind λoo =>
 (((idx cC.2.1 gp).bind λmb=>(bif mb then some (cC.2.1.set gp.toNat true) else some (cC.2.1.set gp.toNat eT.2)))).bind λwz =>
 (idx cC.1 gp).bind λlQ =>
 (ea lQ.fm [(⟨oo,(⟨⟨#[]⟩,false,0,0⟩:Sym),0⟩:Alt)]).bind λyb =>
 some (cC.1.set gp.toNat (⟨lQ.Left,lQ.fm++[(⟨oo,(⟨⟨#[]⟩,false,0,0⟩:Sym),0⟩:Alt)],lQ.At⟩:fP),wz))).bind λlj =>
 some (.inl (lj.1,lj.2,aS (cC.2.2+1)))
 else
 some (.inr (cC.1,cC.2.1)))) (cv,a6,0)).bind λdF =>
 (cc (R:=List fP) (λ(iA:List fP × Int) =>
 (bif decide (iA.2<aS (1+aY)) then
 ((((idx iA.1 iA.2).bind λvU=>(bif decide ((vU.fm.length:Int)=0) then some true else ((idx dF.2 iA.2).bind λAn=>(bif !An then some (!a0.r5) else some false))))).bind λHj =>
 ((bif Hj then
 (idx iA.1 iA.2).bind λjn =>
 (vA iA.2).bind λjH =>
 (ea jn.fm [(⟨[(⟨jH,⟨#[]⟩,0⟩:Part)],(⟨⟨#[]⟩,false,0,0⟩:Sym),0⟩:Alt)]).bind λvV =>
 some (iA.1.set iA.2.toNat (⟨jn.Left,jn.fm++[(⟨[(⟨jH,⟨#[]⟩,0⟩:Part)],(⟨⟨#[]⟩,false,0,0⟩:Sym),0⟩:Alt)],jn.At⟩:fP))
 else
 some iA.1)).bind λJ0 =>
 some J0).bind λtR =>
 some (.inl (tR,aS (iA.2+1)))
 else
 some (.inr iA.1))) (dF.1,0)).bind λvS =>
 some (⟨⟨#[]⟩,x2,vS,⟨#[]⟩⟩:Source)
def qS (a0:ByteArray) (ax:ByteArray):Option (Bool) :=
 (cc (R:=(Unit) ⊕ (Bool)) (λ(s1:Int) =>
 (bif decide (aS (s1+(ax.size:Int))<=(a0.size:Int)) then
 (j_ a0 s1 (aS (s1+(ax.size:Int)))).bind λbZ =>
 (bif decide (bZ=ax) then
 some (.inr (.inr true))
 else
 some (.inl (aS (s1+1))))
 else
 some (.inr (.inl ())))) 0).bind λx2 =>
 (match x2 with
 | .inl a6 =>
 some false
 | .inr bT =>
 some bT)
def zS (a0:ByteArray):Option ((List ByteArray) × Bool) :=
 (cc (R:=List ByteArray × Int) (λ(s1:List ByteArray × Int × Int) =>
 (bif decide (s1.2.2<(a0.size:Int)) then
 ((hg a0 s1.2.2).bind λbZ =>
 ((bif decide (bZ=10) then
 (j_ a0 s1.2.1 s1.2.2).bind λcz =>
 (ea s1.1 [cz]).bind λbY =>
 some (s1.1++[cz],aS (s1.2.2+1))
 else
 some (s1.1,s1.2.1))).bind λjY =>
 some (jY.1,jY.2)).bind λng =>
 some (.inl (ng.1,ng.2,aS (s1.2.2+1)))
 else
 some (.inr (s1.1,s1.2.1)))) (([]:List ByteArray),0,0)).bind λx2 =>
 some (x2.1,decide (x2.2=(a0.size:Int)))
def zJ (a0:qi):Option (Bool) :=
 (CN ).bind λaY =>
 (bif !aY then
 some false
 else
 (zO a0).bind λa6 =>
 (t_ a6).bind λbT =>
 (bif !bT.2.2.2 then
 some true
 else
 (xO bT.1 bT.2.1 bT.2.2.1).bind λbZ =>
 (bif !decide ((bZ.1.fl.length:Int)=(bT.2.1.length:Int)) then
 some false
 else
 (xR bT.1 bT.2.1 bZ.1 bZ.2).bind λcq =>
 (zS cq).bind λcz =>
 (cc (R:=(Int × Int × Int × Int) ⊕ (Bool)) (λ(cC:Int × Int × Int × Int × Int) =>
 (bif decide (cC.2.2.2.2<(cz.1.length:Int)) then
 (((idx cz.1 cC.2.2.2.2).bind λdC=>(bif decide (6<(dC.size:Int)) then ((idx cz.1 cC.2.2.2.2).bind λbE=>((j_ bE 0 6).bind λeg=>some (decide (eg=⟨#[115,116,97,116,101,32]⟩)))) else some false))).bind λyL =>
 (bif yL then
 (idx cz.1 cC.2.2.2.2).bind λgp =>
 (nS cC.1).bind λgw =>
 (er (⟨#[115,116,97,116,101,32]⟩) gw).bind λeT =>
 (bif !decide (gp=eT) then
 some (.inr (.inr false))
 else
 some (.inl (aS (cC.1+1),cC.2.1,cC.2.2.1,cC.2.2.2.1,aS (cC.2.2.2.2+1))))
 else
 (((idx cz.1 cC.2.2.2.2).bind λgx=>(bif decide (10<(gx.size:Int)) then ((idx cz.1 cC.2.2.2.2).bind λiD=>((j_ iD 0 10).bind λcy=>some (decide (cy=⟨#[9,99,111,110,102,108,105,99,116,32]⟩)))) else some false))).bind λuE =>
 ((bif uE then
 some (aS (cC.2.1+1),cC.2.2.1,cC.2.2.2.1)
 else
 (idx cz.1 cC.2.2.2.2).bind λe1 =>
 (qS e1 (⟨#[32,103,111,116,111,32]⟩)).bind λma =>
 ((bif ma then
 some (cC.2.2.1,aS (cC.2.2.2.1+1))
 else
 (((idx cz.1 cC.2.2.2.2).bind λk5=>((qS k5 (⟨#[32,58,32]⟩)).bind λjG=>(bif !jG then ((idx cz.1 cC.2.2.2.2).bind λhE=>((qS hE (⟨#[32,58,46]⟩)).bind λmH=>(bif !mH then ((idx cz.1 cC.2.2.2.2).bind λgb=>(bif decide (0<(gb.size:Int)) then ((idx cz.1 cC.2.2.2.2).bind λq5=>((hg q5 0).bind λvR=>some (decide (vR=9)))) else some false)) else some false))) else some false)))).bind λyN =>
 ((bif yN then
 some (aS (cC.2.2.1+1))
 else
 some cC.2.2.1)).bind λCa =>
 some (Ca,cC.2.2.2.1))).bind λgK =>
 some (cC.2.1,gK.1,gK.2))).bind λom =>
 some (.inl (cC.1,om.1,om.2.1,om.2.2,aS (cC.2.2.2.2+1))))
 else
 some (.inr (.inl (cC.1,cC.2.1,cC.2.2.1,cC.2.2.2.1))))) (0,0,0,0,0)).bind λdF =>
 (match dF with
 | .inl c7 =>
 (cc (R:=Int) (λ(mF:Int × Int) =>
 (bif decide (mF.2<(bT.2.1.length:Int)) then
 (cc (R:=Int) (λ(nr:Int × Int) =>
 (idx bT.2.1 mF.2).bind λyb =>
 (bif decide (nr.2<(yb.cE.length:Int)) then
 ((idx bT.2.1 mF.2).bind λvT =>
 (idx vT.cE nr.2).bind λGq =>
 ((bif decide (1000<=Gq.Sym) then
 some (aS (nr.1+1))
 else
 some nr.1)).bind λtR =>
 some tR).bind λCc =>
 some (.inl (Cc,aS (nr.2+1)))
 else
 some (.inr nr.1))) (mF.1,0)).bind λq6 =>
 some (.inl (q6,aS (mF.2+1)))
 else
 some (.inr mF.1))) (0,0)).bind λum =>
 (xG bZ.2).bind λj2 =>
 (nS (bT.1.aX.length:Int)).bind λAn =>
 (er An (⟨#[32,116,111,107,101,110,115,44,32]⟩)).bind λbm =>
 (nS (bT.1.bF.length:Int)).bind λQQ =>
 (er bm QQ).bind λQR =>
 (er QR (⟨#[32,110,111,110,116,101,114,109,105,110,97,108,115,44,32]⟩)).bind λQS =>
 (nS (bT.1.a8.length:Int)).bind λjn =>
 (er QS jn).bind λjH =>
 (er jH (⟨#[32,112,114,111,100,117,99,116,105,111,110,115,44,32]⟩)).bind λvV =>
 (nS (bT.2.1.length:Int)).bind λQT =>
 (er vV QT).bind λvW =>
 (er vW (⟨#[32,115,116,97,116,101,115,44,32]⟩)).bind λAo =>
 (nS j2.1).bind λvX =>
 (er Ao vX).bind λyc =>
 (er yc (⟨#[32,115,104,105,102,116,47,114,101,100,117,99,101,44,32]⟩)).bind λQU =>
 (nS j2.2).bind λQV =>
 (er QU QV).bind λq7 =>
 (er q7 (⟨#[32,114,101,100,117,99,101,47,114,101,100,117,99,101]⟩)).bind λQW =>
 ((bif cz.2 then (bif decide (0<(cz.1.length:Int)) then ((idx cz.1 (aS ((cz.1.length:Int) - 1))).bind λr3=>(bif decide (r3=QW) then (bif decide (c7.1=(bT.2.1.length:Int)) then (bif decide (c7.2.1=(bZ.2.length:Int)) then (bif decide (c7.2.2.2=um) then some (decide (c7.2.2.1=(bT.2.2.1.length:Int))) else some false) else some false) else some false) else some false)) else some false) else some false)).bind λHl =>
 some Hl
 | .inr e_ =>
 some e_))))
theorem t136 (c:Int):Tot (CA c) λ_=>True:=by
 unfold CA
 repeat' first | apply Tot.bi | refine Tot.bC (λ_=>?_) (λ_=>?_) | exact Tot.al trivial | apply Tot.al
theorem t137 (c:Int):Tot (CB c) λ_=>True:=by
 unfold CB
 repeat' first | apply Tot.bi | refine Tot.bC (λ_=>?_) (λ_=>?_) | exact Tot.al trivial | apply Tot.al
theorem t135 (c:Int):Tot (zD c) λ_=>True:=by
 unfold zD
 repeat' first | apply Tot.bi | refine Tot.bC (λ_=>?_) (λ_=>?_) | exact Tot.al trivial | apply Tot.al
theorem t125 (x:Sym):Tot (tZ x) λr=>r=true->x.Name=⟨#[]⟩/\x.Lit=false:=by
 unfold tZ;apply Tot.bi;refine Tot.bA (λh=>Tot.bC (λaf=>?_) (λaf=>?_)) (λh=>?_) <;> apply Tot.al <;> apply Tot.al
 ·exact λ_=>⟨h,by simpa using af⟩
 ·exact λh=>by cases h
 ·exact λh=>by cases h
abbrev hb:Nat:=1000
abbrev kP:Nat:=1000000000000
theorem t124 (s:ByteArray) (h:s.size<=hb):Tot (Cz s 0) λn=>0<=n/\n<=s.size:=by
 unfold Cz;refine Tot.aC (Ξ:=λn=>0<=n/\n<=s.size) ?_ λa aQ=>.al aQ;refine Tot.count (λi=>i) s.size (λi=>0<=i/\i<=s.size) ⟨by omega,by omega⟩ (by show (s.size:Int) - 0<_; simp only [hb] at h; omega) λi ⟨aI,h1⟩=>?_;simp only [hb] at h;have e:aS (0+i)=i:=by rw [cP]; omega
 rw [e];have go:∀ c:Bool,(c=true->i<s.size)->Tot (bif c then some (.inl (aS (i+1))) else some (.inr i)) (iI (λcY:Int=>(0<=cY/\cY<=s.size)/\i<cY/\cY<=s.size) (λr:Int=>0<=r/\r<=s.size)):=by
  intro c aa;refine Tot.bC (λaf=>.al ?_) (λ_=>.al ⟨aI,h1⟩);have:=aa af;have e:aS (i+1)=i+1:=by rw [cP]; omega
  show (0<=aS (i+1)/\aS (i+1)<=s.size)/\i<aS (i+1)/\aS (i+1)<=s.size;rw [e]; omega
 apply Tot.bi;refine Tot.bA (λaf=>?_) (λaf=>.al (go false (by simp)));apply Tot.bi;refine Tot.nC ⟨aI,af⟩ (Tot.aC (t136 _) λc _=>?_);refine Tot.bC (λ_=>.al (go _ λ_=>af)) (λ_=>Tot.bC (λ_=>?_) (λ_=>.al (go _ λ_=>af)));apply Tot.bi;refine Tot.nC ⟨aI,af⟩ (Tot.aC (t137 _) λc _=>?_);refine Tot.bC (λ_=>.al (go _ λ_=>af)) (λ_=>?_);apply Tot.bi;exact Tot.nC ⟨aI,af⟩ (.al (go _ λ_=>af))
theorem t102 (s:ByteArray) (h:s.size<=hb):Tot (vv s) λr=>r=true->1<=s.size/\s.size<=20:=by
 unfold vv;apply Tot.bi;refine Tot.bA (λh1=>Tot.bA (λaf=>?_) (λaf=>?_)) (λh1=>?_)
 ·exact .aC (t124 s h) λn aA=>.al (.al λ_=>by omega)
 ·exact .al (.al λh=>by cases h)
 ·exact .al (.al λh=>by cases h)
theorem t140 (s:ByteArray) (i:Int) (t:ByteArray) (h:s.size<=hb) (aI:0<=i) (h1:i<=4 * hb) (au:t.size<=hb):Tot (xH s i t) λr=>r=true->i+t.size<=s.size:=by
 unfold xH;simp only [hb] at *;apply Tot.bi;refine Tot.bA (λaf=>?_) (λaf=>.al (.al λh=>by cases h));apply Tot.bi;rw [cP] at af;have e:aS (i+t.size)=i+t.size:=by rw [cP]; omega
 refine Tot.cut (by rw [e]; omega) (.al (.al λ_=>by omega))
theorem t138 (s:ByteArray) (i:Int) (h:s.size<=hb) (aI:0<=i) (h1:i<s.size):Tot (CC s i) λr=>r<=s.size:=by
 unfold CC;have ao:(s.size:Int)<=1000:=by simp only [hb] at h; omega
 have bP:aS (i+1)=i+1:=by rw [cP]; omega
 have cu:aS (i+2)=i+2:=by rw [cP]; omega
 rw [bP,cu];have wS:=Tot.nC (Φ:=λ_=>True) (s:=s) (m:=i) ⟨aI,h1⟩ trivial;refine Tot.aC (Ξ:=λ_=>True) ?_ λc _=>Tot.bC (λ_=>?_) (λ_=>?_)
 ·refine Tot.aC wS λ_ _=>Tot.bC (λ_=>.al trivial) (λ_=>Tot.aC wS λ_ _=>.al trivial)
 ·refine Tot.aC (Ξ:=iI (λ_=>True) (λr=>r<=s.size)) ?_ λx J=>?_
  ·refine Tot.count (λj=>j) (s.size+1) (λj=>0<=j) (by show (0:Int)<=i+1; omega) (by show (s.size:Int)+1 - (i+1)<_; omega) λj ag=>?_;refine Tot.aC (Ξ:=λc=>c=true->j<s.size) ?_ λc aa=>Tot.bC (λaf=>?_) (λ_=>.al trivial)
   ·refine Tot.bA (λaf=>?_) (λ_=>.al λh=>by cases h);exact .aC (Ξ:=λ_=>True) (Tot.nC ⟨ag,af⟩ trivial) λ_ _=>.al λ_=>af
   ·have Wo:=aa af;have Iy:=Tot.nC (Φ:=λ_=>True) (s:=s) (m:=j) ⟨ag,Wo⟩ trivial;have eP:aS (j+1)=j+1:=by rw [cP]; omega
    have kt:aS (j+1+1)=j+1+1:=by rw [cP]; omega
    rw [eP,kt];refine .aC Iy λ_ _=>.aC wS λ_ _=>Tot.bC (λ_=>.al ?_) (λ_=>.aC Iy λ_ _=>Tot.bC (λ_=>?_) (λ_=>.al ?_))
    ·show j+1<=s.size; omega
    ·refine Tot.aC (Ξ:=λ_=>True) ?_ λc _=>Tot.bC (λ_=>.al ?_) (λ_=>.al ?_)
     ·refine Tot.bA (λaF=>?_) (λ_=>.al trivial);exact .aC (Ξ:=λ_=>True) (Tot.nC ⟨by omega,aF⟩ trivial) λ_ _=>.al trivial
     ·show (-1:Int)<=s.size; omega
     ·show (0:Int)<=j+1+1/\j<j+1+1/\j+1+1<=s.size+1; omega
    ·show (0:Int)<=j+1/\j<j+1/\j+1<=s.size+1; omega
  ·rcases x with _ | r
   ·exact .al (by show (-1:Int)<=s.size; omega)
   ·exact .al J
 ·refine .aC wS λ_ _=>Tot.bC (λ_=>?_) (λ_=>?_)
  ·refine Tot.aC (Ξ:=iI (λ_=>True) (λr=>r<=s.size)) ?_ λx J=>?_
   ·refine Tot.count (λj=>j) (s.size+1) (λj=>0<=j) (by show (0:Int)<=i+1; omega) (by show (s.size:Int)+1 - (i+1)<_; omega) λj ag=>?_;refine Tot.bA (λaf=>?_) (λ_=>.al trivial);have eP:aS (j+1)=j+1:=by rw [cP]; omega
    rw [eP];refine .aC (Ξ:=λ_=>True) (Tot.nC ⟨ag,af⟩ trivial) λ_ _=>Tot.bC (λ_=>.al ?_) (λ_=>.al ?_)
    ·show j+1<=s.size; omega
    ·show (0:Int)<=j+1/\j<j+1/\j+1<=s.size+1; omega
   ·rcases x with _ | r
    ·exact .al (by show (-1:Int)<=s.size; omega)
    ·exact .al J
  ·refine .aC (t140 s i _ h aI (by simp only [hb]; omega) (by decide)) λc _=>Tot.bC (λ_=>?_) (λ_=>?_)
   ·refine Tot.aC (Ξ:=λr=>r<=s.size) ?_ λx J=>.al J;refine Tot.count (λj=>j) s.size (λj=>0<=j/\j<=s.size) ⟨aI,by omega⟩ (by show (s.size:Int) - i<_; omega) λj ag=>?_;refine Tot.aC (Ξ:=λc=>c=true->j<s.size) ?_ λc aa=>Tot.bC (λaf=>?_) (λ_=>.al ag.2)
    ·refine Tot.bA (λaf=>?_) (λ_=>.al λh=>by cases h);exact .aC (Ξ:=λ_=>True) (Tot.nC ⟨ag.1,af⟩ trivial) λ_ _=>.al λ_=>af
    ·have:=aa af;have eP:aS (j+1)=j+1:=by rw [cP]; omega
     rw [eP];exact .al (by show ((0:Int)<=j+1/\j+1<=s.size)/\j<j+1/\j+1<=s.size; omega)
   ·refine .aC (t140 s i _ h aI (by simp only [hb]; omega) (by decide)) λc aa=>Tot.bC (λlD=>?_) (λ_=>.al (by omega));refine Tot.aC (Ξ:=iI (λ_=>True) (λr=>r<=s.size)) ?_ λx J=>?_
    ·refine Tot.count (λj=>j) (s.size+1) (λj=>0<=j) (by show (0:Int)<=i+2; omega) (by show (s.size:Int)+1 - (i+2)<_; omega) λj ag=>?_;refine Tot.bA (λaf=>?_) (λ_=>.al trivial);have eP:aS (j+1)=j+1:=by rw [cP]; omega
     have kt:aS (j+2)=j+2:=by rw [cP]; omega
     rw [eP,kt];refine .aC (t140 s j _ h ag (by simp only [hb]; omega) (by decide)) λc aa=>Tot.bC (λtD=>.al ?_) (λ_=>.al ?_)
     ·have:=aa tD;have pC:(⟨#[42,47]⟩:ByteArray).size=2:=rfl;rw [pC] at this;show j+2<=s.size; omega
     ·show (0:Int)<=j+1/\j<j+1/\j+1<=s.size+1; omega
    ·rcases x with _ | r
     ·exact .al (by show (-1:Int)<=s.size; omega)
     ·exact .al J
theorem t126 (s:ByteArray) (h:s.size<=hb):Tot (zB s 0) λ_=>True:=by
 unfold zB;have ao:(s.size:Int)<=1000:=by simp only [hb] at h; omega
 refine Tot.aC (Ξ:=λ_=>True) ?_ λc _=>Tot.bC (λ_=>.al trivial) (λ_=>?_)
 ·refine Tot.bA (λh=>.al trivial) (λaI=>Tot.bA (λh=>.al trivial) (λaf=>?_));exact .aC (Ξ:=λ_=>True) (Tot.nC (by omega) trivial) λ_ _=>.al trivial
 ·refine Tot.aC (Ξ:=λ_=>True) ?_ λx _=>by rcases x with _ | r <;> exact .al trivial
  refine Tot.count (λj=>j.2) s.size (λj=>0<=j.2/\j.2<=s.size) ⟨by show (0:Int)<=0; omega,by show (0:Int)<=s.size; omega⟩ (by show (s.size:Int) - 0<_; omega) λj ag=>?_;refine Tot.bA (λaf=>?_) (λ_=>.al trivial);refine .aC (t138 s j.2 h ag.1 af) λn aA=>Tot.bA (λ_=>.al trivial) (λaF=>Tot.bA (λbk=>.al ?_) (λbk=>?_))
  ·show ((0:Int)<=n/\n<=s.size)/\j.2<n/\n<=s.size; omega
  ·have wS:=Tot.nC (Φ:=λ_=>True) (s:=s) (m:=j.2) ⟨ag.1,af⟩ trivial;have eP:aS (j.2+1)=j.2+1:=by rw [cP]; omega
   rw [eP];refine .aC wS λ_ _=>.aC (Ξ:=λ_=>True) (Tot.bC (λ_=>.al trivial) (λ_=>.al trivial)) λ_ _=>.aC wS λ_ _=>.aC (Ξ:=λ_=>True) (Tot.bC (λ_=>.al trivial) (λ_=>.al trivial)) λ_ _=>Tot.bC (λ_=>.al trivial) (λ_=>.al ?_);show ((0:Int)<=j.2+1/\j.2+1<=s.size)/\j.2<j.2+1/\j.2+1<=s.size; omega
def lx (x:Sym):Prop:=x.Lit=true->x.Name.size=1
structure Lu (d:Decl):Prop where
 tag:d.Tag.size<=1000
 n:d.eJ.length<=1000
 syms:∀ x∈d.eJ,j6 x.Lit x.Name
structure yf (a:Alt):Prop where
 n:a.Parts.length<=1000
 parts:∀ p∈a.Parts,j6 p.Sym.Lit p.Sym.Name/\p.Code.size<=1000
 prec:j6 a.Prec.Lit a.Prec.Name
structure Rx (r:fP):Prop where
 left:j6 false r.Left
 n:r.fm.length<=1000
 alts:∀ a∈r.fm,yf a
structure s7 (s:Source):Prop where
 Zd:s.ca.size<=hb
 yP:s.Decls.length<=1000
 decls:∀ d∈s.Decls,Lu d
 aN:s.ef.length<=1000
 rules:∀ r∈s.ef,Rx r
theorem t123 (x:Sym) (a b:Bool) (h:x.Name.size<=hb):Tot (tY x a b) λr=>r=true->lx x:=by
 unfold tY;refine Tot.bC (λah=>?_) (λah=>?_)
 ·refine Tot.aC (Ξ:=λc=>c=false->x.Name.size=1) ?_ λc aa=>Tot.bC (λ_=>.al λh=>by cases h) (λaf=>?_)
  ·refine Tot.bC (λ_=>.al λh=>by cases h) (λ_=>Tot.oJ (λ_=>.al λh=>by cases h) (λh1=>.al λ_=>by omega))
  ·have h1:=aa af;refine .aC (Ξ:=λ_=>True) (Tot.nC (by omega) trivial) λ_ _=>.aC (t135 _) λ_ _=>.al λ_ _=>h1
 ·have dD:lx x:=λh=>by rw [ah] at h; cases h
  refine Tot.aC (Ξ:=λ_=>True) ?_ λc aa=>.al λ_=>dD;refine .aC (t102 _ h) λc _=>?_
  repeat' first | refine Tot.bC (λ_=>?_) (λ_=>?_) | exact Tot.al trivial
theorem t101 (d:Decl) (h:Lu d):Tot (xE d) λr=>r=true->∀ x∈d.eJ,lx x:=by
 unfold xE;refine Tot.aC (Ξ:=λ_=>True) ?_ λc _=>Tot.bC (λ_=>.al λh=>by cases h) (λ_=>?_)
 ·have au:=(t102 _ (Nat.le_trans h.tag (by decide))).use (Φ:=λ_=>True) λ_ _=>trivial
  repeat' first | refine Tot.bC (λ_=>?_) (λ_=>?_) | exact Tot.al trivial | refine .aC au λ_ _=>?_
 ·refine Tot.aC (Tot.scan d.eJ (λx=>lx x) (λr=>r=false) (by have:=h.n; omega) (λs y aI h1 hi hm=>?_) (λs av=>by simp [av])) λx J=>?_
  ·refine Tot.bA (λ_=>?_) (λh=>absurd h1 h);rw [hi];refine Tot.sm ?_;refine .aC (t123 _ _ _ (h.syms _ hm).1) λc aa=>Tot.bC (λ_=>.al rfl) (λaf=>.al ⟨?_,aa (by simpa using af)⟩);have:=h.n;rw [cP]; omega
  ·rcases x with _ | r
   ·exact .al λ_=>J
   ·exact .al λh=>by have:r=false:=J; rw [this] at h; cases h
theorem t103 (a:Alt) (h:yf a):Tot (xF a) λr=>r=true->(∀ p∈a.Parts,lx p.Sym)/\lx a.Prec:=by
 unfold xF;refine Tot.aC (Tot.scan a.Parts (λp=>lx p.Sym) (λr=>r=false) (by have:=h.n; omega) (λs y aI h1 hi hm=>?_) (λs av=>by simp [av])) λx J=>?_
 ·refine Tot.bA (λ_=>?_) (λh=>absurd h1 h);rw [hi];refine Tot.sm ?_;have aw:=h.parts _ hm;have t1:=t123 y.Sym false true aw.1.1;have t2:=t125 y.Sym;have QF:=t126 y.Code (Nat.le_trans aw.2 (by decide));have hw:aS (s+1)=s+1:=by have:=h.n; rw [cP]; omega
  rw [hw];have n118:(y.Sym.Name=⟨#[]⟩/\y.Sym.Lit=false)->lx y.Sym:=λh ah=>by rw [h.2] at ah; cases ah
  refine Tot.aC (Ξ:=λc=>c=false->lx y.Sym) ?_ λc aa=>Tot.bC (λ_=>.al rfl) (λaf=>.al ⟨rfl,aa af⟩);refine Tot.bA (λ_=>?_) (λcN=>?_)
  ·refine .aC t1 λc aa=>Tot.bC (λ_=>.al λh=>by cases h) (λaf=>?_);have dD:=aa (by simpa using af);refine Tot.bC (λ_=>?_) (λ_=>.al λ_=>dD);refine .aC t2 λc _=>Tot.bC (λ_=>.al λ_=>dD) (λ_=>?_);exact .aC QF λ_ _=>.al λ_=>dD
  ·refine Tot.oJ (λ_=>?_) (λh=>.al λ_=>?_)
   ·refine .aC t2 λc aa=>Tot.bC (λ_=>.al λh=>by cases h) (λaf=>?_);have dD:=n118 (aa (by simpa using af));exact .aC QF λ_ _=>.al λ_=>dD
   ·exact absurd h cN
 ·rcases x with _ | r
  ·have J:∀ p∈a.Parts,lx p.Sym:=J;refine Tot.aC (Ξ:=λc=>c=true->lx a.Prec) ?_ λc aa=>.al λh=>⟨J,aa h⟩;refine .aC (t125 _) λc aa=>Tot.bC (λaf=>.al λ_=>?_) (λ_=>.aC (t123 _ _ _ h.prec.1) λc aa=>.al aa);intro ah; rw [(aa af).2] at ah; cases ah
  ·exact .al λh=>by have:r=false:=J; rw [this] at h; cases h
structure DD (a:Alt):Prop where
 parts:∀ p∈a.Parts,lx p.Sym
 prec:lx a.Prec
structure LQ (s:Source):Prop where
 decls:∀ d∈s.Decls,∀ x∈d.eJ,lx x
 rules:∀ r∈s.ef,∀ a∈r.fm,DD a
 pos:0<s.ef.length
theorem t72 (s:Source) (h:s7 s):Tot (xP s) λr=>r=true->LQ s:=by
 unfold xP;refine Tot.aC (Ξ:=iI (λ_=>True) (λr=>r=false)) ?_ λx J=>?_
 ·have aw:(s.ca.size:Int)<=1000:=by have:=h.Zd; simp only [hb] at this; omega
  refine Tot.count (λj=>j) s.ca.size (λj=>0<=j/\j<=s.ca.size) ⟨by omega,by omega⟩ (by show (s.ca.size:Int) - 0<_; omega) λj ag=>?_;have bP:aS (j+1)=j+1:=by rw [cP]; omega
  have cu:aS (j+2)=j+2:=by rw [cP]; omega
  rw [bP,cu];refine Tot.bA (λaf=>?_) (λ_=>.al trivial);refine .aC (Ξ:=λ_=>True) (Tot.cut (by omega) trivial) λ_ _=>Tot.bC (λ_=>.al rfl) (λ_=>.al ?_);show ((0:Int)<=j+1/\j+1<=s.ca.size)/\j<j+1/\j+1<=s.ca.size; omega
 ·rcases x with _ | r
  ·refine Tot.aC (Tot.scan s.Decls (λd=>∀ x∈d.eJ,lx x) (λr=>r=false) (by have:=h.yP; omega) (λi y aI h1 hi hm=>?_) (λs av=>by simp [av])) λx J=>?_
   ·refine Tot.bA (λ_=>?_) (λh=>absurd h1 h);rw [hi];refine Tot.sm ?_;refine .aC (t101 _ (h.decls _ hm)) λc aa=>Tot.bC (λ_=>.al rfl) (λaf=>.al ⟨?_,aa (by simpa using af)⟩);have:=h.yP;rw [cP]; omega
   ·rcases x with _ | r
    ·have J:∀ d∈s.Decls,∀ x∈d.eJ,lx x:=J;refine Tot.aC (Tot.scan s.ef (λr=>∀ a∈r.fm,DD a) (λr=>r=false) (by have:=h.aN; omega) (λi y aI h1 hi hm=>?_) (λs av=>by simp [av])) λx gC=>?_
     ·refine Tot.bA (λ_=>?_) (λh=>absurd h1 h);rw [hi];refine Tot.sm ?_;have ak:=h.rules _ hm;have hw:aS (i+1)=i+1:=by have:=h.aN; rw [cP]; omega
      rw [hw];refine .aC (Ξ:=λ_=>True) (.aC (t102 _ ak.left.1) λc _=>Tot.bC (λ_=>.al trivial) (λ_=>.al trivial)) λc _=>Tot.bC (λ_=>.al rfl) (λ_=>?_);refine Tot.aC (Tot.scan y.fm DD (λr=>r=false) (by have:=ak.n; omega) (λk a aI h1 hi hm=>?_) (λs av=>by simp [av])) λx kz=>?_
      ·refine Tot.bA (λ_=>?_) (λh=>absurd h1 h);rw [hi];refine Tot.sm ?_;refine .aC (t103 _ (ak.alts _ hm)) λc aa=>Tot.bC (λ_=>.al rfl) (λaf=>.al ⟨?_,⟨(aa (by simpa using af)).1,(aa (by simpa using af)).2⟩⟩);have:=ak.n;rw [cP]; omega
      ·rcases x with _ | r
       ·exact .al ⟨rfl,kz⟩
       ·exact .al kz
     ·rcases x with _ | r
      ·exact .al λh=>⟨J,gC,by have:=of_decide_eq_true h; omega⟩
      ·exact .al λh=>by have:r=false:=gC; rw [this] at h; cases h
    ·exact .al λh=>by have:r=false:=J; rw [this] at h; cases h
  ·exact .al λh=>by have:r=false:=J; rw [this] at h; cases h
abbrev e':=de
structure ra (m bn:e'):Prop where
 g:bn.az=m.az
 gg:bn.cg=m.cg
 ty:bn.cx=m.cx
 eY:bn.bX=m.bX
 jl:bn.b_=m.b_
 gR:bn.bU=m.bU
theorem t74 (m:e') (a:Int) (n:ByteArray):Tot (nm m a n) λbn=>ra m bn/\bn.cM≠0:=by
 unfold nm;apply Tot.bi;refine Tot.bA (λ_=>.al (.al ⟨⟨rfl,rfl,rfl,rfl,rfl,rfl⟩,?_⟩)) (λh=>.al (.al ⟨⟨rfl,rfl,rfl,rfl,rfl,rfl⟩,h⟩))
 grind
theorem t78 (m:e') (n:ByteArray) (h:m.cx.length<=kP):Tot (zR m n) λr=>r=-1\/(0<=r/\r<m.cx.length):=by
 unfold zR;simp only [kP] at h;refine Tot.aC (Tot.scan m.cx (λ_=>True) (λr:Int=>0<=r/\r<m.cx.length) (by omega) (λs y aI h1 hi hm=>?_) (λs av=>by simp [av])) λx J=>?_
 ·refine Tot.bA (λ_=>?_) (λh=>absurd h1 h);rw [hi];refine Tot.sm ?_;refine Tot.bC (λ_=>.al ⟨aI,h1⟩) (λ_=>.al ⟨?_,trivial⟩)
  grind [cP]
 ·rcases x with _ | r
  ·exact .al (.inl rfl)
  ·exact .al (.inr J)
theorem t76 (m:e') (n:ByteArray) (h:m.bX.length<=kP):Tot (sO m n) λr=>(r=-1/\∀ x∈m.bX,x≠n)\/(0<=r/\r<m.bX.length/\m.bX[r.toNat]?=some n):=by
 unfold sO;simp only [kP] at h;refine Tot.aC (Tot.scan m.bX (λx=>x≠n) (λr:Int=>0<=r/\r<m.bX.length/\m.bX[r.toNat]?=some n) (by omega) (λs y aI h1 hi hm=>?_) (λs av=>by simp [av])) λx J=>?_
 ·refine Tot.bA (λ_=>?_) (λh=>absurd h1 h);rw [hi];refine Tot.sm ?_;refine Tot.bA (λe=>.al ⟨aI,h1,by rw [<- e]; exact (qO hi).2.2⟩) (λe=>.al ⟨?_,e⟩)
  grind [cP]
 ·rcases x with _ | r
  ·exact .al (.inl ⟨rfl,J⟩)
  ·exact .al (.inr J)
theorem t75 (m:e') (x:Sym) (h:m.az.aX.length<=kP):Tot (ua m x) λr=>r=-1\/(1<=r/\r<m.az.aX.length):=by
 unfold ua;simp only [kP] at h;refine Tot.aC (Ξ:=iI (λ_=>True) (λr=>1<=r/\r<m.az.aX.length)) ?_ λx J=>?_
 ·refine Tot.count (λj=>j) m.az.aX.length (λj=>1<=j) (by omega) (by show (m.az.aX.length:Int) - 1<_; omega) λj ag=>?_;refine Tot.bA (λaf=>?_) (λ_=>.al trivial);have e:aS (j+1)=j+1:=by rw [cP]; omega
  rw [e];refine .aC (Ξ:=λ_=>True) ?_ λc _=>Tot.bC (λ_=>.al ⟨ag,af⟩) (λ_=>.al ?_)
  ·refine .aC (Ξ:=λ_=>True) (Tot.gX (by omega) af λ_ _ _=>trivial) λ_ _=>Tot.bC (λ_=>?_) (λ_=>.al trivial);exact .aC (Ξ:=λ_=>True) (Tot.gX (by omega) af λ_ _ _=>trivial) λ_ _=>Tot.bC (λ_=>.al trivial) (λ_=>.al trivial)
  grind
 ·rcases x with _ | r
  ·exact .al (.inl rfl)
  ·exact .al (.inr J)
theorem t105 (m:e') (n:Int) (h:m.az.aX.length<=kP):Tot (vy m n) λ_=>True:=by
 unfold vy;simp only [kP] at h;refine Tot.aC (Ξ:=λ_=>True) ?_ λx J=>?_
 ·refine Tot.count (λj=>j) m.az.aX.length (λj=>1<=j) (by decide) (by show (m.az.aX.length:Int) - 3<_; omega) λj ag=>?_;refine Tot.bA (λaf=>?_) (λ_=>.al trivial);have e:aS (j+1)=j+1:=by rw [cP]; omega
  rw [e];refine .aC (Ξ:=λ_=>True) (Tot.gX (by omega) af λ_ _ _=>trivial) λc _=>Tot.bC (λ_=>.al trivial) (λ_=>.al ?_)
  grind
 ·rcases x with _ | r <;> exact .al trivial
structure Grow (m bn:e') (k:Nat):Prop where
 gg:bn.cg.length=bn.az.aX.length
 lo:m.az.aX.length<=bn.az.aX.length
 hi:bn.az.aX.length<=m.az.aX.length+k
 ty:bn.cx.length<=m.cx.length+k
 eY:bn.bX=m.bX
 gN:bn.az.a8=m.az.a8
 gR:bn.bU=m.bU
 lvl:bn.b_=m.b_
 jl:0<=m.b_->(∀ t∈m.az.aX,0<=t.Level)->∀ t∈bn.az.aX,0<=t.Level
theorem ra.grow {m bn:e'}(h:ra m bn) (aL:m.cg.length=m.az.aX.length) (k:Nat):Grow m bn k:=by
 obtain ⟨h1,af,aF,bk,b2,du⟩:=h;exact ⟨by rw [h1,af]; exact aL,by rw [h1]; omega,by rw [h1]; omega,by rw [aF]; omega,bk,by rw [h1],du,b2,by rw [h1]; exact λ_ h=>h⟩
theorem t104 (m:e') (x:Sym) (aL:m.cg.length=m.az.aX.length) (h:m.az.aX.length<=100000000000) (J:lx x) :
  Tot (vx m x) λr=>Grow m r.2 1/\0<=r.1/\r.1<r.2.az.aX.length:=by
 unfold vx;refine .aC (t75 m x (by simp only [kP]; omega)) λt au=>Tot.bA (λaI=>.al ⟨⟨aL,Nat.le_refl _,Nat.le_succ _,Nat.le_succ _,rfl,rfl,rfl,rfl,λ_ h=>h⟩,aI,?_⟩) (λ_=>?_)
 ·grind
 ·refine Tot.aC (Ξ:=λj=>ra m j.1) ?_ λj ag=>?_
  ·refine Tot.bC (λah=>?_) (λ_=>.al ⟨rfl,rfl,rfl,rfl,rfl,rfl⟩);have:=J ah;refine .aC (Ξ:=λ_=>True) (Tot.nC (by omega) trivial) λb _=>.aC (t105 m _ (by simp only [kP]; omega)) λo _=>?_;refine Tot.aC (Ξ:=λj=>ra m j) ?_ λj ag=>.al ag;exact Tot.bC (λ_=>.aC (t74 m _ _) λbn hm=>.al hm.1) (λ_=>.al ⟨rfl,rfl,rfl,rfl,rfl,rfl⟩)
  ·obtain ⟨h1,af,aF,bk,b2,du⟩:=ag;have aK:j.1.az.aX.length=m.az.aX.length:=by rw [h1]
   have Wv:j.1.cg.length=m.cg.length:=by rw [af]
   refine .aC (Ξ:=λ_=>True) (Tot.ap (by rw [aK]; simp [lim]; omega) trivial) λ_ _=>.aC (Ξ:=λ_=>True) (Tot.ap (by rw [Wv]; simp [lim]; omega) trivial) λ_ _=>.al ?_;refine ⟨⟨?_,?_,?_,?_,bk,by show j.1.az.a8=_; rw [h1],du,b2,?_⟩,?_,?_⟩
   all_goals grind [cP]
structure nz (m bn:e'):Prop where
 tk:bn.az.aX.length=m.az.aX.length
 gg:bn.cg.length=m.cg.length
 ty:bn.cx=m.cx
 eY:bn.bX=m.bX
 gN:bn.az.a8=m.az.a8
 gR:bn.bU=m.bU
 lvl:bn.b_=m.b_
 jl:0<=m.b_->(∀ t∈m.az.aX,0<=t.Level)->∀ t∈bn.az.aX,0<=t.Level
theorem nz.refl (m:e'):nz m m:=⟨rfl,rfl,rfl,rfl,rfl,rfl,rfl,λ_ h=>h⟩
theorem nz.trans {m bn Cm:e'}(h:nz m bn) (aR:nz bn Cm):nz m Cm:=⟨aR.tk.trans h.tk,aR.gg.trans h.gg,aR.ty.trans h.ty,aR.eY.trans h.eY,aR.gN.trans h.gN,aR.gR.trans h.gR,aR.lvl.trans h.lvl,λaI ah=>aR.jl (by rw [h.lvl]; exact aI) (h.jl aI ah)⟩
theorem ra.tk {m bn:e'}(h:ra m bn):nz m bn:=⟨by rw [h.g],by rw [h.gg],h.ty,h.eY,by rw [h.g],h.gR,h.jl,by rw [h.g]; exact λ_ h=>h⟩
theorem Grow.tk {m bn Cm:e'}{k:Nat}(h:Grow m bn k) (aR:nz bn Cm):Grow m Cm k :=
 ⟨by rw [aR.gg,aR.tk]; exact h.gg,by rw [aR.tk]; exact h.lo,by rw [aR.tk]; exact h.hi,by rw [aR.ty]; exact h.ty,aR.eY.trans h.eY,aR.gN.trans h.gN,aR.gR.trans h.gR,aR.lvl.trans h.lvl,λaI ah=>aR.jl (by rw [h.lvl]; exact aI) (h.jl aI ah)⟩
theorem O' {α:Type}{l:List α}{i:Nat}{x y:α}(h:y∈l.set i x):y∈l\/y=x:=List.mem_or_eq_of_mem_set h
theorem t73 (m:e') (d:Decl) (x:Sym) (aL:m.cg.length=m.az.aX.length) (h:m.az.aX.length<=100000000000) (au:m.cx.length<=100000000000) (J:lx x) :
  Tot (vE m d x) λbn=>Grow m bn 1:=by
 unfold vE;refine Tot.bC (λ_=>?_) (λ_=>?_)
 ·refine .aC (t78 m x.Name (by simp only [kP]; omega)) λk hk=>Tot.aC (Ξ:=λbn=>Grow m bn 1) ?_ λbn hm=>.al hm;refine Tot.bA (λ_=>?_) (λaI=>?_)
  ·refine .aC (Ξ:=λ_=>True) (Tot.ap (by simp [lim]; omega) trivial) λ_ _=>.al ⟨aL,Nat.le_refl _,Nat.le_succ _,?_,rfl,rfl,rfl,rfl,λ_ h=>h⟩
   grind
  ·refine .aC (Ξ:=λ_=>True) (Tot.gX (by omega) (by omega) λ_ _ _=>trivial) λ_ _=>Tot.aC (Ξ:=λbn=>Grow m bn 1) ?_ λbn hm=>.al hm;exact Tot.bC (λ_=>.aC (t74 m _ _) λbn hm=>.al (hm.1.grow aL 1)) (λ_=>.al ⟨aL,Nat.le_refl _,Nat.le_succ _,Nat.le_succ _,rfl,rfl,rfl,rfl,λ_ h=>h⟩)
 ·refine .aC (t104 m x aL h J) λr ⟨ak,aI,h1⟩=>?_;have gX:∀ {bn:e'},nz r.2 bn->Tot (idx bn.az.aX r.1) λy=>y∈bn.az.aX:=λhm=>Tot.gX aI (by rw [hm.tk]; exact h1) λ_ _ h=>h;have OQ:∀ {bn:e'},nz r.2 bn->Tot (idx bn.cg r.1) λ_=>True:=λhm=>Tot.gX aI (by rw [hm.gg,ak.gg]; exact h1) λ_ _ _=>trivial;refine .aC (gX (.refl _)) λy _=>?_;refine Tot.aC (Ξ:=λbn=>nz r.2 bn) ?_ λfe lB=>?_
  ·refine Tot.bC (λ_=>?_) (λ_=>.al (.refl _));refine Tot.aC (Ξ:=λbn=>nz r.2 bn) ?_ λc6 uO=>?_
   ·exact Tot.bC (λ_=>.aC (t74 r.2 _ _) λbn hm=>.al ⟨rfl,hm.1.tk.gg,hm.1.tk.ty,hm.1.tk.eY,hm.1.tk.gN,hm.1.tk.gR,hm.1.tk.lvl,λ_ h=>h⟩) (λ_=>.al (.refl _))
   ·refine .aC (gX uO) λ_ _=>.al (uO.trans ⟨?_,rfl,rfl,rfl,rfl,rfl,rfl,λah au t br=>?_⟩)
    ·grind
    grind
  ·refine .aC (gX lB) λ_ _=>?_;refine Tot.aC (Ξ:=λbn=>nz r.2 bn) ?_ λeM uP=>?_
   ·refine Tot.bC (λ_=>?_) (λ_=>.al lB);refine .aC (Ξ:=λ_=>True) ?_ λc _=>?_
    ·refine Tot.bC (λ_=>.al trivial) (λ_=>.aC (OQ lB) λ_ _=>Tot.bC (λ_=>.al trivial) (λ_=>.aC (t105 fe _ ?_) λ_ _=>.al trivial));have:=lB.tk;have:=ak.hi
     grind
    ·refine Tot.aC (Ξ:=λbn=>nz r.2 bn) ?_ λdE tm=>?_
     ·exact Tot.bC (λ_=>.aC (t74 fe _ _) λbn hm=>.al (lB.trans ⟨rfl,hm.1.tk.gg,hm.1.tk.ty,hm.1.tk.eY,hm.1.tk.gN,hm.1.tk.gR,hm.1.tk.lvl,λ_ h=>h⟩)) (λ_=>.al lB)
     ·refine .aC (gX tm) λy ai=>.aC (OQ tm) λ_ _=>.al (tm.trans ⟨?_,?_,rfl,rfl,rfl,rfl,rfl,λah au t br=>?_⟩)
      all_goals grind
   ·refine .aC (gX uP) λ_ _=>?_;refine Tot.aC (Ξ:=λbn=>nz r.2 bn) ?_ λo0 HW=>.al (ak.tk HW);refine Tot.bC (λ_=>?_) (λ_=>.al uP);refine .aC (Ξ:=λ_=>True) (Tot.bC (λ_=>.al trivial) (λ_=>.al trivial)) λc _=>?_;refine Tot.aC (Ξ:=λbn=>nz r.2 bn) ?_ λkd Bb=>?_
    ·exact Tot.bC (λ_=>.aC (t74 eM _ _) λbn hm=>.al (uP.trans ⟨rfl,hm.1.tk.gg,hm.1.tk.ty,hm.1.tk.eY,hm.1.tk.gN,hm.1.tk.gR,hm.1.tk.lvl,λ_ h=>h⟩)) (λ_=>.al uP)
    ·refine .aC (gX Bb) λy ai=>.al (Bb.trans ⟨?_,rfl,rfl,rfl,rfl,rfl,rfl,λah au t br=>?_⟩)
     ·grind
     grind
def oE (T:Nat) (N:Int) (s:Int):Prop:=(0<=s/\s<T)\/(1000<=s/\s<=1000+N)
theorem oE.mono {T T':Nat}{N j5 s:Int}(h:oE T N s) (c0:T<=T') (bc:N<=j5):oE T' j5 s:=by
 rcases h with h | h
 ·exact .inl (by omega)
 ·exact .inr (by omega)
theorem t106 (m:e') (x:Sym) (aL:m.cg.length=m.az.aX.length) (aF:3<=m.az.aX.length) (h:m.az.aX.length<=100000000000) (ah:m.bX.length<=100000000000) (J:lx x) :
  Tot (sN m x) λr=>Grow m r.2 1/\oE r.2.az.aX.length m.bX.length r.1:=by
 unfold sN;have nM:Grow m m 1:=⟨aL,Nat.le_refl _,Nat.le_succ _,Nat.le_succ _,rfl,rfl,rfl,rfl,λ_ h=>h⟩;refine Tot.bC (λ_=>?_) (λ_=>?_)
 ·exact .aC (t104 m x aL h J) λr ⟨ak,aI,h1⟩=>.al ⟨ak,.inl ⟨aI,h1⟩⟩
 ·refine .aC (t76 m x.Name (by simp only [kP]; omega)) λk hk=>Tot.bA (λaI=>.al ⟨nM,.inr ?_⟩) (λ_=>?_)
  ·grind [cP]
  ·refine .aC (t75 m x (by simp only [kP]; omega)) λt au=>Tot.bA (λ_=>?_) (λaI=>.al ⟨nM,.inl ?_⟩)
   ·refine .aC (t74 m _ _) λbn hm=>.al ⟨hm.1.grow aL 1,.inl ⟨Int.le_refl 0,?_⟩⟩;show (0:Int)<(bn.az.aX.length:Int);rw [hm.1.g];omega
   grind
end Go.Proofs
