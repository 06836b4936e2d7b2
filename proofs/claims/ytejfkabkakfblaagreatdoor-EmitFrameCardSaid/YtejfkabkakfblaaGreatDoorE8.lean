import Derived.ProofKit
import Derived.RowKit3
import Derived.Test.YtejfkabkakfblaaGreatDoorE7
namespace Go.Own
open Go Go.ChangeShapes Go.WideShapes Go.ChangeAt Go.RowKit
variable {H:Type}{enc:TypeId × Value->H}{P:Program}
theorem Yy {f:Func}{s:ChangeSpec}{apart fresh handsOn again:Bool}{W wB:World}{args:Array Value}{v:Value}{jC gs:List (DataW H)}{before lE pv:List MemPlace}
  (za:DataW.Whole enc P f.params.toList s.vars apart W args.toList jC gs before) (hk:Lc W wB) (p_:before=lE++pv)
  (zp:∀ (b:Nat) (sp:Nat->Bool) (aP:Bool),DataW.TrodAll enc P wB b sp aP f.resultTypes.toList (v.resultList f.resultTypes.size) (s.fn H (jC++gs)).results [])
  (oA:∀ sp:Nat->Bool,(∀ p∈before,sp p.block=true)->DataW.TrodAll enc P wB 0 sp true f.params.toList args.toList (s.fn H (jC++gs)).args lE)
  (N8:∀ sp:Nat->Bool,(∀ p∈before,sp p.block=true)->DataW.TrodVars enc P wB sp s.vars (s.fn H (jC++gs)).vars pv)
  (cX:∀ (J:Nat) (t:TypeId) (r:Value),f.resultTypes[J]?=some t->(v.resultList f.resultTypes.size)[J]?=some r->Value.okWide P wB .any 0 t r) :
  s.post enc P f apart fresh handsOn again W args v wB:=by
 subst p_;have aT:∀ p∈lE++pv,p.block<W.heap.size:=λp au=>za.lt p au;have mm:∀ p∈lE++pv,(λb=>decide (b<W.heap.size)) p.block=true:=λp au=>decide_eq_true (aT p au);have UN:=za;obtain ⟨_,_,_,_,_,aW,aA⟩:=UN;have aq:=trodAll_append (oA (λ_=>true) (λ_ _=>rfl)) (zp 0 (λ_=>true) true);refine ⟨jC,gs,lE++pv,[],lE,pv,za,zp _ _ _,oA _ mm,N8 _ mm,hk.kept _,λ_=>⟨cX,_,_,lE++pv,⟨_,pv,aq,N8 _ (λ_ _=>rfl),rfl,λb off au=>?_,aA⟩,λp au _=>au⟩⟩;rw [hk.dS _ (aT _ au)];exact aW b off au
end Go.Own
namespace Go.Proofs
open Tryz
open Go Go.Own
set_option maxRecDepth 100000
theorem Z1:prog.underlying 3=some (.int .i64):=by kernel_rfl
theorem Z0:prog.underlying 4=some .bool:=by kernel_rfl
theorem KE:prog.underlying 9=some .string:=by kernel_rfl
def sY (n:Int):Prop:=(Lit.int .i64 n).wf=true
def okB (_:Bool):Prop:=True
def n9 (s:ByteArray):Prop:=s.size<=maxLen
def xL {α:Type}(p:α->Prop) (l:List α):Prop:=l.length<=maxLen/\∀ x∈l,p x
def X7 (x:pQ):Prop:=sY x.bY/\xL (xL sY) x.dH/\xL sY x.qE/\xL sY x.mU/\okB x.sk/\True
theorem Ls:kh prog az 3 sY:=.int Z1 (by kernel_rfl) λ_=>rfl
theorem Ro:kh prog cg 4 okB:=.bool Z0 (by kernel_rfl) λ_=>rfl
theorem Lu:kh prog cJ 9 n9:=.str KE (by kernel_rfl) λ_=>rfl
theorem Z2:prog.underlying 22=some (.slice 3):=by kernel_rfl
theorem GD:kh prog (bM az) 22 (xL sY):=Ls.slice (t:=22) Z2 (by kernel_rfl) (by decide)
theorem Rq:kh prog (bM (bM az)) 33 (xL (xL sY)):=GD.slice (t:=33) (by kernel_rfl) (by kernel_rfl) (by decide)
def Tu:bz pQ:=⟨5,λx=>[ae x.bY,ak (bM az) x.dH,ak az x.qE,ak az x.mU,bc x.sk],λ_=>rfl,λ_=>dh.bl⟩
theorem PM:Dg prog 35 [3,33,22,22,4]=true:=by kernel_rfl
theorem Rp:kh prog Tu 35 X7:=.struct (t:=35) (.cons Ls (.cons Rq (.cons GD (.cons GD (.cons Ro .nil))))) (λb=>(⟨b.1,b.2.1,b.2.2.1,b.2.2.2.1,b.2.2.2.2.1⟩:pQ)) (λx=>(x.bY,x.dH,x.qE,x.mU,x.sk,())) (λ_=>rfl) (λ_=>rfl) PM (by kernel_rfl)
theorem sY.le {n:Int}(h:sY n):-9223372036854775808<=n/\n<=9223372036854775807:=by
 have h:IntKind.min .i64<=n/\n<=IntKind.max .i64:=by simpa [sY,Lit.wf] using h
 simpa [IntKind.min,IntKind.max,IntKind.signed,IntKind.bits] using h
theorem Yk:laidOutB prog=true:=by kernel_rfl
theorem Yl:mapsRowed prog=true:=by kernel_rfl
theorem Yj:((List.range prog.types.size).all λt=>match prog.underlying t with | some (.slice e)=>decide (0<prog.cellsOf e) | _=>true)=true:=by kernel_rfl
end Go.Proofs
