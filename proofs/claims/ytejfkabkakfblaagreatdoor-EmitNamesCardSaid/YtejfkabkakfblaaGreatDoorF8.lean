import Derived.ProofKit
import Derived.RowKit3
import Derived.Test.YtejfkabkakfblaaGreatDoorF7
namespace Go.Own
open Go Go.ChangeShapes Go.WideShapes Go.ChangeAt Go.RowKit
variable {H:Type}{enc:TypeId × Value->H}{P:Program}
theorem YK {f:Func}{s:ChangeSpec}{apart fresh handsOn again:Bool}{W wo:World}{args:Array Value}{v:Value}{ds gs:List (DataW H)}{before lD pv:List MemPlace}
  (yT:DataW.Whole enc P f.params.toList s.vars apart W args.toList ds gs before) (hk:KV W wo) (qh:before=lD++pv)
  (y7:∀ (b:Nat) (sp:Nat->Bool) (aP:Bool),DataW.TrodAll enc P wo b sp aP f.resultTypes.toList (v.resultList f.resultTypes.size) (s.fn H (ds++gs)).results [])
  (oH:∀ sp:Nat->Bool,(∀ p∈before,sp p.block=true)->DataW.TrodAll enc P wo 0 sp true f.params.toList args.toList (s.fn H (ds++gs)).args lD)
  (ND:∀ sp:Nat->Bool,(∀ p∈before,sp p.block=true)->DataW.TrodVars enc P wo sp s.vars (s.fn H (ds++gs)).vars pv)
  (cY:∀ (J:Nat) (t:TypeId) (r:Value),f.resultTypes[J]?=some t->(v.resultList f.resultTypes.size)[J]?=some r->Value.okWide P wo .any 0 t r) :
  s.post enc P f apart fresh handsOn again W args v wo:=by
 subst qh;have aR:∀ p∈lD++pv,p.block<W.heap.size:=λp ar=>yT.lt p ar;have mh:∀ p∈lD++pv,(λb=>decide (b<W.heap.size)) p.block=true:=λp ar=>decide_eq_true (aR p ar);have UM:=yT;obtain ⟨_,_,_,_,_,aT,aA⟩:=UM;have al:=trodAll_append (oH (λ_=>true) (λ_ _=>rfl)) (y7 0 (λ_=>true) true);refine ⟨ds,gs,lD++pv,[],lD,pv,yT,y7 _ _ _,oH _ mh,ND _ mh,hk.kept _,λ_=>⟨cY,_,_,lD++pv,⟨_,pv,al,ND _ (λ_ _=>rfl),rfl,λb off ar=>?_,aA⟩,λp ar _=>ar⟩⟩;rw [hk.dN _ (aR _ ar)];exact aT b off ar
end Go.Own
namespace Go.Proofs
open Tryz
open Go Go.Own
set_option maxRecDepth 100000
theorem aag:prog.underlying 4=some .bool:=by kernel_rfl
def okB (_:Bool):Prop:=True
def X9 {α:Type}(p:α->Prop) (l:List α):Prop:=l.length<=maxLen/\∀ x∈l,p x
theorem Q':nJ prog cn 4 okB:=.bool aag (by kernel_rfl) λ_=>rfl
theorem Kn:prog.underlying 56=some (.slice 4):=by kernel_rfl
theorem Lb:nJ prog (bI cn) 56 (X9 okB):=Q'.slice (t:=56) Kn (by kernel_rfl) (by decide)
theorem Yw:laidOutB prog=true:=by kernel_rfl
theorem Yx:mapsRowed prog=true:=by kernel_rfl
theorem Yv:((List.range prog.types.size).all λt=>match prog.underlying t with | some (.slice e)=>decide (0<prog.cellsOf e) | _=>true)=true:=by kernel_rfl
end Go.Proofs
