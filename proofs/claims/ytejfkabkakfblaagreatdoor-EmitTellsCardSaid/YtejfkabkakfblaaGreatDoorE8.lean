import Derived.ProofKit
import Derived.RowKit3
import Derived.Test.YtejfkabkakfblaaGreatDoorE7
namespace Go.Own
open Go Go.ChangeShapes Go.WideShapes Go.ChangeAt Go.RowKit
variable {H:Type}{enc:TypeId × Value->H}{P:Program}
theorem Yw {f:Func}{s:ChangeSpec}{apart fresh handsOn again:Bool}{W wx:World}{args:Array Value}{v:Value}{jC gs:List (DataW H)}{before lJ pv:List MemPlace}
  (y9:DataW.Whole enc P f.params.toList s.vars apart W args.toList jC gs before) (hk:Lf W wx) (qb:before=lJ++pv)
  (zo:∀ (b:Nat) (sp:Nat->Bool) (aP:Bool),DataW.TrodAll enc P wx b sp aP f.resultTypes.toList (v.resultList f.resultTypes.size) (s.fn H (jC++gs)).results [])
  (oD:∀ sp:Nat->Bool,(∀ p∈before,sp p.block=true)->DataW.TrodAll enc P wx 0 sp true f.params.toList args.toList (s.fn H (jC++gs)).args lJ)
  (NY:∀ sp:Nat->Bool,(∀ p∈before,sp p.block=true)->DataW.TrodVars enc P wx sp s.vars (s.fn H (jC++gs)).vars pv)
  (da:∀ (J:Nat) (t:TypeId) (r:Value),f.resultTypes[J]?=some t->(v.resultList f.resultTypes.size)[J]?=some r->Value.okWide P wx .any 0 t r) :
  s.post enc P f apart fresh handsOn again W args v wx:=by
 subst qb;have aQ:∀ p∈lJ++pv,p.block<W.heap.size:=λp au=>y9.lt p au;have mw:∀ p∈lJ++pv,(λb=>decide (b<W.heap.size)) p.block=true:=λp au=>decide_eq_true (aQ p au);have UX:=y9;obtain ⟨_,_,_,_,_,aW,aA⟩:=UX;have ar:=trodAll_append (oD (λ_=>true) (λ_ _=>rfl)) (zo 0 (λ_=>true) true);refine ⟨jC,gs,lJ++pv,[],lJ,pv,y9,zo _ _ _,oD _ mw,NY _ mw,hk.kept _,λ_=>⟨da,_,_,lJ++pv,⟨_,pv,ar,NY _ (λ_ _=>rfl),rfl,λb off au=>?_,aA⟩,λp au _=>au⟩⟩;rw [hk.dG _ (aQ _ au)];exact aW b off au
end Go.Own
namespace Go.Proofs
open Tryz
open Go Go.Own
set_option maxRecDepth 100000
theorem ZW:prog.underlying 3=some (.int .i64):=by kernel_rfl
theorem ZV:prog.underlying 4=some .bool:=by kernel_rfl
theorem ZY:prog.underlying 9=some .string:=by kernel_rfl
def nL (n:Int):Prop:=(Lit.int .i64 n).wf=true
def okB (_:Bool):Prop:=True
def lf (s:ByteArray):Prop:=s.size<=maxLen
def nM {α:Type}(p:α->Prop) (l:List α):Prop:=l.length<=maxLen/\∀ x∈l,p x
def Ct (x:Sym):Prop:=lf x.Name/\okB x.Lit/\nL x.bK/\nL x.At/\True
def J2 (x:Part):Prop:=Ct x.Sym/\lf x.Code/\nL x.At/\True
def J0 (x:Alt):Prop:=nM J2 x.Parts/\Ct x.Prec/\nL x.At/\True
def J3 (x:fc):Prop:=lf x.Left/\nM J0 x.eJ/\nL x.At/\True
def J1 (x:Decl):Prop:=nL x.Kind/\lf x.Tag/\nM Ct x.ey/\nL x.At/\True
def X6 (x:Source):Prop:=lf x.b5/\nM J1 x.Decls/\nM J3 x.dF/\lf x.b'/\True
def X5 (x:pR):Prop:=nL x.bX/\nM (nM nL) x.dF/\nM nL x.qC/\nM nL x.m'/\okB x.si/\True
theorem tz:hZ prog ax 3 nL:=.int ZW (by kernel_rfl) λ_=>rfl
theorem Lx:hZ prog cj 4 okB:=.bool ZV (by kernel_rfl) λ_=>rfl
theorem yK:hZ prog cI 9 lf:=.str ZY (by kernel_rfl) λ_=>rfl
theorem ZX:prog.underlying 22=some (.slice 3):=by kernel_rfl
theorem Gt:hZ prog (bG ax) 22 (nM nL):=tz.slice (t:=22) ZX (by kernel_rfl) (by decide)
theorem Rn:hZ prog (bG (bG ax)) 33 (nM (nM nL)):=Gt.slice (t:=33) (by kernel_rfl) (by kernel_rfl) (by decide)
theorem Gu:hZ prog dN 62 Ct:=.struct (t:=62) (.cons yK (.cons Lx (.cons tz (.cons tz .nil)))) (λb=>(⟨b.1,b.2.1,b.2.2.1,b.2.2.2.1⟩:Sym)) (λx=>(x.Name,x.Lit,x.bK,x.At,())) (λ_=>rfl) (λ_=>rfl) (by kernel_rfl) (by kernel_rfl)
theorem Rp:hZ prog fE 67 J2:=.struct (t:=67) (.cons Gu (.cons yK (.cons tz .nil))) (λb=>(⟨b.1,b.2.1,b.2.2.1⟩:Part)) (λx=>(x.Sym,x.Code,x.At,())) (λ_=>rfl) (λ_=>rfl) (by kernel_rfl) (by kernel_rfl)
theorem Rq:hZ prog (bG fE) 68 (nM J2):=Rp.slice (by kernel_rfl) (by kernel_rfl) (by decide)
theorem Ri:hZ prog fp 70 J0:=.struct (t:=70) (.cons Rq (.cons Gu (.cons tz .nil))) (λb=>(⟨b.1,b.2.1,b.2.2.1⟩:Alt)) (λx=>(x.Parts,x.Prec,x.At,())) (λ_=>rfl) (λ_=>rfl) (by kernel_rfl) (by kernel_rfl)
theorem Rj:hZ prog (bG fp) 63 (nM J0):=Ri.slice (by kernel_rfl) (by kernel_rfl) (by decide)
theorem Rr:hZ prog iv 65 J3:=.struct (t:=65) (.cons yK (.cons Rj (.cons tz .nil))) (λb=>(⟨b.1,b.2.1,b.2.2.1⟩:fc)) (λx=>(x.Left,x.eJ,x.At,())) (λ_=>rfl) (λ_=>rfl) (by kernel_rfl) (by kernel_rfl)
theorem Rs:hZ prog (bG iv) 30 (nM J3):=Rr.slice (by kernel_rfl) (by kernel_rfl) (by decide)
theorem Ru:hZ prog (bG dN) 57 (nM Ct):=Gu.slice (by kernel_rfl) (by kernel_rfl) (by decide)
theorem Rk:hZ prog dJ 59 J1:=.struct (t:=59) (.cons tz (.cons yK (.cons Ru (.cons tz .nil)))) (λb=>(⟨b.1,b.2.1,b.2.2.1,b.2.2.2.1⟩:Decl)) (λx=>(x.Kind,x.Tag,x.ey,x.At,())) (λ_=>rfl) (λ_=>rfl) (by kernel_rfl) (by kernel_rfl)
theorem Rl:hZ prog (bG dJ) 29 (nM J1):=Rk.slice (by kernel_rfl) (by kernel_rfl) (by decide)
def TC:bz Source:=⟨4,λx=>[aw x.b5,ak dJ x.Decls,ak iv x.dF,aw x.b'],λ_=>rfl,λ_=>dj.bj⟩
theorem PH:Aj prog 32 [9,29,30,9]=true:=by kernel_rfl
theorem Rt:hZ prog TC 32 X6:=.struct (t:=32) (.cons yK (.cons Rl (.cons Rs (.cons yK .nil)))) (λb=>(⟨b.1,b.2.1,b.2.2.1,b.2.2.2.1⟩:Source)) (λx=>(x.b5,x.Decls,x.dF,x.b',())) (λ_=>rfl) (λ_=>rfl) PH (by kernel_rfl)
def TB:bz pR:=⟨5,λx=>[ae x.bX,ak (bG ax) x.dF,ak ax x.qC,ak ax x.m',bc x.si],λ_=>rfl,λ_=>dj.bj⟩
theorem PG:Aj prog 35 [3,33,22,22,4]=true:=by kernel_rfl
theorem Rm:hZ prog TB 35 X5:=.struct (t:=35) (.cons tz (.cons Rn (.cons Gt (.cons Gt (.cons Lx .nil))))) (λb=>(⟨b.1,b.2.1,b.2.2.1,b.2.2.2.1,b.2.2.2.2.1⟩:pR)) (λx=>(x.bX,x.dF,x.qC,x.m',x.si,())) (λ_=>rfl) (λ_=>rfl) PG (by kernel_rfl)
theorem nL.le {n:Int}(h:nL n):-9223372036854775808<=n/\n<=9223372036854775807:=by
 have h:IntKind.min .i64<=n/\n<=IntKind.max .i64:=by simpa [nL,Lit.wf] using h
 simpa [IntKind.min,IntKind.max,IntKind.signed,IntKind.bits] using h
theorem Yi:laidOutB prog=true:=by kernel_rfl
theorem Yj:mapsRowed prog=true:=by kernel_rfl
theorem Yh:((List.range prog.types.size).all λt=>match prog.underlying t with | some (.slice e)=>decide (0<prog.cellsOf e) | _=>true)=true:=by kernel_rfl
end Go.Proofs
