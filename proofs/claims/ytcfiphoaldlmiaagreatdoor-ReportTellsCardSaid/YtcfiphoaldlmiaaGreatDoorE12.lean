/- Parts of the proof that the last text states. -/
import Derived.KernelRfl
import Derived.Test.YtcfiphoaldlmiaaGreatDoorE11
namespace Go.Proofs
open Tryz
open Go Go.Own
set_option maxRecDepth 100000
theorem ZV:prog.underlying 3=some (.int .i64):=by kernel_rfl
theorem ZU:prog.underlying 4=some .bool:=by kernel_rfl
theorem ZX:prog.underlying 9=some .string:=by kernel_rfl
def nh (n:Int):Prop:=(Lit.int .i64 n).wf=true
def okB (_:Bool):Prop:=True
def kV (s:ByteArray):Prop:=s.size<=maxLen
def ni {α:Type}(p:α->Prop) (l:List α):Prop:=l.length<=maxLen/\∀ x∈l,p x
def Ct (x:Sym):Prop:=kV x.Name/\okB x.Lit/\nh x.bT/\nh x.At/\True
def Ke (x:Part):Prop:=Ct x.Sym/\kV x.Code/\nh x.At/\True
def Kc (x:Alt):Prop:=ni Ke x.Parts/\Ct x.Prec/\nh x.At/\True
def Kf (x:eZ):Prop:=kV x.Left/\ni Kc x.eA/\nh x.At/\True
def Kd (x:Decl):Prop:=nh x.Kind/\kV x.Tag/\ni Ct x.er/\nh x.At/\True
def Yb (x:Source):Prop:=kV x.b_/\ni Kd x.Decls/\ni Kf x.dB/\kV x.ch/\True
def Ya (x:qO):Prop:=nh x.bA/\ni (ni nh) x.dB/\ni nh x.qa/\ni nh x.mG/\okB x.rX/\True
theorem s6:hB prog aY 3 nh:=.int ZV (by kernel_rfl) λ_=>rfl
theorem LM:hB prog cr 4 okB:=.bool ZU (by kernel_rfl) λ_=>rfl
theorem yi:hB prog cQ 9 kV:=.str ZX (by kernel_rfl) λ_=>rfl
theorem ZW:prog.underlying 27=some (.slice 3):=by kernel_rfl
theorem GK:hB prog (b6 aY) 27 (ni nh):=s6.slice (t:=27) ZW (by kernel_rfl) (by decide)
theorem Rm:hB prog (b6 (b6 aY)) 26 (ni (ni nh)):=GK.slice (t:=26) (by kernel_rfl) (by kernel_rfl) (by decide)
theorem GN:hB prog dI 54 Ct:=.struct (t:=54) (.cons yi (.cons LM (.cons s6 (.cons s6 .nil)))) (λb=>(⟨b.1,b.2.1,b.2.2.1,b.2.2.2.1⟩:Sym)) (λx=>(x.Name,x.Lit,x.bT,x.At,())) (λ_=>rfl) (λ_=>rfl) (by kernel_rfl) (by kernel_rfl)
theorem Ro:hB prog fx 59 Ke:=.struct (t:=59) (.cons GN (.cons yi (.cons s6 .nil))) (λb=>(⟨b.1,b.2.1,b.2.2.1⟩:Part)) (λx=>(x.Sym,x.Code,x.At,())) (λ_=>rfl) (λ_=>rfl) (by kernel_rfl) (by kernel_rfl)
theorem Rp:hB prog (b6 fx) 52 (ni Ke):=Ro.slice (by kernel_rfl) (by kernel_rfl) (by decide)
theorem Rg:hB prog fe 56 Kc:=.struct (t:=56) (.cons Rp (.cons GN (.cons s6 .nil))) (λb=>(⟨b.1,b.2.1,b.2.2.1⟩:Alt)) (λx=>(x.Parts,x.Prec,x.At,())) (λ_=>rfl) (λ_=>rfl) (by kernel_rfl) (by kernel_rfl)
theorem Rh:hB prog (b6 fe) 63 (ni Kc):=Rg.slice (by kernel_rfl) (by kernel_rfl) (by decide)
theorem Rq:hB prog h2 65 Kf:=.struct (t:=65) (.cons yi (.cons Rh (.cons s6 .nil))) (λb=>(⟨b.1,b.2.1,b.2.2.1⟩:eZ)) (λx=>(x.Left,x.eA,x.At,())) (λ_=>rfl) (λ_=>rfl) (by kernel_rfl) (by kernel_rfl)
theorem Rr:hB prog (b6 h2) 23 (ni Kf):=Rq.slice (by kernel_rfl) (by kernel_rfl) (by decide)
theorem Rt:hB prog (b6 dI) 60 (ni Ct):=GN.slice (by kernel_rfl) (by kernel_rfl) (by decide)
theorem Ri:hB prog dG 62 Kd:=.struct (t:=62) (.cons s6 (.cons yi (.cons Rt (.cons s6 .nil)))) (λb=>(⟨b.1,b.2.1,b.2.2.1,b.2.2.2.1⟩:Decl)) (λx=>(x.Kind,x.Tag,x.er,x.At,())) (λ_=>rfl) (λ_=>rfl) (by kernel_rfl) (by kernel_rfl)
theorem Rj:hB prog (b6 dG) 22 (ni Kd):=Ri.slice (by kernel_rfl) (by kernel_rfl) (by decide)
def Tz:bz Source:=⟨4,λx=>[ao x.b_,ay dG x.Decls,ay h2 x.dB,ao x.ch],λ_=>rfl,λ_=>df.bd⟩
theorem PV:zX prog 25 [9,22,23,9]=true:=by kernel_rfl
theorem Rs:hB prog Tz 25 Yb:=.struct (t:=25) (.cons yi (.cons Rj (.cons Rr (.cons yi .nil)))) (λb=>(⟨b.1,b.2.1,b.2.2.1,b.2.2.2.1⟩:Source)) (λx=>(x.b_,x.Decls,x.dB,x.ch,())) (λ_=>rfl) (λ_=>rfl) PV (by kernel_rfl)
def Ty:bz qO:=⟨5,λx=>[ae x.bA,ay (b6 aY) x.dB,ay aY x.qa,ay aY x.mG,bg x.rX],λ_=>rfl,λ_=>df.bd⟩
theorem PU:zX prog 29 [3,26,27,27,4]=true:=by kernel_rfl
theorem Rl:hB prog Ty 29 Ya:=.struct (t:=29) (.cons s6 (.cons Rm (.cons GK (.cons GK (.cons LM .nil))))) (λb=>(⟨b.1,b.2.1,b.2.2.1,b.2.2.2.1,b.2.2.2.2.1⟩:qO)) (λx=>(x.bA,x.dB,x.qa,x.mG,x.rX,())) (λ_=>rfl) (λ_=>rfl) PU (by kernel_rfl)
theorem nh.le {n:Int}(h:nh n):-9223372036854775808<=n/\n<=9223372036854775807:=by
 have h:IntKind.min .i64<=n/\n<=IntKind.max .i64:=by simpa [nh,Lit.wf] using h
 simpa [IntKind.min,IntKind.max,IntKind.signed,IntKind.bits] using h
theorem Yr:laidOutB prog=true:=by kernel_rfl
theorem Ys:mapsRowed prog=true:=by kernel_rfl
theorem Yq:((List.range prog.types.size).all λt=>match prog.underlying t with | some (.slice e)=>decide (0<prog.cellsOf e) | _=>true)=true:=by kernel_rfl
end Go.Proofs
