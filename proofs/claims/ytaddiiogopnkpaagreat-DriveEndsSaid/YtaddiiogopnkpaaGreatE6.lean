/- Parts of the proof that the last text states. -/
import Derived.Deep.Draws
import Derived.Deep.LoopGhost
import Derived.Ground.SlsfProg
import Derived.KernelRfl
import Derived.Laws.Externs
import Derived.Lib.SliceRun
import Derived.Lib.SlicesCompact
import Derived.Lib.Walk
import Derived.Shelf.RegionOpenPlain
import Derived.Shelf.SlGeneric
import Derived.Shelf.SlLaysQ
import Derived.Shelf.SlSortCmp.NoneTotal
import Derived.Shelf.SlicesE.Kit
import Derived.Shelf.SlicesQ.Load
import Derived.Sort.WalkB12
import Derived.Test.YtaddiiogopnkpaaGreatRows
import Derived.WalkKit
import Derived.Test.YtaddiiogopnkpaaGreatE5
set_option linter.unusedSectionVars false
set_option linter.unusedVariables false
namespace Go.Own
open Go
variable [cE]
def KZ:ab->Option ab
 | .lit v=>some (.lit v)
 | .aQ=>some .aQ
 | .bd z n cs=>some (.bd z n cs)
 | .own z n cs=>some (.own z n cs)
 | .obj cs=>some (.obj cs)
 | .agg cs=>some (.agg cs)
 | .bS cs=>some (.bS cs)
 | .cw cs=>some (.cw cs)
 | .ptr p k=>some (.ptr p k)
 | .a6 z p n=>some (.a6 z p n)
 | .sub z p l n=>some (.sub z p l n)
 | .bL z p n m c=>some (.bL z p n m c)
 | .cD f a b=>some (.cD f a b)
 | .mp p=>some (.mp p)
 | .gj p=>some (.gj p)
 | .imp p=>some (.imp p)
 | .dead=>some .dead
 | .self k=>some (.self k)
 | .hS t us=>some (.hS t us)
theorem PV {x y:ab}(h:KZ x=some y):x=y:=by cases x <;> (cases h; rfl)
def F':List ab->Option (List ab)
 | []=>some []
 | x::l=>match F' l with
  | none=>none
  | some r=>match KZ x with
   | none=>none
   | some y=>some (y::r)
theorem PU:∀ {l r:List ab},F' l=some r->l=r
 | [],r,h=>by cases h; rfl
 | x::l,r,h=>by
  unfold F' at h
  split at h
  ·cases h
  ·rename_i c' hr
   split at h
   ·cases h
   ·rename_i y ao;cases h; rw [PU hr,PV ao]
def uy:ab->Option ab
 | .agg cs=>match F' cs with
  | some r=>some (.agg r)
  | none=>none
 | x=>KZ x
theorem xV {x y:ab}(h:uy x=some y):x=y:=by
 unfold uy at h
 split at h
 ·split at h
  ·rename_i hr;cases h; rw [PU hr]
  ·cases h
 ·exact PV h
def pd:List ab->Option (List ab)
 | []=>some []
 | x::l=>match pd l with
  | none=>none
  | some r=>match uy x with
   | none=>none
   | some y=>some (y::r)
theorem Ac:∀ {l r:List ab},pd l=some r->l=r
 | [],r,h=>by cases h; rfl
 | x::l,r,h=>by
  unfold pd at h
  split at h
  ·cases h
  ·rename_i c' hr
   split at h
   ·cases h
   ·rename_i y ao;cases h; rw [Ac hr,xV ao]
def yp (f:Nat->ab->ab):Nat->List Nat->List ab->Option (List ab)
 | _,_,[]=>some []
 | _,[],_::_=>none
 | k,j::ev,x::l=>match yp f (k+1) ev l with
  | none=>none
  | some r=>match Nat.beq j k,uy (f j x) with
   | true,some y=>some (y::r)
   | _,_=>none
theorem D2 {f:Nat->ab->ab}:∀ {l:List ab}{ev:List Nat}{k:Nat}{r:List ab},yp f k ev l=some r->(l.mapIdx λi x=>f (k+i) x)=r
 | [],ev,k,r,h=>by cases ev <;> (cases h; rfl)
 | x::l,[],k,r,h=>by cases h
 | x::l,j::ev,k,r,h=>by
  unfold yp at h
  split at h
  ·cases h
  ·rename_i c' hr
   split at h
   ·rename_i y ag ao;cases h;have:=Nat.eq_of_beq_eq_true ag;subst this;rw [List.mapIdx_cons,<- D2 hr,<- xV ao];simp [Nat.add_comm,Nat.add_left_comm]
   ·cases h
def num:List Nat:=0::1::2::3::4::5::6::7::8::9::10::11::12::13::14::15::16::17::18::19::20::21::22::23::24::25::26::27::28::29::30::31::32::33::34::35::36::37::38::39::40::41::42::43::44::45::46::47::48::49::50::51::52::53::54::55::56::57::58::59::60::61::62::63::64::65::66::67::68::69::70::71::72::73::74::75::76::77::78::79::[]
def Gz (g:aL):Operand->Option ab
 | .tmp t=>match g t with
  | some (.lit v)=>some (.lit v)
  | some .aQ=>some .aQ
  | some (.bd z n cs)=>some (.bd z n cs)
  | some (.own z n _)=>some (.a6 z ⟨t,[]⟩ n)
  | some (.obj (_::_))=>some (.ptr ⟨t,[]⟩ 0)
  | some (.cw cs)=>some (.cw cs)
  | some (.agg cs)=>match yp (λi x=>fW 1 ⟨t,[i]⟩ x) 0 num cs with
   | some r=>some (.agg r)
   | none=>none
  | some (.bS cs)=>match yp (λi x=>fW 1 ⟨t,[i]⟩ x) 0 num cs with
   | some r=>some (.bS r)
   | none=>none
  | some (.ptr p k)=>some (.ptr p k)
  | some (.a6 z p n)=>some (.a6 z p n)
  | some (.sub z p l n)=>some (.sub z p l n)
  | some (.bL z _ n m _)=>some (.a6 z ⟨t,[]⟩ (n+m))
  | some (.cD fn [] cs)=>some (.cD fn [] cs)
  | some (.mp _)=>some (.gj ⟨t,[]⟩)
  | some (.gj p)=>some (.gj p)
  | some (.imp q)=>some (.imp q)
  | _=>none
 | .const v=>match ofConst v with
  | .lit v=>some (.lit v)
  | .agg cs=>some (.agg cs)
  | .aQ=>match v with
   | .slice none 0 0=>some .aQ
   | _=>none
  | _=>none
 | .func f=>some (.cD (.func f) [] [])
 | .global _=>none
theorem Zf {v u:Value}(h:ofConst v=.lit u):u=v:=by
 cases v <;> simp only [ofConst,kq] at h <;> first | (cases h; rfl) | (split at h <;> cases h <;> rfl) | cases h
theorem Rd.q {g:aL}{a:Operand}{y:ab}(h:Gz g a=some y:=by rfl):Rd g a y:=by
 unfold Gz at h
 split at h
 ·split at h <;> first | (split at h <;> cases h <;> first | exact .agg ‹_› (by have:=D2 ‹_›; simpa [Place.push] using this) | exact .bS ‹_› (by have:=D2 ‹_›; simpa [Place.push] using this)) | skip
  all_goals cases h
  all_goals first | exact .lit ‹_› | exact .aQ ‹_› | exact .bd ‹_› | exact .own ‹_› | exact .obj ‹_› | exact .cw ‹_› | exact .ptr ‹_› | exact .a6 ‹_› | exact .sub ‹_› | exact .bL ‹_› | exact .cD ‹_› | exact .mp ‹_› | exact .gj ‹_› | exact .imp ‹_›
 ·split at h
  ·rename_i e; cases h; have:=Zf e; subst this; exact .k e
  ·rename_i e; cases h; exact .KG e
  ·split at h <;> cases h
   exact .xP
  ·cases h
 ·cases h; exact .func
 ·cases h
def GB (g:aL) (t:Nat):Option ab :=
 match g t with
 | some (.lit v)=>some (.lit v)
 | some .aQ=>some .aQ
 | some (.bd z n cs)=>some (.bd z n cs)
 | some (.cw cs)=>some (.cw cs)
 | some (.cD fn [] cs)=>some (.cD fn [] cs)
 | some (.imp q)=>some (.imp q)
 | _=>none
theorem Rd.Lh {g:aL}{t:Nat}{y:ab}(h:GB g t=some y:=by rfl):Rd g (.tmp t) y:=by
 unfold GB at h
 split at h <;> cases h <;> first | exact .lit ‹_› | exact .aQ ‹_› | exact .bd ‹_› | exact .cw ‹_› | exact .cD ‹_› | exact .imp ‹_›
class nc (P:Program) (t:TypeId) (α:outParam Type) (en:outParam (bN α)):Prop where p:True:=trivial
class Ez {α:Type}(en:bN α) (cs:List ab) (y:outParam α):Prop where p:en.cells y=cs
instance {a:Int}:Ez ai [ae a] a:=⟨rfl⟩
instance {a:Int}:Ez r5 [rZ a] a:=⟨rfl⟩
class uZ {α:Type}(en:bN α) (ys:List ab) (L:outParam (List α)):Prop where p:o0 ys=some (bA en L)/\ys.all (λy=>match jZ y with | some c=>Nat.beq c.length en.z | none=>false)=true/\L.length=ys.length
instance {α:Type}{en:bN α}:uZ en [] []:=⟨⟨rfl,rfl,rfl⟩⟩
theorem uZ.cons {α:Type}{en:bN α}{y:ab}{cs:List ab}{ys:List ab}{a:α}{L:List α}(au:jZ y=some cs) [h:Ez en cs a] [ah:uZ en ys L]:uZ en (y::ys) (a::L):=by
 refine ⟨⟨?_,?_,?_⟩⟩
 ·simp [o0,au,ah.p.1,bA,h.p]
 ·simp only [List.all_cons,au,ah.p.2.1,Bool.and_true];rw [<- h.p,en.len]; exact Nat.beq_refl _
 ·simp [ah.p.2.2]
instance {α:Type}{en:bN α}{v:Value}{ys:List ab}{a:α}{L:List α} [h:Ez en [.lit v] a] [ah:uZ en ys L]:uZ en (.lit v::ys) (a::L):=.cons rfl
def Lv (d:Nat):List Oper->Bool
 | []=>false
 | o::l=>(match o.op with
  | .call { callee:=.value _,args:=xs,argTypes:=_ }=>xs.toList.any λx=>match x with | .tmp t=>Nat.beq t d | _=>false
  | .call { callee:=.builtin .append,args:=xs,argTypes:=_ }=>match xs.toList with | [_,.tmp t]=>Nat.beq t d | _=>false
  | .convert _ _ (.tmp t)=>Nat.beq t d
  | .build _ ps=>ps.toList.any λx=>match x.2 with | .tmp t=>Nat.beq t d | _=>false
  | .buildSlice _ _ ps=>ps.toList.any λx=>match x.2 with | .tmp t=>Nat.beq t d | _=>false
  | _=>false)||Lv d l
class EB (P:Program):Prop where p:P.follows .mixedOrders=true:=by kernel_rfl
class l8 (P:Program) (t:TypeId) (k:outParam Nat):Prop where p:h3 P t k=true:=by kernel_rfl
class mz (P:Program) (t:TypeId) (z:outParam Value):Prop where p:(P.info? t).bind (·.zero)=some z:=by kernel_rfl
class rT (P:Program) (t:TypeId) (pl:outParam (List (Nat × Nat))):Prop where p:jR P t pl=true:=by kernel_rfl
class p3 (P:Program) (t:TypeId) (e z b:outParam Nat):Prop where p:h4 P t e z b=true:=by kernel_rfl
class Bc (P:Program) (t:TypeId) (k:outParam IntKind):Prop where p:ur P t k=true:=by kernel_rfl
class EC (P:Program) (t:TypeId) (b:outParam Nat):Prop where p:(P.info? t).map (·.bytes)=some b:=by kernel_rfl
section
variable {α β:Type}{P:Program}{g:aL}{ty t t2:TypeId}{a b:Operand}{k r z n:Nat}{cs cs':List ab}{x y:ab}{p q:Place}{m:Int}{uw KH:IntKind}{e:TypeId}{N:cN}{ops:Array Oper}{fP:Nat}
theorem O.aby (J:Rd g a y:=by exact .q) (aa:(jZ y).bind pd=some cs:=by rfl):bT P g (.box e a) ty (.obj cs):=by
 cases au:jZ y with
 | none=>rw [au] at aa; cases aa
 | some c=>rw [au] at aa; have:=Ac aa; subst this; exact O.box J au
theorem O.ik {v:Value} [h:fg P t] (J:Rd g a (.ptr ⟨r,[]⟩ k):=by exact .q) (aw:g r=some (.obj cs):=by rfl) (aa:cs[k]?=some (.lit v):=by rfl):bT P g (.load t a) ty (.lit v):=O.pc aw J h.p aa
theorem O.hs [h:fg P t] (J:Rd g a (.cw cs):=by exact .q) (aa:cs.head?.bind uy=some x:=by rfl):bT P g (.load t a) ty x:=by
 cases au:cs.head? with
 | none=>rw [au] at aa; cases aa
 | some c=>rw [au] at aa; have:=xV aa; subst this; exact O.C7 J h.p au
theorem O.LP [h:fg P t] (J:Rd g a (.ptr ⟨r,[]⟩ k):=by exact .q) (aw:g r=some (.obj cs):=by rfl) (aa:cs[k]?=some x:=by rfl) (ao:uy (fW 0 ⟨r,[k]⟩ x)=some y:=by rfl):bT P g (.load t a) ty y:=O.qC aw J h.p aa (xV ao)
theorem O.LQ [h:l8 P t z] (J:Rd g a (.ptr ⟨r,[]⟩ k):=by exact .q) (aw:g r=some (.obj cs):=by rfl) (hk:Nat.ble (k+z) cs.length=true:=by rfl) (aa:yp (λi x=>fW 0 ⟨r,[i]⟩ x) k (num.drop k) ((cs.drop k).take z)=some cs':=by rfl):bT P g (.load t a) ty (.agg cs'):=O.dJ aw J h.p hk (D2 aa)
theorem O.abD [h:l8 P t z] (J:Rd g a (.cw cs):=by exact .q) (aa:pd (cs.take z)=some cs':=by rfl) (aX:cs'.length=z:=by rfl):bT P g (.load t a) ty (.agg cs'):=O.mS J h.p (Ac aa) aX
theorem O.abI {en:bN α}{L:List α}{y:α}{o:Nat}{x x':ab} [ar:fg P t] (J:Rd g a (.ptr p (m.toNat * en.z+o)):=by exact .q) (aq:bG g p=some (aC en L):=by rfl) (h:idx L m=some y:=by assumption) (aa:(en.cells y)[o]?=some x:=by rfl) (hr:uy (fW 0 (p.push (m.toNat * en.z+o)) x)=some x':=by rfl):bT P g (.load t a) ty x':=O.jM aq J ar.p h aa (xV hr)
theorem O.abA {cy f off:Nat} [h:cx P cy f off t] (J:Rd g a (.ptr ⟨r,[]⟩ k):=by exact .q) (aw:g r=some (.obj cs):=by rfl) (ah:Nat.blt (k+off) cs.length=true:=by rfl):bT P g (.fieldAddr cy a f) ty (.ptr ⟨r,[]⟩ (k+off)):=O.ns aw J h.p ah
theorem O.abB {cy f off:Nat} [h:cx P cy f off t] (J:Rd g a (.cw cs):=by exact .q):bT P g (.fieldAddr cy a f) ty (.cw (cs.drop off)):=O.BO J h.p
theorem O.abC {en:bN α}{L:List α}{y:α}{bR:Nat}(h:idx L m=some y) [aD:eE P t e bR] (J:Rd g a (.bd en.z L.length (bA en L)):=by exact .q) (ao:Rd g b (.lit (.int uw m)):=by exact .q) (aX:bR=en.z:=by rfl):bT P g (.indexAddr t a b) ty (.cw (en.cells y++bA en (L.drop (m.toNat+1)))):=O.o' J ao (aX ▸ aD.p) h
theorem O.G9 {en:bN α}{L:List α}{y:α}{bR:Nat}(h:idx L m=some y) [aD:eE P t e bR] (J:Rd g a (.a6 en.z p L.length):=by exact .q) (aq:bG g p=some (aC en L):=by rfl) (ao:Rd g b (.lit (.int uw m)):=by exact .q) (aX:bR=en.z:=by rfl) (aK:Nat.blt 0 en.z=true:=by rfl):bT P g (.indexAddr t a b) ty (.ptr p (m.toNat * en.z+0)):=O.gH aq J ao (aX ▸ aD.p) h aK
theorem O.abU {p i:Nat}{cs:List ab}{x y:ab}(J:g p=some (.bS cs):=by rfl) (ao:cs[i]?=some x:=by rfl) (hr:uy (fW 1 (Place.push ⟨p,[]⟩ i) x)=some y:=by rfl):bT P g (.extract (.tmp p) i) ty y:=O.ex J ao (xV hr)
theorem O.abH [h1:Bc P t uw] [af:Bc P t2 KH] (J:Rd g a (.lit (.int uw m)):=by exact .q):bT P g (.convert t t2 a) ty (.lit (.int KH (KH.wrap m))):=O.Ig J h1.p af.p
theorem O.abG {L:List Int}(J:Rd g a (.bd r5.z L.length (bA r5 L)):=by exact .q) (ar:zm P t t2=true:=by kernel_rfl):bT P g (.convert t t2 a) ty (aZ (strOfNums L)):=O.UN J ar
theorem O.abE {cW:Value} [h:mz P e cW] (h1:cW.cells.toList.all Value.oneCell'=true:=by rfl) (aa:pd (cW.cells.toList.map kq)=some cs:=by rfl):bT P g (.alloc e) ty (.obj cs):=O.dv h.p h1 (Ac aa)
theorem O.abS {parts:Array (Nat × Operand)}{pl:List (Nat × Nat)}{cW:Value}{ps:List (Nat × List ab)} [ar:rT P t pl] [aX:mz P t cW] (h1:cW.cells.toList.all Value.oneCell'=true:=by rfl)
  (aq:rC g parts.toList=some ps:=by rfl) (aa:(vf (λi=>pl[i]?) (cW.cells.toList.map kq) ps).bind pd=some cs:=by rfl):bT P g (.build t parts) ty (.agg cs):=by
 cases au:vf (λi=>pl[i]?) (cW.cells.toList.map kq) ps with
 | none=>rw [au] at aa; cases aa
 | some c=>rw [au] at aa; have:=Ac aa; subst this; exact O.dS ar.p aX.p h1 aq au
theorem O.wp {en:bN α}{L M r:List α}{bR:Nat}(h:cT L M=some r) [ar:p3 P t e bR fP] (aw:Rd g a (.a6 en.z p L.length):=by exact .q) (aq:bG g p=some (aC en L):=by rfl) (J:Rd g b y:=by exact .q) (hm:nm g en y M:=by (first | exact .i | exact .n | exact .o rfl rfl)) (aX:bR=en.z:=by rfl) (au:Nat.ble fP 128=true:=by rfl) [eH:rV g]:bT P g (.call { callee:=.builtin .append,args:=#[a,b],argTypes:=#[t,t] }) ty (.bL en.z p L.length M.length (bA en M)) :=
 O.ap aw aq J hm (aX ▸ ar.p) au h
def xR:List ab->Option (List Value)
 | []=>some []
 | .lit v::l=>match xR l with
  | some r=>some (v::r)
  | none=>none
 | _=>none
theorem C8:∀ {l:List ab}{r:List Value},xR l=some r->l=r.map .lit
 | [],r,h=>by cases h; rfl
 | x::l,r,h=>by
  unfold xR at h
  split at h
  ·rename_i e; cases e
  ·rename_i e;cases e
   split at h
   ·rename_i c' hr;cases h; rw [C8 hr]; rfl
   ·cases h
  ·cases h
def yt:List Value->Option (List ot)
 | []=>some []
 | v::l=>match yt l,mo v with
  | some r,some u=>some (u::r)
  | _,_=>none
theorem D9:∀ {l:List Value}{r:List ot},yt l=some r->l.map mo=r.map some
 | [],r,h=>by cases h; rfl
 | v::l,r,h=>by
  unfold yt at h
  split at h
  ·rename_i uJ u hr aw;cases h; simp [D9 hr,aw]
  ·cases h
theorem O.qO {BA kf:List ab}{nJ pn:List Value}{dO:List ot}(J:Rd g a (.agg BA):=by exact .q) (ao:Rd g b (.agg kf):=by exact .q) (zT:xR BA=some nJ:=by rfl) (CM:xR kf=some pn:=by rfl) (aI:yt nJ=some dO:=by rfl) (au:yt pn=some dO:=by rfl) (ar:ve P t dO=true:=by kernel_rfl):bT P g (.binOp .eql t a b t2) ty (bg (lK nJ pn)):=O.Ve (C8 zT ▸ J) (C8 CM ▸ ao) (D9 aI) (D9 au) ar
theorem O.wn {BA kf:List ab}{nJ pn:List Value}{dO:List ot}(J:Rd g a (.agg BA):=by exact .q) (ao:Rd g b (.agg kf):=by exact .q) (zT:xR BA=some nJ:=by rfl) (CM:xR kf=some pn:=by rfl) (aI:yt nJ=some dO:=by rfl) (au:yt pn=some dO:=by rfl) (ar:ve P t dO=true:=by kernel_rfl):bT P g (.binOp .neq t a b t2) ty (bg (!lK nJ pn)):=O.Y' (C8 zT ▸ J) (C8 CM ▸ ao) (D9 aI) (D9 au) ar
theorem O.abN {en:bN α}{z0:α}{r:List α}{bR:Nat}{cW:Value}(h:oP m z0=some r) [het:nc P t α en] [ar:eE P t e bR] [hzero:mz P e cW] [iT:EC P e fP] (J:Rd g a (.lit (.int uw m)):=by exact .q) (ao:Rd g b (.lit (.int .i64 m)):=by exact .q) (h1:cW.cells.toList.all Value.oneCell'=true:=by rfl) (aa:cW.cells.toList.map kq=en.cells z0:=by rfl) (aX:bR=en.z:=by rfl) (au:Nat.ble fP 128=true:=by rfl):bT P g (.makeSlice t a b) ty (aC en r) :=
 O.mk (aX ▸ ar.p) J ao hzero.p h1 aa h iT.p au
theorem O.wl {en:bN α}{bR:Nat} [het:nc P t α en] [ar:eE P t e bR] (aX:bR=en.z:=by rfl) (hzero:i_ P e en.z=true:=by kernel_rfl):bT P g (.buildSlice t 0 #[]) ty (aC en ([]:List α)) :=
 O.c8 (ys:=[]) en [] (aX ▸ ar.p) rfl rfl rfl rfl rfl rfl hzero (by rw [Nat.zero_mul]; rfl) rfl
theorem O.abO {en:bN α}{M r:List α}{bR:Nat}(h:cT [] M=some r) [ar:p3 P t e bR fP] (aw:Rd g a .aQ:=by exact .q) (J:Rd g b y:=by exact .q) (hm:nm g en y M:=by (first | exact .i | exact .n | exact .o rfl rfl)) (aX:bR=en.z:=by rfl) (au:Nat.ble fP 128=true:=by rfl):bT P g (.call { callee:=.builtin .append,args:=#[a,b],argTypes:=#[t,t] }) ty (aC en M) :=
 O.SZ aw J hm (aX ▸ ar.p) au h
theorem O.abQ {en:bN α}{L r:List α}{c:Operand}{n:Int}{k:IntKind}{bR:Nat}(h:ph L 0 n=some r) [ar:eE P t e bR] (J:Rd g a (.bd en.z L.length (bA en L)):=by exact .q) (bP:Rd g c (.lit (.int k n)):=by exact .q) (aX:bR=en.z:=by rfl):bT P g (.slice t a none (some c) none) ty (aj en r):=O.aaM J bP (aX ▸ ar.p) h
theorem O.abR {en:bN α}{L r:List α}{k:IntKind}{bR:Nat}(h:ph L m L.length=some r) [ar:eE P t e bR] (J:Rd g a (.bd en.z L.length (bA en L)):=by exact .q) (ah:Rd g b (.lit (.int k m)):=by exact .q) (aX:bR=en.z:=by rfl):bT P g (.slice t a (some b) none none) ty (aj en r):=O.aaN J ah (aX ▸ ar.p) h
theorem O.abz {en:bN α}{L M M2 r:List α}{bR s:Nat}(h:cT (L++M) M2=some r) [ar:p3 P t e bR fP] (aw:Rd g a (.a6 en.z ⟨s,[]⟩ (L.length+M.length)):=by exact .q) (qt:g s=some (.bL en.z q L.length M.length (bA en M)):=by rfl) (aq:bG g q=some (aC en L):=by rfl) (J:Rd g b y:=by exact .q) (hm:nm g en y M2:=by (first | exact .i | exact .n | exact .o rfl rfl)) (aX:bR=en.z:=by rfl) (au:Nat.ble fP 128=true:=by rfl) [eH:Ht s g]:bT P g (.call { callee:=.builtin .append,args:=#[a,b],argTypes:=#[t,t] }) ty (.bL en.z ⟨s,[]⟩ (L.length+M.length) M2.length (bA en M2)) :=
 O.EU aw qt aq J hm (aX ▸ ar.p) au h
theorem O.abV {en:bN β}{r:List (List β)}{bR:Nat}{cW:Value}(h:oP m ([]:List β)=some r) [het:nc P t (List β) (bF en)] [ar:eE P t e bR] [hzero:mz P e cW] [iT:EC P e fP] (J:Rd g a (.lit (.int uw m)):=by exact .q) (ao:Rd g b (.lit (.int .i64 m)):=by exact .q) (h1:cW.cells.toList.all Value.oneCell'=true:=by rfl) (aa:cW.cells.toList.map kq=[.aQ]:=by rfl) (aX:bR=(bF en).z:=by rfl) (au:Nat.ble fP 128=true:=by rfl):bT P g (.makeSlice t a b) ty (aC (bF en) r) :=
 O.Y6 (aX ▸ ar.p) J ao hzero.p h1 aa h iT.p au
theorem O.abJ {en:bN α}{L:List α}{y:α}{bR:Nat} [aD:eE P t e bR] (J:Rd g a (.a6 en.z p L.length):=by exact .q) (aq:bG g p=some (aC en L):=by rfl) (ao:Rd g b (.lit (.int uw m)):=by exact .q) (aX:bR=en.z:=by rfl) (aK:Nat.blt 0 en.z=true:=by rfl) (h:idx L m=some y:=by assumption):bT P g (.indexAddr t a b) ty (.ptr p (m.toNat * en.z+0)):=O.gH aq J ao (aX ▸ aD.p) h aK
end
def C4 (Hq:List (Nat × ab)) (ex:List Nat) (Ra:List Nat):List (Nat × ab)->Option (List Nat)
 | []=>some []
 | (k,x)::l=>match C4 Hq ex (k::Ra) l with
  | none=>none
  | some r=>match !ex.elem k&&!Ra.elem k&&(match x with | .ptr ⟨q,[]⟩ _=>!ex.elem q&&(match get Hq q with | some (.obj _)=>true | _=>false) | _=>false) with
   | true=>some (k::r)
   | false=>some r
def rz (g g2:aL) (r:Nat):List (Nat × ab)->Bool
 | []=>true
 | (s,.ptr ⟨q,[]⟩ k)::l=>!Nat.beq s r&&(match g q,g2 q with | some (.obj cs),some (.obj kA)=>Nat.blt k cs.length&&Nat.blt k kA.length | _,_=>false)&&rz g g2 r l
 | _=>false
theorem P9 {g g2:aL}{r:Nat}{s:Nat}{x:ab}{l:List (Nat × ab)}(h:rz g g2 r ((s,x)::l)=true):(∃ q k cs kA,x=.ptr ⟨q,[]⟩ k/\Nat.beq s r=false/\g q=some (.obj cs)/\Nat.blt k cs.length=true/\g2 q=some (.obj kA)/\Nat.blt k kA.length=true)/\rz g g2 r l=true:=by
 unfold rz at h
 split at h
 ·rename_i e; cases e
 ·rename_i cy q k zX e;cases e;rw [Bool.and_eq_true,Bool.and_eq_true] at h;obtain ⟨⟨h1,af⟩,aD⟩:=h
  split at af
  ·rename_i cs kA b9 b3;rw [Bool.and_eq_true] at af;exact ⟨⟨q,k,cs,kA,rfl,by simpa using h1,b9,af.1,b3,af.2⟩,aD⟩
  ·cases af
 ·cases h
theorem NO {g:aL}{r s:Nat}{x y:ab}(h:Nat.beq s r=false) (J:cR g r x s=some y):g s=some y:=by
 unfold cR at J;rw [if_neg (by rintro rfl; rw [Nat.beq_refl] at h; cases h)] at J;exact J
theorem DV {g:aL}{k:Nat}{ks:List Nat}{G1:List (Nat × ab)}(h:pick g (k::ks)=some G1):∃ x l,g k=some x/\pick g ks=some l/\G1=(k,x)::l:=by
 unfold pick at h
 split at h
 ·rename_i x J
  split at h
  ·rename_i l ah;cases h; exact ⟨x,l,J,ah,rfl⟩
  ·cases h
 ·cases h
theorem Gt {g g2:aL}{r:Nat}{cs2:List ab}{T:List (Nat × ab)}(cU:lh g g2 r cs2 T):∀ {ks:List Nat}{G1:List (Nat × ab)},pick (cR g r (.obj cs2)) ks=some G1->(∀ e∈G1,cC e.2)->lh g g2 r cs2 (G1++T)
 | [],_,h,_=>by cases h; exact cU
 | k::ks,G1,h,aB=>by
  obtain ⟨x,l,J,ah,rfl⟩:=DV h;have aM:=Gt cU ah λe h=>aB e (by simp [h]);have e8:=aB (k,x) (by simp);by_cases e:Nat.beq k r=true
  ·have:=Nat.eq_of_beq_eq_true e;subst this;simp only [cR,if_true] at J;cases J;have:dk cs2:=⟨by cases e8 with | obj h=>exact h⟩;exact .b rfl aM
  ·have:b6 x:=⟨e8⟩;have e:=Bool.eq_false_iff.2 e;exact .n e (NO e J) aM
theorem Gu {g g2:aL}{r:Nat}{cs2:List ab}:∀ {ks:List Nat}{G1:List (Nat × ab)},pick (cR g r (.obj cs2)) ks=some G1->rz g g2 r G1=true->lh g g2 r cs2 G1
 | [],_,h,_=>by cases h; exact .nil
 | k::ks,G1,h,aB=>by
  obtain ⟨x,l,J,ah,rfl⟩:=DV h;obtain ⟨⟨q,j,cs,kA,rfl,h1,af,aD,bm,b7⟩,dp⟩:=P9 aB;exact .p h1 (NO h1 J) af aD bm b7 (Gu ah dp)
theorem Gr {g g2:aL}{ex:List Nat}{T:List (Nat × ab)}(cU:nn ex g g2 T):∀ {ks:List Nat}{G1:List (Nat × ab)},pick g ks=some G1->(ks.all λk=>!ex.elem k)=true->(∀ e∈G1,cC e.2)->nn ex g g2 (G1++T)
 | [],_,h,_,_=>by cases h; exact cU
 | k::ks,G1,h,he,aB=>by
  obtain ⟨x,l,J,ah,rfl⟩:=DV h;rw [List.all_cons,Bool.and_eq_true] at he;have:b6 x:=⟨aB (k,x) (by simp)⟩;exact .n (by simpa using he.1) J (Gr cU ah he.2 λe h=>aB e (by simp [h]))
theorem Gs {g g2:aL}{ex:List Nat}{r:Nat}:∀ {ks:List Nat}{G1:List (Nat × ab)},pick g ks=some G1->(ks.all λk=>!ex.elem k)=true->rz g g2 r G1=true->nn ex g g2 G1
 | [],_,h,_,_=>by cases h; exact .nil
 | k::ks,G1,h,he,aB=>by
  obtain ⟨x,l,J,ah,rfl⟩:=DV h;rw [List.all_cons,Bool.and_eq_true] at he;obtain ⟨⟨q,j,cs,kA,rfl,h1,af,aD,bm,b7⟩,dp⟩:=P9 aB;exact .p (by simpa using he.1) J bm b7 (Gs ah he.2 dp)
def tJ:List (Nat × ab)->List (Nat × ab)->Option (List (Nat × ab))
 | [],T=>some T
 | p::l,T=>match tJ l T with
  | some r=>some (p::r)
  | none=>none
theorem wK:∀ {l T r:List (Nat × ab)},tJ l T=some r->r=l++T
 | [],_,_,h=>by cases h; rfl
 | p::l,T,r,h=>by
  unfold tJ at h
  split at h
  ·rename_i c' hr;cases h; rw [wK hr]; rfl
  ·cases h
theorem zh {m:Option (List ab)}{ys:List ab}(h:m.bind pd=some ys):m=some ys:=by
 cases au:m with
 | none=>rw [au] at h; cases h
 | some c=>rw [au] at h; rw [Ac h]
theorem cd.mZ {P:Program}{g:aL}{xs:List Operand}{fM:Array TypeId}{f:FuncId}{ys args:List ab}{outs:List (Option ab)}{res:ab}(J:(hc g xs).bind pd=some ys) (hv:oZ g ys args) (ha:bO P f args outs res) [hr:p6 res] (aT:hx P f=true:=by kernel_rfl) (aW:uz outs=true:=by rfl):cd P g (.call { callee:=.value (.func f),args:=xs.toArray,argTypes:=fM }) res:=cd.vw (zh J) hv ha aT aW
def qW (ks iJ:List Nat) (P:Program) (N:cN) (g:aL) (o:Oper) (g':aL):Prop:=bc P N g o g'
section
variable {α:Type}{P:Program}{N:cN}{ops:Array Oper}{g:aL}{K:aL->Prop}{l:List Oper}{d r k0 s:Nat}{ty t:TypeId}{pos:String}{after:Array Edge}{a b x:Operand}{cs cs' cs1 cs2:List ab}{y:ab}{G2 jT jx:List (Nat × ab)}{u:Option (Nat × Bool)}{p q:Place}{ks iJ:List Nat}{en:bN α}{L M:List α}
theorem fO.ff (aI:Rd g a (.ptr ⟨r,[]⟩ k0):=by exact .q) (aw:g r=some (.obj cs):=by rfl) (au:Rd g b (.agg cs'):=by exact .q) (he:qM cs k0 cs'=some cs2:=by rfl) (aq:pick (cR g r (.obj cs2)) ks=some jT:=by rfl) (a8:pick (cR g r (.obj cs2)) iJ=some jx:=by rfl) (cY:tJ jT jx=some G2:=by rfl) (c7:rz g (get G2) r jx=true:=by rfl) (aX:hq P t cs'.length=true:=by kernel_rfl) (aK:Nat.blt 0 cs'.length=true:=by rfl) (hr:(get G2 r).isSome=true:=by rfl) [aB:dk cs'] [eH:dk cs] [aP:jU jT]:qW ks iJ P N g ⟨none,.store t a b,ty,pos,after,none⟩ (get G2) :=
 .j_ rfl rfl aw aI au rfl aX (Nat.ble_eq_true_of_le (od he).2) aK (od he).1 hr (by have:=wK cY; subst this; exact Gt (Gu a8 c7) aq aP.p)
theorem fO.l1 (aI:Rd g a (.ptr ⟨r,[]⟩ k0):=by exact .q) (aw:g r=some (.obj cs):=by rfl) (au:Rd g b y:=by exact .q) (aa:o1 y=some [y]:=by rfl) (he:qM cs k0 [y]=some cs2:=by rfl) (aq:pick (cR g r (.obj cs2)) ks=some jT:=by rfl) (a8:pick (cR g r (.obj cs2)) iJ=some jx:=by rfl) (cY:tJ jT jx=some G2:=by rfl) (c7:rz g (get G2) r jx=true:=by rfl) (aX:hq P t 1=true:=by kernel_rfl) (hr:(get G2 r).isSome=true:=by rfl) [aB:b6 y] [eH:dk cs] [aP:jU jT]:qW ks iJ P N g ⟨none,.store t a b,ty,pos,after,none⟩ (get G2) :=
 .j_ rfl rfl aw aI au aa aX (Nat.ble_eq_true_of_le (od he).2) rfl (od he).1 hr (by have:=wK cY; subst this; exact Gt (Gu a8 c7) aq aP.p)
theorem fO.kU (J:Rd g x (.a6 en.z p L.length):=by exact .q) (aq:bG g p=some (aC en L):=by rfl) (hk:pick g ks=some jT:=by rfl) (cO:(ks.all λk=>![p.root].elem k)=true:=by rfl) (a8:pick g iJ=some jx:=by rfl) (cY:tJ jT jx=some G2:=by rfl) (Cr:(iJ.all λk=>![p.root].elem k)=true:=by rfl) (c7:rz g (get G2) 1000000 jx=true:=by rfl) (aP:get G2 d=none:=by rfl) (bp:N.ok d=true:=by rfl) [aB:jU jT]:qW ks iJ P N g ⟨some d,.assign x,ty,pos,after,u⟩ (cR (get G2) d (aC en L)) :=
 .EO rfl rfl J aq (by have:=wK cY; subst this; exact Gr (Gs a8 Cr c7) hk cO aB.p) aP bp
theorem fO.SF (J:Rd g x y:=by exact .q) (hk:pick g ks=some G2:=by rfl) (aP:get G2 d=none:=by rfl) (bp:N.ok d=true:=by rfl) [ao:b6 y] [aB:jU G2]:qW ks iJ P N g ⟨some d,.assign x,ty,pos,after,u⟩ (cR (get G2) d y) :=
 .Bm rfl rfl J (.f .nil) .refl (wc hk aB.p) aP bp
theorem fO.wL (J:Rd g x (.a6 en.z ⟨s,[]⟩ (L.length+M.length)):=by exact .q) (aw:g s=some (.bL en.z q L.length M.length (bA en M)):=by rfl) (aq:bG g q=some (aC en L):=by rfl) (hk:pick g ks=some jT:=by rfl) (cO:(ks.all λk=>![s,q.root].elem k)=true:=by rfl) (J0:pick g iJ=some jx:=by rfl) (cY:tJ jT jx=some G2:=by rfl) (Cr:(iJ.all λk=>![s,q.root].elem k)=true:=by rfl) (c7:rz g (get G2) 1000000 jx=true:=by rfl) (a8:Nat.beq q.root s=false:=by rfl) (aP:get G2 d=none:=by rfl) (bp:N.ok d=true:=by rfl) [aB:jU jT]:qW ks iJ P N g ⟨some d,.assign x,ty,pos,after,u⟩ (cR (get G2) d (aC en (L++M))) :=
 .Mu rfl rfl J aw aq a8 (by have:=wK cY; subst this; exact Gr (Gs J0 Cr c7) hk cO aB.p) aP bp
theorem fO.uN {iM y2:α}{m:Int}{o:Nat}{dU x2 y0:ab}(aI:Rd g a (.ptr p (m.toNat * en.z+o)):=by exact .q) (aq:bG g p=some (aC en L):=by rfl) (h:idx L m=some iM:=by assumption) (au:Rd g b y:=by exact .q) (aa:o1 y=some cs':=by rfl) (he:eX (en.cells iM) o cs'=en.cells y2:=by rfl) (ix:cn g p (aC en (L.set m.toNat y2)) p.root=some dU:=by rfl) (gF:F_ dU=some x2:=by rfl) (hk:pick (cR g p.root x2) ks=some G2:=by rfl) (aX:hq P t cs'.length=true:=by kernel_rfl) (hlen:Nat.ble (o+cs'.length) en.z=true:=by rfl) (aK:Nat.blt 0 cs'.length=true:=by rfl) (hr:(get G2 p.root).isSome=true:=by rfl) (rr:g p.root=some y0:=by rfl) [aB:b6 y] [eH:b6 y0] [aP:jU G2]:qW ks iJ P N g ⟨none,.store t a b,ty,pos,after,none⟩ (get G2) :=
 .uS rfl rfl aI au aq h aX aa he hlen aK (by rw [ix,PT gF]) hr rr (Ld hk aP.p)
theorem fO.EU {M2:List α}{s2:Nat}(J:Rd g x (.a6 en.z ⟨s,[]⟩ (L.length+M2.length+M.length)):=by exact .q) (aw:g s=some (.bL en.z ⟨s2,[]⟩ (L.length+M2.length) M.length (bA en M)):=by rfl) (j4:g s2=some (.bL en.z q L.length M2.length (bA en M2)):=by rfl) (aq:bG g q=some (aC en L):=by rfl) (a8:Nat.beq q.root s=false:=by rfl) (rk:Nat.beq q.root s2=false:=by rfl) (CG:Nat.beq s s2=false:=by rfl) (hk:pick g ks=some jT:=by rfl) (cO:(ks.all λk=>![s,s2,q.root].elem k)=true:=by rfl) (J0:pick g iJ=some jx:=by rfl) (cY:tJ jT jx=some G2:=by rfl) (Cr:(iJ.all λk=>![s,s2,q.root].elem k)=true:=by rfl) (c7:rz g (get G2) 1000000 jx=true:=by rfl) (aP:get G2 d=none:=by rfl) (bp:N.ok d=true:=by rfl) [aB:jU jT]:qW ks iJ P N g ⟨some d,.assign x,ty,pos,after,u⟩ (cR (get G2) d (aC en (L++M2++M))) :=
 .SB rfl rfl J aw j4 aq a8 rk CG (by have:=wK cY; subst this; exact Gr (Gs J0 Cr c7) hk cO aB.p) aP bp
theorem fO.sp (au:Rd g b (.a6 en.z ⟨s,[]⟩ (L.length+M.length)):=by exact .q) (qt:g s=some (.bL en.z q L.length M.length (bA en M)):=by rfl) (aq:bG g q=some (aC en L):=by rfl) (aI:Rd g a (.ptr ⟨r,[]⟩ k0):=by exact .q) (aw:cn (cn g ⟨s,[]⟩ .dead) q .dead r=some (.obj cs1):=by rfl) (he:qM cs1 k0 [aC en (L++M)]=some cs2:=by rfl) (hk:pick (cR (cn (cn g ⟨s,[]⟩ .dead) q .dead) r (.obj cs2)) ks=some jT:=by rfl) (fy:pick (cR (cn (cn g ⟨s,[]⟩ .dead) q .dead) r (.obj cs2)) iJ=some jx:=by rfl) (cY:tJ jT jx=some G2:=by rfl) (c7:rz (cn (cn g ⟨s,[]⟩ .dead) q .dead) (get G2) r jx=true:=by rfl) (a8:Nat.beq q.root s=false:=by rfl) (aX:hq P t 1=true:=by kernel_rfl) (hr:(get G2 r).isSome=true:=by rfl) [eH:dk cs1] [aP:jU jT]:qW ks iJ P N g ⟨none,.store t a b,ty,pos,after,none⟩ (get G2) :=
 .GZ rfl rfl aI au qt aq a8 .js .hX rfl rfl aX aw (Nat.ble_eq_true_of_le (od he).2) (od he).1 hr (by have:=wK cY; subst this; exact Gt (Gu fy c7) hk aP.p)
end
def KL:Nat->List (Option ab)->Option (Nat × List ab)
 | _,[]=>none
 | k,some (.obj cs)::_=>some (k,cs)
 | k,none::l=>KL (k+1) l
 | _,_=>none
def PE (g:aL) (xs:List Operand) (k:Nat):Option Nat :=
 match xs[k]? with
 | some (.tmp t)=>match g t with
  | some (.ptr ⟨r,[]⟩ 0)=>some r
  | some (.obj _)=>some t
  | _=>none
 | _=>none
theorem fO.jN {P:Program}{N:cN}{g:aL}{d r k0:Nat}{ty:TypeId}{pos:String}{after:Array Edge}{u:Option (Nat × Bool)}{f:FuncId}{xs:List Operand}{fM:Array TypeId}{ys args cs cs':List ab}{outs:List (Option ab)}{res:ab}{ks:List Nat}{G2:List (Nat × ab)}
  (ha:bO P f args outs res) (ah:KL 0 outs=some (k0,cs')) (hr:PE g xs k0=some r) (aq:pick (cn g ⟨r,[]⟩ .dead) ks=some G2) (J:(hc g xs).bind pd=some ys) (aI:oj r cs k0 0 ys args) (aw:g r=some (.obj cs):=by rfl) (he:outs=vT args.length k0 (.obj cs'):=by rfl) (nx:Nat.blt k0 ys.length=true:=by rfl) (aT:hx P f=true:=by kernel_rfl) (aP:get G2 d=none:=by rfl) (ui:Nat.beq r d=false:=by rfl) (JW:pick (get ((r,.obj cs')::G2)) ks=some G2:=by rfl) (bp:N.ok d=true:=by rfl) [eH:dk cs] [dG:b6 res] [Fw:dk cs'] [aB:jU G2] :
  bc P N g ⟨some d,.call { callee:=.value (.func f),args:=xs.toArray,argTypes:=fM },ty,pos,after,u⟩ (get ((d,res)::(r,.obj cs')::G2)) :=
 .call rfl bp (kQ.jN (A:=[]) rfl rfl (zh J) aw aI nx (he ▸ ha) aT (wc aq aB.p) aP ui (wc JW aB.p) .nil bp)
def r0:Acc->List (Nat × ab)->List (Nat × ab)
 | [],G=>G
 | (_,d,some x)::acc,G=>(d,x)::r0 acc G
 | (_,_,none)::acc,G=>r0 acc G
def gr (ev:List Nat) (P:Program) (N:cN) (ops:Array Oper) (bj:List (List Nat)) (g0:aL) (i:Nat) (acc:Acc) (l:List Oper) (K:aL->Prop):Prop:=bC P N ops bj g0 i acc l K
section
variable {α β:Type}{P:Program}{N:cN}{ops:Array Oper}{bj:List (List Nat)}{acc:Acc}{E ks:List Nat}{t x y z:lC}{A B c:Code}{G G1 G2:List (Nat × ab)}{g:aL}{g':aL}{Φ qT:Exit->aL->Prop}{Ψ:aL->Prop}{K:aL->Prop}{id k s d i bX j cy:Nat}{b b8:Bool}{l:List Oper}{o:Oper}{op:Op}{ty yz:TypeId}{pos:String}{after:Array Edge}{v y':ab}{u:Option (Nat × Bool)}{a av a2:Operand}
theorem cH.aal (h:cH E t P N .ret G Φ):cH E t P N .ret G Φ:=h
theorem aE.ts (h:aE P N ops (⟨none,.store ty av a2,yz,pos,after,u⟩::l) g K):aE P N ops (⟨none,.store ty av a2,yz,pos,after,u⟩::l) g K:=h
theorem gr.ts {ev:List Nat}(h:gr ev P N ops bj g i acc (⟨none,.store ty av a2,yz,pos,after,u⟩::l) K):gr ev P N ops bj g i acc (⟨none,.store ty av a2,yz,pos,after,u⟩::l) K:=h
theorem gr.de (op:Op) (u:Option (Nat × Bool)) {ev:List Nat}(h:gr ev P N ops bj g i acc (⟨some d,op,ty,pos,after,u⟩::l) K):gr ev P N ops bj g i acc (⟨some d,op,ty,pos,after,u⟩::l) K:=h
theorem gr.nl {ev:List Nat}(h:gr ev P N ops bj g i acc [] K):gr ev P N ops bj g i acc [] K:=h
def GA (g:aL) (d:Nat):Operand->Option ab
 | .tmp t=>bif Nat.beq t d then none else GB g t
 | .const v=>Gz g (.const v)
 | _=>none
theorem Rd.qF {g:aL}{a:Operand}{y:ab}(h:GA g d a=some y):Rd (del g d) a y:=by
 unfold GA at h
 split at h
 ·rename_i t;cases au:Nat.beq t d with
  | true=>rw [au] at h; cases h
  | false =>
   rw [au] at h;have cO:t≠d:=Nat.ne_of_beq_eq_false au;refine Rd.Lh ?_;unfold GB at h ⊢;simpa [del,cO] using h
 ·exact .q (by unfold Gz at h ⊢; exact h)
 ·cases h
theorem Sv {y':ab}(J:GA (get G) d a=some v) (aT:get G d=some y') (ah:leaf y'=true) (hk:aE P N ops l (get ((d,v)::G)) K) (bp:N.ok d=true:=by rfl):aE P N ops (⟨some d,.assign a,ty,pos,after,none⟩::l) (get G) K:=.over (.assign (Rd.qF J).bs) bp aT ah (r7 ▸ hk)
theorem Sw {y':ab}(J:GA (get G) d a=some v) (aT:get G d=some y') (ah:leaf y'=true) (hk:aE P N ops l (get ((d,v)::G)) K) (bp:N.ok d=true:=by rfl):aE P N ops (⟨some d,.move a,ty,pos,after,none⟩::l) (get G) K:=.over (.move (Rd.qF J).bs) bp aT ah (r7 ▸ hk)
theorem Sb {iJ:List Nat}(nx:vR [] G=some ks) (gv:C4 G [] [] G=some iJ) (he:qW ks iJ P N (get G) o (get G2)) (hk:aE P N ops l (get G2) K) (aP:o.guard=none:=by rfl):aE P N ops (o::l) (get G) K:=.ji aP he hk
theorem R_ {f:FuncId}{xs:List Operand}{fM:Array TypeId}{ys args cs cs':List ab}{outs:List (Option ab)}{res:ab}{r k0:Nat}(ha:bO P f args outs res) (ah:KL 0 outs=some (k0,cs')) (hr:PE (get G) xs k0=some r) (hk:vR [r,d] G=some ks) (aq:pick (cn (get G) ⟨r,[]⟩ .dead) ks=some G2) (J:(hc (get G) xs).bind pd=some ys) (aI:oj r cs k0 0 ys args) (cZ:aE P N ops l (get ((d,res)::(r,.obj cs')::G2)) K) (aw:get G r=some (.obj cs):=by rfl) (he:outs=vT args.length k0 (.obj cs'):=by rfl) (nx:Nat.blt k0 ys.length=true:=by rfl) (aT:hx P f=true:=by kernel_rfl) (aP:get G2 d=none:=by rfl) (ui:Nat.beq r d=false:=by rfl) (JW:pick (get ((r,.obj cs')::G2)) ks=some G2:=by rfl) (bp:N.ok d=true:=by rfl) [eH:dk cs] [dG:b6 res] [Fw:dk cs'] [aB:jU G2] :
  aE P N ops (⟨some d,.call { callee:=.value (.func f),args:=xs.toArray,argTypes:=fM },ty,pos,after,none⟩::l) (get G) K:=.ji rfl (fO.jN ha ah hr aq J aI aw he nx aT aP ui JW bp) cZ
theorem Sa {iJ:List Nat}(nx:vR (d::roots G a) G=some ks) (gv:C4 G (d::roots G a) [] G=some iJ) (he:qW ks iJ P N (get G) ⟨some d,.assign a,ty,pos,after,none⟩ (cR (get G2) d v)) (hk:aE P N ops l (get ((d,v)::G2)) K):aE P N ops (⟨some d,.assign a,ty,pos,after,none⟩::l) (get G) K:=.q_ rfl he (r7 ▸ hk)
theorem Sr {L:List α}{f:List α->Option β}{Ln:β}{M:List α}{e eW bR:Nat}{mr:TypeId}{parts:Array (Nat × Operand)}{ys:List ab}{en:bN α}(h:(cT L M).bind f=some Ln) [het:nc P mr α en] [ar:eE P mr e bR] (hk:aE P N ops l (get ((d,aj en M)::G)) K) (J:(hc (get G) (parts.toList.map (·.2))).bind pd=some ys:=by rfl) (aa:o0 ys=some (bA en M):=by rfl) (aX:ys.all (λy=>match jZ y with | some c=>Nat.beq c.length en.z | none=>false)=true:=by rfl) (aq:parts.toList=(parts.toList.map (·.2)).mapIdx (λi x=>(i,x)):=by rfl) (ri:(parts.toList.map (·.2)).length=eW:=by rfl) (ah:M.length=eW:=by rfl) (ud:bR=en.z:=by rfl) (hzero:i_ P e en.z=true:=by kernel_rfl) (au:Nat.ble (eW * en.z) 16777216=true:=by rfl) (fj:Nat.ble eW 16777216=true:=by rfl) [hv:jY (aC en M) (aj en M)] (bp:N.ok d=true:=by rfl) (aT:get G d=none:=by rfl):aE P N ops (⟨some d,.buildSlice mr eW parts,ty,pos,after,none⟩::l) (get G) K :=
 .e4 (O.c8 en M (ud ▸ ar.p) (zh J) aa aX aq ri ah hzero au fj) bp aT .none (r7 ▸ hk)
theorem St {M:List α}{e eW bR:Nat}{mr:TypeId}{parts:Array (Nat × Operand)}{ys:List ab}{en:bN α}(aw:Lv d l=true) [het:nc P mr α en] [ar:eE P mr e bR] (hk:aE P N ops l (get ((d,aj en M)::G)) K) (J:(hc (get G) (parts.toList.map (·.2))).bind pd=some ys:=by rfl) [aO:uZ en ys M] (aq:parts.toList=(parts.toList.map (·.2)).mapIdx (λi x=>(i,x)):=by rfl) (ri:(parts.toList.map (·.2)).length=eW:=by rfl) (ah:ys.length=eW:=by rfl) (ud:bR=en.z:=by rfl) (hzero:i_ P e en.z=true:=by kernel_rfl) (au:Nat.ble (eW * en.z) 16777216=true:=by rfl) (fj:Nat.ble eW 16777216=true:=by rfl) [hv:jY (aC en M) (aj en M)] (bp:N.ok d=true:=by rfl) (aT:get G d=none:=by rfl):aE P N ops (⟨some d,.buildSlice mr eW parts,ty,pos,after,none⟩::l) (get G) K :=
 .e4 (O.c8 en M (ud ▸ ar.p) (zh J) aO.p.1 aO.p.2.1 aq ri (aO.p.2.2.trans ah) hzero au fj) bp aT .none (r7 ▸ hk)
theorem Hl {ev:List Nat}(aq:bT P (kK bj g bX acc) op ty v) (hk:gr ev P N ops bj g i ((bX,d,some v)::acc) l K) (ag:Nat.beq ops.size (bX+l.length+1)=true:=by rfl) (aT:g d=none:=by rfl) (aB:acc.all (λe=>!Nat.beq e.2.1 d)=true:=by rfl) (bp:N.ok d=true:=by rfl):gr (bX::ev) P N ops bj g i acc (⟨some d,op,ty,pos,after,none⟩::l) K:=ay _ aq hk ag aT aB bp
theorem Hm {ev:List Nat}(aq:bT P (kK bj g bX acc) op ty v) (hk:gr ev P N ops bj g i ((bX,d,some v)::acc) l K) (h:(ops[j]?).bind (·.dst)=some cy:=by rfl) (aP:kK bj g bX acc cy=some (.lit (.bool b8)):=by rfl) (au:b8=b:=by (first | rfl | assumption)) (ag:Nat.beq ops.size (bX+l.length+1)=true:=by rfl) (aT:g d=none:=by rfl) (aB:acc.all (λe=>!Nat.beq e.2.1 d)=true:=by rfl) (bp:N.ok d=true:=by rfl):gr (bX::ev) P N ops bj g i acc (⟨some d,op,ty,pos,after,some (j,b)⟩::l) K:=.v _ aq ag aT aB bp (.na h aP au) hk
theorem L_ {ev:List Nat}(aq:cd P (kK bj g bX acc) op v) (hk:gr ev P N ops bj g i ((bX,d,some v)::acc) l K) (ag:Nat.beq ops.size (bX+l.length+1)=true:=by rfl) (aT:g d=none:=by rfl) (aB:acc.all (λe=>!Nat.beq e.2.1 d)=true:=by rfl) (bp:N.ok d=true:=by rfl):gr (bX::ev) P N ops bj g i acc (⟨some d,op,ty,pos,after,none⟩::l) K:=.c _ aq ag aT aB bp .none hk
theorem L9 {ev:List Nat}(aq:cd P (kK bj g bX acc) op v) (hk:gr ev P N ops bj g i ((bX,d,some v)::acc) l K) (h:(ops[j]?).bind (·.dst)=some cy:=by rfl) (aP:kK bj g bX acc cy=some (.lit (.bool b8)):=by rfl) (au:b8=b:=by (first | rfl | assumption)) (ag:Nat.beq ops.size (bX+l.length+1)=true:=by rfl) (aT:g d=none:=by rfl) (aB:acc.all (λe=>!Nat.beq e.2.1 d)=true:=by rfl) (bp:N.ok d=true:=by rfl):gr (bX::ev) P N ops bj g i acc (⟨some d,op,ty,pos,after,some (j,b)⟩::l) K:=.c _ aq ag aT aB bp (.na h aP au) hk
theorem R7 {ev:List Nat}(hk:gr ev P N ops bj g i ((bX,d,some (.bS []))::acc) l K) (h:(ops[j]?).bind (·.dst)=some cy:=by rfl) (aP:kK bj g bX acc cy=some (.lit (.bool b8)):=by rfl) (au:b8=!b:=by (first | rfl | assumption)) (ag:Nat.beq ops.size (bX+l.length+1)=true:=by rfl) (aT:g d=none:=by rfl) (aB:acc.all (λe=>!Nat.beq e.2.1 d)=true:=by rfl) (bp:N.ok d=true:=by rfl):gr (bX::ev) P N ops bj g i acc (⟨some d,op,ty,pos,after,some (j,b)⟩::l) K:=.ps _ h aP au ag aT aB bp hk
theorem R8 {ev:List Nat}(hk:gr ev P N ops bj g i ((bX,d,some (.bS []))::acc) l K) (h:(ops[j]?).bind (·.dst)=some cy:=by rfl) (aP:kK bj g bX acc cy=some (.bS []):=by rfl) (ag:Nat.beq ops.size (bX+l.length+1)=true:=by rfl) (aT:g d=none:=by rfl) (aB:acc.all (λe=>!Nat.beq e.2.1 d)=true:=by rfl) (bp:N.ok d=true:=by rfl):gr (bX::ev) P N ops bj g i acc (⟨some d,op,ty,pos,after,some (j,b)⟩::l) K:=.pu _ h aP ag aT aB bp hk
theorem R3 {ev:List Nat}{L:List α}{f:List α->Option β}{Ln:β}{M:List α}{e eW bR:Nat}{mr:TypeId}{parts:Array (Nat × Operand)}{ys:List ab}{en:bN α}(h:(cT L M).bind f=some Ln) [het:nc P mr α en] [ar:eE P mr e bR] (hk:gr ev P N ops bj g i ((bX,d,some (aj en M))::acc) l K) (J:(hc (kK bj g bX acc) (parts.toList.map (·.2))).bind pd=some ys:=by rfl) (aa:o0 ys=some (bA en M):=by rfl) (aX:ys.all (λy=>match jZ y with | some c=>Nat.beq c.length en.z | none=>false)=true:=by rfl) (aq:parts.toList=(parts.toList.map (·.2)).mapIdx (λi x=>(i,x)):=by rfl) (ri:(parts.toList.map (·.2)).length=eW:=by rfl) (ah:M.length=eW:=by rfl) (ud:bR=en.z:=by rfl) (hzero:i_ P e en.z=true:=by kernel_rfl) (au:Nat.ble (eW * en.z) 16777216=true:=by rfl) (fj:Nat.ble eW 16777216=true:=by rfl) [hv:jY (aC en M) (aj en M)] (ag:Nat.beq ops.size (bX+l.length+1)=true:=by rfl) (aT:g d=none:=by rfl) (aB:acc.all (λe=>!Nat.beq e.2.1 d)=true:=by rfl) (bp:N.ok d=true:=by rfl):gr (bX::ev) P N ops bj g i acc (⟨some d,.buildSlice mr eW parts,ty,pos,after,none⟩::l) K :=
 bC.e4 bX (O.c8 en M (ud ▸ ar.p) (zh J) aa aX aq ri ah hzero au fj) ag aT aB bp .none hk
theorem R4 {ev:List Nat}{M:List α}{e eW bR:Nat}{mr:TypeId}{parts:Array (Nat × Operand)}{ys:List ab}{en:bN α}(aw:Lv d l=true) [het:nc P mr α en] [ar:eE P mr e bR] (hk:gr ev P N ops bj g i ((bX,d,some (aj en M))::acc) l K) (J:(hc (kK bj g bX acc) (parts.toList.map (·.2))).bind pd=some ys:=by rfl) [aO:uZ en ys M] (aq:parts.toList=(parts.toList.map (·.2)).mapIdx (λi x=>(i,x)):=by rfl) (ri:(parts.toList.map (·.2)).length=eW:=by rfl) (ah:ys.length=eW:=by rfl) (ud:bR=en.z:=by rfl) (hzero:i_ P e en.z=true:=by kernel_rfl) (au:Nat.ble (eW * en.z) 16777216=true:=by rfl) (fj:Nat.ble eW 16777216=true:=by rfl) [hv:jY (aC en M) (aj en M)] (ag:Nat.beq ops.size (bX+l.length+1)=true:=by rfl) (aT:g d=none:=by rfl) (aB:acc.all (λe=>!Nat.beq e.2.1 d)=true:=by rfl) (bp:N.ok d=true:=by rfl):gr (bX::ev) P N ops bj g i acc (⟨some d,.buildSlice mr eW parts,ty,pos,after,none⟩::l) K :=
 bC.e4 bX (O.c8 en M (ud ▸ ar.p) (zh J) aO.p.1 aO.p.2.1 aq ri (aO.p.2.2.trans ah) hzero au fj) ag aT aB bp .none hk
theorem R6 {ev:List Nat}{iJ:List Nat}(nx:vR [] (r0 acc G)=some ks) (gv:C4 (r0 acc G) [] [] (r0 acc G)=some iJ) (he:qW ks iJ P N (dr (get G) (λ_=>true) acc) o (get G2)) (hk:gr ev P N ops bj (get G2) (bX+1) [] l K) (aP:o.guard=none:=by rfl) (gN:sy ((acc.filterMap k7).map Place.root)=true:=by rfl) (fL:n' G=true:=by rfl) (ag:Nat.beq ops.size (bX+l.length+1)=true:=by rfl)
  (aI:(List.range bX).all (λk=>(bj.getD bX []).contains k)=true:=by kernel_rfl) (au:(List.range ops.size).all (λk=>Nat.ble k bX||(bj.getD k []).contains bX)=true:=by kernel_rfl):gr (bX::ev) P N ops bj (get G) i acc (o::l) K:=.zi _ he aP gN fL ag aI au hk
theorem R5 {ev:List Nat}{iJ:List Nat}(nx:vR (d::roots (r0 acc G) a) (r0 acc G)=some ks) (gv:C4 (r0 acc G) (d::roots (r0 acc G) a) [] (r0 acc G)=some iJ) (he:qW ks iJ P N (dr (get G) (λ_=>true) acc) ⟨some d,.assign a,ty,pos,after,none⟩ (cR (get G2) d v)) (hk:gr ev P N ops bj (get ((d,v)::G2)) (bX+1) [] l K) (gN:sy ((acc.filterMap k7).map Place.root)=true:=by rfl) (fL:n' G=true:=by rfl) (ag:Nat.beq ops.size (bX+l.length+1)=true:=by rfl)
  (aI:(List.range bX).all (λk=>(bj.getD bX []).contains k)=true:=by kernel_rfl) (au:(List.range ops.size).all (λk=>Nat.ble k bX||(bj.getD k []).contains bX)=true:=by kernel_rfl):gr (bX::ev) P N ops bj (get G) i acc (⟨some d,.assign a,ty,pos,after,none⟩::l) K:=.bv _ he rfl gN fL ag aI au hk
theorem bC.Nr {K:aL->Prop}(aX:xU (acc.filterMap k7)=true) (fL:n' G=true) (hi:Nat.ble i ops.size=true) (cZ:K (dr (get G) (λ_=>true) acc)):bC P N ops bj (get G) i acc [] K:=by
 intro dA j bQ lR mc;have ag:j=ops.size:=by
  have h1:ops.size<=j:=by
   have:=congrArg List.length mc;rw [List.length_drop,List.length_nil,Array.length_toList] at this;omega
  have aD:j<=ops.size:=by
   cases lR with
   | nil=>exact Nat.le_of_ble_eq_true hi
   | step _ aW=>have:=(Array.getElem?_eq_some_iff.1 aW).1; omega
  omega
 subst ag;exact ⟨_,.fin lR (KW aX) (xW fL),cZ⟩
theorem R2 {ev:List Nat}{Ev:lC->List (Nat × ab)->Prop}(nx:KI E [] (r0 acc G)=some ks) (aq:pick (dr (get G) (λ_=>true) acc) ks=some G1) [aB:jU G1] (hk:Ev t G1) (aX:xU (acc.filterMap k7)=true:=by rfl) (fL:n' G=true:=by rfl) (hi:Nat.ble i ops.size=true:=by rfl):gr ev P N ops bj (get G) i acc [] (yY E t Ev) :=
 .Nr aX fL hi ⟨G1,(wc (c:=true) (g2:=get G1) aq aB.p).e5,hk⟩
theorem R1 {ev:List Nat}{F:α->List (Nat × ab)}{j v:α}(h:some v=some j) (ar:Trim true (dr (get G) (λ_=>true) acc) (get (F v)) (F v)) (aX:xU (acc.filterMap k7)=true:=by rfl) (fL:n' G=true:=by rfl) (hi:Nat.ble i ops.size=true:=by rfl):gr ev P N ops bj (get G) i acc [] (sQ F j .normal):=by
 cases h; exact .Nr aX fL hi ⟨rfl,.e5 ar.e5 .hX⟩
theorem cH.rd [hm:EB P] (h:gr num P N l.toArray bj (get G) 0 [] l (yY E y λt G1=>cH E t P N B G1 Φ)) (dI:qd l.toArray bj=true:=by kernel_rfl):cH E (.rd id bj y) P N (.seq (.region id l.toArray true) B) G Φ:=by
 obtain ⟨g',h1,G1,af,aD⟩:=h [] 0 .nil .nil (by simp);exact W.seq ((lB.draw hm.p dI h1).w (W.weaken af aD))
theorem cH.bY {m:Option α}{f:α->Option β}{r:β}{L cQ:α->List (Nat × ab)} [hm:EB P] (h:m.bind f=some r) (h1:∀ j,m=some j->gr num P N l.toArray bj (get G) 0 [] l (sQ cQ j .normal)) (af:∀ j,m=some j->f j=some r->cH E y P N B (cQ j) Φ)
  (aH:∀ j,pick (qF (L j) G) ks=some (cQ j):=by intro j; rfl) (dI:qd l.toArray bj=true:=by kernel_rfl):cH E (.bY id bj ks L y) P N (.seq (.region id l.toArray true) B) G Φ:=by
 obtain ⟨j,ag,h⟩:=u' h;obtain ⟨g',b9,_,eP⟩:=h1 j ag [] 0 .nil .nil (by simp);exact W.seq ((lB.draw hm.p dI b9).w (W.be (af j ag h) eP))
theorem cH.Z9 [hm:EB P] (h:gr num P N l.toArray bj (get G) 0 [] l (yY E y λt G1=>dX E t .normal Φ G1)) (dI:qd l.toArray bj=true:=by kernel_rfl):cH E (.rd id bj y) P N (.region id l.toArray true) G Φ:=by
 obtain ⟨g',h1,G1,af,aD⟩:=h [] 0 .nil .nil (by simp);exact (lB.draw hm.p dI h1).w (aD g' (.e5 af .hX))
theorem cH.aad {m:Option α}{f:α->Option β}{r:β}{L cQ:α->List (Nat × ab)}(h:m.bind f=some r) (h1:∀ j,m=some j->aE P N l.toArray l (get G) (sQ cQ j .normal)) (af:∀ j,m=some j->f j=some r->dX E y .normal Φ (cQ j))
  (aH:∀ j,pick (qF (L j) G) ks=some (cQ j):=by intro j; rfl):cH E (.eK id ks L y) P N (.region id l.toArray false) G Φ:=by
 obtain ⟨j,ag,h⟩:=u' h;exact W.D1 λi hi=>by
  obtain ⟨g',b9,_,eP⟩:=h1 j ag i hi;exact ⟨g',b9,af j ag h _ eP⟩
theorem cH.fV {S R gu:Type}{f:S->Option (S ⊕ (R ⊕ gu))}{s:S}{IJ:R ⊕ gu->Option β}{r:β}{F cQ:S->List (Nat × ab)}{ks sv C5:List Nat}{X mE:R->List (Nat × ab)}{Y tI:gu->List (Nat × ab)}(h:(cf f s).bind IJ=some r)
  (au:∀ s o,f s=some o->cH E x P N c (cQ s) (lg cQ (Bf id mE tI) o)) (J:∀ c',IJ (.inl c')=some r->dX E y (.exit id) Φ (mE c')) (ao:∀ c',IJ (.inr c')=some r->dX E z .ret Φ (tI c'))
  (aH:∀ s,pick (qF (F s) G) ks=some (cQ s):=by intro s; rfl) (eg:∀ s,pick (qF (X s) G) sv=some (mE s):=by intro s; rfl) (B7:∀ s,pick (qF (Y s) G) C5=some (tI s):=by intro s; rfl) (ar:Trim true (get G) (get (cQ s)) (cQ s):=by (repeat' first | exact .nil | refine .n rfl ?_ | refine .w rfl rfl .pV ?_ | refine .w rfl rfl .pU ?_ | refine .w rfl rfl (ke.obj (by (repeat' first | exact .nil | refine .f ?_ | refine .o ?_ | refine .i ?_))) ?_)) :
  cH E (.fV F ks id X sv Y C5 x y z) P N (.loop c) G Φ:=by
 obtain ⟨c',ah,h⟩:=u' h;exact W.c5 ar (W.PD cQ id mE tI ah au (λq e=>J q (e ▸ h)) (λq e=>ao q (e ▸ h)))
theorem dX.x2 {S R gu:Type}{r:R}{o:S ⊕ (R ⊕ gu)}{F:S->List (Nat × ab)}{X:R->List (Nat × ab)}{Y:gu->List (Nat × ab)}(h:some (.inr (.inl r))=some o) (ar:Trim true (get G) (get (X r)) (X r)):dX E t (.exit id) (lg F (Bf id X Y) o) G:=by
 cases h; exact ax.x2 ar
theorem dX.hE {S R gu:Type}{r:gu}{o:S ⊕ (R ⊕ gu)}{F:S->List (Nat × ab)}{X:R->List (Nat × ab)}{Y:gu->List (Nat × ab)}(h:some (.inr (.inr r))=some o) (ar:Trim true (get G) (get (Y r)) (Y r)):dX E t .ret (lg F (Bf id X Y) o) G:=by
 cases h; exact ax.hE ar
end
section
variable {P:Program}{N:cN}{E:List Nat}{t x y z:lC}{A B c:Code}{G:List (Nat × ab)}{Φ:Exit->aL->Prop}{id k s:Nat}{o:Operand}
theorem kd.dL {α:Type}{en:bN α}{i:Option Nat}(h:cH E (.dL id s i en y) P N c G Φ):cH E (.dL id s i en y) P N c G Φ:=h
theorem kd.hJ {α:Type}{en:bN α}{i:Option Nat}(h:cH E (.hJ s i en y) P N c G Φ):cH E (.hJ s i en y) P N c G Φ:=h
theorem kd.eK {α:Type}{ks:List Nat}{L:α->List (Nat × ab)}(h:cH E (.eK id ks L y) P N c G Φ):cH E (.eK id ks L y) P N c G Φ:=h
theorem kd.bY {α:Type}{bj:List (List Nat)}{ks:List Nat}{L:α->List (Nat × ab)}(h:cH E (.bY id bj ks L y) P N c G Φ):cH E (.bY id bj ks L y) P N c G Φ:=h
theorem kd.rd {bj:List (List Nat)}(h:cH E (.rd id bj y) P N c G Φ):cH E (.rd id bj y) P N c G Φ:=h
theorem kd.bM (h:cH E t P N (.cond o A B) G Φ):cH E t P N (.cond o A B) G Φ:=h
theorem kd.e3 (h:cH E t P N (.loop A) G Φ):cH E t P N (.loop A) G Φ:=h
theorem kd.KD {α:Type}{ks:List Nat}{L:α->List (Nat × ab)}(h:cH E (.dB ks L x y) P N (.block id A) G Φ):cH E (.dB ks L x y) P N (.block id A) G Φ:=h
theorem kd.rg {ops:Array Oper}{b:Bool}(h:cH E t P N (.region id ops b) G Φ):cH E t P N (.region id ops b) G Φ:=h
theorem kd.ZM {S R:Type}{F:S->List (Nat × ab)}{Ψ:R->Exit->aL->Prop}{o:S ⊕ R}{e:Exit}(h:dX E t e (lg F Ψ o) G):dX E t e (lg F Ψ o) G:=h
theorem kd.ZP {α:Type}{F:α->List (Nat × ab)}{j:α}{e:Exit}(h:dX E t e (sQ F j) G):dX E t e (sQ F j) G:=h
theorem kd.Tn (h:dX E t (.exit k) (mj id Φ) G):dX E t (.exit k) (mj id Φ) G:=h
theorem kd.Am {rs:List ResultVar}{n:Nat}{outs:List (Option ab)}{res:ab}{e:Exit}(h:dX E t e (p4 P N rs n outs res) G):dX E t e (p4 P N rs n outs res) G:=h
end
section
variable {P:Program}{N:cN}{E:List Nat}{t:lC}{G:List (Nat × ab)}{g':aL}{rs:List ResultVar}{ys xs:List ab}{res:ab}{outs:List (Option ab)}{n:Nat}
theorem kb.Na {g w3:aL}{s z:Nat}{mr:TypeId}{cs ys0:List ab}{rs:List ResultVar}{ys xs:List ab}(h:g s=some (.obj cs)) [ar:l8 P mr z] (aX:cs.length=z) (aK:Nat.blt 0 z=true) (ao:yp (λi x=>fW 0 ⟨s,[i]⟩ x) 0 num cs=some ys0) (hk:nM s g 0 ys0 cs w3) (hr:kb P w3 rs ys xs g'):kb P g (.cell s mr::rs) (.agg ys0::ys) (.agg cs::xs) g':=.c h ar.p aX aK (by have:=D2 ao; simpa using this) hk hr
theorem dX.dK (h:kb P (get G) rs ys xs g':=by (repeat' first | exact .nil | (apply kb.f rfl rfl) | (apply kb.o rfl) | (apply kb.Na rfl rfl rfl rfl) | (apply nM.f rfl) | (apply nM.o rfl))) (he:pX xs=res:=by rfl) (aW:q4 g' N.pins 0 outs:=by (repeat' first | exact .nil | refine .no ?_ | refine .al rfl rfl ?_)) (eA:(rs.filterMap fun | .cell t _=>some t | _=>none).Nodup:=by exact of_decide_eq_true (by kernel_rfl)) (ah:outs.length=n:=by rfl):dX E t .ret (p4 P N rs n outs res) G:=jz h he aW eA ah
theorem dX.fn (h:kb P (get G) rs ys xs g':=by (repeat' first | exact .nil | (apply kb.f rfl rfl) | (apply kb.o rfl) | (apply kb.Na rfl rfl rfl rfl) | (apply nM.f rfl) | (apply nM.o rfl))) (he:pX xs=res:=by rfl) (aW:q4 g' N.pins 0 outs:=by (repeat' first | exact .nil | refine .no ?_ | refine .al rfl rfl ?_)) (eA:(rs.filterMap fun | .cell t _=>some t | _=>none).Nodup:=by exact of_decide_eq_true (by kernel_rfl)) (ah:outs.length=n:=by rfl):dX E t .normal (p4 P N rs n outs res) G:=ax.fin (Fin.ro h he eA aW ah (.inl rfl))
theorem bT.de {P:Program}{g:aL}{ty:TypeId}{v:ab}(op:Op) (h:bT P g op ty v):bT P g op ty v:=h
theorem ps {P:Program}{g:aL}{op:Op}{ty:TypeId}{v:ab}(h:bT P g op ty v:=by (first
 | ((with_reducible apply bT.de (.move _)); exact O.aS .q)
 | ((with_reducible apply bT.de (.assign (.const _))); exact O.az .q)
 | ((with_reducible apply bT.de (.assign (.tmp _))); exact O.az .Lh)
 | ((with_reducible apply bT.de (.load _ _)); first | exact O.ik | exact O.hs | exact O.LP | exact O.LQ | exact O.abD | exact O.abI | exact O.afN)
 | ((with_reducible apply bT.de (.fieldAddr _ _ _)); first | exact O.abA | exact O.abB | exact O.wf)
 | ((with_reducible apply bT.de (.indexAddr _ _ _)); first | exact O.e5 | exact O.abJ)
 | ((with_reducible apply bT.de (.binOp .add _ _ _ _)); exact O.add .q .q)
 | ((with_reducible apply bT.de (.binOp .sub _ _ _ _)); exact O.sub .q .q)
 | ((with_reducible apply bT.de (.binOp .mul _ _ _ _)); exact O.mul .q .q)
 | ((with_reducible apply bT.de (.binOp .lss _ _ _ _)); exact O.lss .q .q)
 | ((with_reducible apply bT.de (.binOp .leq _ _ _ _)); exact O.leq .q .q)
 | ((with_reducible apply bT.de (.binOp .gtr _ _ _ _)); exact O.gtr .q .q)
 | ((with_reducible apply bT.de (.binOp .geq _ _ _ _)); exact O.geq .q .q)
 | ((with_reducible apply bT.de (.binOp .eql _ _ _ _)); first | exact O.eql .q .q | exact O.sX .q .q | exact O.Vc .q .q (by kernel_rfl) | exact O.qO)
 | ((with_reducible apply bT.de (.binOp .neq _ _ _ _)); first | exact O.neq .q .q | exact O.qD .q .q | exact O.wn)
 | ((with_reducible apply bT.de (.unOp .not _ _)); exact O.not .q)
 | ((with_reducible apply bT.de (.unOp .neg _ _)); exact O.neg .q)
 | ((with_reducible apply bT.de (.pick _ _ _)); first | exact O.hN .q (by first | rfl | assumption) .q | exact O.ml .q (by first | rfl | assumption) .q)
 | ((with_reducible apply bT.de (.nilCheck _)); first | exact O.cP .q | exact O.Dd .q)
 | ((with_reducible apply bT.de (.extract _ _)); exact O.abU)
 | ((with_reducible apply bT.de (.convert _ _ _)); first | exact O.abH | exact O.abG)
 | ((with_reducible apply bT.de (.box _ _)); exact O.aby)
 | ((with_reducible apply bT.de (.alloc _)); first | exact O.afL | exact O.abE)
 | ((with_reducible apply bT.de (.build _ _)); exact O.abS)
 | ((with_reducible apply bT.de (.field _ _ _)); exact O.wd)
 | ((with_reducible apply bT.de (.buildSlice _ 0 #[])); exact O.wl)
 | ((with_reducible apply bT.de (.makeFunc _ _ _)); exact O.KT rfl)
 | ((with_reducible apply bT.de (.call { callee:=.builtin .len,args:=#[_],argTypes:=#[_] })); first | exact O.mT .q eE.p | exact O.lu .q eE.p | exact O.z1 .q pw.p))):bT P g op ty v:=h
theorem Gw {P:Program}{g:aL}{op:Op}{ty:TypeId}{v:ab}(h:bT P g op ty v:=by (first
 | ((with_reducible apply bT.de (.indexAddr _ _ _)); first | exact O.abC J | exact O.G9 J)
 | ((with_reducible apply bT.de (.binOp .add _ _ _ _)); exact O.cat .q .q J)
 | ((with_reducible apply bT.de (.binOp .quo _ _ _ _)); first | exact O.quo .q .q J | exact O.uI .q .q J)
 | ((with_reducible apply bT.de (.binOp .rem _ _ _ _)); first | exact O.rem .q .q J | exact O.uL .q .q J)
 | ((with_reducible apply bT.de (.index _ _ _)); exact O.oy .q .q pw.p J)
 | ((with_reducible apply bT.de (.makeSlice _ _ _)); first | exact O.abN J | exact O.abV J)
 | ((with_reducible apply bT.de (.slice _ _ _ _ _)); first | exact O.GR .q .q .q pw.p J | exact O.afz .q .q pw.p J | exact O.afA .q .q pw.p J | exact O.afM J | exact O.abQ J | exact O.abR J)
 | ((with_reducible apply bT.de (.call { callee:=.builtin .append,args:=#[_,_],argTypes:=#[_,_] })); first | exact O.wp J | exact O.abO J | exact O.abz J))):bT P g op ty v:=h
set_option maxRecDepth 1000000 in
/-- The walk: what it meets it does. -/
theorem du {p:Prop}(h:p:=by
(repeat' (first
 | ((with_reducible apply aE.de _ none); first
  | refine aU h λx J h=>Hz Gw ?_
  | refine aU h λx J h=>Hz (O.wr J) ?_
  | refine Hz ps ?_
  | ((with_reducible apply aE.de (.call { callee:=.value _,args:=_,argTypes:=_ }) none); first | (refine aU h λx J h=>Ms (cd.dY ?_ (bw.go J)) ?_; · (repeat' first | exact .nil | refine .b8 .q ?_)) | (refine aU h λx J h=>Ms (cd.mZ rfl ?_ (bw.go J)) ?_; · (repeat' first | exact .nil | refine .s ?_ | refine .c (View.kI rfl rfl) ?_ | refine .c (.row rfl) ?_ | refine .c (View.nP ?_) ?_ | refine .c (View.cl ?_) ?_)) | (refine aU h λx J h=>R_ (bw.go J) rfl rfl rfl rfl rfl (by repeat' first | exact .nil | refine .b rfl ?_ | refine .n rfl ?_) ?_))
  | ((with_reducible apply aE.de (.buildSlice _ _ _) none); first | refine Sr h ?_ | refine St rfl ?_ | refine acn rfl ?_ | refine Su [_] rfl ?_ | refine Su [_,_] rfl ?_)
  | ((with_reducible apply aE.de (.assign _) none); refine Sv rfl rfl rfl ?_)
  | ((with_reducible apply aE.de (.move _) none); refine Sw rfl rfl rfl ?_)
  | ((with_reducible apply aE.de (.move _) none); first | refine Mt rfl rfl (O.aS .q) ?_)
  | ((with_reducible apply aE.de (.assign (.const _)) none); first | refine Mt rfl rfl (O.az .q) ?_)
  | ((with_reducible apply aE.de (.assign (.tmp _)) none); first | refine Mt rfl rfl (O.az .Lh) ?_)
  | ((with_reducible apply aE.de (.assign (.tmp _)) none); refine Sa rfl rfl (by first | exact fO.kU | exact fO.wL | exact fO.EU | exact fO.nP .q (by repeat' first | exact eN.nil | (apply eN.f) | (apply eN.r rfl) | (apply eN.nP) | (apply eN.b rfl))) ?_))
 | ((with_reducible apply aE.ts); refine Sb rfl rfl (by first | exact fO.ff | exact fO.l1 | exact fO.uT | exact fO.sp | exact fO.uN | exact fO.aaG .q (by repeat' first | exact eN.nil | (apply eN.f) | (apply eN.r rfl) | (apply eN.nP) | (apply eN.b rfl))) ?_)
 | ((with_reducible apply aE.de _ (some _)); first
  | refine qZ ?_
  | refine Sf ?_
  | refine aU h λx J h=>Hr Gw ?_
  | refine aU h λx J h=>Hr (O.wr J) ?_
  | refine Hr ps ?_
  | ((with_reducible apply aE.de (.call { callee:=.value _,args:=_,argTypes:=_ }) (some _)); first | (refine aU h λx J h=>Md (cd.dY ?_ (bw.go J)) ?_; · (repeat' first | exact .nil | refine .b8 .q ?_)) | (refine aU h λx J h=>Md (cd.mZ rfl ?_ (bw.go J)) ?_; · (repeat' first | exact .nil | refine .s ?_ | refine .c (View.kI rfl rfl) ?_ | refine .c (.row rfl) ?_ | refine .c (View.nP ?_) ?_ | refine .c (View.cl ?_) ?_)))
  | refine H9 h (λau h=>?_) (λau h=>?_))
 | ((with_reducible apply aE.nl); first | refine Ho rfl rfl ?_ | refine Sc h (by (repeat' first | exact .nil | refine .n rfl ?_ | refine .w rfl rfl .pV ?_ | refine .w rfl rfl .pU ?_ | refine .w rfl rfl (ke.obj (by (repeat' first | exact .nil | refine .f ?_ | refine .o ?_ | refine .i ?_))) ?_)))
 | ((with_reducible apply gr.de _ none); first
  | refine aU h λx J h=>Hl Gw ?_
  | refine aU h λx J h=>Hl (O.abT J) ?_
  | refine Hl ps ?_
  | ((with_reducible apply gr.de (.call { callee:=.value _,args:=_,argTypes:=_ }) none); first | (refine aU h λx J h=>L_ (cd.dY ?_ (bw.go J)) ?_; · (repeat' first | exact .nil | refine .b8 .q ?_)) | (refine aU h λx J h=>L_ (cd.mZ rfl ?_ (bw.go J)) ?_; · (repeat' first | exact .nil | refine .s ?_ | refine .c (View.kI rfl rfl) ?_ | refine .c (.row rfl) ?_ | refine .c (View.nP ?_) ?_ | refine .c (View.cl ?_) ?_)) | (refine aU h λx J h=>ach (bw.go J) rfl rfl rfl rfl rfl (by repeat' first | exact .nil | refine .b rfl ?_ | refine .n rfl ?_) ?_))
  | ((with_reducible apply gr.de (.buildSlice _ _ _) none); first | refine R3 h ?_ | refine R4 rfl ?_ | refine aci rfl ?_ | refine acj [_,_] rfl ?_ | refine R9 [_] rfl ?_ | refine R9 [_,_] rfl ?_)
  | ((with_reducible apply gr.de (.assign _) none); refine R5 rfl rfl (by first | exact fO.kU | exact fO.wL | exact fO.EU | exact fO.SF | exact fO.nP .q (by repeat' first | exact eN.nil | (apply eN.f) | (apply eN.r rfl) | (apply eN.nP) | (apply eN.b rfl))) ?_))
 | ((with_reducible apply gr.ts); refine R6 rfl rfl (by first | exact fO.ff | exact fO.l1 | exact fO.uT | exact fO.sp | exact fO.uN | exact fO.aaG .q (by repeat' first | exact eN.nil | (apply eN.f) | (apply eN.r rfl) | (apply eN.nP) | (apply eN.b rfl))) ?_)
 | ((with_reducible apply gr.de _ (some _)); first
  | refine R7 ?_
  | refine R8 ?_
  | refine aU h λx J h=>Hm Gw ?_
  | refine aU h λx J h=>Hm (O.abT J) ?_
  | refine Hm ps ?_
  | ((with_reducible apply gr.de (.call { callee:=.value _,args:=_,argTypes:=_ }) (some _)); first | (refine aU h λx J h=>L9 (cd.dY ?_ (bw.go J)) ?_; · (repeat' first | exact .nil | refine .b8 .q ?_)) | (refine aU h λx J h=>L9 (cd.mZ rfl ?_ (bw.go J)) ?_; · (repeat' first | exact .nil | refine .s ?_ | refine .c (View.kI rfl rfl) ?_ | refine .c (.row rfl) ?_ | refine .c (View.nP ?_) ?_ | refine .c (View.cl ?_) ?_)))
  | refine H9 h (λau h=>?_) (λau h=>?_))
 | ((with_reducible apply gr.nl); first | refine R2 rfl rfl ?_ | refine R1 h (by (repeat' first | exact .nil | refine .n rfl ?_ | refine .w rfl rfl .pV ?_ | refine .w rfl rfl .pU ?_ | refine .w rfl rfl (ke.obj (by (repeat' first | exact .nil | refine .f ?_ | refine .o ?_ | refine .i ?_))) ?_)))
 | ((with_reducible apply kd.dL); refine cH.dL rfl (by first | exact .w | exact .n | exact .c rfl .w rfl | exact .c rfl .n rfl) rfl rfl ?_)
 | ((with_reducible apply kd.hJ); refine cH.hJ rfl (by first | exact .w | exact .n | exact .c rfl .w rfl | exact .c rfl .n rfl) rfl rfl ?_)
 | ((with_reducible apply kd.eK); first | refine cH.eK h (λj h=>?_) (λj ag h=>?_) | refine cH.aad h (λj h=>?_) (λj ag h=>?_))
 | ((with_reducible apply kd.bY); first | refine cH.bY h (λj h=>?_) (λj ag h=>?_) | refine cH.afy h (λj h=>?_) (λj ag h=>?_))
 | ((with_reducible apply kd.rd); first | refine cH.rd ?_ | refine cH.Z9 ?_)
 | (with_reducible apply cH.rg)
 | (with_reducible apply cH.bI)
 | ((with_reducible apply kd.bM); first
  | refine cH.YS h (λj h=>?_) (λj ag h=>?_)
  | refine cH.bZ h (λau h=>?_) (λau h=>?_)
  | refine cH.ce h (λau h=>?_) (λau h=>?_)
  | refine cH.acu ?_
  | refine cH.acs ?_)
 | ((with_reducible apply kd.KD); refine cH.KD h (λj h=>?_) (λj ag h=>?_))
 | (with_reducible apply cH.zi)
 | (with_reducible apply cH.ca)
 | (with_reducible apply cH.cM)
 | (with_reducible apply cH.fm)
 | ((with_reducible apply cH.aal); first
  | (refine cH.wj h (by (repeat' first | exact .nil | refine .z rfl rfl ?_ ?_ | exact .refl | exact .Dc | exact gQ.vw | refine fG.obj ?_ | refine .f ?_ | refine .o ?_ | refine .z ?_)) (by (repeat' first | exact .nil | refine .n rfl ?_ | refine .w rfl rfl .pV ?_ | refine .w rfl rfl .pU ?_ | refine .w rfl rfl (ke.obj (by (repeat' first | exact .nil | refine .f ?_ | refine .o ?_ | refine .i ?_))) ?_)))
  | (cases h; refine cH.hX rfl (by (repeat' first | exact .nil | refine .z rfl rfl ?_ ?_ | exact .refl | exact .Dc | exact gQ.vw | refine fG.obj ?_ | refine .f ?_ | refine .o ?_ | refine .z ?_)) ?_; exact dX.dK)
  | refine cH.GC ?_)
 | (with_reducible apply dX.bI)
 | (with_reducible apply dX.fe)
 | (with_reducible apply dX.gy)
 | (with_reducible apply dX.ca)
 | (with_reducible apply dX.fr)
 | (with_reducible apply dX.lH)
 | ((with_reducible apply kd.Tn); refine dX.E0 ?_)
 | ((with_reducible apply kd.ZM); first
  | refine dX.go h (by (repeat' first | exact .nil | refine .n rfl ?_ | refine .w rfl rfl .pV ?_ | refine .w rfl rfl .pU ?_ | refine .w rfl rfl (ke.obj (by (repeat' first | exact .nil | refine .f ?_ | refine .o ?_ | refine .i ?_))) ?_))
  | refine dX.aR h (by (repeat' first | exact .nil | refine .n rfl ?_ | refine .w rfl rfl .pV ?_ | refine .w rfl rfl .pU ?_ | refine .w rfl rfl (ke.obj (by (repeat' first | exact .nil | refine .f ?_ | refine .o ?_ | refine .i ?_))) ?_))
  | refine dX.x2 h (by (repeat' first | exact .nil | refine .n rfl ?_ | refine .w rfl rfl .pV ?_ | refine .w rfl rfl .pU ?_ | refine .w rfl rfl (ke.obj (by (repeat' first | exact .nil | refine .f ?_ | refine .o ?_ | refine .i ?_))) ?_))
  | refine dX.hE h (by (repeat' first | exact .nil | refine .n rfl ?_ | refine .w rfl rfl .pV ?_ | refine .w rfl rfl .pU ?_ | refine .w rfl rfl (ke.obj (by (repeat' first | exact .nil | refine .f ?_ | refine .o ?_ | refine .i ?_))) ?_)))
 | ((with_reducible apply kd.ZP); refine dX.dB h (by (repeat' first | exact .nil | refine .n rfl ?_ | refine .w rfl rfl .pV ?_ | refine .w rfl rfl .pU ?_ | refine .w rfl rfl (ke.obj (by (repeat' first | exact .nil | refine .f ?_ | refine .o ?_ | refine .i ?_))) ?_)))
 | ((with_reducible apply kd.e3); first
  | refine cH.e3 h (λs o h=>?_) (λr hr h=>?_)
  | refine cH.fV h (λs o h=>?_) (λr h=>?_) (λr h=>?_))
 | ((with_reducible apply kd.rg); with_reducible apply cH.rt)
 | ((with_reducible apply kd.Am); cases h; first | exact dX.dK | exact dX.fn)
 | refine H9 h (λau h=>?_) (λau h=>?_)))):p:=h
class y7 (P:Program) (N:cN) (Φ:Exit->aL->Prop) (rs:outParam (List ResultVar)) (n:outParam Nat) (outs:outParam (List (Option ab))) (res:outParam ab):Prop where p:∀ g,p4 P N rs n outs res .ret g->Φ .ret g
instance:y7 P N (p4 P N rs n outs res) rs n outs res:=⟨λ_ h=>h⟩
instance {Ψ:aL->Prop}{Φ:Exit->aL->Prop} [h:y7 P N Φ rs n outs res]:y7 P N (pk Ψ Φ) rs n outs res:=⟨λg bP=>h.p g bP⟩
instance {id:Nat}{Φ:Exit->aL->Prop} [h:y7 P N Φ rs n outs res]:y7 P N (mj id Φ) rs n outs res:=⟨λg bP=>h.p g bP⟩
class y6 {S R gu:Type}(Φ:Exit->aL->Prop) (F:outParam (S->List (Nat × ab))) (id:outParam Nat) (X:outParam (R->List (Nat × ab))) (Y:outParam (gu->List (Nat × ab))) (o:outParam (S ⊕ (R ⊕ gu))):Prop where p:∀ g,lg F (Bf id X Y) o .ret g->Φ .ret g
section
variable {S R gu:Type}{F:S->List (Nat × ab)}{id:Nat}{X:R->List (Nat × ab)}{Y:gu->List (Nat × ab)}{o:S ⊕ (R ⊕ gu)}{Φ:Exit->aL->Prop}
instance:y6 (lg F (Bf id X Y) o) F id X Y o:=⟨λ_ h=>h⟩
instance {Ψ:aL->Prop} [h:y6 Φ F id X Y o]:y6 (pk Ψ Φ) F id X Y o:=⟨λg bP=>h.p g bP⟩
instance {i:Nat} [h:y6 Φ F id X Y o]:y6 (mj i Φ) F id X Y o:=⟨λg bP=>h.p g bP⟩
theorem cH.wj {v:gu} [aY:y6 Φ F id X Y o] (h:some (.inr (.inr v))=some o) (aX:ow ((Y v).map Prod.fst) (get G) (get (Y v)) (Y v)) (aq:Trim true (get (Y v)) (get (Y v)) (Y v)):cH E t P N .ret G Φ:=by
 cases h;exact W.dL _ aX (W.rt λg au=>aY.p g (ax.hE aq g au))
end
def aac:ResultVar->ab->Option (Nat × ab)
 | .tmp t,x=>some (t,x)
 | .cell s _,.agg cs=>some (s,.obj cs)
 | _,_=>none
def Lj:List ResultVar->List ab->List (Nat × ab)->Option (List (Nat × ab))
 | [],[],T=>some T
 | r::rs,x::xs,T=>match Lj rs xs T,aac r x with
  | some l,some p=>some (p::l)
  | _,_=>none
 | _,_,_=>none
def K4:List Nat->List (Option ab)->Option (List (Nat × ab))
 | _,[]=>some []
 | j::ev,none::l=>K4 ev l
 | j::ev,some x::l=>match K4 ev l with
  | some r=>some ((j,x)::r)
  | none=>none
 | _,_=>none
def aab (rs:List ResultVar) (outs:List (Option ab)) (res:ab):Option (List (Nat × ab)) :=
 match K4 num outs with
 | none=>none
 | some T=>match rs,res with
  | [r],x=>Lj [r] [x] T
  | rs,.bS xs=>Lj rs xs T
  | _,_=>none
theorem gQ.vw {x y:ab} [aB:b6 x] [hv:jY x y]:gQ x y:=.o_ aB.bk (hv.v _)
inductive qX {α:Type}(en:bN α):Option Nat->ab->ab->Prop
 | w {E7:bN α}{L:List α} [h:jY (aC E7 L) (aj en L)]:qX en none (aC E7 L) (aj en L)
 | n [h:jY .aQ (aj en ([]:List α))]:qX en none .aQ (aj en ([]:List α))
 | c {i:Nat}{cs cs':List ab}{x y:ab}(J:cs[i]?=some x) (h:qX en none x y) (he:qM cs i [y]=some cs'):qX en (some i) (.obj cs) (.obj cs')
theorem qX.one {α:Type}{en:bN α}{x y:ab}(h:qX en none x y):gQ x y/\p5 y:=by
 cases h with
 | @w E7 L h=>exact ⟨.o_ (.own (oc E7 L)) (h.v _),⟨by intro _ _ _ _ _ e; cases e⟩⟩
 | @n h=>exact ⟨.o_ .aQ (h.v _),⟨by intro _ _ _ _ _ e; cases e⟩⟩
theorem qX.dL {α:Type}{en:bN α}{i:Option Nat}{x y:ab}(h:qX en i x y):gQ x y/\p5 y:=by
 cases h with
 | w=>exact qX.one .w
 | n=>exact qX.one .n
 | @c i cs cs' x y J h he =>
  obtain ⟨h1,af⟩:=od he;subst h1;refine ⟨.obj (by simp [eX] at af ⊢; omega) λk a b aI au=>?_,⟨by simp⟩⟩;unfold eX at au;simp only [List.length_singleton] at af au;by_cases hk:k<i
  ·rw [List.append_assoc,List.getElem?_append_left (by simp; omega),List.getElem?_take,if_pos hk,aI] at au;cases au; exact .refl
  ·by_cases fy:k=i
   ·subst fy;rw [List.append_assoc,List.getElem?_append_right (by rw [List.length_take]; exact Nat.min_le_left _ _),List.length_take,Nat.min_eq_left (by omega),Nat.sub_self] at au;simp at au;subst au;rw [J] at aI; cases aI;exact h.one.1
   ·rw [List.getElem?_append_right (by simp; omega)] at au;simp only [List.length_append,List.length_take,List.length_singleton,List.getElem?_drop] at au;rw [show i+1+(k - (min i cs.length+1))=k by omega,aI] at au;cases au; exact .refl
theorem Lb {g g2:aL}{s:Nat}:∀ {ks:List Nat}{G1:List (Nat × ab)},pick g ks=some G1->(ks.all λk=>![s].elem k)=true->(∀ e∈G1,cC e.2)->ow [s] g g2 G1
 | [],_,h,_,_=>by cases h; exact .nil
 | k::ks,G1,h,he,aB=>by
  obtain ⟨x,l,J,ah,rfl⟩:=DV h;rw [List.all_cons,Bool.and_eq_true] at he;have:b6 x:=⟨aB (k,x) (by simp)⟩;exact .n (by simpa using he.1) J (Lb ah he.2 λe h=>aB e (by simp [h]))
def YR (id:Nat):Code->Bool
 | .seq (.region k _ _) _=>Nat.beq k id
 | .region k _ _=>Nat.beq k id
 | _=>false
theorem cH.dL {α:Type}{en:bN α}{id s:Nat}{i:Option Nat}{B:Code}{Φ:Exit->aL->Prop}{x y:ab}{ks:List Nat}{jT:List (Nat × ab)}(aw:get G s=some x) (ao:qX en i x y) (hk:vR [s] G=some ks) (aq:pick (get G) ks=some jT) (h:cH E t P N B ((s,y)::jT) Φ) (ae3:YR id B=true:=by rfl) (cO:(ks.all λk=>![s].elem k)=true:=by rfl) [J:b6 x] [aB:jU jT]:cH E (.dL id s i en t) P N B G Φ :=
 have:=ao.dL.2
 W.dL [s] (.z (by simp) aw ao.dL.1 (Lb aq cO aB.p)) h
theorem cH.hJ {α:Type}{en:bN α}{s:Nat}{i:Option Nat}{c:Code}{Φ:Exit->aL->Prop}{x y:ab}{ks:List Nat}{jT:List (Nat × ab)}(aw:get G s=some x) (ao:qX en i x y) (hk:vR [s] G=some ks) (aq:pick (get G) ks=some jT) (h:cH E t P N (.loop c) ((s,y)::jT) Φ) (cO:(ks.all λk=>![s].elem k)=true:=by rfl) [J:b6 x] [aB:jU jT]:cH E (.hJ s i en t) P N (.loop c) G Φ :=
 have:=ao.dL.2
 W.dL [s] (.z (by simp) aw ao.dL.1 (Lb aq cO aB.p)) h
theorem cH.hX {Φ:Exit->aL->Prop}{G1:List (Nat × ab)} [aY:y7 P N Φ rs n outs res] (cY:aab rs outs res=some G1) (aX:ow (G1.map Prod.fst) (get G) (get G1) G1) (aq:dX E t .ret (p4 P N rs n outs res) G1):cH E t P N .ret G Φ :=
 W.dL _ aX (W.rt λg au=>aY.p g (aq g au))
def Gd:List Nat->Nat->List ab->Option (List (Nat × ab))
 | _,_,[]=>some []
 | [],_,_::_=>none
 | j::ev,k,x::l=>match Gd ev (k+1) l with
  | none=>none
  | some r=>match uy x,Nat.beq j k with
   | some y,true=>some ((j,y)::r)
   | _,_=>none
theorem PZ:∀ {l:List ab}{ev:List Nat}{k:Nat}{r:List (Nat × ab)},Gd ev k l=some r->xY k l=r
 | [],ev,k,r,h=>by cases ev <;> (cases h; rfl)
 | x::l,[],k,r,h=>by cases h
 | x::l,j::ev,k,r,h=>by
  unfold Gd at h
  split at h
  ·cases h
  ·rename_i c' hr
   split at h
   ·rename_i y ao ag;cases h; rw [<- PZ hr,<- xV ao,Nat.eq_of_beq_eq_true ag]; rfl
   ·cases h
def lits:List Nat:=[0,1,2,3,4,5,6,7,8,9,10,11,12]
theorem bO.bo {f:FuncId}{fn:Func}{c:Code}{args:List ab}{outs:List (Option ab)}{res:ab}(E:List Nat) (t:lC) (aT:P.funcs[f]?=some fn) (au:fn.body=some c) (bp:fn.ntmps=N.size) (aI:Nat.ble args.length N.size=true) (hlen:outs.length=args.length) (cY:Gd lits 0 args=some G) (hw:cH E t P N c G (p4 P N fn.results.toList args.length outs res)):bO P f args outs res:=bO.go aT au bp aI hlen (W.fin (by rw [PZ cY]; exact hw))
end
structure rW where
 n:Nat
 cs:List ab
 bk:∀ x∈cs,cC x
def GI:rW:=⟨0,[],λ_ h=>by cases h⟩
instance:Inhabited rW:=⟨GI⟩
def hW (z:Nat) (x:rW):ab:=.bd z x.n x.cs
def mV {α:Type}(e:bN α) (L:List α):rW:=⟨L.length,bA e L,oc e L⟩
instance {z:Nat}{x:rW}:b6 (hW z x):=⟨.bd x.bk⟩
instance {z:Nat}{x:rW}:jY (hW z x) (hW z x):=⟨λ_=>.self (.bd x.bk) (by simp [hW]) (by simp [hW]) (by simp [hW]) (by simp [hW]) (by simp [hW])⟩
instance {z:Nat}{α:Type}{e:bN α}:p6 (hW z (mV e [])):=⟨.gG⟩
end Go.Own
namespace Go.Own
open Go
variable [cE]
variable {α:Type}{g:aL}{a:Operand}
theorem Rd.mV {z:Nat}{x:rW}{en:bN α}{L:List α}(h:Rd g a (hW z x)) (aX:z=en.z) (aO:x=mV en L):Rd g a (.bd en.z L.length (bA en L)):=by
 subst aO aX;exact h
section
variable {P:Program}{N:cN}{d:Nat}{t e:TypeId}{s x:Operand}{y:ab}
instance {z:Nat}{x:rW}:nj (hW z x):=⟨.bd x.bk⟩
theorem bc.S0 {en:bN α}{L M hE:List α}{k fP r:Nat}{G2:List (Nat × ab)}{o:Oper}(aW:o.op=.call { callee:=.builtin .append,args:=#[s,x],argTypes:=#[t,t] }) (aO:o.dst=some d) (aw:Rd g s (.a6 en.z ⟨r,[]⟩ k)) (hr:g r=some (aC en L)) (hk:k<=L.length)
  (J:Rd g x y) (hm:nm g en y M) (ar:h4 P t e en.z fP=true) (au:Nat.ble fP 128=true) (h:cT (L.take k) M=some hE) (cY:Trim false (cn g ⟨r,[]⟩ .dead) (get G2) G2) (pK:get G2 d=none) (bp:N.ok d=true):bc P N g o (get ((d,aC en hE)::G2)):=by
 have dq:(L.take k).length=k:=by rw [List.length_take]; omega
 obtain ⟨h1,af,aD⟩:=u6 h au;rw [dq] at h1 af;have JG:il (cn g ⟨r,[]⟩ .dead) (get G2):=by
  refine ⟨λt x h=>?_,λt x h=>(cY.spec t x h).2.1,λt z q n m new h=>(cY.spec t _ h).2.2 _ _ _ _ _ rfl⟩;obtain ⟨⟨y,h1,_,aD⟩,_⟩:=cY.spec t x h;rw [<- aD rfl]; exact h1
 have fA:Take g [.a6 en.z ⟨r,[]⟩ k] [.own en.z k (bA en (L.take k))] (cn g ⟨r,[]⟩ .dead):=by
  have aq:bG g ⟨r,[]⟩=some (aC en L):=by simp [bG,hr,ab.at]
  refine .a6 aq hk ?_ (.bk (by simp));rw [D4];exact .bk (oc en _)
 have:=bc.ME (n:=k) (m:=M.length) aW aO aw.bs J.bs hm.src (oc en M) ar h1 af fA JG pK bp;rw [r6] at this;subst aD;have e:ab.own en.z (k+M.length) (bA en (L.take k)++bA en M)=aC en (L.take k++M):=by
  rw [<- pe];show _=ab.own en.z ((L.take k).length+M.length) _;rw [dq]
 rw [e] at this;exact this
theorem bc.HI {en:bN α}{L M hE:List α}{fP r:Nat}{G2:List (Nat × ab)}{o:Oper}(aW:o.op=.call { callee:=.builtin .append,args:=#[s,x],argTypes:=#[t,t] }) (aO:o.dst=some d) (aw:Rd g s (.a6 en.z ⟨r,[]⟩ L.length)) (hr:g r=some (aC en L))
  (J:Rd g x y) (hm:nm g en y M) (ar:h4 P t e en.z fP=true) (au:Nat.ble fP 128=true) (h:cT L M=some hE) (cY:Trim false (cn g ⟨r,[]⟩ .dead) (get G2) G2) (pK:get G2 d=none) (bp:N.ok d=true):bc P N g o (get ((d,aC en hE)::G2)) :=
 .S0 aW aO aw hr (Nat.le_refl _) J hm ar au (by rwa [List.take_length]) cY pK bp
theorem bc.Vt {G1 G2:List (Nat × ab)}{o:Oper}(ex:List Nat) (aX:ow ex (get G1) (get G2) G2) (h:bc P N g o (get G1)):bc P N g o (get G2) :=
 .GO λw I T Fs bh a aI bp K Q cZ=>bc.iv h w I T Fs bh a aI bp K Q λb' w' aB ar=>cZ b' w' (by
  obtain ⟨b9,b3,I',bV,dM,bU⟩:=aB;obtain ⟨yV,jc,h7,n1⟩:=dM.vg aX.vg;exact ⟨b9,b3,yV,jc,h7,bU.trans n1⟩) ar
end
section
open Go.Proofs Go.Shelf Go.Lib Go.Sort
variable {e:bN α}{P:Program}{w:World}
theorem cd.TZ {g:aL}{m:Nat}{x:Operand}{fM:Array TypeId}{p:Place}{L r:List α}{f:FuncId}
  (aa:∀ (w:World) (ad:Addr) (n c:Nat) (news:List Value),news.length=n * e.z->n<=1000000000000->(∀ j u,news[j]?=some u->w.cell? (ad.add j)=some u)->(∀ u∈news,u.oneCell'=true) ->
   Calls P f #[.slice (some ad) n c] w λb1 w'=>∃ dH t,b1=.returned dH/\w'.ownsRow 0 t e.z dH n news/\(∀ c,dH.ownBlock=some c->w.heap.size<=c)/\Fr w w' λ_=>False)
  (aB:∀ (w:World) (n c:Nat),Calls P f #[.slice none n c] w λb1 w'=>b1=.returned (.slice none 0 0)/\w'=w)
  (J:Rd g x (.sub e.z p m (L.length - m))) (aq:bG g p=some (aC e L)) (hm:m<=L.length) (mK:(bA e (L.drop m)).all l'=true) (h:E4 (L.drop m)=some r) (aT:hx P f=true) (ud:Nat.blt 0 e.z=true) :
  cd P g (.call { callee:=.value (.func f),args:=#[x],argTypes:=fM }) (aC e r):=by
 obtain ⟨xe,rfl⟩:(L.drop m).length<=1000000000000/\r=L.drop m:=by
  unfold E4 at h
  split at h
  ·rename_i bP; exact ⟨bP,(Option.some.inj h).symm⟩
  ·cases h
 have ug:(L.drop m).length=L.length - m:=List.length_drop ..;have W':((bA e L).drop (m * e.z)).take ((L.length - m) * e.z)=bA e (L.drop m):=by
  rw [D3,<- ug,wk]
 have:=Src.sub (z:=e.z) (lo:=m) (m:=L.length - m) aq (by omega);rw [W',BS mK] at this;rw [ug] at xe;show cd P g _ (.own e.z (L.drop m).length (bA e (L.drop m)));rw [ug];exact .cl J.bs this (by simpa using ud) aT (oc e _) xe aa aB
end
end Go.Own
namespace Go.Own
open Go
variable [cE]
section
variable {P:Program}{N:cN}{ops:Array Oper}{bj:List (List Nat)}{acc:Acc}{l:List Oper}{K:aL->Prop}{i d:Nat}
theorem bC.Tt (bX:Nat) {G G2:List (Nat × ab)}{o:Oper}{x:ab}(he:ht P N (dr (get G) (λm=>(bj.getD bX []).contains m) acc) o (cR (get G2) d x)) (aP:o.guard=none) (gN:Da (acc.filterMap k7)=true) (fL:n' G=true) (ag:Nat.beq ops.size (bX+l.length+1)=true)
  (fi:acc.filter (λe=>!(bj.getD bX []).contains e.1)=[])
  (au:(List.range ops.size).all (λk=>Nat.ble k bX||(bj.getD k []).contains bX)=true) (hk:bC P N ops bj (get ((d,x)::G2)) (bX+1) [] l K):bC P N ops bj (get G) i acc (o::l) K :=
 .Bw bX (r6 ▸ he) aP gN fL ag fi au hk
end
end Go.Own
namespace Go.Proofs
open Tryz
open Go Go.Own
instance:cE:=⟨λ_ _=>True,λ_ _ _=>trivial⟩
open Go Go.Shelf Go.RowKit Go.Lib Go.Sort Go.Own
def Tryz.aaU:Go.Shelf.Ren:=⟨fun | 6=>51 | 15=>91 | 14=>90 | 28=>121 | 29=>122 | 20=>113 | 21=>114 | 22=>115 | 23=>116 | 24=>117 | 25=>118 | 26=>119 | 27=>120 | 46=>141 | 47=>142 | 48=>143 | 49=>144 | 50=>145 | 57=>171 | n=>n,fun | 22=>46 | 24=>132 | 25=>134 | 3=>3 | 39=>178 | 0=>0 | 53=>215 | 55=>217 | 4=>4 | 46=>209 | 45=>208 | 50=>140 | 5=>5 | 9=>9 | 66=>238 | 70=>242 | 76=>269 | 77=>231 | n=>n,fun | n=>n⟩
theorem Tryz.aaT:Go.Proofs.SlLaysF0.n6 prog Tryz.aaU:={
 mixed:=by kernel_rfl
 f6:=⟨Tryz.f51.name,by decide,func51.trans (congrArg some (by kernel_rfl))⟩
 f14:=⟨Tryz.f90.name,by decide,func90.trans (congrArg some (by kernel_rfl))⟩
 f15:=func91.trans (congrArg some (by kernel_rfl))
 f20:=⟨Tryz.f113.name,by decide,func113.trans (congrArg some (by kernel_rfl))⟩
 f21:=⟨Tryz.f114.name,by decide,func114.trans (congrArg some (by kernel_rfl))⟩
 f22:=⟨Tryz.f115.name,by decide,func115.trans (congrArg some (by kernel_rfl))⟩
 f23:=⟨Tryz.f116.name,by decide,func116.trans (congrArg some (by kernel_rfl))⟩
 f24:=⟨Tryz.f117.name,by decide,func117.trans (congrArg some (by kernel_rfl))⟩
 f25:=⟨Tryz.f118.name,by decide,func118.trans (congrArg some (by kernel_rfl))⟩
 f26:=⟨Tryz.f119.name,by decide,func119.trans (congrArg some (by kernel_rfl))⟩
 f27:=⟨Tryz.f120.name,by decide,func120.trans (congrArg some (by kernel_rfl))⟩
 f28:=func121.trans (congrArg some (by kernel_rfl))
 f29:=func122.trans (congrArg some (by kernel_rfl))
 f46:=⟨Tryz.f141.name,by decide,func141.trans (congrArg some (by kernel_rfl))⟩
 f47:=func142.trans (congrArg some (by kernel_rfl))
 f48:=func143.trans (congrArg some (by kernel_rfl))
 f49:=⟨Tryz.f144.name,by decide,func144.trans (congrArg some (by kernel_rfl))⟩
 f50:=⟨Tryz.f145.name,by decide,func145.trans (congrArg some (by kernel_rfl))⟩
 f57:=⟨Tryz.f171.name,by decide,func171.trans (congrArg some (by kernel_rfl))⟩
 t0:=Tryz.underlying0
 a0:=Tryz.isAgg0
 z0:=Tryz.sizeOf0
 v0:=Tryz.zeroValue0
 t3:=Tryz.underlying3
 a3:=Tryz.isAgg3
 z3:=Tryz.sizeOf3
 v3:=Tryz.zeroValue3
 t4:=Tryz.underlying4
 a4:=Tryz.isAgg4
 z4:=Tryz.sizeOf4
 v4:=Tryz.zeroValue4
 t5:=Tryz.underlying5
 a5:=Tryz.isAgg5
 z5:=Tryz.sizeOf5
 v5:=Tryz.zeroValue5
 t9:=Tryz.underlying9
 a9:=Tryz.isAgg9
 z9:=Tryz.sizeOf9
 v9:=Tryz.zeroValue9
 t22:=Tryz.underlying46
 a22:=Tryz.isAgg46
 z22:=Tryz.sizeOf46
 v22:=Tryz.zeroValue46
 t25:=Tryz.underlying134
 a25:=Tryz.isAgg134
 z25:=Tryz.sizeOf134
 v25:=Tryz.zeroValue134
 t39:=Tryz.underlying178
 a39:=Tryz.isAgg178
 z39:=Tryz.sizeOf178
 v39:=Tryz.zeroValue178
 t45:=Tryz.underlying208
 a45:=Tryz.isAgg208
 z45:=Tryz.sizeOf208
 v45:=Tryz.zeroValue208
 t46:=Tryz.underlying209
 a46:=Tryz.isAgg209
 z46:=Tryz.sizeOf209
 v46:=Tryz.zeroValue209
 t50:=Tryz.underlying140
 a50:=Tryz.isAgg140
 z50:=Tryz.sizeOf140
 v50:=Tryz.zeroValue140
 t53:=Tryz.underlying215
 a53:=Tryz.isAgg215
 z53:=Tryz.sizeOf215
 v53:=Tryz.zeroValue215
 t55:=Tryz.underlying217
 a55:=Tryz.isAgg217
 z55:=Tryz.sizeOf217
 v55:=Tryz.zeroValue217
 t66:=Tryz.underlying238
 a66:=Tryz.isAgg238
 z66:=Tryz.sizeOf238
 v66:=Tryz.zeroValue238
 t70:=Tryz.underlying242
 a70:=Tryz.isAgg242
 z70:=Tryz.sizeOf242
 v70:=Tryz.zeroValue242
 t76:=Tryz.underlying269
 a76:=Tryz.isAgg269
 z76:=Tryz.sizeOf269
 v76:=Tryz.zeroValue269
 t77:=Tryz.underlying231
 a77:=Tryz.isAgg231
 z77:=Tryz.sizeOf231
 v77:=Tryz.zeroValue231 }
def Tryz.aaQ:Go.Shelf.Ren:=⟨fun | 6=>109 | 15=>91 | 14=>138 | 28=>121 | 29=>122 | 20=>162 | 21=>163 | 22=>164 | 23=>165 | 24=>166 | 25=>167 | 26=>168 | 27=>169 | 46=>178 | 47=>142 | 48=>143 | 49=>179 | 50=>180 | 57=>185 | n=>n,fun | 22=>27 | 24=>3 | 25=>62 | 3=>3 | 39=>178 | 0=>0 | 53=>215 | 55=>217 | 4=>4 | 46=>209 | 45=>208 | 50=>140 | 5=>5 | 9=>9 | 66=>238 | 70=>242 | 76=>269 | 77=>231 | n=>n,fun | n=>n⟩
theorem Tryz.LB:Go.Proofs.SlLaysF.n6 prog Tryz.aaQ:={
 mixed:=by kernel_rfl
 f6:=⟨Tryz.f109.name,by decide,func109.trans (congrArg some (by kernel_rfl))⟩
 f14:=⟨Tryz.f138.name,by decide,func138.trans (congrArg some (by kernel_rfl))⟩
 f15:=func91.trans (congrArg some (by kernel_rfl))
 f20:=⟨Tryz.f162.name,by decide,func162.trans (congrArg some (by kernel_rfl))⟩
 f21:=⟨Tryz.f163.name,by decide,func163.trans (congrArg some (by kernel_rfl))⟩
 f22:=⟨Tryz.f164.name,by decide,func164.trans (congrArg some (by kernel_rfl))⟩
 f23:=⟨Tryz.f165.name,by decide,func165.trans (congrArg some (by kernel_rfl))⟩
 f24:=⟨Tryz.f166.name,by decide,func166.trans (congrArg some (by kernel_rfl))⟩
 f25:=⟨Tryz.f167.name,by decide,func167.trans (congrArg some (by kernel_rfl))⟩
 f26:=⟨Tryz.f168.name,by decide,func168.trans (congrArg some (by kernel_rfl))⟩
 f27:=⟨Tryz.f169.name,by decide,func169.trans (congrArg some (by kernel_rfl))⟩
 f28:=func121.trans (congrArg some (by kernel_rfl))
 f29:=func122.trans (congrArg some (by kernel_rfl))
 f46:=⟨Tryz.f178.name,by decide,func178.trans (congrArg some (by kernel_rfl))⟩
 f47:=func142.trans (congrArg some (by kernel_rfl))
 f48:=func143.trans (congrArg some (by kernel_rfl))
 f49:=⟨Tryz.f179.name,by decide,func179.trans (congrArg some (by kernel_rfl))⟩
 f50:=⟨Tryz.f180.name,by decide,func180.trans (congrArg some (by kernel_rfl))⟩
 f57:=⟨Tryz.f185.name,by decide,func185.trans (congrArg some (by kernel_rfl))⟩
 t0:=Tryz.underlying0
 a0:=Tryz.isAgg0
 z0:=Tryz.sizeOf0
 v0:=Tryz.zeroValue0
 t3:=Tryz.underlying3
 a3:=Tryz.isAgg3
 z3:=Tryz.sizeOf3
 v3:=Tryz.zeroValue3
 t4:=Tryz.underlying4
 a4:=Tryz.isAgg4
 z4:=Tryz.sizeOf4
 v4:=Tryz.zeroValue4
 t5:=Tryz.underlying5
 a5:=Tryz.isAgg5
 z5:=Tryz.sizeOf5
 v5:=Tryz.zeroValue5
 t9:=Tryz.underlying9
 a9:=Tryz.isAgg9
 z9:=Tryz.sizeOf9
 v9:=Tryz.zeroValue9
 t22:=Tryz.underlying27
 a22:=Tryz.isAgg27
 z22:=Tryz.sizeOf27
 v22:=Tryz.zeroValue27
 a24:=Tryz.isAgg3
 z24:=Tryz.sizeOf3
 t25:=Tryz.underlying62
 a25:=Tryz.isAgg62
 z25:=Tryz.sizeOf62
 v25:=Tryz.zeroValue62
 t39:=Tryz.underlying178
 a39:=Tryz.isAgg178
 z39:=Tryz.sizeOf178
 v39:=Tryz.zeroValue178
 t45:=Tryz.underlying208
 a45:=Tryz.isAgg208
 z45:=Tryz.sizeOf208
 v45:=Tryz.zeroValue208
 t46:=Tryz.underlying209
 a46:=Tryz.isAgg209
 z46:=Tryz.sizeOf209
 v46:=Tryz.zeroValue209
 t50:=Tryz.underlying140
 a50:=Tryz.isAgg140
 z50:=Tryz.sizeOf140
 v50:=Tryz.zeroValue140
 t53:=Tryz.underlying215
 a53:=Tryz.isAgg215
 z53:=Tryz.sizeOf215
 v53:=Tryz.zeroValue215
 t55:=Tryz.underlying217
 a55:=Tryz.isAgg217
 z55:=Tryz.sizeOf217
 v55:=Tryz.zeroValue217
 t66:=Tryz.underlying238
 a66:=Tryz.isAgg238
 z66:=Tryz.sizeOf238
 v66:=Tryz.zeroValue238
 t70:=Tryz.underlying242
 a70:=Tryz.isAgg242
 z70:=Tryz.sizeOf242
 v70:=Tryz.zeroValue242
 t76:=Tryz.underlying269
 a76:=Tryz.isAgg269
 z76:=Tryz.sizeOf269
 v76:=Tryz.zeroValue269
 t77:=Tryz.underlying231
 a77:=Tryz.isAgg231
 z77:=Tryz.sizeOf231
 v77:=Tryz.zeroValue231 }
theorem aaO {g:FuncId}{caps:List ab} [pJ:dk caps] (aP:hx prog g=true) {l r:List Int}{fC:Int->Int->Option Int}(h:pZ fC l=some r)
  (aa:∀ a b v,fC a b=some v->bO prog g (ae a::ae b::caps) (none::none::caps.map λ_=>none) (ae v)) :
  bO prog 109 [aC ai l,.cD (.func g) [] caps] [some (aC ai r),none] (.bS []):=bO.LB Tryz.LB aP h aa
end Go.Proofs
section
namespace Go.Proofs
open Tryz
open Go Go.Shelf Go.RowKit Go.Lib Go.Sort Go.Own
set_option maxHeartbeats 4000000
set_option maxRecDepth 1000000
theorem T0 (w:World) (n c:Nat):Calls prog 101 #[.slice none n c] w λb1 w'=>b1=.returned (.slice none 0 0)/\w'=w:=by
 have ZZ:∀ (w:World) (a:Option Addr) (n c cr cg:Nat),(binOp .eql 54 (.slice a n c) (.slice none cr cg)).run prog w=.ok (.bool a.isNone) w:=λw a n c cr cg=>Lib.run_eql_slice_nil w _ _ a n c cr cg Tryz.underlying54
 go_enter func101,Tryz.ntmps101
 go_wp2
 go_ret
 exact ⟨rfl,rfl⟩
theorem T1 (w:World) (ad:Addr) (n c:Nat) (news:List Value) (ah:news.length=n * 4) (aB:n<=1000000000000) (aa:∀ j u,news[j]?=some u->w.cell? (ad.add j)=some u) (h1:∀ u∈news,u.oneCell'=true) :
  Calls prog 101 #[.slice (some ad) n c] w λb1 w'=>∃ dH t,b1=.returned dH/\w'.ownsRow 0 t 4 dH n news/\(∀ c,dH.ownBlock=some c->w.heap.size<=c)/\Fr w w' λ_=>False:=by
 have ZZ:∀ (w:World) (a:Option Addr) (n c cr cg:Nat),(binOp .eql 54 (.slice a n c) (.slice none cr cg)).run prog w=.ok (.bool a.isNone) w:=λw a n c cr cg=>Lib.run_eql_slice_nil w _ _ a n c cr cg Tryz.underlying54;obtain ⟨i,cW,ar,hi,CW,fj,aK,aX,lT⟩:=EV (P:=prog) (t:=54) (e:=56) (z:=4) (b:=48) (by kernel_rfl);have A:Aside (∀ j u,news[j]?=some u->w.cell? (ad.add j)=some u):=aa;clear aa
 go_enter func101,Tryz.ntmps101
 go_wp2_with (at_builtin; refine abP rfl _ _ 54 rfl 56 i cW ar hi aX (by rw [CW]; exact lT) (by rw [CW]; exact aK) _ 0 [] rfl ?Z0 ad n c news rfl ?Z1 ?Z2 ?Z3 ?Z4 ?Z5 ?_)
 case Z0=>rw [CW]; exact World.ownsRow_made w #[] 0 (Nat.zero_le _) (Nat.zero_le _) (by simp)
 case Z1=>rw [CW]; exact ah
 case Z2 =>
  intro j u ag;exact Lib.cell?_alloc_some _ (A.out j u ag)
 case Z3=>exact h1
 case Z4=>rw [Nat.zero_add]; simp only [maxLen]; omega
 case Z5=>rw [fj,Nat.zero_add]; omega
 intro dH ik b3 dI
 go_wp2
 go_ret
 obtain ⟨_,se,kn,hblk,_⟩:=dI;refine ⟨dH,b3,rfl,by simpa [CW] using se,λc aa=>?_,?_⟩
 ·rcases hblk c aa with h | h
  ·cases h; exact Nat.le_refl _
  ·exact Nat.le_trans (Fr.alloc w _ (λ_=>False) (.inl ⟨_,_,rfl⟩)).size h
 ·exact (Fr.alloc w _ _ (.inl ⟨_,_,rfl⟩)).trans kn λb au hu=>by cases hu; exact absurd au (Nat.lt_irrefl _)
end Go.Proofs
end
