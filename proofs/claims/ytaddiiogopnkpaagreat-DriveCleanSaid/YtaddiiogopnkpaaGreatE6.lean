/- Parts of the proof that the last text states. -/
import Derived.Deep.Draws
import Derived.Deep.LoopGhost
import Derived.Ground.SlsfProg
import Derived.KernelRfl
import Derived.Laws.Externs
import Derived.Lib.SliceRun
import Derived.Lib.SlicesCompact
import Derived.Lib.Walk
import Derived.Shelf.RegionOpenPlain
import Derived.Shelf.SlGeneric
import Derived.Shelf.SlLaysQ
import Derived.Shelf.SlSortCmp.NoneTotal
import Derived.Shelf.SlicesE.Kit
import Derived.Shelf.SlicesQ.Load
import Derived.Sort.WalkB12
import Derived.Test.YtaddiiogopnkpaaGreatRows
import Derived.WalkKit
import Derived.Test.YtaddiiogopnkpaaGreatE5
set_option linter.unusedSectionVars false
set_option linter.unusedVariables false
namespace Go.Own
open Go
variable [cF]
def K8:ab->Option ab
 | .lit v=>some (.lit v)
 | .aS=>some .aS
 | .bl z n cs=>some (.bl z n cs)
 | .own z n cs=>some (.own z n cs)
 | .obj cs=>some (.obj cs)
 | .agg cs=>some (.agg cs)
 | .bR cs=>some (.bR cs)
 | .cx cs=>some (.cx cs)
 | .ptr p k=>some (.ptr p k)
 | .a6 z p n=>some (.a6 z p n)
 | .sub z p l n=>some (.sub z p l n)
 | .bI z p n m c=>some (.bI z p n m c)
 | .cD f a b=>some (.cD f a b)
 | .mp p=>some (.mp p)
 | .gm p=>some (.gm p)
 | .imp p=>some (.imp p)
 | .dead=>some .dead
 | .self k=>some (.self k)
 | .hY t us=>some (.hY t us)
theorem PZ {x y:ab}(h:K8 x=some y):x=y:=by cases x <;> (cases h; rfl)
def Gh:List ab->Option (List ab)
 | []=>some []
 | x::l=>match Gh l with
  | none=>none
  | some r=>match K8 x with
   | none=>none
   | some y=>some (y::r)
theorem PY:∀ {l r:List ab},Gh l=some r->l=r
 | [],r,h=>by cases h; rfl
 | x::l,r,h=>by
  unfold Gh at h
  split at h
  ·cases h
  ·rename_i c' hr
   split at h
   ·cases h
   ·rename_i y ao;cases h; rw [PY hr,PZ ao]
def uD:ab->Option ab
 | .agg cs=>match Gh cs with
  | some r=>some (.agg r)
  | none=>none
 | x=>K8 x
theorem xZ {x y:ab}(h:uD x=some y):x=y:=by
 unfold uD at h
 split at h
 ·split at h
  ·rename_i hr;cases h; rw [PY hr]
  ·cases h
 ·exact PZ h
def pj:List ab->Option (List ab)
 | []=>some []
 | x::l=>match pj l with
  | none=>none
  | some r=>match uD x with
   | none=>none
   | some y=>some (y::r)
theorem Ag:∀ {l r:List ab},pj l=some r->l=r
 | [],r,h=>by cases h; rfl
 | x::l,r,h=>by
  unfold pj at h
  split at h
  ·cases h
  ·rename_i c' hr
   split at h
   ·cases h
   ·rename_i y ao;cases h; rw [Ag hr,xZ ao]
def yv (f:Nat->ab->ab):Nat->List Nat->List ab->Option (List ab)
 | _,_,[]=>some []
 | _,[],_::_=>none
 | k,j::ey,x::l=>match yv f (k+1) ey l with
  | none=>none
  | some r=>match Nat.beq j k,uD (f j x) with
   | true,some y=>some (y::r)
   | _,_=>none
theorem D5 {f:Nat->ab->ab}:∀ {l:List ab}{ey:List Nat}{k:Nat}{r:List ab},yv f k ey l=some r->(l.mapIdx λi x=>f (k+i) x)=r
 | [],ey,k,r,h=>by cases ey <;> (cases h; rfl)
 | x::l,[],k,r,h=>by cases h
 | x::l,j::ey,k,r,h=>by
  unfold yv at h
  split at h
  ·cases h
  ·rename_i c' hr
   split at h
   ·rename_i y ag ao;cases h;have:=Nat.eq_of_beq_eq_true ag;subst this;rw [List.mapIdx_cons,<- D5 hr,<- xZ ao];simp [Nat.add_comm,Nat.add_left_comm]
   ·cases h
def num:List Nat:=0::1::2::3::4::5::6::7::8::9::10::11::12::13::14::15::16::17::18::19::20::21::22::23::24::25::26::27::28::29::30::31::32::33::34::35::36::37::38::39::40::41::42::43::44::45::46::47::48::49::50::51::52::53::54::55::56::57::58::59::60::61::62::63::64::65::66::67::68::69::70::71::72::73::74::75::76::77::78::79::[]
def GH (g:aM):Operand->Option ab
 | .tmp t=>match g t with
  | some (.lit v)=>some (.lit v)
  | some .aS=>some .aS
  | some (.bl z n cs)=>some (.bl z n cs)
  | some (.own z n _)=>some (.a6 z ⟨t,[]⟩ n)
  | some (.obj (_::_))=>some (.ptr ⟨t,[]⟩ 0)
  | some (.cx cs)=>some (.cx cs)
  | some (.agg cs)=>match yv (λi x=>fZ 1 ⟨t,[i]⟩ x) 0 num cs with
   | some r=>some (.agg r)
   | none=>none
  | some (.bR cs)=>match yv (λi x=>fZ 1 ⟨t,[i]⟩ x) 0 num cs with
   | some r=>some (.bR r)
   | none=>none
  | some (.ptr p k)=>some (.ptr p k)
  | some (.a6 z p n)=>some (.a6 z p n)
  | some (.sub z p l n)=>some (.sub z p l n)
  | some (.bI z _ n m _)=>some (.a6 z ⟨t,[]⟩ (n+m))
  | some (.cD fn [] cs)=>some (.cD fn [] cs)
  | some (.mp _)=>some (.gm ⟨t,[]⟩)
  | some (.gm p)=>some (.gm p)
  | some (.imp q)=>some (.imp q)
  | _=>none
 | .const v=>match ofConst v with
  | .lit v=>some (.lit v)
  | .agg cs=>some (.agg cs)
  | .aS=>match v with
   | .slice none 0 0=>some .aS
   | _=>none
  | _=>none
 | .func f=>some (.cD (.func f) [] [])
 | .global _=>none
theorem Y5 {v u:Value}(h:ofConst v=.lit u):u=v:=by
 cases v <;> simp only [ofConst,kC] at h <;> first | (cases h; rfl) | (split at h <;> cases h <;> rfl) | cases h
theorem Rd.q {g:aM}{a:Operand}{y:ab}(h:GH g a=some y:=by rfl):Rd g a y:=by
 unfold GH at h
 split at h
 ·split at h <;> first | (split at h <;> cases h <;> first | exact .agg ‹_› (by have:=D5 ‹_›; simpa [Place.push] using this) | exact .bR ‹_› (by have:=D5 ‹_›; simpa [Place.push] using this)) | skip
  all_goals cases h
  all_goals first | exact .lit ‹_› | exact .aS ‹_› | exact .bl ‹_› | exact .own ‹_› | exact .obj ‹_› | exact .cx ‹_› | exact .ptr ‹_› | exact .a6 ‹_› | exact .sub ‹_› | exact .bI ‹_› | exact .cD ‹_› | exact .mp ‹_› | exact .gm ‹_› | exact .imp ‹_›
 ·split at h
  ·rename_i e; cases h; have:=Y5 e; subst this; exact .k e
  ·rename_i e; cases h; exact .KQ e
  ·split at h <;> cases h
   exact .xT
  ·cases h
 ·cases h; exact .func
 ·cases h
def GJ (g:aM) (t:Nat):Option ab :=
 match g t with
 | some (.lit v)=>some (.lit v)
 | some .aS=>some .aS
 | some (.bl z n cs)=>some (.bl z n cs)
 | some (.cx cs)=>some (.cx cs)
 | some (.cD fn [] cs)=>some (.cD fn [] cs)
 | some (.imp q)=>some (.imp q)
 | _=>none
theorem Rd.AV {g:aM}{t:Nat}{y:ab}(h:GJ g t=some y:=by rfl):Rd g (.tmp t) y:=by
 unfold GJ at h
 split at h <;> cases h <;> first | exact .lit ‹_› | exact .aS ‹_› | exact .bl ‹_› | exact .cx ‹_› | exact .cD ‹_› | exact .imp ‹_›
class nf (P:Program) (t:TypeId) (α:outParam Type) (en:outParam (bN α)):Prop where p:True:=trivial
class ED {α:Type}(en:bN α) (cs:List ab) (y:outParam α):Prop where p:en.cells y=cs
instance {a:Int}:ED ai [ae a] a:=⟨rfl⟩
instance {a:Int}:ED r4 [rX a] a:=⟨rfl⟩
class u6 {α:Type}(en:bN α) (ys:List ab) (L:outParam (List α)):Prop where p:o3 ys=some (bB en L)/\ys.all (λy=>match j5 y with | some c=>Nat.beq c.length en.z | none=>false)=true/\L.length=ys.length
instance {α:Type}{en:bN α}:u6 en [] []:=⟨⟨rfl,rfl,rfl⟩⟩
theorem u6.cons {α:Type}{en:bN α}{y:ab}{cs:List ab}{ys:List ab}{a:α}{L:List α}(ar:j5 y=some cs) [h:ED en cs a] [ah:u6 en ys L]:u6 en (y::ys) (a::L):=by
 refine ⟨⟨?_,?_,?_⟩⟩
 ·simp [o3,ar,ah.p.1,bB,h.p]
 ·simp only [List.all_cons,ar,ah.p.2.1,Bool.and_true];rw [<- h.p,en.len]; exact Nat.beq_refl _
 ·simp [ah.p.2.2]
instance {α:Type}{en:bN α}{v:Value}{ys:List ab}{a:α}{L:List α} [h:ED en [.lit v] a] [ah:u6 en ys L]:u6 en (.lit v::ys) (a::L):=.cons rfl
def LC (d:Nat):List Oper->Bool
 | []=>false
 | o::l=>(match o.op with
  | .call { callee:=.value _,args:=xs,argTypes:=_ }=>xs.toList.any λx=>match x with | .tmp t=>Nat.beq t d | _=>false
  | .call { callee:=.builtin .append,args:=xs,argTypes:=_ }=>match xs.toList with | [_,.tmp t]=>Nat.beq t d | _=>false
  | .convert _ _ (.tmp t)=>Nat.beq t d
  | .build _ ps=>ps.toList.any λx=>match x.2 with | .tmp t=>Nat.beq t d | _=>false
  | .buildSlice _ _ ps=>ps.toList.any λx=>match x.2 with | .tmp t=>Nat.beq t d | _=>false
  | _=>false)||LC d l
class EF (P:Program):Prop where p:P.follows .mixedOrders=true:=by kernel_rfl
class mD (P:Program) (t:TypeId) (k:outParam Nat):Prop where p:h8 P t k=true:=by kernel_rfl
class mE (P:Program) (t:TypeId) (z:outParam Value):Prop where p:(P.info? t).bind (·.zero)=some z:=by kernel_rfl
class rS (P:Program) (t:TypeId) (pl:outParam (List (Nat × Nat))):Prop where p:jV P t pl=true:=by kernel_rfl
class p8 (P:Program) (t:TypeId) (e z b:outParam Nat):Prop where p:im P t e z b=true:=by kernel_rfl
class Bh (P:Program) (t:TypeId) (k:outParam IntKind):Prop where p:uw P t k=true:=by kernel_rfl
class EG (P:Program) (t:TypeId) (b:outParam Nat):Prop where p:(P.info? t).map (·.bytes)=some b:=by kernel_rfl
section
variable {α β:Type}{P:Program}{g:aM}{ty t t2:TypeId}{a b:Operand}{k r z n:Nat}{cs cs':List ab}{x y:ab}{p q:Place}{m:Int}{uA KR:IntKind}{e:TypeId}{N:cP}{ops:Array Oper}{gF:Nat}
theorem O.Hc (J:Rd g a y:=by exact .q) (aa:(j5 y).bind pj=some cs:=by rfl):cf P g (.box e a) ty (.obj cs):=by
 cases ar:j5 y with
 | none=>rw [ar] at aa; cases aa
 | some c=>rw [ar] at aa; have:=Ag aa; subst this; exact O.box J ar
theorem O.hX {v:Value} [h:fo P t] (J:Rd g a (.ptr ⟨r,[]⟩ k):=by exact .q) (av:g r=some (.obj cs):=by rfl) (aa:cs[k]?=some (.lit v):=by rfl):cf P g (.load t a) ty (.lit v):=O.ph av J h.p aa
theorem O.gU [h:fo P t] (J:Rd g a (.cx cs):=by exact .q) (aa:cs.head?.bind uD=some x:=by rfl):cf P g (.load t a) ty x:=by
 cases ar:cs.head? with
 | none=>rw [ar] at aa; cases aa
 | some c=>rw [ar] at aa; have:=xZ aa; subst this; exact O.C9 J h.p ar
theorem O.A5 [h:fo P t] (J:Rd g a (.ptr ⟨r,[]⟩ k):=by exact .q) (av:g r=some (.obj cs):=by rfl) (aa:cs[k]?=some x:=by rfl) (ao:uD (fZ 0 ⟨r,[k]⟩ x)=some y:=by rfl):cf P g (.load t a) ty y:=O.qE av J h.p aa (xZ ao)
theorem O.A6 [h:mD P t z] (J:Rd g a (.ptr ⟨r,[]⟩ k):=by exact .q) (av:g r=some (.obj cs):=by rfl) (hk:Nat.ble (k+z) cs.length=true:=by rfl) (aa:yv (λi x=>fZ 0 ⟨r,[i]⟩ x) k (num.drop k) ((cs.drop k).take z)=some cs':=by rfl):cf P g (.load t a) ty (.agg cs'):=O.ez av J h.p hk (D5 aa)
theorem O.Hi [h:mD P t z] (J:Rd g a (.cx cs):=by exact .q) (aa:pj (cs.take z)=some cs':=by rfl) (aW:cs'.length=z:=by rfl):cf P g (.load t a) ty (.agg cs'):=O.n' J h.p (Ag aa) aW
theorem O.Hm {en:bN α}{L:List α}{y:α}{o:Nat}{x x':ab} [au:fo P t] (J:Rd g a (.ptr p (m.toNat * en.z+o)):=by exact .q) (aq:bE g p=some (aD en L):=by rfl) (h:idx L m=some y:=by assumption) (aa:(en.cells y)[o]?=some x:=by rfl) (hr:uD (fZ 0 (p.push (m.toNat * en.z+o)) x)=some x':=by rfl):cf P g (.load t a) ty x':=O.jP aq J au.p h aa (xZ hr)
theorem O.He {cz f off:Nat} [h:cy P cz f off t] (J:Rd g a (.ptr ⟨r,[]⟩ k):=by exact .q) (av:g r=some (.obj cs):=by rfl) (ah:Nat.blt (k+off) cs.length=true:=by rfl):cf P g (.fieldAddr cz a f) ty (.ptr ⟨r,[]⟩ (k+off)):=O.nt av J h.p ah
theorem O.Hf {cz f off:Nat} [h:cy P cz f off t] (J:Rd g a (.cx cs):=by exact .q):cf P g (.fieldAddr cz a f) ty (.cx (cs.drop off)):=O.BR J h.p
theorem O.Hh {en:bN α}{L:List α}{y:α}{bQ:Nat}(h:idx L m=some y) [aE:ek P t e bQ] (J:Rd g a (.bl en.z L.length (bB en L)):=by exact .q) (ao:Rd g b (.lit (.int uA m)):=by exact .q) (aW:bQ=en.z:=by rfl):cf P g (.indexAddr t a b) ty (.cx (en.cells y++bB en (L.drop (m.toNat+1)))):=O.n5 J ao (aW ▸ aE.p) h
theorem O.yK {en:bN α}{L:List α}{y:α}{bQ:Nat}(h:idx L m=some y) [aE:ek P t e bQ] (J:Rd g a (.a6 en.z p L.length):=by exact .q) (aq:bE g p=some (aD en L):=by rfl) (ao:Rd g b (.lit (.int uA m)):=by exact .q) (aW:bQ=en.z:=by rfl) (aK:Nat.blt 0 en.z=true:=by rfl):cf P g (.indexAddr t a b) ty (.ptr p (m.toNat * en.z+0)):=O.gL aq J ao (aW ▸ aE.p) h aK
theorem O.Ht {p i:Nat}{cs:List ab}{x y:ab}(J:g p=some (.bR cs):=by rfl) (ao:cs[i]?=some x:=by rfl) (hr:uD (fZ 1 (Place.push ⟨p,[]⟩ i) x)=some y:=by rfl):cf P g (.extract (.tmp p) i) ty y:=O.ex J ao (xZ hr)
theorem O.Hl [h1:Bh P t uA] [af:Bh P t2 KR] (J:Rd g a (.lit (.int uA m)):=by exact .q):cf P g (.convert t t2 a) ty (.lit (.int KR (KR.wrap m))):=O.Iy J h1.p af.p
theorem O.Hk {L:List Int}(J:Rd g a (.bl r4.z L.length (bB r4 L)):=by exact .q) (au:zq P t t2=true:=by kernel_rfl):cf P g (.convert t t2 a) ty (a1 (strOfNums L)):=O.UL J au
theorem O.Hj {cY:Value} [h:mE P e cY] (h1:cY.cells.toList.all Value.oneCell'=true:=by rfl) (aa:pj (cY.cells.toList.map kC)=some cs:=by rfl):cf P g (.alloc e) ty (.obj cs):=O.dB h.p h1 (Ag aa)
theorem O.Hs {parts:Array (Nat × Operand)}{pl:List (Nat × Nat)}{cY:Value}{ps:List (Nat × List ab)} [au:rS P t pl] [aW:mE P t cY] (h1:cY.cells.toList.all Value.oneCell'=true:=by rfl)
  (aq:rC g parts.toList=some ps:=by rfl) (aa:(vk (λi=>pl[i]?) (cY.cells.toList.map kC) ps).bind pj=some cs:=by rfl):cf P g (.build t parts) ty (.agg cs):=by
 cases ar:vk (λi=>pl[i]?) (cY.cells.toList.map kC) ps with
 | none=>rw [ar] at aa; cases aa
 | some c=>rw [ar] at aa; have:=Ag aa; subst this; exact O.eb au.p aW.p h1 aq ar
theorem O.wp {en:bN α}{L M r:List α}{bQ:Nat}(h:c8 L M=some r) [au:p8 P t e bQ gF] (av:Rd g a (.a6 en.z p L.length):=by exact .q) (aq:bE g p=some (aD en L):=by rfl) (J:Rd g b y:=by exact .q) (hm:ox g en y M:=by (first | exact .i | exact .n | exact .o rfl rfl)) (aW:bQ=en.z:=by rfl) (ar:Nat.ble gF 128=true:=by rfl) [eN:rU g]:cf P g (.call { callee:=.builtin .append,args:=#[a,b],argTypes:=#[t,t] }) ty (.bI en.z p L.length M.length (bB en M)) :=
 O.ap av aq J hm (aW ▸ au.p) ar h
def xV:List ab->Option (List Value)
 | []=>some []
 | .lit v::l=>match xV l with
  | some r=>some (v::r)
  | none=>none
 | _=>none
theorem C_:∀ {l:List ab}{r:List Value},xV l=some r->l=r.map .lit
 | [],r,h=>by cases h; rfl
 | x::l,r,h=>by
  unfold xV at h
  split at h
  ·rename_i e; cases e
  ·rename_i e;cases e
   split at h
   ·rename_i c' hr;cases h; rw [C_ hr]; rfl
   ·cases h
  ·cases h
def yy:List Value->Option (List ow)
 | []=>some []
 | v::l=>match yy l,mu v with
  | some r,some u=>some (u::r)
  | _,_=>none
theorem D':∀ {l:List Value}{r:List ow},yy l=some r->l.map mu=r.map some
 | [],r,h=>by cases h; rfl
 | v::l,r,h=>by
  unfold yy at h
  split at h
  ·rename_i uO u hr av;cases h; simp [D' hr,av]
  ·cases h
theorem O.oT {BE km:List ab}{nI pt:List Value}{dO:List ow}(J:Rd g a (.agg BE):=by exact .q) (ao:Rd g b (.agg km):=by exact .q) (zY:xV BE=some nI:=by rfl) (CQ:xV km=some pt:=by rfl) (aJ:yy nI=some dO:=by rfl) (ar:yy pt=some dO:=by rfl) (au:vj P t dO=true:=by kernel_rfl):cf P g (.binOp .eql t a b t2) ty (bh (lS nI pt)):=O.U6 (C_ zY ▸ J) (C_ CQ ▸ ao) (D' aJ) (D' ar) au
theorem O.wn {BE km:List ab}{nI pt:List Value}{dO:List ow}(J:Rd g a (.agg BE):=by exact .q) (ao:Rd g b (.agg km):=by exact .q) (zY:xV BE=some nI:=by rfl) (CQ:xV km=some pt:=by rfl) (aJ:yy nI=some dO:=by rfl) (ar:yy pt=some dO:=by rfl) (au:vj P t dO=true:=by kernel_rfl):cf P g (.binOp .neq t a b t2) ty (bh (!lS nI pt)):=O.YZ (C_ zY ▸ J) (C_ CQ ▸ ao) (D' aJ) (D' ar) au
theorem O.Ho {en:bN α}{z0:α}{r:List α}{bQ:Nat}{cY:Value}(h:oO m z0=some r) [het:nf P t α en] [au:ek P t e bQ] [hzero:mE P e cY] [i_:EG P e gF] (J:Rd g a (.lit (.int uA m)):=by exact .q) (ao:Rd g b (.lit (.int .i64 m)):=by exact .q) (h1:cY.cells.toList.all Value.oneCell'=true:=by rfl) (aa:cY.cells.toList.map kC=en.cells z0:=by rfl) (aW:bQ=en.z:=by rfl) (ar:Nat.ble gF 128=true:=by rfl):cf P g (.makeSlice t a b) ty (aD en r) :=
 O.mk (aW ▸ au.p) J ao hzero.p h1 aa h i_.p ar
theorem O.wl {en:bN α}{bQ:Nat} [het:nf P t α en] [au:ek P t e bQ] (aW:bQ=en.z:=by rfl) (hzero:jf P e en.z=true:=by kernel_rfl):cf P g (.buildSlice t 0 #[]) ty (aD en ([]:List α)) :=
 O.dg (ys:=[]) en [] (aW ▸ au.p) rfl rfl rfl rfl rfl rfl hzero (by rw [Nat.zero_mul]; rfl) rfl
theorem O.Hp {en:bN α}{M r:List α}{bQ:Nat}(h:c8 [] M=some r) [au:p8 P t e bQ gF] (av:Rd g a .aS:=by exact .q) (J:Rd g b y:=by exact .q) (hm:ox g en y M:=by (first | exact .i | exact .n | exact .o rfl rfl)) (aW:bQ=en.z:=by rfl) (ar:Nat.ble gF 128=true:=by rfl):cf P g (.call { callee:=.builtin .append,args:=#[a,b],argTypes:=#[t,t] }) ty (aD en M) :=
 O.SX av J hm (aW ▸ au.p) ar h
theorem O.Hq {en:bN α}{L r:List α}{c:Operand}{n:Int}{k:IntKind}{bQ:Nat}(h:p5 L 0 n=some r) [au:ek P t e bQ] (J:Rd g a (.bl en.z L.length (bB en L)):=by exact .q) (bO:Rd g c (.lit (.int k n)):=by exact .q) (aW:bQ=en.z:=by rfl):cf P g (.slice t a none (some c) none) ty (ak en r):=O.aaC J bO (aW ▸ au.p) h
theorem O.Hr {en:bN α}{L r:List α}{k:IntKind}{bQ:Nat}(h:p5 L m L.length=some r) [au:ek P t e bQ] (J:Rd g a (.bl en.z L.length (bB en L)):=by exact .q) (ah:Rd g b (.lit (.int k m)):=by exact .q) (aW:bQ=en.z:=by rfl):cf P g (.slice t a (some b) none none) ty (ak en r):=O.aaD J ah (aW ▸ au.p) h
theorem O.Hd {en:bN α}{L M M2 r:List α}{bQ s:Nat}(h:c8 (L++M) M2=some r) [au:p8 P t e bQ gF] (av:Rd g a (.a6 en.z ⟨s,[]⟩ (L.length+M.length)):=by exact .q) (qy:g s=some (.bI en.z q L.length M.length (bB en M)):=by rfl) (aq:bE g q=some (aD en L):=by rfl) (J:Rd g b y:=by exact .q) (hm:ox g en y M2:=by (first | exact .i | exact .n | exact .o rfl rfl)) (aW:bQ=en.z:=by rfl) (ar:Nat.ble gF 128=true:=by rfl) [eN:HM s g]:cf P g (.call { callee:=.builtin .append,args:=#[a,b],argTypes:=#[t,t] }) ty (.bI en.z ⟨s,[]⟩ (L.length+M.length) M2.length (bB en M2)) :=
 O.E0 av qy aq J hm (aW ▸ au.p) ar h
theorem O.Hu {en:bN β}{r:List (List β)}{bQ:Nat}{cY:Value}(h:oO m ([]:List β)=some r) [het:nf P t (List β) (bC en)] [au:ek P t e bQ] [hzero:mE P e cY] [i_:EG P e gF] (J:Rd g a (.lit (.int uA m)):=by exact .q) (ao:Rd g b (.lit (.int .i64 m)):=by exact .q) (h1:cY.cells.toList.all Value.oneCell'=true:=by rfl) (aa:cY.cells.toList.map kC=[.aS]:=by rfl) (aW:bQ=(bC en).z:=by rfl) (ar:Nat.ble gF 128=true:=by rfl):cf P g (.makeSlice t a b) ty (aD (bC en) r) :=
 O.YU (aW ▸ au.p) J ao hzero.p h1 aa h i_.p ar
theorem O.Hn {en:bN α}{L:List α}{y:α}{bQ:Nat} [aE:ek P t e bQ] (J:Rd g a (.a6 en.z p L.length):=by exact .q) (aq:bE g p=some (aD en L):=by rfl) (ao:Rd g b (.lit (.int uA m)):=by exact .q) (aW:bQ=en.z:=by rfl) (aK:Nat.blt 0 en.z=true:=by rfl) (h:idx L m=some y:=by assumption):cf P g (.indexAddr t a b) ty (.ptr p (m.toNat * en.z+0)):=O.gL aq J ao (aW ▸ aE.p) h aK
end
def C6 (HK:List (Nat × ab)) (ex:List Nat) (Rb:List Nat):List (Nat × ab)->Option (List Nat)
 | []=>some []
 | (k,x)::l=>match C6 HK ex (k::Rb) l with
  | none=>none
  | some r=>match !ex.elem k&&!Rb.elem k&&(match x with | .ptr ⟨q,[]⟩ _=>!ex.elem q&&(match get HK q with | some (.obj _)=>true | _=>false) | _=>false) with
   | true=>some (k::r)
   | false=>some r
def rA (g g2:aM) (r:Nat):List (Nat × ab)->Bool
 | []=>true
 | (s,.ptr ⟨q,[]⟩ k)::l=>!Nat.beq s r&&(match g q,g2 q with | some (.obj cs),some (.obj kL)=>Nat.blt k cs.length&&Nat.blt k kL.length | _,_=>false)&&rA g g2 r l
 | _=>false
theorem Qb {g g2:aM}{r:Nat}{s:Nat}{x:ab}{l:List (Nat × ab)}(h:rA g g2 r ((s,x)::l)=true):(∃ q k cs kL,x=.ptr ⟨q,[]⟩ k/\Nat.beq s r=false/\g q=some (.obj cs)/\Nat.blt k cs.length=true/\g2 q=some (.obj kL)/\Nat.blt k kL.length=true)/\rA g g2 r l=true:=by
 unfold rA at h
 split at h
 ·rename_i e; cases e
 ·rename_i cz q k z7 e;cases e;rw [Bool.and_eq_true,Bool.and_eq_true] at h;obtain ⟨⟨h1,af⟩,aE⟩:=h
  split at af
  ·rename_i cs kL b9 b3;rw [Bool.and_eq_true] at af;exact ⟨⟨q,k,cs,kL,rfl,by simpa using h1,b9,af.1,b3,af.2⟩,aE⟩
  ·cases af
 ·cases h
theorem NS {g:aM}{r s:Nat}{x y:ab}(h:Nat.beq s r=false) (J:cV g r x s=some y):g s=some y:=by
 unfold cV at J;rw [if_neg (by rintro rfl; rw [Nat.beq_refl] at h; cases h)] at J;exact J
theorem DY {g:aM}{k:Nat}{ks:List Nat}{G1:List (Nat × ab)}(h:pick g (k::ks)=some G1):∃ x l,g k=some x/\pick g ks=some l/\G1=(k,x)::l:=by
 unfold pick at h
 split at h
 ·rename_i x J
  split at h
  ·rename_i l ah;cases h; exact ⟨x,l,J,ah,rfl⟩
  ·cases h
 ·cases h
theorem GB {g g2:aM}{r:Nat}{cs2:List ab}{T:List (Nat × ab)}(cX:lu g g2 r cs2 T):∀ {ks:List Nat}{G1:List (Nat × ab)},pick (cV g r (.obj cs2)) ks=some G1->(∀ e∈G1,cG e.2)->lu g g2 r cs2 (G1++T)
 | [],_,h,_=>by cases h; exact cX
 | k::ks,G1,h,aC=>by
  obtain ⟨x,l,J,ah,rfl⟩:=DY h;have aO:=GB cX ah λe h=>aC e (by simp [h]);have fc:=aC (k,x) (by simp);by_cases e:Nat.beq k r=true
  ·have:=Nat.eq_of_beq_eq_true e;subst this;simp only [cV,if_true] at J;cases J;have:dp cs2:=⟨by cases fc with | obj h=>exact h⟩;exact .b rfl aO
  ·have:b6 x:=⟨fc⟩;have e:=Bool.eq_false_iff.2 e;exact .n e (NS e J) aO
theorem GC {g g2:aM}{r:Nat}{cs2:List ab}:∀ {ks:List Nat}{G1:List (Nat × ab)},pick (cV g r (.obj cs2)) ks=some G1->rA g g2 r G1=true->lu g g2 r cs2 G1
 | [],_,h,_=>by cases h; exact .nil
 | k::ks,G1,h,aC=>by
  obtain ⟨x,l,J,ah,rfl⟩:=DY h;obtain ⟨⟨q,j,cs,kL,rfl,h1,af,aE,bm,b7⟩,dr⟩:=Qb aC;exact .p h1 (NS h1 J) af aE bm b7 (GC ah dr)
theorem Gz {g g2:aM}{ex:List Nat}{T:List (Nat × ab)}(cX:nn ex g g2 T):∀ {ks:List Nat}{G1:List (Nat × ab)},pick g ks=some G1->(ks.all λk=>!ex.elem k)=true->(∀ e∈G1,cG e.2)->nn ex g g2 (G1++T)
 | [],_,h,_,_=>by cases h; exact cX
 | k::ks,G1,h,he,aC=>by
  obtain ⟨x,l,J,ah,rfl⟩:=DY h;rw [List.all_cons,Bool.and_eq_true] at he;have:b6 x:=⟨aC (k,x) (by simp)⟩;exact .n (by simpa using he.1) J (Gz cX ah he.2 λe h=>aC e (by simp [h]))
theorem GA {g g2:aM}{ex:List Nat}{r:Nat}:∀ {ks:List Nat}{G1:List (Nat × ab)},pick g ks=some G1->(ks.all λk=>!ex.elem k)=true->rA g g2 r G1=true->nn ex g g2 G1
 | [],_,h,_,_=>by cases h; exact .nil
 | k::ks,G1,h,he,aC=>by
  obtain ⟨x,l,J,ah,rfl⟩:=DY h;rw [List.all_cons,Bool.and_eq_true] at he;obtain ⟨⟨q,j,cs,kL,rfl,h1,af,aE,bm,b7⟩,dr⟩:=Qb aC;exact .p (by simpa using he.1) J bm b7 (GA ah he.2 dr)
def tN:List (Nat × ab)->List (Nat × ab)->Option (List (Nat × ab))
 | [],T=>some T
 | p::l,T=>match tN l T with
  | some r=>some (p::r)
  | none=>none
theorem wO:∀ {l T r:List (Nat × ab)},tN l T=some r->r=l++T
 | [],_,_,h=>by cases h; rfl
 | p::l,T,r,h=>by
  unfold tN at h
  split at h
  ·rename_i c' hr;cases h; rw [wO hr]; rfl
  ·cases h
theorem zl {m:Option (List ab)}{ys:List ab}(h:m.bind pj=some ys):m=some ys:=by
 cases ar:m with
 | none=>rw [ar] at h; cases h
 | some c=>rw [ar] at h; rw [Ag h]
theorem cp.na {P:Program}{g:aM}{xs:List Operand}{fR:Array TypeId}{f:FuncId}{ys args:List ab}{outs:List (Option ab)}{res:ab}(J:(hn g xs).bind pj=some ys) (hv:o2 g ys args) (hj:bS P f args outs res) [hr:p' res] (aU:hG P f=true:=by kernel_rfl) (aX:uE outs=true:=by rfl):cp P g (.call { callee:=.value (.func f),args:=xs.toArray,argTypes:=fR }) res:=cp.vw (zl J) hv hj aU aX
def qU (ks iO:List Nat) (P:Program) (N:cP) (g:aM) (o:Oper) (g':aM):Prop:=bj P N g o g'
section
variable {α:Type}{P:Program}{N:cP}{ops:Array Oper}{g:aM}{K:aM->Prop}{l:List Oper}{d r k0 s:Nat}{ty t:TypeId}{pos:String}{after:Array Edge}{a b x:Operand}{cs cs' cs1 cs2:List ab}{y:ab}{G2 jZ jB:List (Nat × ab)}{u:Option (Nat × Bool)}{p q:Place}{ks iO:List Nat}{en:bN α}{L M:List α}
theorem fT.fu (aJ:Rd g a (.ptr ⟨r,[]⟩ k0):=by exact .q) (av:g r=some (.obj cs):=by rfl) (ar:Rd g b (.agg cs'):=by exact .q) (he:qN cs k0 cs'=some cs2:=by rfl) (aq:pick (cV g r (.obj cs2)) ks=some jZ:=by rfl) (a_:pick (cV g r (.obj cs2)) iO=some jB:=by rfl) (dh:tN jZ jB=some G2:=by rfl) (c6:rA g (get G2) r jB=true:=by rfl) (aW:hF P t cs'.length=true:=by kernel_rfl) (aK:Nat.blt 0 cs'.length=true:=by rfl) (hr:(get G2 r).isSome=true:=by rfl) [aC:dp cs'] [eN:dp cs] [aN:j0 jZ]:qU ks iO P N g ⟨none,.store t a b,ty,pos,after,none⟩ (get G2) :=
 .ke rfl rfl av aJ ar rfl aW (Nat.ble_eq_true_of_le (og he).2) aK (og he).1 hr (by have:=wO dh; subst this; exact GB (GC a_ c6) aq aN.p)
theorem fT.l7 (aJ:Rd g a (.ptr ⟨r,[]⟩ k0):=by exact .q) (av:g r=some (.obj cs):=by rfl) (ar:Rd g b y:=by exact .q) (aa:o4 y=some [y]:=by rfl) (he:qN cs k0 [y]=some cs2:=by rfl) (aq:pick (cV g r (.obj cs2)) ks=some jZ:=by rfl) (a_:pick (cV g r (.obj cs2)) iO=some jB:=by rfl) (dh:tN jZ jB=some G2:=by rfl) (c6:rA g (get G2) r jB=true:=by rfl) (aW:hF P t 1=true:=by kernel_rfl) (hr:(get G2 r).isSome=true:=by rfl) [aC:b6 y] [eN:dp cs] [aN:j0 jZ]:qU ks iO P N g ⟨none,.store t a b,ty,pos,after,none⟩ (get G2) :=
 .ke rfl rfl av aJ ar aa aW (Nat.ble_eq_true_of_le (og he).2) rfl (og he).1 hr (by have:=wO dh; subst this; exact GB (GC a_ c6) aq aN.p)
theorem fT.k5 (J:Rd g x (.a6 en.z p L.length):=by exact .q) (aq:bE g p=some (aD en L):=by rfl) (hk:pick g ks=some jZ:=by rfl) (cS:(ks.all λk=>![p.root].elem k)=true:=by rfl) (a_:pick g iO=some jB:=by rfl) (dh:tN jZ jB=some G2:=by rfl) (Cv:(iO.all λk=>![p.root].elem k)=true:=by rfl) (c6:rA g (get G2) 1000000 jB=true:=by rfl) (aN:get G2 d=none:=by rfl) (bp:N.ok d=true:=by rfl) [aC:j0 jZ]:qU ks iO P N g ⟨some d,.assign x,ty,pos,after,u⟩ (cV (get G2) d (aD en L)) :=
 .EV rfl rfl J aq (by have:=wO dh; subst this; exact Gz (GA a_ Cv c6) hk cS aC.p) aN bp
theorem fT.SD (J:Rd g x y:=by exact .q) (hk:pick g ks=some G2:=by rfl) (aN:get G2 d=none:=by rfl) (bp:N.ok d=true:=by rfl) [ao:b6 y] [aC:j0 G2]:qU ks iO P N g ⟨some d,.assign x,ty,pos,after,u⟩ (cV (get G2) d y) :=
 .Br rfl rfl J (.f .nil) .refl (wj hk aC.p) aN bp
theorem fT.wQ (J:Rd g x (.a6 en.z ⟨s,[]⟩ (L.length+M.length)):=by exact .q) (av:g s=some (.bI en.z q L.length M.length (bB en M)):=by rfl) (aq:bE g q=some (aD en L):=by rfl) (hk:pick g ks=some jZ:=by rfl) (cS:(ks.all λk=>![s,q.root].elem k)=true:=by rfl) (J':pick g iO=some jB:=by rfl) (dh:tN jZ jB=some G2:=by rfl) (Cv:(iO.all λk=>![s,q.root].elem k)=true:=by rfl) (c6:rA g (get G2) 1000000 jB=true:=by rfl) (a_:Nat.beq q.root s=false:=by rfl) (aN:get G2 d=none:=by rfl) (bp:N.ok d=true:=by rfl) [aC:j0 jZ]:qU ks iO P N g ⟨some d,.assign x,ty,pos,after,u⟩ (cV (get G2) d (aD en (L++M))) :=
 .MC rfl rfl J av aq a_ (by have:=wO dh; subst this; exact Gz (GA J' Cv c6) hk cS aC.p) aN bp
theorem fT.uR {iS y2:α}{m:Int}{o:Nat}{dU x2 y0:ab}(aJ:Rd g a (.ptr p (m.toNat * en.z+o)):=by exact .q) (aq:bE g p=some (aD en L):=by rfl) (h:idx L m=some iS:=by assumption) (ar:Rd g b y:=by exact .q) (aa:o4 y=some cs':=by rfl) (he:e4 (en.cells iS) o cs'=en.cells y2:=by rfl) (ix:ct g p (aD en (L.set m.toNat y2)) p.root=some dU:=by rfl) (gv:Gg dU=some x2:=by rfl) (hk:pick (cV g p.root x2) ks=some G2:=by rfl) (aW:hF P t cs'.length=true:=by kernel_rfl) (hlen:Nat.ble (o+cs'.length) en.z=true:=by rfl) (aK:Nat.blt 0 cs'.length=true:=by rfl) (hr:(get G2 p.root).isSome=true:=by rfl) (ru:g p.root=some y0:=by rfl) [aC:b6 y] [eN:b6 y0] [aN:j0 G2]:qU ks iO P N g ⟨none,.store t a b,ty,pos,after,none⟩ (get G2) :=
 .uX rfl rfl aJ ar aq h aW aa he hlen aK (by rw [ix,PX gv]) hr ru (Lm hk aN.p)
theorem fT.E0 {M2:List α}{s2:Nat}(J:Rd g x (.a6 en.z ⟨s,[]⟩ (L.length+M2.length+M.length)):=by exact .q) (av:g s=some (.bI en.z ⟨s2,[]⟩ (L.length+M2.length) M.length (bB en M)):=by rfl) (j_:g s2=some (.bI en.z q L.length M2.length (bB en M2)):=by rfl) (aq:bE g q=some (aD en L):=by rfl) (a_:Nat.beq q.root s=false:=by rfl) (rl:Nat.beq q.root s2=false:=by rfl) (CK:Nat.beq s s2=false:=by rfl) (hk:pick g ks=some jZ:=by rfl) (cS:(ks.all λk=>![s,s2,q.root].elem k)=true:=by rfl) (J':pick g iO=some jB:=by rfl) (dh:tN jZ jB=some G2:=by rfl) (Cv:(iO.all λk=>![s,s2,q.root].elem k)=true:=by rfl) (c6:rA g (get G2) 1000000 jB=true:=by rfl) (aN:get G2 d=none:=by rfl) (bp:N.ok d=true:=by rfl) [aC:j0 jZ]:qU ks iO P N g ⟨some d,.assign x,ty,pos,after,u⟩ (cV (get G2) d (aD en (L++M2++M))) :=
 .Sz rfl rfl J av j_ aq a_ rl CK (by have:=wO dh; subst this; exact Gz (GA J' Cv c6) hk cS aC.p) aN bp
theorem fT.sp (ar:Rd g b (.a6 en.z ⟨s,[]⟩ (L.length+M.length)):=by exact .q) (qy:g s=some (.bI en.z q L.length M.length (bB en M)):=by rfl) (aq:bE g q=some (aD en L):=by rfl) (aJ:Rd g a (.ptr ⟨r,[]⟩ k0):=by exact .q) (av:ct (ct g ⟨s,[]⟩ .dead) q .dead r=some (.obj cs1):=by rfl) (he:qN cs1 k0 [aD en (L++M)]=some cs2:=by rfl) (hk:pick (cV (ct (ct g ⟨s,[]⟩ .dead) q .dead) r (.obj cs2)) ks=some jZ:=by rfl) (fF:pick (cV (ct (ct g ⟨s,[]⟩ .dead) q .dead) r (.obj cs2)) iO=some jB:=by rfl) (dh:tN jZ jB=some G2:=by rfl) (c6:rA (ct (ct g ⟨s,[]⟩ .dead) q .dead) (get G2) r jB=true:=by rfl) (a_:Nat.beq q.root s=false:=by rfl) (aW:hF P t 1=true:=by kernel_rfl) (hr:(get G2 r).isSome=true:=by rfl) [eN:dp cs1] [aN:j0 jZ]:qU ks iO P N g ⟨none,.store t a b,ty,pos,after,none⟩ (get G2) :=
 .G9 rfl rfl aJ ar qy aq a_ .jx .h3 rfl rfl aW av (Nat.ble_eq_true_of_le (og he).2) (og he).1 hr (by have:=wO dh; subst this; exact GB (GC fF c6) hk aN.p)
end
def KV:Nat->List (Option ab)->Option (Nat × List ab)
 | _,[]=>none
 | k,some (.obj cs)::_=>some (k,cs)
 | k,none::l=>KV (k+1) l
 | _,_=>none
def PJ (g:aM) (xs:List Operand) (k:Nat):Option Nat :=
 match xs[k]? with
 | some (.tmp t)=>match g t with
  | some (.ptr ⟨r,[]⟩ 0)=>some r
  | some (.obj _)=>some t
  | _=>none
 | _=>none
theorem fT.jQ {P:Program}{N:cP}{g:aM}{d r k0:Nat}{ty:TypeId}{pos:String}{after:Array Edge}{u:Option (Nat × Bool)}{f:FuncId}{xs:List Operand}{fR:Array TypeId}{ys args cs cs':List ab}{outs:List (Option ab)}{res:ab}{ks:List Nat}{G2:List (Nat × ab)}
  (hj:bS P f args outs res) (ah:KV 0 outs=some (k0,cs')) (hr:PJ g xs k0=some r) (aq:pick (ct g ⟨r,[]⟩ .dead) ks=some G2) (J:(hn g xs).bind pj=some ys) (aJ:oq r cs k0 0 ys args) (av:g r=some (.obj cs):=by rfl) (he:outs=vY args.length k0 (.obj cs'):=by rfl) (ny:Nat.blt k0 ys.length=true:=by rfl) (aU:hG P f=true:=by kernel_rfl) (aN:get G2 d=none:=by rfl) (uk:Nat.beq r d=false:=by rfl) (J7:pick (get ((r,.obj cs')::G2)) ks=some G2:=by rfl) (bp:N.ok d=true:=by rfl) [eN:dp cs] [dH:b6 res] [FD:dp cs'] [aC:j0 G2] :
  bj P N g ⟨some d,.call { callee:=.value (.func f),args:=xs.toArray,argTypes:=fR },ty,pos,after,u⟩ (get ((d,res)::(r,.obj cs')::G2)) :=
 .call rfl bp (k1.jQ (A:=[]) rfl rfl (zl J) av aJ ny (he ▸ hj) aU (wj aq aC.p) aN uk (wj J7 aC.p) .nil bp)
def rY:Acc->List (Nat × ab)->List (Nat × ab)
 | [],G=>G
 | (_,d,some x)::acc,G=>(d,x)::rY acc G
 | (_,_,none)::acc,G=>rY acc G
def cJ (ey:List Nat) (P:Program) (N:cP) (ops:Array Oper) (bd:List (List Nat)) (g0:aM) (i:Nat) (acc:Acc) (l:List Oper) (K:aM->Prop):Prop:=bx P N ops bd g0 i acc l K
section
variable {α β:Type}{P:Program}{N:cP}{ops:Array Oper}{bd:List (List Nat)}{acc:Acc}{E ks:List Nat}{t x y z:lL}{A B c:Code}{G G1 G2:List (Nat × ab)}{g:aM}{g':aM}{Φ qT:Exit->aM->Prop}{Ψ:aM->Prop}{K:aM->Prop}{id k s d i bV j cz:Nat}{b cr:Bool}{l:List Oper}{o:Oper}{op:Op}{ty yH:TypeId}{pos:String}{after:Array Edge}{v y':ab}{u:Option (Nat × Bool)}{a aw a2:Operand}
theorem cI.aab (h:cI E t P N .ret G Φ):cI E t P N .ret G Φ:=h
theorem aA.ts (h:aA P N ops (⟨none,.store ty aw a2,yH,pos,after,u⟩::l) g K):aA P N ops (⟨none,.store ty aw a2,yH,pos,after,u⟩::l) g K:=h
theorem cJ.ts {ey:List Nat}(h:cJ ey P N ops bd g i acc (⟨none,.store ty aw a2,yH,pos,after,u⟩::l) K):cJ ey P N ops bd g i acc (⟨none,.store ty aw a2,yH,pos,after,u⟩::l) K:=h
theorem cJ.bL (op:Op) (u:Option (Nat × Bool)) {ey:List Nat}(h:cJ ey P N ops bd g i acc (⟨some d,op,ty,pos,after,u⟩::l) K):cJ ey P N ops bd g i acc (⟨some d,op,ty,pos,after,u⟩::l) K:=h
theorem cJ.nl {ey:List Nat}(h:cJ ey P N ops bd g i acc [] K):cJ ey P N ops bd g i acc [] K:=h
def GI (g:aM) (d:Nat):Operand->Option ab
 | .tmp t=>bif Nat.beq t d then none else GJ g t
 | .const v=>GH g (.const v)
 | _=>none
theorem Rd.qG {g:aM}{a:Operand}{y:ab}(h:GI g d a=some y):Rd (del g d) a y:=by
 unfold GI at h
 split at h
 ·rename_i t;cases ar:Nat.beq t d with
  | true=>rw [ar] at h; cases h
  | false =>
   rw [ar] at h;have cS:t≠d:=Nat.ne_of_beq_eq_false ar;refine Rd.AV ?_;unfold GJ at h ⊢;simpa [del,cS] using h
 ·exact .q (by unfold GH at h ⊢; exact h)
 ·cases h
theorem St {y':ab}(J:GI (get G) d a=some v) (aU:get G d=some y') (ah:leaf y'=true) (hk:aA P N ops l (get ((d,v)::G)) K) (bp:N.ok d=true:=by rfl):aA P N ops (⟨some d,.assign a,ty,pos,after,none⟩::l) (get G) K:=.over (.assign (Rd.qG J).bs) bp aU ah (r5 ▸ hk)
theorem Su {y':ab}(J:GI (get G) d a=some v) (aU:get G d=some y') (ah:leaf y'=true) (hk:aA P N ops l (get ((d,v)::G)) K) (bp:N.ok d=true:=by rfl):aA P N ops (⟨some d,.move a,ty,pos,after,none⟩::l) (get G) K:=.over (.move (Rd.qG J).bs) bp aU ah (r5 ▸ hk)
theorem Sb {iO:List Nat}(ny:vV [] G=some ks) (gz:C6 G [] [] G=some iO) (he:qU ks iO P N (get G) o (get G2)) (hk:aA P N ops l (get G2) K) (aN:o.guard=none:=by rfl):aA P N ops (o::l) (get G) K:=.jn aN he hk
theorem R_ {f:FuncId}{xs:List Operand}{fR:Array TypeId}{ys args cs cs':List ab}{outs:List (Option ab)}{res:ab}{r k0:Nat}(hj:bS P f args outs res) (ah:KV 0 outs=some (k0,cs')) (hr:PJ (get G) xs k0=some r) (hk:vV [r,d] G=some ks) (aq:pick (ct (get G) ⟨r,[]⟩ .dead) ks=some G2) (J:(hn (get G) xs).bind pj=some ys) (aJ:oq r cs k0 0 ys args) (c5:aA P N ops l (get ((d,res)::(r,.obj cs')::G2)) K) (av:get G r=some (.obj cs):=by rfl) (he:outs=vY args.length k0 (.obj cs'):=by rfl) (ny:Nat.blt k0 ys.length=true:=by rfl) (aU:hG P f=true:=by kernel_rfl) (aN:get G2 d=none:=by rfl) (uk:Nat.beq r d=false:=by rfl) (J7:pick (get ((r,.obj cs')::G2)) ks=some G2:=by rfl) (bp:N.ok d=true:=by rfl) [eN:dp cs] [dH:b6 res] [FD:dp cs'] [aC:j0 G2] :
  aA P N ops (⟨some d,.call { callee:=.value (.func f),args:=xs.toArray,argTypes:=fR },ty,pos,after,none⟩::l) (get G) K:=.jn rfl (fT.jQ hj ah hr aq J aJ av he ny aU aN uk J7 bp) c5
theorem Sa {iO:List Nat}(ny:vV (d::roots G a) G=some ks) (gz:C6 G (d::roots G a) [] G=some iO) (he:qU ks iO P N (get G) ⟨some d,.assign a,ty,pos,after,none⟩ (cV (get G2) d v)) (hk:aA P N ops l (get ((d,v)::G2)) K):aA P N ops (⟨some d,.assign a,ty,pos,after,none⟩::l) (get G) K:=.q_ rfl he (r5 ▸ hk)
theorem Sp {L:List α}{f:List α->Option β}{Lu:β}{M:List α}{e e1 bQ:Nat}{mx:TypeId}{parts:Array (Nat × Operand)}{ys:List ab}{en:bN α}(h:(c8 L M).bind f=some Lu) [het:nf P mx α en] [au:ek P mx e bQ] (hk:aA P N ops l (get ((d,ak en M)::G)) K) (J:(hn (get G) (parts.toList.map (·.2))).bind pj=some ys:=by rfl) (aa:o3 ys=some (bB en M):=by rfl) (aW:ys.all (λy=>match j5 y with | some c=>Nat.beq c.length en.z | none=>false)=true:=by rfl) (aq:parts.toList=(parts.toList.map (·.2)).mapIdx (λi x=>(i,x)):=by rfl) (ri:(parts.toList.map (·.2)).length=e1:=by rfl) (ah:M.length=e1:=by rfl) (uf:bQ=en.z:=by rfl) (hzero:jf P e en.z=true:=by kernel_rfl) (ar:Nat.ble (e1 * en.z) 16777216=true:=by rfl) (hS:Nat.ble e1 16777216=true:=by rfl) [hv:j4 (aD en M) (ak en M)] (bp:N.ok d=true:=by rfl) (aU:get G d=none:=by rfl):aA P N ops (⟨some d,.buildSlice mx e1 parts,ty,pos,after,none⟩::l) (get G) K :=
 .fe (O.dg en M (uf ▸ au.p) (zl J) aa aW aq ri ah hzero ar hS) bp aU .none (r5 ▸ hk)
theorem Sr {M:List α}{e e1 bQ:Nat}{mx:TypeId}{parts:Array (Nat × Operand)}{ys:List ab}{en:bN α}(av:LC d l=true) [het:nf P mx α en] [au:ek P mx e bQ] (hk:aA P N ops l (get ((d,ak en M)::G)) K) (J:(hn (get G) (parts.toList.map (·.2))).bind pj=some ys:=by rfl) [aQ:u6 en ys M] (aq:parts.toList=(parts.toList.map (·.2)).mapIdx (λi x=>(i,x)):=by rfl) (ri:(parts.toList.map (·.2)).length=e1:=by rfl) (ah:ys.length=e1:=by rfl) (uf:bQ=en.z:=by rfl) (hzero:jf P e en.z=true:=by kernel_rfl) (ar:Nat.ble (e1 * en.z) 16777216=true:=by rfl) (hS:Nat.ble e1 16777216=true:=by rfl) [hv:j4 (aD en M) (ak en M)] (bp:N.ok d=true:=by rfl) (aU:get G d=none:=by rfl):aA P N ops (⟨some d,.buildSlice mx e1 parts,ty,pos,after,none⟩::l) (get G) K :=
 .fe (O.dg en M (uf ▸ au.p) (zl J) aQ.p.1 aQ.p.2.1 aq ri (aQ.p.2.2.trans ah) hzero ar hS) bp aU .none (r5 ▸ hk)
theorem dV {ey:List Nat}(aq:cf P (kE bd g bV acc) op ty v) (hk:cJ ey P N ops bd g i ((bV,d,some v)::acc) l K) (ag:Nat.beq ops.size (bV+l.length+1)=true:=by rfl) (aU:g d=none:=by rfl) (aC:acc.all (λe=>!Nat.beq e.2.1 d)=true:=by rfl) (bp:N.ok d=true:=by rfl):cJ (bV::ey) P N ops bd g i acc (⟨some d,op,ty,pos,after,none⟩::l) K:=ax _ aq hk ag aU aC bp
theorem dW {ey:List Nat}(aq:cf P (kE bd g bV acc) op ty v) (hk:cJ ey P N ops bd g i ((bV,d,some v)::acc) l K) (h:(ops[j]?).bind (·.dst)=some cz:=by rfl) (aN:kE bd g bV acc cz=some (.lit (.bool cr)):=by rfl) (ar:cr=b:=by (first | rfl | assumption)) (ag:Nat.beq ops.size (bV+l.length+1)=true:=by rfl) (aU:g d=none:=by rfl) (aC:acc.all (λe=>!Nat.beq e.2.1 d)=true:=by rfl) (bp:N.ok d=true:=by rfl):cJ (bV::ey) P N ops bd g i acc (⟨some d,op,ty,pos,after,some (j,b)⟩::l) K:=.v _ aq ag aU aC bp (.py h aN ar) hk
theorem Mh {ey:List Nat}(aq:cp P (kE bd g bV acc) op v) (hk:cJ ey P N ops bd g i ((bV,d,some v)::acc) l K) (ag:Nat.beq ops.size (bV+l.length+1)=true:=by rfl) (aU:g d=none:=by rfl) (aC:acc.all (λe=>!Nat.beq e.2.1 d)=true:=by rfl) (bp:N.ok d=true:=by rfl):cJ (bV::ey) P N ops bd g i acc (⟨some d,op,ty,pos,after,none⟩::l) K:=.c _ aq ag aU aC bp .none hk
theorem Mg {ey:List Nat}(aq:cp P (kE bd g bV acc) op v) (hk:cJ ey P N ops bd g i ((bV,d,some v)::acc) l K) (h:(ops[j]?).bind (·.dst)=some cz:=by rfl) (aN:kE bd g bV acc cz=some (.lit (.bool cr)):=by rfl) (ar:cr=b:=by (first | rfl | assumption)) (ag:Nat.beq ops.size (bV+l.length+1)=true:=by rfl) (aU:g d=none:=by rfl) (aC:acc.all (λe=>!Nat.beq e.2.1 d)=true:=by rfl) (bp:N.ok d=true:=by rfl):cJ (bV::ey) P N ops bd g i acc (⟨some d,op,ty,pos,after,some (j,b)⟩::l) K:=.c _ aq ag aU aC bp (.py h aN ar) hk
theorem R7 {ey:List Nat}(hk:cJ ey P N ops bd g i ((bV,d,some (.bR []))::acc) l K) (h:(ops[j]?).bind (·.dst)=some cz:=by rfl) (aN:kE bd g bV acc cz=some (.lit (.bool cr)):=by rfl) (ar:cr=!b:=by (first | rfl | assumption)) (ag:Nat.beq ops.size (bV+l.length+1)=true:=by rfl) (aU:g d=none:=by rfl) (aC:acc.all (λe=>!Nat.beq e.2.1 d)=true:=by rfl) (bp:N.ok d=true:=by rfl):cJ (bV::ey) P N ops bd g i acc (⟨some d,op,ty,pos,after,some (j,b)⟩::l) K:=.ps _ h aN ar ag aU aC bp hk
theorem R8 {ey:List Nat}(hk:cJ ey P N ops bd g i ((bV,d,some (.bR []))::acc) l K) (h:(ops[j]?).bind (·.dst)=some cz:=by rfl) (aN:kE bd g bV acc cz=some (.bR []):=by rfl) (ag:Nat.beq ops.size (bV+l.length+1)=true:=by rfl) (aU:g d=none:=by rfl) (aC:acc.all (λe=>!Nat.beq e.2.1 d)=true:=by rfl) (bp:N.ok d=true:=by rfl):cJ (bV::ey) P N ops bd g i acc (⟨some d,op,ty,pos,after,some (j,b)⟩::l) K:=.pu _ h aN ag aU aC bp hk
theorem R3 {ey:List Nat}{L:List α}{f:List α->Option β}{Lu:β}{M:List α}{e e1 bQ:Nat}{mx:TypeId}{parts:Array (Nat × Operand)}{ys:List ab}{en:bN α}(h:(c8 L M).bind f=some Lu) [het:nf P mx α en] [au:ek P mx e bQ] (hk:cJ ey P N ops bd g i ((bV,d,some (ak en M))::acc) l K) (J:(hn (kE bd g bV acc) (parts.toList.map (·.2))).bind pj=some ys:=by rfl) (aa:o3 ys=some (bB en M):=by rfl) (aW:ys.all (λy=>match j5 y with | some c=>Nat.beq c.length en.z | none=>false)=true:=by rfl) (aq:parts.toList=(parts.toList.map (·.2)).mapIdx (λi x=>(i,x)):=by rfl) (ri:(parts.toList.map (·.2)).length=e1:=by rfl) (ah:M.length=e1:=by rfl) (uf:bQ=en.z:=by rfl) (hzero:jf P e en.z=true:=by kernel_rfl) (ar:Nat.ble (e1 * en.z) 16777216=true:=by rfl) (hS:Nat.ble e1 16777216=true:=by rfl) [hv:j4 (aD en M) (ak en M)] (ag:Nat.beq ops.size (bV+l.length+1)=true:=by rfl) (aU:g d=none:=by rfl) (aC:acc.all (λe=>!Nat.beq e.2.1 d)=true:=by rfl) (bp:N.ok d=true:=by rfl):cJ (bV::ey) P N ops bd g i acc (⟨some d,.buildSlice mx e1 parts,ty,pos,after,none⟩::l) K :=
 bx.fe bV (O.dg en M (uf ▸ au.p) (zl J) aa aW aq ri ah hzero ar hS) ag aU aC bp .none hk
theorem R4 {ey:List Nat}{M:List α}{e e1 bQ:Nat}{mx:TypeId}{parts:Array (Nat × Operand)}{ys:List ab}{en:bN α}(av:LC d l=true) [het:nf P mx α en] [au:ek P mx e bQ] (hk:cJ ey P N ops bd g i ((bV,d,some (ak en M))::acc) l K) (J:(hn (kE bd g bV acc) (parts.toList.map (·.2))).bind pj=some ys:=by rfl) [aQ:u6 en ys M] (aq:parts.toList=(parts.toList.map (·.2)).mapIdx (λi x=>(i,x)):=by rfl) (ri:(parts.toList.map (·.2)).length=e1:=by rfl) (ah:ys.length=e1:=by rfl) (uf:bQ=en.z:=by rfl) (hzero:jf P e en.z=true:=by kernel_rfl) (ar:Nat.ble (e1 * en.z) 16777216=true:=by rfl) (hS:Nat.ble e1 16777216=true:=by rfl) [hv:j4 (aD en M) (ak en M)] (ag:Nat.beq ops.size (bV+l.length+1)=true:=by rfl) (aU:g d=none:=by rfl) (aC:acc.all (λe=>!Nat.beq e.2.1 d)=true:=by rfl) (bp:N.ok d=true:=by rfl):cJ (bV::ey) P N ops bd g i acc (⟨some d,.buildSlice mx e1 parts,ty,pos,after,none⟩::l) K :=
 bx.fe bV (O.dg en M (uf ▸ au.p) (zl J) aQ.p.1 aQ.p.2.1 aq ri (aQ.p.2.2.trans ah) hzero ar hS) ag aU aC bp .none hk
theorem R6 {ey:List Nat}{iO:List Nat}(ny:vV [] (rY acc G)=some ks) (gz:C6 (rY acc G) [] [] (rY acc G)=some iO) (he:qU ks iO P N (ds (get G) (λ_=>true) acc) o (get G2)) (hk:cJ ey P N ops bd (get G2) (bV+1) [] l K) (aN:o.guard=none:=by rfl) (gS:sz ((acc.filterMap lj).map Place.root)=true:=by rfl) (fO:oc G=true:=by rfl) (ag:Nat.beq ops.size (bV+l.length+1)=true:=by rfl)
  (aJ:(List.range bV).all (λk=>(bd.getD bV []).contains k)=true:=by kernel_rfl) (ar:(List.range ops.size).all (λk=>Nat.ble k bV||(bd.getD k []).contains bV)=true:=by kernel_rfl):cJ (bV::ey) P N ops bd (get G) i acc (o::l) K:=.zm _ he aN gS fO ag aJ ar hk
theorem R5 {ey:List Nat}{iO:List Nat}(ny:vV (d::roots (rY acc G) a) (rY acc G)=some ks) (gz:C6 (rY acc G) (d::roots (rY acc G) a) [] (rY acc G)=some iO) (he:qU ks iO P N (ds (get G) (λ_=>true) acc) ⟨some d,.assign a,ty,pos,after,none⟩ (cV (get G2) d v)) (hk:cJ ey P N ops bd (get ((d,v)::G2)) (bV+1) [] l K) (gS:sz ((acc.filterMap lj).map Place.root)=true:=by rfl) (fO:oc G=true:=by rfl) (ag:Nat.beq ops.size (bV+l.length+1)=true:=by rfl)
  (aJ:(List.range bV).all (λk=>(bd.getD bV []).contains k)=true:=by kernel_rfl) (ar:(List.range ops.size).all (λk=>Nat.ble k bV||(bd.getD k []).contains bV)=true:=by kernel_rfl):cJ (bV::ey) P N ops bd (get G) i acc (⟨some d,.assign a,ty,pos,after,none⟩::l) K:=.bv _ he rfl gS fO ag aJ ar hk
theorem bx.Nv {K:aM->Prop}(aW:xY (acc.filterMap lj)=true) (fO:oc G=true) (hi:Nat.ble i ops.size=true) (c5:K (ds (get G) (λ_=>true) acc)):bx P N ops bd (get G) i acc [] K:=by
 intro dE j bT lZ mh;have ag:j=ops.size:=by
  have h1:ops.size<=j:=by
   have:=congrArg List.length mh;rw [List.length_drop,List.length_nil,Array.length_toList] at this;omega
  have aE:j<=ops.size:=by
   cases lZ with
   | nil=>exact Nat.le_of_ble_eq_true hi
   | step _ aX=>have:=(Array.getElem?_eq_some_iff.1 aX).1; omega
  omega
 subst ag;exact ⟨_,.fin lZ (K5 aW) (x0 fO),c5⟩
theorem R2 {ey:List Nat}{Ey:lL->List (Nat × ab)->Prop}(ny:KS E [] (rY acc G)=some ks) (aq:pick (ds (get G) (λ_=>true) acc) ks=some G1) [aC:j0 G1] (hk:Ey t G1) (aW:xY (acc.filterMap lj)=true:=by rfl) (fO:oc G=true:=by rfl) (hi:Nat.ble i ops.size=true:=by rfl):cJ ey P N ops bd (get G) i acc [] (y5 E t Ey) :=
 .Nv aW fO hi ⟨G1,(wj (c:=true) (g2:=get G1) aq aC.p).eP,hk⟩
theorem R1 {ey:List Nat}{F:α->List (Nat × ab)}{j v:α}(h:some v=some j) (au:Trim true (ds (get G) (λ_=>true) acc) (get (F v)) (F v)) (aW:xY (acc.filterMap lj)=true:=by rfl) (fO:oc G=true:=by rfl) (hi:Nat.ble i ops.size=true:=by rfl):cJ ey P N ops bd (get G) i acc [] (sS F j .normal):=by
 cases h; exact .Nv aW fO hi ⟨rfl,.eP au.eP .h3⟩
theorem cI.rd [hm:EF P] (h:cJ num P N l.toArray bd (get G) 0 [] l (y5 E y λt G1=>cI E t P N B G1 Φ)) (dL:qg l.toArray bd=true:=by kernel_rfl):cI E (.rd id bd y) P N (.seq (.region id l.toArray true) B) G Φ:=by
 obtain ⟨g',h1,G1,af,aE⟩:=h [] 0 .nil .nil (by simp);exact W.seq ((lK.draw hm.p dL h1).w (W.weaken af aE))
theorem cI.b0 {m:Option α}{f:α->Option β}{r:β}{L cU:α->List (Nat × ab)} [hm:EF P] (h:m.bind f=some r) (h1:∀ j,m=some j->cJ num P N l.toArray bd (get G) 0 [] l (sS cU j .normal)) (af:∀ j,m=some j->f j=some r->cI E y P N B (cU j) Φ)
  (aH:∀ j,pick (qG (L j) G) ks=some (cU j):=by intro j; rfl) (dL:qg l.toArray bd=true:=by kernel_rfl):cI E (.b0 id bd ks L y) P N (.seq (.region id l.toArray true) B) G Φ:=by
 obtain ⟨j,ag,h⟩:=ve h;obtain ⟨g',b9,_,e7⟩:=h1 j ag [] 0 .nil .nil (by simp);exact W.seq ((lK.draw hm.p dL b9).w (W.be (af j ag h) e7))
theorem cI.ZZ [hm:EF P] (h:cJ num P N l.toArray bd (get G) 0 [] l (y5 E y λt G1=>dZ E t .normal Φ G1)) (dL:qg l.toArray bd=true:=by kernel_rfl):cI E (.rd id bd y) P N (.region id l.toArray true) G Φ:=by
 obtain ⟨g',h1,G1,af,aE⟩:=h [] 0 .nil .nil (by simp);exact (lK.draw hm.p dL h1).w (aE g' (.eP af .h3))
theorem cI.Z5 {m:Option α}{f:α->Option β}{r:β}{L cU:α->List (Nat × ab)}(h:m.bind f=some r) (h1:∀ j,m=some j->aA P N l.toArray l (get G) (sS cU j .normal)) (af:∀ j,m=some j->f j=some r->dZ E y .normal Φ (cU j))
  (aH:∀ j,pick (qG (L j) G) ks=some (cU j):=by intro j; rfl):cI E (.eO id ks L y) P N (.region id l.toArray false) G Φ:=by
 obtain ⟨j,ag,h⟩:=ve h;exact W.D4 λi hi=>by
  obtain ⟨g',b9,_,e7⟩:=h1 j ag i hi;exact ⟨g',b9,af j ag h _ e7⟩
theorem cI.gl {S R gQ:Type}{f:S->Option (S ⊕ (R ⊕ gQ))}{s:S}{IZ:R ⊕ gQ->Option β}{r:β}{F cU:S->List (Nat × ab)}{ks sw C7:List Nat}{X mJ:R->List (Nat × ab)}{Y tM:gQ->List (Nat × ab)}(h:(cd f s).bind IZ=some r)
  (ar:∀ s o,f s=some o->cI E x P N c (cU s) (lr cU (Bk id mJ tM) o)) (J:∀ c',IZ (.inl c')=some r->dZ E y (.exit id) Φ (mJ c')) (ao:∀ c',IZ (.inr c')=some r->dZ E z .ret Φ (tM c'))
  (aH:∀ s,pick (qG (F s) G) ks=some (cU s):=by intro s; rfl) (eC:∀ s,pick (qG (X s) G) sw=some (mJ s):=by intro s; rfl) (B':∀ s,pick (qG (Y s) G) C7=some (tM s):=by intro s; rfl) (au:Trim true (get G) (get (cU s)) (cU s):=by (repeat' first | exact .nil | refine .n rfl ?_ | refine .w rfl rfl .pY ?_ | refine .w rfl rfl .pX ?_ | refine .w rfl rfl (kl.obj (by (repeat' first | exact .nil | refine .f ?_ | refine .o ?_ | refine .i ?_))) ?_)) :
  cI E (.gl F ks id X sw Y C7 x y z) P N (.loop c) G Φ:=by
 obtain ⟨c',ah,h⟩:=ve h;exact W.c7 au (W.PI cU id mJ tM ah ar (λq e=>J q (e ▸ h)) (λq e=>ao q (e ▸ h)))
theorem dZ.x2 {S R gQ:Type}{r:R}{o:S ⊕ (R ⊕ gQ)}{F:S->List (Nat × ab)}{X:R->List (Nat × ab)}{Y:gQ->List (Nat × ab)}(h:some (.inr (.inl r))=some o) (au:Trim true (get G) (get (X r)) (X r)):dZ E t (.exit id) (lr F (Bk id X Y) o) G:=by
 cases h; exact ay.x2 au
theorem dZ.jy {S R gQ:Type}{r:gQ}{o:S ⊕ (R ⊕ gQ)}{F:S->List (Nat × ab)}{X:R->List (Nat × ab)}{Y:gQ->List (Nat × ab)}(h:some (.inr (.inr r))=some o) (au:Trim true (get G) (get (Y r)) (Y r)):dZ E t .ret (lr F (Bk id X Y) o) G:=by
 cases h; exact ay.jy au
end
section
variable {P:Program}{N:cP}{E:List Nat}{t x y z:lL}{A B c:Code}{G:List (Nat × ab)}{Φ:Exit->aM->Prop}{id k s:Nat}{o:Operand}
theorem kk.dN {α:Type}{en:bN α}{i:Option Nat}(h:cI E (.dN id s i en y) P N c G Φ):cI E (.dN id s i en y) P N c G Φ:=h
theorem kk.iK {α:Type}{en:bN α}{i:Option Nat}(h:cI E (.iK s i en y) P N c G Φ):cI E (.iK s i en y) P N c G Φ:=h
theorem kk.eO {α:Type}{ks:List Nat}{L:α->List (Nat × ab)}(h:cI E (.eO id ks L y) P N c G Φ):cI E (.eO id ks L y) P N c G Φ:=h
theorem kk.b0 {α:Type}{bd:List (List Nat)}{ks:List Nat}{L:α->List (Nat × ab)}(h:cI E (.b0 id bd ks L y) P N c G Φ):cI E (.b0 id bd ks L y) P N c G Φ:=h
theorem kk.rd {bd:List (List Nat)}(h:cI E (.rd id bd y) P N c G Φ):cI E (.rd id bd y) P N c G Φ:=h
theorem kk.bH (h:cI E t P N (.cond o A B) G Φ):cI E t P N (.cond o A B) G Φ:=h
theorem kk.e' (h:cI E t P N (.loop A) G Φ):cI E t P N (.loop A) G Φ:=h
theorem kk.KN {α:Type}{ks:List Nat}{L:α->List (Nat × ab)}(h:cI E (.dG ks L x y) P N (.block id A) G Φ):cI E (.dG ks L x y) P N (.block id A) G Φ:=h
theorem kk.rg {ops:Array Oper}{b:Bool}(h:cI E t P N (.region id ops b) G Φ):cI E t P N (.region id ops b) G Φ:=h
theorem kk.ZA {S R:Type}{F:S->List (Nat × ab)}{Ψ:R->Exit->aM->Prop}{o:S ⊕ R}{e:Exit}(h:dZ E t e (lr F Ψ o) G):dZ E t e (lr F Ψ o) G:=h
theorem kk.ZD {α:Type}{F:α->List (Nat × ab)}{j:α}{e:Exit}(h:dZ E t e (sS F j) G):dZ E t e (sS F j) G:=h
theorem kk.Tl (h:dZ E t (.exit k) (mo id Φ) G):dZ E t (.exit k) (mo id Φ) G:=h
theorem kk.Gs {rs:List ResultVar}{n:Nat}{outs:List (Option ab)}{res:ab}{e:Exit}(h:dZ E t e (p9 P N rs n outs res) G):dZ E t e (p9 P N rs n outs res) G:=h
end
section
variable {P:Program}{N:cP}{E:List Nat}{t:lL}{G:List (Nat × ab)}{g':aM}{rs:List ResultVar}{ys xs:List ab}{res:ab}{outs:List (Option ab)}{n:Nat}
theorem ki.Ng {g w9:aM}{s z:Nat}{mx:TypeId}{cs ys0:List ab}{rs:List ResultVar}{ys xs:List ab}(h:g s=some (.obj cs)) [au:mD P mx z] (aW:cs.length=z) (aK:Nat.blt 0 z=true) (ao:yv (λi x=>fZ 0 ⟨s,[i]⟩ x) 0 num cs=some ys0) (hk:nM s g 0 ys0 cs w9) (hr:ki P w9 rs ys xs g'):ki P g (.cell s mx::rs) (.agg ys0::ys) (.agg cs::xs) g':=.c h au.p aW aK (by have:=D5 ao; simpa using this) hk hr
theorem dZ.dM (h:ki P (get G) rs ys xs g':=by (repeat' first | exact .nil | (apply ki.f rfl rfl) | (apply ki.o rfl) | (apply ki.Ng rfl rfl rfl rfl) | (apply nM.f rfl) | (apply nM.o rfl))) (he:p2 xs=res:=by rfl) (aX:q2 g' N.pins 0 outs:=by (repeat' first | exact .nil | refine .no ?_ | refine .aj rfl rfl ?_)) (eG:(rs.filterMap fun | .cell t _=>some t | _=>none).Nodup:=by exact of_decide_eq_true (by kernel_rfl)) (ah:outs.length=n:=by rfl):dZ E t .ret (p9 P N rs n outs res) G:=jD h he aX eG ah
theorem dZ.fn (h:ki P (get G) rs ys xs g':=by (repeat' first | exact .nil | (apply ki.f rfl rfl) | (apply ki.o rfl) | (apply ki.Ng rfl rfl rfl rfl) | (apply nM.f rfl) | (apply nM.o rfl))) (he:p2 xs=res:=by rfl) (aX:q2 g' N.pins 0 outs:=by (repeat' first | exact .nil | refine .no ?_ | refine .aj rfl rfl ?_)) (eG:(rs.filterMap fun | .cell t _=>some t | _=>none).Nodup:=by exact of_decide_eq_true (by kernel_rfl)) (ah:outs.length=n:=by rfl):dZ E t .normal (p9 P N rs n outs res) G:=ay.fin (Fin.ro h he eG aX ah (.inl rfl))
set_option maxRecDepth 1000000 in
/-- The walk: what it meets it does. -/
theorem dx {p:Prop}(h:p:=by
(repeat' (first
 | ((with_reducible apply aA.bL _ none); first
  | ((with_reducible apply aA.bL (.move _) none); first | refine d_ (O.aT .q) ?_)
  | ((with_reducible apply aA.bL (.assign (.const _)) none); first | refine d_ (O.az .q) ?_)
  | ((with_reducible apply aA.bL (.assign (.tmp _)) none); first | refine d_ (O.az .AV) ?_)
  | ((with_reducible apply aA.bL (.load _ _) none); first | refine d_ (O.hX) ?_ | refine d_ (O.gU) ?_ | refine d_ (O.A5) ?_ | refine d_ (O.A6) ?_ | refine d_ (O.Hi) ?_ | refine d_ (O.Hm) ?_ | refine d_ (O.L0) ?_)
  | ((with_reducible apply aA.bL (.fieldAddr _ _ _) none); first | refine d_ (O.He) ?_ | refine d_ (O.Hf) ?_ | refine d_ (O.wf) ?_)
  | ((with_reducible apply aA.bL (.indexAddr _ _ _) none); first | refine aL h λx J h=>d_ (O.Hh J) ?_ | refine aL h λx J h=>d_ (O.yK J) ?_ | refine d_ (O.eP) ?_ | refine d_ (O.Hn) ?_)
  | ((with_reducible apply aA.bL (.binOp .add _ _ _ _) none); first | refine d_ (O.add .q .q) ?_ | refine aL h λx J h=>d_ (O.cat .q .q J) ?_)
  | ((with_reducible apply aA.bL (.binOp .sub _ _ _ _) none); first | refine d_ (O.sub .q .q) ?_)
  | ((with_reducible apply aA.bL (.binOp .mul _ _ _ _) none); first | refine d_ (O.mul .q .q) ?_)
  | ((with_reducible apply aA.bL (.binOp .lss _ _ _ _) none); first | refine d_ (O.lss .q .q) ?_)
  | ((with_reducible apply aA.bL (.binOp .leq _ _ _ _) none); first | refine d_ (O.leq .q .q) ?_)
  | ((with_reducible apply aA.bL (.binOp .gtr _ _ _ _) none); first | refine d_ (O.gtr .q .q) ?_)
  | ((with_reducible apply aA.bL (.binOp .geq _ _ _ _) none); first | refine d_ (O.geq .q .q) ?_)
  | ((with_reducible apply aA.bL (.binOp .eql _ _ _ _) none); first | refine d_ (O.eql .q .q) ?_ | refine d_ (O.qn .q .q) ?_ | refine d_ (O.Ff .q .q (by kernel_rfl)) ?_ | refine d_ (O.oT) ?_)
  | ((with_reducible apply aA.bL (.binOp .neq _ _ _ _) none); first | refine d_ (O.neq .q .q) ?_ | refine d_ (O.oP .q .q) ?_ | refine d_ (O.wn) ?_)
  | ((with_reducible apply aA.bL (.binOp .quo _ _ _ _) none); first | refine aL h λx J h=>d_ (O.quo .q .q J) ?_ | refine aL h λx J h=>d_ (O.rG .q .q J) ?_)
  | ((with_reducible apply aA.bL (.binOp .rem _ _ _ _) none); first | refine aL h λx J h=>d_ (O.rem .q .q J) ?_ | refine aL h λx J h=>d_ (O.rI .q .q J) ?_)
  | ((with_reducible apply aA.bL (.unOp .not _ _) none); first | refine d_ (O.not .q) ?_)
  | ((with_reducible apply aA.bL (.unOp .neg _ _) none); first | refine d_ (O.neg .q) ?_)
  | ((with_reducible apply aA.bL (.pick _ _ _) none); first | refine d_ (O.fQ .q (by first | rfl | assumption) .q) ?_ | refine d_ (O.gn .q (by first | rfl | assumption) .q) ?_)
  | ((with_reducible apply aA.bL (.nilCheck _) none); first | refine d_ (O.cQ .q) ?_ | refine d_ (O.vW .q) ?_)
  | ((with_reducible apply aA.bL (.index _ _ _) none); first | refine aL h λx J h=>d_ (O.mL .q .q iT.p J) ?_)
  | ((with_reducible apply aA.bL (.extract _ _) none); first | refine d_ (O.Ht) ?_)
  | ((with_reducible apply aA.bL (.convert _ _ _) none); first | refine d_ (O.Hl) ?_ | refine d_ (O.Hk) ?_)
  | ((with_reducible apply aA.bL (.box _ _) none); first | refine d_ (O.Hc) ?_)
  | ((with_reducible apply aA.bL (.alloc _) none); first | refine d_ (O.LX) ?_ | refine d_ (O.Hj) ?_)
  | ((with_reducible apply aA.bL (.build _ _) none); first | refine d_ (O.Hs) ?_)
  | ((with_reducible apply aA.bL (.field _ _ _) none); first | refine d_ (O.wd) ?_)
  | ((with_reducible apply aA.bL (.makeSlice _ _ _) none); first | refine aL h λx J h=>d_ (O.Ho J) ?_ | refine aL h λx J h=>d_ (O.Hu J) ?_)
  | ((with_reducible apply aA.bL (.buildSlice _ 0 #[]) none); first | refine d_ (O.wl) ?_)
  | ((with_reducible apply aA.bL (.makeFunc _ _ _) none); first | refine d_ (O.Ac rfl) ?_)
  | ((with_reducible apply aA.bL (.slice _ _ _ _ _) none); first | refine aL h λx J h=>d_ (O.yA .q .q .q iT.p J) ?_ | refine aL h λx J h=>d_ (O.LG .q .q iT.p J) ?_ | refine aL h λx J h=>d_ (O.LH .q .q iT.p J) ?_ | refine aL h λx J h=>d_ (O.LZ J) ?_ | refine aL h λx J h=>d_ (O.Hq J) ?_ | refine aL h λx J h=>d_ (O.Hr J) ?_)
  | ((with_reducible apply aA.bL (.call { callee:=.builtin .len,args:=#[_],argTypes:=#[_] }) none); first | refine d_ (O.lC .q ek.p) ?_ | refine d_ (O.kB .q ek.p) ?_ | refine d_ (O.uB .q iT.p) ?_)
  | ((with_reducible apply aA.bL (.call { callee:=.builtin .append,args:=#[_,_],argTypes:=#[_,_] }) none); first | refine aL h λx J h=>d_ (O.wp J) ?_ | refine aL h λx J h=>d_ (O.Hp J) ?_ | refine aL h λx J h=>d_ (O.Hd J) ?_ | refine aL h λx J h=>d_ (O.wr J) ?_)
  | ((with_reducible apply aA.bL (.call { callee:=.value _,args:=_,argTypes:=_ }) none); first | (refine aL h λx J h=>Mz (cp.ev ?_ (bw.go J)) ?_; · (repeat' first | exact .nil | refine .cr .q ?_)) | (refine aL h λx J h=>Mz (cp.na rfl ?_ (bw.go J)) ?_; · (repeat' first | exact .nil | refine .s ?_ | refine .c (View.kT rfl rfl) ?_ | refine .c (.row rfl) ?_ | refine .c (View.nP ?_) ?_ | refine .c (View.cl ?_) ?_)) | (refine aL h λx J h=>R_ (bw.go J) rfl rfl rfl rfl rfl (by repeat' first | exact .nil | refine .b rfl ?_ | refine .n rfl ?_) ?_))
  | ((with_reducible apply aA.bL (.buildSlice _ _ _) none); first | refine Sp h ?_ | refine Sr rfl ?_ | refine abU rfl ?_ | refine Ss [_] rfl ?_ | refine Ss [_,_] rfl ?_)
  | ((with_reducible apply aA.bL (.assign _) none); refine St rfl rfl rfl ?_)
  | ((with_reducible apply aA.bL (.move _) none); refine Su rfl rfl rfl ?_)
  | ((with_reducible apply aA.bL (.move _) none); first | refine MA rfl rfl (O.aT .q) ?_)
  | ((with_reducible apply aA.bL (.assign (.const _)) none); first | refine MA rfl rfl (O.az .q) ?_)
  | ((with_reducible apply aA.bL (.assign (.tmp _)) none); first | refine MA rfl rfl (O.az .AV) ?_)
  | ((with_reducible apply aA.bL (.assign (.tmp _)) none); refine Sa rfl rfl (by first | exact fT.k5 | exact fT.wQ | exact fT.E0 | exact fT.nP .q (by repeat' first | exact eS.nil | (apply eS.f) | (apply eS.r rfl) | (apply eS.nP) | (apply eS.b rfl))) ?_))
 | ((with_reducible apply aA.ts); refine Sb rfl rfl (by first | exact fT.fu | exact fT.l7 | exact fT.uY | exact fT.sp | exact fT.uR | exact fT.aaw .q (by repeat' first | exact eS.nil | (apply eS.f) | (apply eS.r rfl) | (apply eS.nP) | (apply eS.b rfl))) ?_)
 | ((with_reducible apply aA.bL _ (some _)); first
  | refine qX ?_
  | refine Sf ?_
  | ((with_reducible apply aA.bL (.move _) (some _)); first | refine dX (O.aT .q) ?_)
  | ((with_reducible apply aA.bL (.assign (.const _)) (some _)); first | refine dX (O.az .q) ?_)
  | ((with_reducible apply aA.bL (.assign (.tmp _)) (some _)); first | refine dX (O.az .AV) ?_)
  | ((with_reducible apply aA.bL (.load _ _) (some _)); first | refine dX (O.hX) ?_ | refine dX (O.gU) ?_ | refine dX (O.A5) ?_ | refine dX (O.A6) ?_ | refine dX (O.Hi) ?_ | refine dX (O.Hm) ?_ | refine dX (O.L0) ?_)
  | ((with_reducible apply aA.bL (.fieldAddr _ _ _) (some _)); first | refine dX (O.He) ?_ | refine dX (O.Hf) ?_ | refine dX (O.wf) ?_)
  | ((with_reducible apply aA.bL (.indexAddr _ _ _) (some _)); first | refine aL h λx J h=>dX (O.Hh J) ?_ | refine aL h λx J h=>dX (O.yK J) ?_ | refine dX (O.eP) ?_ | refine dX (O.Hn) ?_)
  | ((with_reducible apply aA.bL (.binOp .add _ _ _ _) (some _)); first | refine dX (O.add .q .q) ?_ | refine aL h λx J h=>dX (O.cat .q .q J) ?_)
  | ((with_reducible apply aA.bL (.binOp .sub _ _ _ _) (some _)); first | refine dX (O.sub .q .q) ?_)
  | ((with_reducible apply aA.bL (.binOp .mul _ _ _ _) (some _)); first | refine dX (O.mul .q .q) ?_)
  | ((with_reducible apply aA.bL (.binOp .lss _ _ _ _) (some _)); first | refine dX (O.lss .q .q) ?_)
  | ((with_reducible apply aA.bL (.binOp .leq _ _ _ _) (some _)); first | refine dX (O.leq .q .q) ?_)
  | ((with_reducible apply aA.bL (.binOp .gtr _ _ _ _) (some _)); first | refine dX (O.gtr .q .q) ?_)
  | ((with_reducible apply aA.bL (.binOp .geq _ _ _ _) (some _)); first | refine dX (O.geq .q .q) ?_)
  | ((with_reducible apply aA.bL (.binOp .eql _ _ _ _) (some _)); first | refine dX (O.eql .q .q) ?_ | refine dX (O.qn .q .q) ?_ | refine dX (O.Ff .q .q (by kernel_rfl)) ?_ | refine dX (O.oT) ?_)
  | ((with_reducible apply aA.bL (.binOp .neq _ _ _ _) (some _)); first | refine dX (O.neq .q .q) ?_ | refine dX (O.oP .q .q) ?_ | refine dX (O.wn) ?_)
  | ((with_reducible apply aA.bL (.binOp .quo _ _ _ _) (some _)); first | refine aL h λx J h=>dX (O.quo .q .q J) ?_ | refine aL h λx J h=>dX (O.rG .q .q J) ?_)
  | ((with_reducible apply aA.bL (.binOp .rem _ _ _ _) (some _)); first | refine aL h λx J h=>dX (O.rem .q .q J) ?_ | refine aL h λx J h=>dX (O.rI .q .q J) ?_)
  | ((with_reducible apply aA.bL (.unOp .not _ _) (some _)); first | refine dX (O.not .q) ?_)
  | ((with_reducible apply aA.bL (.unOp .neg _ _) (some _)); first | refine dX (O.neg .q) ?_)
  | ((with_reducible apply aA.bL (.pick _ _ _) (some _)); first | refine dX (O.fQ .q (by first | rfl | assumption) .q) ?_ | refine dX (O.gn .q (by first | rfl | assumption) .q) ?_)
  | ((with_reducible apply aA.bL (.nilCheck _) (some _)); first | refine dX (O.cQ .q) ?_ | refine dX (O.vW .q) ?_)
  | ((with_reducible apply aA.bL (.index _ _ _) (some _)); first | refine aL h λx J h=>dX (O.mL .q .q iT.p J) ?_)
  | ((with_reducible apply aA.bL (.extract _ _) (some _)); first | refine dX (O.Ht) ?_)
  | ((with_reducible apply aA.bL (.convert _ _ _) (some _)); first | refine dX (O.Hl) ?_ | refine dX (O.Hk) ?_)
  | ((with_reducible apply aA.bL (.box _ _) (some _)); first | refine dX (O.Hc) ?_)
  | ((with_reducible apply aA.bL (.alloc _) (some _)); first | refine dX (O.LX) ?_ | refine dX (O.Hj) ?_)
  | ((with_reducible apply aA.bL (.build _ _) (some _)); first | refine dX (O.Hs) ?_)
  | ((with_reducible apply aA.bL (.field _ _ _) (some _)); first | refine dX (O.wd) ?_)
  | ((with_reducible apply aA.bL (.makeSlice _ _ _) (some _)); first | refine aL h λx J h=>dX (O.Ho J) ?_ | refine aL h λx J h=>dX (O.Hu J) ?_)
  | ((with_reducible apply aA.bL (.buildSlice _ 0 #[]) (some _)); first | refine dX (O.wl) ?_)
  | ((with_reducible apply aA.bL (.makeFunc _ _ _) (some _)); first | refine dX (O.Ac rfl) ?_)
  | ((with_reducible apply aA.bL (.slice _ _ _ _ _) (some _)); first | refine aL h λx J h=>dX (O.yA .q .q .q iT.p J) ?_ | refine aL h λx J h=>dX (O.LG .q .q iT.p J) ?_ | refine aL h λx J h=>dX (O.LH .q .q iT.p J) ?_ | refine aL h λx J h=>dX (O.LZ J) ?_ | refine aL h λx J h=>dX (O.Hq J) ?_ | refine aL h λx J h=>dX (O.Hr J) ?_)
  | ((with_reducible apply aA.bL (.call { callee:=.builtin .len,args:=#[_],argTypes:=#[_] }) (some _)); first | refine dX (O.lC .q ek.p) ?_ | refine dX (O.kB .q ek.p) ?_ | refine dX (O.uB .q iT.p) ?_)
  | ((with_reducible apply aA.bL (.call { callee:=.builtin .append,args:=#[_,_],argTypes:=#[_,_] }) (some _)); first | refine aL h λx J h=>dX (O.wp J) ?_ | refine aL h λx J h=>dX (O.Hp J) ?_ | refine aL h λx J h=>dX (O.Hd J) ?_ | refine aL h λx J h=>dX (O.wr J) ?_)
  | ((with_reducible apply aA.bL (.call { callee:=.value _,args:=_,argTypes:=_ }) (some _)); first | (refine aL h λx J h=>Ml (cp.ev ?_ (bw.go J)) ?_; · (repeat' first | exact .nil | refine .cr .q ?_)) | (refine aL h λx J h=>Ml (cp.na rfl ?_ (bw.go J)) ?_; · (repeat' first | exact .nil | refine .s ?_ | refine .c (View.kT rfl rfl) ?_ | refine .c (.row rfl) ?_ | refine .c (View.nP ?_) ?_ | refine .c (View.cl ?_) ?_)))
  | refine Iq h (λar h=>?_) (λar h=>?_))
 | ((with_reducible apply aA.nl); first | refine HI rfl rfl ?_ | refine Sc h (by (repeat' first | exact .nil | refine .n rfl ?_ | refine .w rfl rfl .pY ?_ | refine .w rfl rfl .pX ?_ | refine .w rfl rfl (kl.obj (by (repeat' first | exact .nil | refine .f ?_ | refine .o ?_ | refine .i ?_))) ?_)))
 | ((with_reducible apply cJ.bL _ none); first
  | ((with_reducible apply cJ.bL (.move _) none); first | refine dV (O.aT .q) ?_)
  | ((with_reducible apply cJ.bL (.assign (.const _)) none); first | refine dV (O.az .q) ?_)
  | ((with_reducible apply cJ.bL (.assign (.tmp _)) none); first | refine dV (O.az .AV) ?_)
  | ((with_reducible apply cJ.bL (.load _ _) none); first | refine dV (O.hX) ?_ | refine dV (O.gU) ?_ | refine dV (O.A5) ?_ | refine dV (O.A6) ?_ | refine dV (O.Hi) ?_ | refine dV (O.Hm) ?_ | refine dV (O.L0) ?_)
  | ((with_reducible apply cJ.bL (.fieldAddr _ _ _) none); first | refine dV (O.He) ?_ | refine dV (O.Hf) ?_ | refine dV (O.wf) ?_)
  | ((with_reducible apply cJ.bL (.indexAddr _ _ _) none); first | refine aL h λx J h=>dV (O.Hh J) ?_ | refine aL h λx J h=>dV (O.yK J) ?_ | refine dV (O.eP) ?_ | refine dV (O.Hn) ?_)
  | ((with_reducible apply cJ.bL (.binOp .add _ _ _ _) none); first | refine dV (O.add .q .q) ?_ | refine aL h λx J h=>dV (O.cat .q .q J) ?_)
  | ((with_reducible apply cJ.bL (.binOp .sub _ _ _ _) none); first | refine dV (O.sub .q .q) ?_)
  | ((with_reducible apply cJ.bL (.binOp .mul _ _ _ _) none); first | refine dV (O.mul .q .q) ?_)
  | ((with_reducible apply cJ.bL (.binOp .lss _ _ _ _) none); first | refine dV (O.lss .q .q) ?_)
  | ((with_reducible apply cJ.bL (.binOp .leq _ _ _ _) none); first | refine dV (O.leq .q .q) ?_)
  | ((with_reducible apply cJ.bL (.binOp .gtr _ _ _ _) none); first | refine dV (O.gtr .q .q) ?_)
  | ((with_reducible apply cJ.bL (.binOp .geq _ _ _ _) none); first | refine dV (O.geq .q .q) ?_)
  | ((with_reducible apply cJ.bL (.binOp .eql _ _ _ _) none); first | refine dV (O.eql .q .q) ?_ | refine dV (O.qn .q .q) ?_ | refine dV (O.Ff .q .q (by kernel_rfl)) ?_ | refine dV (O.oT) ?_)
  | ((with_reducible apply cJ.bL (.binOp .neq _ _ _ _) none); first | refine dV (O.neq .q .q) ?_ | refine dV (O.oP .q .q) ?_ | refine dV (O.wn) ?_)
  | ((with_reducible apply cJ.bL (.binOp .quo _ _ _ _) none); first | refine aL h λx J h=>dV (O.quo .q .q J) ?_ | refine aL h λx J h=>dV (O.rG .q .q J) ?_)
  | ((with_reducible apply cJ.bL (.binOp .rem _ _ _ _) none); first | refine aL h λx J h=>dV (O.rem .q .q J) ?_ | refine aL h λx J h=>dV (O.rI .q .q J) ?_)
  | ((with_reducible apply cJ.bL (.unOp .not _ _) none); first | refine dV (O.not .q) ?_)
  | ((with_reducible apply cJ.bL (.unOp .neg _ _) none); first | refine dV (O.neg .q) ?_)
  | ((with_reducible apply cJ.bL (.pick _ _ _) none); first | refine dV (O.fQ .q (by first | rfl | assumption) .q) ?_ | refine dV (O.gn .q (by first | rfl | assumption) .q) ?_)
  | ((with_reducible apply cJ.bL (.nilCheck _) none); first | refine dV (O.cQ .q) ?_ | refine dV (O.vW .q) ?_)
  | ((with_reducible apply cJ.bL (.index _ _ _) none); first | refine aL h λx J h=>dV (O.mL .q .q iT.p J) ?_)
  | ((with_reducible apply cJ.bL (.extract _ _) none); first | refine dV (O.Ht) ?_)
  | ((with_reducible apply cJ.bL (.convert _ _ _) none); first | refine dV (O.Hl) ?_ | refine dV (O.Hk) ?_)
  | ((with_reducible apply cJ.bL (.box _ _) none); first | refine dV (O.Hc) ?_)
  | ((with_reducible apply cJ.bL (.alloc _) none); first | refine dV (O.LX) ?_ | refine dV (O.Hj) ?_)
  | ((with_reducible apply cJ.bL (.build _ _) none); first | refine dV (O.Hs) ?_)
  | ((with_reducible apply cJ.bL (.field _ _ _) none); first | refine dV (O.wd) ?_)
  | ((with_reducible apply cJ.bL (.makeSlice _ _ _) none); first | refine aL h λx J h=>dV (O.Ho J) ?_ | refine aL h λx J h=>dV (O.Hu J) ?_)
  | ((with_reducible apply cJ.bL (.buildSlice _ 0 #[]) none); first | refine dV (O.wl) ?_)
  | ((with_reducible apply cJ.bL (.makeFunc _ _ _) none); first | refine dV (O.Ac rfl) ?_)
  | ((with_reducible apply cJ.bL (.slice _ _ _ _ _) none); first | refine aL h λx J h=>dV (O.yA .q .q .q iT.p J) ?_ | refine aL h λx J h=>dV (O.LG .q .q iT.p J) ?_ | refine aL h λx J h=>dV (O.LH .q .q iT.p J) ?_ | refine aL h λx J h=>dV (O.LZ J) ?_ | refine aL h λx J h=>dV (O.Hq J) ?_ | refine aL h λx J h=>dV (O.Hr J) ?_)
  | ((with_reducible apply cJ.bL (.call { callee:=.builtin .len,args:=#[_],argTypes:=#[_] }) none); first | refine dV (O.lC .q ek.p) ?_ | refine dV (O.kB .q ek.p) ?_ | refine dV (O.uB .q iT.p) ?_)
  | ((with_reducible apply cJ.bL (.call { callee:=.builtin .append,args:=#[_,_],argTypes:=#[_,_] }) none); first | refine aL h λx J h=>dV (O.wp J) ?_ | refine aL h λx J h=>dV (O.Hp J) ?_ | refine aL h λx J h=>dV (O.Hd J) ?_ | refine aL h λx J h=>dV (O.abr J) ?_)
  | ((with_reducible apply cJ.bL (.call { callee:=.value _,args:=_,argTypes:=_ }) none); first | (refine aL h λx J h=>Mh (cp.ev ?_ (bw.go J)) ?_; · (repeat' first | exact .nil | refine .cr .q ?_)) | (refine aL h λx J h=>Mh (cp.na rfl ?_ (bw.go J)) ?_; · (repeat' first | exact .nil | refine .s ?_ | refine .c (View.kT rfl rfl) ?_ | refine .c (.row rfl) ?_ | refine .c (View.nP ?_) ?_ | refine .c (View.cl ?_) ?_)) | (refine aL h λx J h=>abP (bw.go J) rfl rfl rfl rfl rfl (by repeat' first | exact .nil | refine .b rfl ?_ | refine .n rfl ?_) ?_))
  | ((with_reducible apply cJ.bL (.buildSlice _ _ _) none); first | refine R3 h ?_ | refine R4 rfl ?_ | refine abQ rfl ?_ | refine abR [_,_] rfl ?_ | refine R9 [_] rfl ?_ | refine R9 [_,_] rfl ?_)
  | ((with_reducible apply cJ.bL (.assign _) none); refine R5 rfl rfl (by first | exact fT.k5 | exact fT.wQ | exact fT.E0 | exact fT.SD | exact fT.nP .q (by repeat' first | exact eS.nil | (apply eS.f) | (apply eS.r rfl) | (apply eS.nP) | (apply eS.b rfl))) ?_))
 | ((with_reducible apply cJ.ts); refine R6 rfl rfl (by first | exact fT.fu | exact fT.l7 | exact fT.uY | exact fT.sp | exact fT.uR | exact fT.aaw .q (by repeat' first | exact eS.nil | (apply eS.f) | (apply eS.r rfl) | (apply eS.nP) | (apply eS.b rfl))) ?_)
 | ((with_reducible apply cJ.bL _ (some _)); first
  | refine R7 ?_
  | refine R8 ?_
  | ((with_reducible apply cJ.bL (.move _) (some _)); first | refine dW (O.aT .q) ?_)
  | ((with_reducible apply cJ.bL (.assign (.const _)) (some _)); first | refine dW (O.az .q) ?_)
  | ((with_reducible apply cJ.bL (.assign (.tmp _)) (some _)); first | refine dW (O.az .AV) ?_)
  | ((with_reducible apply cJ.bL (.load _ _) (some _)); first | refine dW (O.hX) ?_ | refine dW (O.gU) ?_ | refine dW (O.A5) ?_ | refine dW (O.A6) ?_ | refine dW (O.Hi) ?_ | refine dW (O.Hm) ?_ | refine dW (O.L0) ?_)
  | ((with_reducible apply cJ.bL (.fieldAddr _ _ _) (some _)); first | refine dW (O.He) ?_ | refine dW (O.Hf) ?_ | refine dW (O.wf) ?_)
  | ((with_reducible apply cJ.bL (.indexAddr _ _ _) (some _)); first | refine aL h λx J h=>dW (O.Hh J) ?_ | refine aL h λx J h=>dW (O.yK J) ?_ | refine dW (O.eP) ?_ | refine dW (O.Hn) ?_)
  | ((with_reducible apply cJ.bL (.binOp .add _ _ _ _) (some _)); first | refine dW (O.add .q .q) ?_ | refine aL h λx J h=>dW (O.cat .q .q J) ?_)
  | ((with_reducible apply cJ.bL (.binOp .sub _ _ _ _) (some _)); first | refine dW (O.sub .q .q) ?_)
  | ((with_reducible apply cJ.bL (.binOp .mul _ _ _ _) (some _)); first | refine dW (O.mul .q .q) ?_)
  | ((with_reducible apply cJ.bL (.binOp .lss _ _ _ _) (some _)); first | refine dW (O.lss .q .q) ?_)
  | ((with_reducible apply cJ.bL (.binOp .leq _ _ _ _) (some _)); first | refine dW (O.leq .q .q) ?_)
  | ((with_reducible apply cJ.bL (.binOp .gtr _ _ _ _) (some _)); first | refine dW (O.gtr .q .q) ?_)
  | ((with_reducible apply cJ.bL (.binOp .geq _ _ _ _) (some _)); first | refine dW (O.geq .q .q) ?_)
  | ((with_reducible apply cJ.bL (.binOp .eql _ _ _ _) (some _)); first | refine dW (O.eql .q .q) ?_ | refine dW (O.qn .q .q) ?_ | refine dW (O.Ff .q .q (by kernel_rfl)) ?_ | refine dW (O.oT) ?_)
  | ((with_reducible apply cJ.bL (.binOp .neq _ _ _ _) (some _)); first | refine dW (O.neq .q .q) ?_ | refine dW (O.oP .q .q) ?_ | refine dW (O.wn) ?_)
  | ((with_reducible apply cJ.bL (.binOp .quo _ _ _ _) (some _)); first | refine aL h λx J h=>dW (O.quo .q .q J) ?_ | refine aL h λx J h=>dW (O.rG .q .q J) ?_)
  | ((with_reducible apply cJ.bL (.binOp .rem _ _ _ _) (some _)); first | refine aL h λx J h=>dW (O.rem .q .q J) ?_ | refine aL h λx J h=>dW (O.rI .q .q J) ?_)
  | ((with_reducible apply cJ.bL (.unOp .not _ _) (some _)); first | refine dW (O.not .q) ?_)
  | ((with_reducible apply cJ.bL (.unOp .neg _ _) (some _)); first | refine dW (O.neg .q) ?_)
  | ((with_reducible apply cJ.bL (.pick _ _ _) (some _)); first | refine dW (O.fQ .q (by first | rfl | assumption) .q) ?_ | refine dW (O.gn .q (by first | rfl | assumption) .q) ?_)
  | ((with_reducible apply cJ.bL (.nilCheck _) (some _)); first | refine dW (O.cQ .q) ?_ | refine dW (O.vW .q) ?_)
  | ((with_reducible apply cJ.bL (.index _ _ _) (some _)); first | refine aL h λx J h=>dW (O.mL .q .q iT.p J) ?_)
  | ((with_reducible apply cJ.bL (.extract _ _) (some _)); first | refine dW (O.Ht) ?_)
  | ((with_reducible apply cJ.bL (.convert _ _ _) (some _)); first | refine dW (O.Hl) ?_ | refine dW (O.Hk) ?_)
  | ((with_reducible apply cJ.bL (.box _ _) (some _)); first | refine dW (O.Hc) ?_)
  | ((with_reducible apply cJ.bL (.alloc _) (some _)); first | refine dW (O.LX) ?_ | refine dW (O.Hj) ?_)
  | ((with_reducible apply cJ.bL (.build _ _) (some _)); first | refine dW (O.Hs) ?_)
  | ((with_reducible apply cJ.bL (.field _ _ _) (some _)); first | refine dW (O.wd) ?_)
  | ((with_reducible apply cJ.bL (.makeSlice _ _ _) (some _)); first | refine aL h λx J h=>dW (O.Ho J) ?_ | refine aL h λx J h=>dW (O.Hu J) ?_)
  | ((with_reducible apply cJ.bL (.buildSlice _ 0 #[]) (some _)); first | refine dW (O.wl) ?_)
  | ((with_reducible apply cJ.bL (.makeFunc _ _ _) (some _)); first | refine dW (O.Ac rfl) ?_)
  | ((with_reducible apply cJ.bL (.slice _ _ _ _ _) (some _)); first | refine aL h λx J h=>dW (O.yA .q .q .q iT.p J) ?_ | refine aL h λx J h=>dW (O.LG .q .q iT.p J) ?_ | refine aL h λx J h=>dW (O.LH .q .q iT.p J) ?_ | refine aL h λx J h=>dW (O.LZ J) ?_ | refine aL h λx J h=>dW (O.Hq J) ?_ | refine aL h λx J h=>dW (O.Hr J) ?_)
  | ((with_reducible apply cJ.bL (.call { callee:=.builtin .len,args:=#[_],argTypes:=#[_] }) (some _)); first | refine dW (O.lC .q ek.p) ?_ | refine dW (O.kB .q ek.p) ?_ | refine dW (O.uB .q iT.p) ?_)
  | ((with_reducible apply cJ.bL (.call { callee:=.builtin .append,args:=#[_,_],argTypes:=#[_,_] }) (some _)); first | refine aL h λx J h=>dW (O.wp J) ?_ | refine aL h λx J h=>dW (O.Hp J) ?_ | refine aL h λx J h=>dW (O.Hd J) ?_ | refine aL h λx J h=>dW (O.abr J) ?_)
  | ((with_reducible apply cJ.bL (.call { callee:=.value _,args:=_,argTypes:=_ }) (some _)); first | (refine aL h λx J h=>Mg (cp.ev ?_ (bw.go J)) ?_; · (repeat' first | exact .nil | refine .cr .q ?_)) | (refine aL h λx J h=>Mg (cp.na rfl ?_ (bw.go J)) ?_; · (repeat' first | exact .nil | refine .s ?_ | refine .c (View.kT rfl rfl) ?_ | refine .c (.row rfl) ?_ | refine .c (View.nP ?_) ?_ | refine .c (View.cl ?_) ?_)))
  | refine Iq h (λar h=>?_) (λar h=>?_))
 | ((with_reducible apply cJ.nl); first | refine R2 rfl rfl ?_ | refine R1 h (by (repeat' first | exact .nil | refine .n rfl ?_ | refine .w rfl rfl .pY ?_ | refine .w rfl rfl .pX ?_ | refine .w rfl rfl (kl.obj (by (repeat' first | exact .nil | refine .f ?_ | refine .o ?_ | refine .i ?_))) ?_)))
 | ((with_reducible apply kk.dN); refine cI.dN rfl (by first | exact .w | exact .n | exact .c rfl .w rfl | exact .c rfl .n rfl) rfl rfl ?_)
 | ((with_reducible apply kk.iK); refine cI.iK rfl (by first | exact .w | exact .n | exact .c rfl .w rfl | exact .c rfl .n rfl) rfl rfl ?_)
 | ((with_reducible apply kk.eO); first | refine cI.eO h (λj h=>?_) (λj ag h=>?_) | refine cI.Z5 h (λj h=>?_) (λj ag h=>?_))
 | ((with_reducible apply kk.b0); first | refine cI.b0 h (λj h=>?_) (λj ag h=>?_) | refine cI.aeY h (λj h=>?_) (λj ag h=>?_))
 | ((with_reducible apply kk.rd); first | refine cI.rd ?_ | refine cI.ZZ ?_)
 | (with_reducible apply cI.rg)
 | (with_reducible apply cI.bG)
 | ((with_reducible apply kk.bH); first
  | refine cI.YG h (λj h=>?_) (λj ag h=>?_)
  | refine cI.bY h (λar h=>?_) (λar h=>?_)
  | refine cI.ce h (λar h=>?_) (λar h=>?_)
  | refine cI.ab0 ?_
  | refine cI.abZ ?_)
 | ((with_reducible apply kk.KN); refine cI.KN h (λj h=>?_) (λj ag h=>?_))
 | (with_reducible apply cI.zm)
 | (with_reducible apply cI.b_)
 | (with_reducible apply cI.cR)
 | (with_reducible apply cI.fw)
 | ((with_reducible apply cI.aab); first
  | (refine cI.A0 h (by (repeat' first | exact .nil | refine .z rfl rfl ?_ ?_ | exact .refl | exact .Df | exact gX.vw | refine fK.obj ?_ | refine .f ?_ | refine .o ?_ | refine .z ?_)) (by (repeat' first | exact .nil | refine .n rfl ?_ | refine .w rfl rfl .pY ?_ | refine .w rfl rfl .pX ?_ | refine .w rfl rfl (kl.obj (by (repeat' first | exact .nil | refine .f ?_ | refine .o ?_ | refine .i ?_))) ?_)))
  | (cases h; refine cI.h3 rfl (by (repeat' first | exact .nil | refine .z rfl rfl ?_ ?_ | exact .refl | exact .Df | exact gX.vw | refine fK.obj ?_ | refine .f ?_ | refine .o ?_ | refine .z ?_)) ?_; exact dZ.dM)
  | refine cI.GK ?_)
 | (with_reducible apply dZ.bG)
 | (with_reducible apply dZ.fm)
 | (with_reducible apply dZ.gC)
 | (with_reducible apply dZ.b_)
 | (with_reducible apply dZ.fA)
 | (with_reducible apply dZ.lP)
 | ((with_reducible apply kk.Tl); refine dZ.E7 ?_)
 | ((with_reducible apply kk.ZA); first
  | refine dZ.go h (by (repeat' first | exact .nil | refine .n rfl ?_ | refine .w rfl rfl .pY ?_ | refine .w rfl rfl .pX ?_ | refine .w rfl rfl (kl.obj (by (repeat' first | exact .nil | refine .f ?_ | refine .o ?_ | refine .i ?_))) ?_))
  | refine dZ.aR h (by (repeat' first | exact .nil | refine .n rfl ?_ | refine .w rfl rfl .pY ?_ | refine .w rfl rfl .pX ?_ | refine .w rfl rfl (kl.obj (by (repeat' first | exact .nil | refine .f ?_ | refine .o ?_ | refine .i ?_))) ?_))
  | refine dZ.x2 h (by (repeat' first | exact .nil | refine .n rfl ?_ | refine .w rfl rfl .pY ?_ | refine .w rfl rfl .pX ?_ | refine .w rfl rfl (kl.obj (by (repeat' first | exact .nil | refine .f ?_ | refine .o ?_ | refine .i ?_))) ?_))
  | refine dZ.jy h (by (repeat' first | exact .nil | refine .n rfl ?_ | refine .w rfl rfl .pY ?_ | refine .w rfl rfl .pX ?_ | refine .w rfl rfl (kl.obj (by (repeat' first | exact .nil | refine .f ?_ | refine .o ?_ | refine .i ?_))) ?_)))
 | ((with_reducible apply kk.ZD); refine dZ.dG h (by (repeat' first | exact .nil | refine .n rfl ?_ | refine .w rfl rfl .pY ?_ | refine .w rfl rfl .pX ?_ | refine .w rfl rfl (kl.obj (by (repeat' first | exact .nil | refine .f ?_ | refine .o ?_ | refine .i ?_))) ?_)))
 | ((with_reducible apply kk.e'); first
  | refine cI.e' h (λs o h=>?_) (λr hr h=>?_)
  | refine cI.gl h (λs o h=>?_) (λr h=>?_) (λr h=>?_))
 | ((with_reducible apply kk.rg); with_reducible apply cI.rt)
 | ((with_reducible apply kk.Gs); cases h; first | exact dZ.dM | exact dZ.fn)
 | refine Iq h (λar h=>?_) (λar h=>?_)))):p:=h
class zb (P:Program) (N:cP) (Φ:Exit->aM->Prop) (rs:outParam (List ResultVar)) (n:outParam Nat) (outs:outParam (List (Option ab))) (res:outParam ab):Prop where p:∀ g,p9 P N rs n outs res .ret g->Φ .ret g
instance:zb P N (p9 P N rs n outs res) rs n outs res:=⟨λ_ h=>h⟩
instance {Ψ:aM->Prop}{Φ:Exit->aM->Prop} [h:zb P N Φ rs n outs res]:zb P N (pr Ψ Φ) rs n outs res:=⟨λg bO=>h.p g bO⟩
instance {id:Nat}{Φ:Exit->aM->Prop} [h:zb P N Φ rs n outs res]:zb P N (mo id Φ) rs n outs res:=⟨λg bO=>h.p g bO⟩
class za {S R gQ:Type}(Φ:Exit->aM->Prop) (F:outParam (S->List (Nat × ab))) (id:outParam Nat) (X:outParam (R->List (Nat × ab))) (Y:outParam (gQ->List (Nat × ab))) (o:outParam (S ⊕ (R ⊕ gQ))):Prop where p:∀ g,lr F (Bk id X Y) o .ret g->Φ .ret g
section
variable {S R gQ:Type}{F:S->List (Nat × ab)}{id:Nat}{X:R->List (Nat × ab)}{Y:gQ->List (Nat × ab)}{o:S ⊕ (R ⊕ gQ)}{Φ:Exit->aM->Prop}
instance:za (lr F (Bk id X Y) o) F id X Y o:=⟨λ_ h=>h⟩
instance {Ψ:aM->Prop} [h:za Φ F id X Y o]:za (pr Ψ Φ) F id X Y o:=⟨λg bO=>h.p g bO⟩
instance {i:Nat} [h:za Φ F id X Y o]:za (mo i Φ) F id X Y o:=⟨λg bO=>h.p g bO⟩
theorem cI.A0 {v:gQ} [aY:za Φ F id X Y o] (h:some (.inr (.inr v))=some o) (aW:o1 ((Y v).map Prod.fst) (get G) (get (Y v)) (Y v)) (aq:Trim true (get (Y v)) (get (Y v)) (Y v)):cI E t P N .ret G Φ:=by
 cases h;exact W.dN _ aW (W.rt λg ar=>aY.p g (ay.jy aq g ar))
end
def Z4:ResultVar->ab->Option (Nat × ab)
 | .tmp t,x=>some (t,x)
 | .cell s _,.agg cs=>some (s,.obj cs)
 | _,_=>none
def Lq:List ResultVar->List ab->List (Nat × ab)->Option (List (Nat × ab))
 | [],[],T=>some T
 | r::rs,x::xs,T=>match Lq rs xs T,Z4 r x with
  | some l,some p=>some (p::l)
  | _,_=>none
 | _,_,_=>none
def Lb:List Nat->List (Option ab)->Option (List (Nat × ab))
 | _,[]=>some []
 | j::ey,none::l=>Lb ey l
 | j::ey,some x::l=>match Lb ey l with
  | some r=>some ((j,x)::r)
  | none=>none
 | _,_=>none
def Z3 (rs:List ResultVar) (outs:List (Option ab)) (res:ab):Option (List (Nat × ab)) :=
 match Lb num outs with
 | none=>none
 | some T=>match rs,res with
  | [r],x=>Lq [r] [x] T
  | rs,.bR xs=>Lq rs xs T
  | _,_=>none
theorem gX.vw {x y:ab} [aC:b6 x] [hv:j4 x y]:gX x y:=.pe aC.bn (hv.v _)
inductive qV {α:Type}(en:bN α):Option Nat->ab->ab->Prop
 | w {Fe:bN α}{L:List α} [h:j4 (aD Fe L) (ak en L)]:qV en none (aD Fe L) (ak en L)
 | n [h:j4 .aS (ak en ([]:List α))]:qV en none .aS (ak en ([]:List α))
 | c {i:Nat}{cs cs':List ab}{x y:ab}(J:cs[i]?=some x) (h:qV en none x y) (he:qN cs i [y]=some cs'):qV en (some i) (.obj cs) (.obj cs')
theorem qV.one {α:Type}{en:bN α}{x y:ab}(h:qV en none x y):gX x y/\p_ y:=by
 cases h with
 | @w Fe L h=>exact ⟨.pe (.own (po Fe L)) (h.v _),⟨by intro _ _ _ _ _ e; cases e⟩⟩
 | @n h=>exact ⟨.pe .aS (h.v _),⟨by intro _ _ _ _ _ e; cases e⟩⟩
theorem qV.dN {α:Type}{en:bN α}{i:Option Nat}{x y:ab}(h:qV en i x y):gX x y/\p_ y:=by
 cases h with
 | w=>exact qV.one .w
 | n=>exact qV.one .n
 | @c i cs cs' x y J h he =>
  obtain ⟨h1,af⟩:=og he;subst h1;refine ⟨.obj (by simp [e4] at af ⊢; omega) λk a b aJ ar=>?_,⟨by simp⟩⟩;unfold e4 at ar;simp only [List.length_singleton] at af ar;by_cases hk:k<i
  ·rw [List.append_assoc,List.getElem?_append_left (by simp; omega),List.getElem?_take,if_pos hk,aJ] at ar;cases ar; exact .refl
  ·by_cases fF:k=i
   ·subst fF;rw [List.append_assoc,List.getElem?_append_right (by rw [List.length_take]; exact Nat.min_le_left _ _),List.length_take,Nat.min_eq_left (by omega),Nat.sub_self] at ar;simp at ar;subst ar;rw [J] at aJ; cases aJ;exact h.one.1
   ·rw [List.getElem?_append_right (by simp; omega)] at ar;simp only [List.length_append,List.length_take,List.length_singleton,List.getElem?_drop] at ar;rw [show i+1+(k - (min i cs.length+1))=k by omega,aJ] at ar;cases ar; exact .refl
theorem Lk {g g2:aM}{s:Nat}:∀ {ks:List Nat}{G1:List (Nat × ab)},pick g ks=some G1->(ks.all λk=>![s].elem k)=true->(∀ e∈G1,cG e.2)->o1 [s] g g2 G1
 | [],_,h,_,_=>by cases h; exact .nil
 | k::ks,G1,h,he,aC=>by
  obtain ⟨x,l,J,ah,rfl⟩:=DY h;rw [List.all_cons,Bool.and_eq_true] at he;have:b6 x:=⟨aC (k,x) (by simp)⟩;exact .n (by simpa using he.1) J (Lk ah he.2 λe h=>aC e (by simp [h]))
def YF (id:Nat):Code->Bool
 | .seq (.region k _ _) _=>Nat.beq k id
 | .region k _ _=>Nat.beq k id
 | _=>false
theorem cI.dN {α:Type}{en:bN α}{id s:Nat}{i:Option Nat}{B:Code}{Φ:Exit->aM->Prop}{x y:ab}{ks:List Nat}{jZ:List (Nat × ab)}(av:get G s=some x) (ao:qV en i x y) (hk:vV [s] G=some ks) (aq:pick (get G) ks=some jZ) (h:cI E t P N B ((s,y)::jZ) Φ) (aes:YF id B=true:=by rfl) (cS:(ks.all λk=>![s].elem k)=true:=by rfl) [J:b6 x] [aC:j0 jZ]:cI E (.dN id s i en t) P N B G Φ :=
 have:=ao.dN.2
 W.dN [s] (.z (by simp) av ao.dN.1 (Lk aq cS aC.p)) h
theorem cI.iK {α:Type}{en:bN α}{s:Nat}{i:Option Nat}{c:Code}{Φ:Exit->aM->Prop}{x y:ab}{ks:List Nat}{jZ:List (Nat × ab)}(av:get G s=some x) (ao:qV en i x y) (hk:vV [s] G=some ks) (aq:pick (get G) ks=some jZ) (h:cI E t P N (.loop c) ((s,y)::jZ) Φ) (cS:(ks.all λk=>![s].elem k)=true:=by rfl) [J:b6 x] [aC:j0 jZ]:cI E (.iK s i en t) P N (.loop c) G Φ :=
 have:=ao.dN.2
 W.dN [s] (.z (by simp) av ao.dN.1 (Lk aq cS aC.p)) h
theorem cI.h3 {Φ:Exit->aM->Prop}{G1:List (Nat × ab)} [aY:zb P N Φ rs n outs res] (dh:Z3 rs outs res=some G1) (aW:o1 (G1.map Prod.fst) (get G) (get G1) G1) (aq:dZ E t .ret (p9 P N rs n outs res) G1):cI E t P N .ret G Φ :=
 W.dN _ aW (W.rt λg ar=>aY.p g (aq g ar))
def Gl:List Nat->Nat->List ab->Option (List (Nat × ab))
 | _,_,[]=>some []
 | [],_,_::_=>none
 | j::ey,k,x::l=>match Gl ey (k+1) l with
  | none=>none
  | some r=>match uD x,Nat.beq j k with
   | some y,true=>some ((j,y)::r)
   | _,_=>none
theorem P3:∀ {l:List ab}{ey:List Nat}{k:Nat}{r:List (Nat × ab)},Gl ey k l=some r->x3 k l=r
 | [],ey,k,r,h=>by cases ey <;> (cases h; rfl)
 | x::l,[],k,r,h=>by cases h
 | x::l,j::ey,k,r,h=>by
  unfold Gl at h
  split at h
  ·cases h
  ·rename_i c' hr
   split at h
   ·rename_i y ao ag;cases h; rw [<- P3 hr,<- xZ ao,Nat.eq_of_beq_eq_true ag]; rfl
   ·cases h
def lits:List Nat:=[0,1,2,3,4,5,6,7,8,9,10,11,12]
theorem bS.br {f:FuncId}{fn:Func}{c:Code}{args:List ab}{outs:List (Option ab)}{res:ab}(E:List Nat) (t:lL) (aU:P.funcs[f]?=some fn) (ar:fn.body=some c) (bp:fn.ntmps=N.size) (aJ:Nat.ble args.length N.size=true) (hlen:outs.length=args.length) (dh:Gl lits 0 args=some G) (hw:cI E t P N c G (p9 P N fn.results.toList args.length outs res)):bS P f args outs res:=bS.go aU ar bp aJ hlen (W.fin (by rw [P3 dh]; exact hw))
end
structure wJ where
 n:Nat
 cs:List ab
 bn:∀ x∈cs,cG x
def GP:wJ:=⟨0,[],λ_ h=>by cases h⟩
instance:Inhabited wJ:=⟨GP⟩
def jU (z:Nat) (x:wJ):ab:=.bl z x.n x.cs
def tr {α:Type}(e:bN α) (L:List α):wJ:=⟨L.length,bB e L,po e L⟩
instance {z:Nat}{x:wJ}:b6 (jU z x):=⟨.bl x.bn⟩
instance {z:Nat}{x:wJ}:j4 (jU z x) (jU z x):=⟨λ_=>.self (.bl x.bn) (by simp [jU]) (by simp [jU]) (by simp [jU]) (by simp [jU]) (by simp [jU])⟩
instance {z:Nat}{α:Type}{e:bN α}:p' (jU z (tr e [])):=⟨.gK⟩
end Go.Own
namespace Go.Own
open Go
variable [cF]
variable {α:Type}{g:aM}{a:Operand}
section
variable {P:Program}{N:cP}{d:Nat}{t e:TypeId}{s x:Operand}{y:ab}
end
section
open Go.Proofs Go.Shelf Go.Lib Go.Sort
variable {e:bN α}{P:Program}{w:World}
theorem cp.T0 {g:aM}{m:Nat}{x:Operand}{fR:Array TypeId}{p:Place}{L r:List α}{f:FuncId}
  (aa:∀ (w:World) (ad:Addr) (n c:Nat) (news:List Value),news.length=n * e.z->n<=1000000000000->(∀ j u,news[j]?=some u->w.cell? (ad.add j)=some u)->(∀ u∈news,u.oneCell'=true) ->
   Calls P f #[.slice (some ad) n c] w λb5 w'=>∃ dK t,b5=.returned dK/\w'.ownsRow 0 t e.z dK n news/\(∀ c,dK.ownBlock=some c->w.heap.size<=c)/\Fr w w' λ_=>False)
  (aC:∀ (w:World) (n c:Nat),Calls P f #[.slice none n c] w λb5 w'=>b5=.returned (.slice none 0 0)/\w'=w)
  (J:Rd g x (.sub e.z p m (L.length - m))) (aq:bE g p=some (aD e L)) (hm:m<=L.length) (mQ:(bB e (L.drop m)).all mc=true) (h:E' (L.drop m)=some r) (aU:hG P f=true) (uf:Nat.blt 0 e.z=true) :
  cp P g (.call { callee:=.value (.func f),args:=#[x],argTypes:=fR }) (aD e r):=by
 obtain ⟨xj,rfl⟩:(L.drop m).length<=1000000000000/\r=L.drop m:=by
  unfold E' at h
  split at h
  ·rename_i bO; exact ⟨bO,(Option.some.inj h).symm⟩
  ·cases h
 have ui:(L.drop m).length=L.length - m:=List.length_drop ..;have WZ:((bB e L).drop (m * e.z)).take ((L.length - m) * e.z)=bB e (L.drop m):=by
  rw [D6,<- ui,wo]
 have:=Src.sub (z:=e.z) (lo:=m) (m:=L.length - m) aq (by omega);rw [WZ,BV mQ] at this;rw [ui] at xj;show cp P g _ (.own e.z (L.drop m).length (bB e (L.drop m)));rw [ui];exact .cl J.bs this (by simpa using uf) aU (po e _) xj aa aC
end
end Go.Own
namespace Go.Own
open Go
variable [cF]
section
variable {P:Program}{N:cP}{ops:Array Oper}{bd:List (List Nat)}{acc:Acc}{l:List Oper}{K:aM->Prop}{i d:Nat}
theorem bx.Tr (bV:Nat) {G G2:List (Nat × ab)}{o:Oper}{x:ab}(he:h7 P N (ds (get G) (λm=>(bd.getD bV []).contains m) acc) o (cV (get G2) d x)) (aN:o.guard=none) (gS:Dd (acc.filterMap lj)=true) (fO:oc G=true) (ag:Nat.beq ops.size (bV+l.length+1)=true)
  (fq:acc.filter (λe=>!(bd.getD bV []).contains e.1)=[])
  (ar:(List.range ops.size).all (λk=>Nat.ble k bV||(bd.getD k []).contains bV)=true) (hk:bx P N ops bd (get ((d,x)::G2)) (bV+1) [] l K):bx P N ops bd (get G) i acc (o::l) K :=
 .BA bV (sZ ▸ he) aN gS fO ag fq ar hk
end
end Go.Own
namespace Go.Proofs
open Tryz
open Go Go.Own
instance:cF:=⟨λ_ _=>True,λ_ _ _=>trivial⟩
open Go Go.Shelf Go.RowKit Go.Lib Go.Sort Go.Own
def Tryz.aaK:Go.Shelf.Ren:=⟨fun | 6=>51 | 15=>91 | 14=>90 | 28=>121 | 29=>122 | 20=>113 | 21=>114 | 22=>115 | 23=>116 | 24=>117 | 25=>118 | 26=>119 | 27=>120 | 46=>141 | 47=>142 | 48=>143 | 49=>144 | 50=>145 | 57=>171 | n=>n,fun | 22=>46 | 24=>132 | 25=>134 | 3=>3 | 39=>178 | 0=>0 | 53=>215 | 55=>217 | 4=>4 | 46=>209 | 45=>208 | 50=>140 | 5=>5 | 9=>9 | 66=>238 | 70=>242 | 76=>269 | 77=>231 | n=>n,fun | n=>n⟩
theorem Tryz.aaJ:Go.Proofs.SlLaysF0.n6 prog Tryz.aaK:={
 mixed:=by kernel_rfl
 f6:=⟨Tryz.f51.name,by decide,func51.trans (congrArg some (by kernel_rfl))⟩
 f14:=⟨Tryz.f90.name,by decide,func90.trans (congrArg some (by kernel_rfl))⟩
 f15:=func91.trans (congrArg some (by kernel_rfl))
 f20:=⟨Tryz.f113.name,by decide,func113.trans (congrArg some (by kernel_rfl))⟩
 f21:=⟨Tryz.f114.name,by decide,func114.trans (congrArg some (by kernel_rfl))⟩
 f22:=⟨Tryz.f115.name,by decide,func115.trans (congrArg some (by kernel_rfl))⟩
 f23:=⟨Tryz.f116.name,by decide,func116.trans (congrArg some (by kernel_rfl))⟩
 f24:=⟨Tryz.f117.name,by decide,func117.trans (congrArg some (by kernel_rfl))⟩
 f25:=⟨Tryz.f118.name,by decide,func118.trans (congrArg some (by kernel_rfl))⟩
 f26:=⟨Tryz.f119.name,by decide,func119.trans (congrArg some (by kernel_rfl))⟩
 f27:=⟨Tryz.f120.name,by decide,func120.trans (congrArg some (by kernel_rfl))⟩
 f28:=func121.trans (congrArg some (by kernel_rfl))
 f29:=func122.trans (congrArg some (by kernel_rfl))
 f46:=⟨Tryz.f141.name,by decide,func141.trans (congrArg some (by kernel_rfl))⟩
 f47:=func142.trans (congrArg some (by kernel_rfl))
 f48:=func143.trans (congrArg some (by kernel_rfl))
 f49:=⟨Tryz.f144.name,by decide,func144.trans (congrArg some (by kernel_rfl))⟩
 f50:=⟨Tryz.f145.name,by decide,func145.trans (congrArg some (by kernel_rfl))⟩
 f57:=⟨Tryz.f171.name,by decide,func171.trans (congrArg some (by kernel_rfl))⟩
 t0:=Tryz.underlying0
 a0:=Tryz.isAgg0
 z0:=Tryz.sizeOf0
 v0:=Tryz.zeroValue0
 t3:=Tryz.underlying3
 a3:=Tryz.isAgg3
 z3:=Tryz.sizeOf3
 v3:=Tryz.zeroValue3
 t4:=Tryz.underlying4
 a4:=Tryz.isAgg4
 z4:=Tryz.sizeOf4
 v4:=Tryz.zeroValue4
 t5:=Tryz.underlying5
 a5:=Tryz.isAgg5
 z5:=Tryz.sizeOf5
 v5:=Tryz.zeroValue5
 t9:=Tryz.underlying9
 a9:=Tryz.isAgg9
 z9:=Tryz.sizeOf9
 v9:=Tryz.zeroValue9
 t22:=Tryz.underlying46
 a22:=Tryz.isAgg46
 z22:=Tryz.sizeOf46
 v22:=Tryz.zeroValue46
 t25:=Tryz.underlying134
 a25:=Tryz.isAgg134
 z25:=Tryz.sizeOf134
 v25:=Tryz.zeroValue134
 t39:=Tryz.underlying178
 a39:=Tryz.isAgg178
 z39:=Tryz.sizeOf178
 v39:=Tryz.zeroValue178
 t45:=Tryz.underlying208
 a45:=Tryz.isAgg208
 z45:=Tryz.sizeOf208
 v45:=Tryz.zeroValue208
 t46:=Tryz.underlying209
 a46:=Tryz.isAgg209
 z46:=Tryz.sizeOf209
 v46:=Tryz.zeroValue209
 t50:=Tryz.underlying140
 a50:=Tryz.isAgg140
 z50:=Tryz.sizeOf140
 v50:=Tryz.zeroValue140
 t53:=Tryz.underlying215
 a53:=Tryz.isAgg215
 z53:=Tryz.sizeOf215
 v53:=Tryz.zeroValue215
 t55:=Tryz.underlying217
 a55:=Tryz.isAgg217
 z55:=Tryz.sizeOf217
 v55:=Tryz.zeroValue217
 t66:=Tryz.underlying238
 a66:=Tryz.isAgg238
 z66:=Tryz.sizeOf238
 v66:=Tryz.zeroValue238
 t70:=Tryz.underlying242
 a70:=Tryz.isAgg242
 z70:=Tryz.sizeOf242
 v70:=Tryz.zeroValue242
 t76:=Tryz.underlying269
 a76:=Tryz.isAgg269
 z76:=Tryz.sizeOf269
 v76:=Tryz.zeroValue269
 t77:=Tryz.underlying231
 a77:=Tryz.isAgg231
 z77:=Tryz.sizeOf231
 v77:=Tryz.zeroValue231 }
def Tryz.aaG:Go.Shelf.Ren:=⟨fun | 6=>109 | 15=>91 | 14=>138 | 28=>121 | 29=>122 | 20=>162 | 21=>163 | 22=>164 | 23=>165 | 24=>166 | 25=>167 | 26=>168 | 27=>169 | 46=>178 | 47=>142 | 48=>143 | 49=>179 | 50=>180 | 57=>185 | n=>n,fun | 22=>27 | 24=>3 | 25=>62 | 3=>3 | 39=>178 | 0=>0 | 53=>215 | 55=>217 | 4=>4 | 46=>209 | 45=>208 | 50=>140 | 5=>5 | 9=>9 | 66=>238 | 70=>242 | 76=>269 | 77=>231 | n=>n,fun | n=>n⟩
theorem Tryz.LL:Go.Proofs.SlLaysF.n6 prog Tryz.aaG:={
 mixed:=by kernel_rfl
 f6:=⟨Tryz.f109.name,by decide,func109.trans (congrArg some (by kernel_rfl))⟩
 f14:=⟨Tryz.f138.name,by decide,func138.trans (congrArg some (by kernel_rfl))⟩
 f15:=func91.trans (congrArg some (by kernel_rfl))
 f20:=⟨Tryz.f162.name,by decide,func162.trans (congrArg some (by kernel_rfl))⟩
 f21:=⟨Tryz.f163.name,by decide,func163.trans (congrArg some (by kernel_rfl))⟩
 f22:=⟨Tryz.f164.name,by decide,func164.trans (congrArg some (by kernel_rfl))⟩
 f23:=⟨Tryz.f165.name,by decide,func165.trans (congrArg some (by kernel_rfl))⟩
 f24:=⟨Tryz.f166.name,by decide,func166.trans (congrArg some (by kernel_rfl))⟩
 f25:=⟨Tryz.f167.name,by decide,func167.trans (congrArg some (by kernel_rfl))⟩
 f26:=⟨Tryz.f168.name,by decide,func168.trans (congrArg some (by kernel_rfl))⟩
 f27:=⟨Tryz.f169.name,by decide,func169.trans (congrArg some (by kernel_rfl))⟩
 f28:=func121.trans (congrArg some (by kernel_rfl))
 f29:=func122.trans (congrArg some (by kernel_rfl))
 f46:=⟨Tryz.f178.name,by decide,func178.trans (congrArg some (by kernel_rfl))⟩
 f47:=func142.trans (congrArg some (by kernel_rfl))
 f48:=func143.trans (congrArg some (by kernel_rfl))
 f49:=⟨Tryz.f179.name,by decide,func179.trans (congrArg some (by kernel_rfl))⟩
 f50:=⟨Tryz.f180.name,by decide,func180.trans (congrArg some (by kernel_rfl))⟩
 f57:=⟨Tryz.f185.name,by decide,func185.trans (congrArg some (by kernel_rfl))⟩
 t0:=Tryz.underlying0
 a0:=Tryz.isAgg0
 z0:=Tryz.sizeOf0
 v0:=Tryz.zeroValue0
 t3:=Tryz.underlying3
 a3:=Tryz.isAgg3
 z3:=Tryz.sizeOf3
 v3:=Tryz.zeroValue3
 t4:=Tryz.underlying4
 a4:=Tryz.isAgg4
 z4:=Tryz.sizeOf4
 v4:=Tryz.zeroValue4
 t5:=Tryz.underlying5
 a5:=Tryz.isAgg5
 z5:=Tryz.sizeOf5
 v5:=Tryz.zeroValue5
 t9:=Tryz.underlying9
 a9:=Tryz.isAgg9
 z9:=Tryz.sizeOf9
 v9:=Tryz.zeroValue9
 t22:=Tryz.underlying27
 a22:=Tryz.isAgg27
 z22:=Tryz.sizeOf27
 v22:=Tryz.zeroValue27
 a24:=Tryz.isAgg3
 z24:=Tryz.sizeOf3
 t25:=Tryz.underlying62
 a25:=Tryz.isAgg62
 z25:=Tryz.sizeOf62
 v25:=Tryz.zeroValue62
 t39:=Tryz.underlying178
 a39:=Tryz.isAgg178
 z39:=Tryz.sizeOf178
 v39:=Tryz.zeroValue178
 t45:=Tryz.underlying208
 a45:=Tryz.isAgg208
 z45:=Tryz.sizeOf208
 v45:=Tryz.zeroValue208
 t46:=Tryz.underlying209
 a46:=Tryz.isAgg209
 z46:=Tryz.sizeOf209
 v46:=Tryz.zeroValue209
 t50:=Tryz.underlying140
 a50:=Tryz.isAgg140
 z50:=Tryz.sizeOf140
 v50:=Tryz.zeroValue140
 t53:=Tryz.underlying215
 a53:=Tryz.isAgg215
 z53:=Tryz.sizeOf215
 v53:=Tryz.zeroValue215
 t55:=Tryz.underlying217
 a55:=Tryz.isAgg217
 z55:=Tryz.sizeOf217
 v55:=Tryz.zeroValue217
 t66:=Tryz.underlying238
 a66:=Tryz.isAgg238
 z66:=Tryz.sizeOf238
 v66:=Tryz.zeroValue238
 t70:=Tryz.underlying242
 a70:=Tryz.isAgg242
 z70:=Tryz.sizeOf242
 v70:=Tryz.zeroValue242
 t76:=Tryz.underlying269
 a76:=Tryz.isAgg269
 z76:=Tryz.sizeOf269
 v76:=Tryz.zeroValue269
 t77:=Tryz.underlying231
 a77:=Tryz.isAgg231
 z77:=Tryz.sizeOf231
 v77:=Tryz.zeroValue231 }
theorem aaE {g:FuncId}{caps:List ab} [pL:dp caps] (aN:hG prog g=true) {l r:List Int}{fH:Int->Int->Option Int}(h:p4 fH l=some r)
  (aa:∀ a b v,fH a b=some v->bS prog g (ae a::ae b::caps) (none::none::caps.map λ_=>none) (ae v)) :
  bS prog 109 [aD ai l,.cD (.func g) [] caps] [some (aD ai r),none] (.bR []):=bS.LL Tryz.LL aN h aa
end Go.Proofs
section
namespace Go.Proofs
open Tryz
open Go Go.Shelf Go.RowKit Go.Lib Go.Sort Go.Own
set_option maxHeartbeats 4000000
set_option maxRecDepth 1000000
theorem T1 (w:World) (n c:Nat):Calls prog 101 #[.slice none n c] w λb5 w'=>b5=.returned (.slice none 0 0)/\w'=w:=by
 have ZO:∀ (w:World) (a:Option Addr) (n c cm cc:Nat),(binOp .eql 54 (.slice a n c) (.slice none cm cc)).run prog w=.ok (.bool a.isNone) w:=λw a n c cm cc=>Lib.run_eql_slice_nil w _ _ a n c cm cc Tryz.underlying54
 go_enter func101,Tryz.ntmps101
 go_wp2
 go_ret
 exact ⟨rfl,rfl⟩
theorem T2 (w:World) (ad:Addr) (n c:Nat) (news:List Value) (ah:news.length=n * 4) (aC:n<=1000000000000) (aa:∀ j u,news[j]?=some u->w.cell? (ad.add j)=some u) (h1:∀ u∈news,u.oneCell'=true) :
  Calls prog 101 #[.slice (some ad) n c] w λb5 w'=>∃ dK t,b5=.returned dK/\w'.ownsRow 0 t 4 dK n news/\(∀ c,dK.ownBlock=some c->w.heap.size<=c)/\Fr w w' λ_=>False:=by
 have ZO:∀ (w:World) (a:Option Addr) (n c cm cc:Nat),(binOp .eql 54 (.slice a n c) (.slice none cm cc)).run prog w=.ok (.bool a.isNone) w:=λw a n c cm cc=>Lib.run_eql_slice_nil w _ _ a n c cm cc Tryz.underlying54;obtain ⟨i,cY,au,hi,CZ,hS,aK,aW,l0⟩:=E1 (P:=prog) (t:=54) (e:=56) (z:=4) (b:=48) (by kernel_rfl);have A:Aside (∀ j u,news[j]?=some u->w.cell? (ad.add j)=some u):=aa;clear aa
 go_enter func101,Tryz.ntmps101
 go_wp2_with (at_builtin; refine abq rfl _ _ 54 rfl 56 i cY au hi aW (by rw [CZ]; exact l0) (by rw [CZ]; exact aK) _ 0 [] rfl ?ZP ad n c news rfl ?ZQ ?ZR ?ZS ?ZT ?ZU ?_)
 case ZP=>rw [CZ]; exact World.ownsRow_made w #[] 0 (Nat.zero_le _) (Nat.zero_le _) (by simp)
 case ZQ=>rw [CZ]; exact ah
 case ZR =>
  intro j u ag;exact Lib.cell?_alloc_some _ (A.out j u ag)
 case ZS=>exact h1
 case ZT=>rw [Nat.zero_add]; simp only [maxLen]; omega
 case ZU=>rw [hS,Nat.zero_add]; omega
 intro dK hX b3 dL
 go_wp2
 go_ret
 obtain ⟨_,sd,kx,hblk,_⟩:=dL;refine ⟨dK,b3,rfl,by simpa [CZ] using sd,λc aa=>?_,?_⟩
 ·rcases hblk c aa with h | h
  ·cases h; exact Nat.le_refl _
  ·exact Nat.le_trans (Fr.alloc w _ (λ_=>False) (.inl ⟨_,_,rfl⟩)).size h
 ·exact (Fr.alloc w _ _ (.inl ⟨_,_,rfl⟩)).trans kx λb ar hu=>by cases hu; exact absurd ar (Nat.lt_irrefl _)
end Go.Proofs
end
