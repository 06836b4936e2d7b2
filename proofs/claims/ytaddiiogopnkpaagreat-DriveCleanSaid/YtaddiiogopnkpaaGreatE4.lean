/- Parts of the proof that the last text states. -/
import Derived.ChangeAt
import Derived.ChangeOld
import Derived.ChangeSame
import Derived.Deep.Slices
import Derived.ReadAgain
import Derived.RowKit3
import Derived.WideShapes
import Derived.Test.YtaddiiogopnkpaaGreatE3
set_option linter.unusedSectionVars false
namespace Go.Own
open Go
variable [cF]
variable {α β:Type}
def kJ (s:ByteArray) (m:Int):Option Int:=if 0<=m/\m<s.size then some (lQ s m) else none
def w5 (s:ByteArray) (m n:Int):Option ByteArray:=if 0<=m/\m<=n/\n<=s.size then some (BK s m n) else none
def tS (s u:ByteArray):Option ByteArray:=if s.size+u.size<=4611686018427387904 then some (s++u) else none
def rH (m n:Int):Option Int:=if n=0 then none else some (m.tmod n)
def p5 (l:List α) (m n:Int):Option (List α):=if 0<=m/\m<=n/\n<=l.length then some ((l.drop m.toNat).take (n - m).toNat) else none
def mc:ab->Bool
 | .lit _ | .aS | .bl .. | .cx _ | .cD .. | .ptr .. | .a6 .. | .sub .. | .gm .. | .imp ..=>true
 | _=>false
theorem Vh {d:Nat}{p:Place}{x:ab}(h:mc x=true):fZ d p x=x:=by
 cases x <;> simp [mc] at h <;> cases d <;> rfl
theorem Vi {t:Nat}{x:ab}(h:mc x=true):pn t x=x:=by
 cases x <;> simp [mc] at h <;> rfl
theorem BV {d:Nat}{q:Nat->Place}{cs:List ab}(h:cs.all mc=true):(cs.mapIdx λi x=>fZ d (q i) x)=cs:=by
 apply List.ext_getElem?;intro k;rw [List.getElem?_mapIdx];cases hk:cs[k]? with
 | none=>rfl
 | some x=>simp only [Option.map_some,Vh (List.all_eq_true.1 h x (List.mem_of_getElem? hk))]
section
variable {P:Program}{N:cP}{ops:Array Oper}{g:aM}{K:aM->Prop}{l:List Oper}{d:Nat}{ty t t2:TypeId}{a b c:Operand}{k kc:IntKind}{m n:Int}{s u:ByteArray}{p q e:Bool}
theorem Rd.f {t:Nat}{x:ab}(h:g t=some x) (aU:mc x=true):Own.bs g (.tmp t)=some x:=by simp only [Own.bs,h,Option.map_some,Vi aU]
theorem Rd.dI {t:Nat}{cs:List ab}(h:g t=some (.agg cs)) (aU:cs.all mc=true):Rd g (.tmp t) (.agg cs):=.agg h (BV aU)
theorem Rd.aa' {t:Nat}{cs:List ab}(h:g t=some (.bR cs)) (aU:cs.all mc=true):Rd g (.tmp t) (.bR cs):=.bR h (BV aU)
namespace O
theorem aT {y:ab}(h:Rd g a y):cf P g (.move a) ty y:=.eD (.move h.bs)
theorem az {y:ab}(h:Rd g a y):cf P g (.assign a) ty y:=.eD (.assign h.bs)
theorem fQ {y:ab}(aa:Rd g c (bh p)) (ar:p=true) (h:Rd g a y):cf P g (.pick c a b) ty y:=by subst ar; exact .eD (.ZC aa h)
theorem gn {y:ab}(aa:Rd g c (bh p)) (ar:p=false) (h:Rd g b y):cf P g (.pick c a b) ty y:=by subst ar; exact .eD (.ZB aa h)
theorem add (J:Rd g a (.lit (.int k m))) (ao:Rd g b (.lit (.int k n))):cf P g (.binOp .add t a b t2) ty (.lit (.int k (k.wrap (m+n)))):=.eD (.add J ao)
theorem sub (J:Rd g a (.lit (.int k m))) (ao:Rd g b (.lit (.int k n))):cf P g (.binOp .sub t a b t2) ty (.lit (.int k (k.wrap (m - n)))):=.eD (.aaR J ao)
theorem rem {r:Int}(J:Rd g a (ae m)) (ao:Rd g b (ae n)) (h:rH m n=some r):cf P g (.binOp .rem t a b t2) ty (ae r):=by
 unfold rH at h
 split at h
 ·cases h
 ·cases h; exact .eD (.rem J ao (by assumption))
theorem lss (J:Rd g a (.lit (.int k m))) (ao:Rd g b (.lit (.int k n))):cf P g (.binOp .lss t a b t2) ty (bh (decide (m<n))):=.eD (.lss J ao (by simp))
theorem leq (J:Rd g a (.lit (.int k m))) (ao:Rd g b (.lit (.int k n))):cf P g (.binOp .leq t a b t2) ty (bh (decide (m<=n))):=.eD (.leq J ao (by simp))
theorem gtr (J:Rd g a (.lit (.int k m))) (ao:Rd g b (.lit (.int k n))):cf P g (.binOp .gtr t a b t2) ty (bh (decide (n<m))):=.eD (.gtr J ao (by simp))
theorem geq (J:Rd g a (.lit (.int k m))) (ao:Rd g b (.lit (.int k n))):cf P g (.binOp .geq t a b t2) ty (bh (decide (n<=m))):=.eD (.geq J ao (by simp))
theorem eql (J:Rd g a (.lit (.int k m))) (ao:Rd g b (.lit (.int k n))):cf P g (.binOp .eql t a b t2) ty (bh (decide (m=n))):=.eD (.eql J ao (by simp))
theorem neq (J:Rd g a (.lit (.int k m))) (ao:Rd g b (.lit (.int k n))):cf P g (.binOp .neq t a b t2) ty (bh (!decide (m=n))):=.eD (.neq J ao (by simp))
theorem qn (J:Rd g a (a1 s)) (ao:Rd g b (a1 u)):cf P g (.binOp .eql t a b t2) ty (bh (decide (s=u))):=.eD (.qn J ao (by simp))
theorem oP (J:Rd g a (a1 s)) (ao:Rd g b (a1 u)):cf P g (.binOp .neq t a b t2) ty (bh (!decide (s=u))):=.eD (.oP J ao (by simp))
theorem Ff (J:Rd g a (bh p)) (ao:Rd g b (bh q)) (au:H4 P t=true):cf P g (.binOp .eql t a b t2) ty (bh (p == q)):=.eD (.bin J.bs ao.bs rfl λw=>aae (Tm au) w)
theorem neg (J:Rd g a (.lit (.int k m))):cf P g (.unOp .neg t a) ty (.lit (.int k (k.wrap (-m)))):=.eD (.un J.bs rfl λw=>by simp [Op.unary,Op.intArith])
theorem not (J:Rd g a (bh p)):cf P g (.unOp .not t a) ty (bh (!p)):=.eD (.not J)
theorem Iy (J:Rd g a (.lit (.int k m))) (av:uw P t k=true) (aQ:uw P t2 kc=true):cf P g (.convert t t2 a) ty (.lit (.int kc (kc.wrap m))):=.eD (.UH J av aQ)
theorem cat {r:ByteArray}(J:Rd g a (a1 s)) (ao:Rd g b (a1 u)) (h:tS s u=some r):cf P g (.binOp .add t a b t2) ty (a1 r):=by
 unfold tS at h
 split at h
 ·cases h; exact .eD (.cat J ao (by omega))
 ·cases h
theorem uB (J:Rd g a (a1 s)) (au:sJ P t=true):cf P g (.call { callee:=.builtin .len,args:=#[a],argTypes:=#[t] }) ty (ae s.size):=.eD (.uB J au)
theorem mL {r:Int}(J:Rd g a (a1 s)) (ao:Rd g b (.lit (.int k m))) (au:sJ P t=true) (h:kJ s m=some r):cf P g (.index t a b) ty (rX r):=by
 unfold kJ at h
 split at h
 ·cases h; exact .eD (.Tf J ao au (by assumption))
 ·cases h
theorem yA {r:ByteArray}{uz:IntKind}(J:Rd g a (a1 s)) (ah:Rd g b (.lit (.int k m))) (bO:Rd g c (.lit (.int uz n))) (au:sJ P t=true) (h:w5 s m n=some r):cf P g (.slice t a (some b) (some c) none) ty (a1 r):=by
 unfold w5 at h
 split at h
 ·cases h; exact .eD (.LJ J ah bO au (by assumption))
 ·cases h
theorem lC {z bQ n:Nat}{cs:List ab}{e:TypeId}(J:Rd g a (.bl z n cs)) (au:ft P t e bQ=true):cf P g (.call { callee:=.builtin .len,args:=#[a],argTypes:=#[t] }) ty (ae n):=.eD (.F6 J.bs au)
theorem n5 {en:bN α}{L:List α}{y:α}{e:TypeId}(J:Rd g a (.bl en.z L.length (bB en L))) (ao:Rd g b (.lit (.int k m))) (au:ft P t e en.z=true) (h:idx L m=some y):cf P g (.indexAddr t a b) ty (.cx (en.cells y++bB en (L.drop (m.toNat+1)))):=by
 rw [<- Lt en h];obtain ⟨aK,h1,_⟩:=mn h;obtain ⟨j,rfl⟩:=Int.eq_ofNat_of_zero_le aK;exact .eD (.FU J.bs ao.bs au (by omega))
theorem aaC {en:bN α}{L r:List α}{e:TypeId}(J:Rd g a (.bl en.z L.length (bB en L))) (bO:Rd g c (.lit (.int k n))) (au:ft P t e en.z=true) (h:p5 L 0 n=some r):cf P g (.slice t a none (some c) none) ty (ak en r):=by
 unfold p5 at h
 split at h
 ·rename_i aa;obtain ⟨_,h1,af⟩:=aa;cases h;obtain ⟨j,rfl⟩:=Int.eq_ofNat_of_zero_le h1;have:=dj.Ec (P:=P) (ty:=ty) (t:=t) (l:=0) (h:=j) (lo:=none) (hi:=some c) J.bs rfl ⟨_,bO.bs⟩ au (by omega) (by omega);rw [D6,GR] at this;have b9:(((L.drop 0).take (j - 0)).length)=j - 0:=by rw [List.length_take,List.length_drop]; omega
  have b3:((j:Int) - 0).toNat=j - 0:=by omega
  rw [b3];unfold ak;have e7:(0:Int).toNat=0:=rfl;rw [e7,b9];exact .eD this
 ·cases h
theorem aaD {en:bN α}{L r:List α}{e:TypeId}(J:Rd g a (.bl en.z L.length (bB en L))) (ah:Rd g b (.lit (.int k m))) (au:ft P t e en.z=true) (h:p5 L m L.length=some r):cf P g (.slice t a (some b) none none) ty (ak en r):=by
 unfold p5 at h
 split at h
 ·rename_i aa;obtain ⟨aK,h1,af⟩:=aa;cases h;obtain ⟨i,rfl⟩:=Int.eq_ofNat_of_zero_le aK;have:=dj.Ec (P:=P) (ty:=ty) (t:=t) (l:=i) (h:=L.length) (lo:=some b) (hi:=none) J.bs ⟨_,ah.bs⟩ rfl au (by omega) (by omega);rw [D6,GR] at this;have b9:(((L.drop i).take (L.length - i)).length)=L.length - i:=by rw [List.length_take,List.length_drop]; omega
  have b3:((L.length:Int) - (i:Int)).toNat=L.length - i:=by omega
  rw [Int.toNat_natCast,b3];unfold ak;rw [b9];exact .eD this
 ·cases h
theorem BR {cz f off:Nat}{cs:List ab}(J:Rd g a (.cx cs)) (aU:iY P cz f off t=true):cf P g (.fieldAddr cz a f) ty (.cx (cs.drop off)):=.eD (.Fi J.bs aU)
theorem C9 {x:ab}{cs:List ab}(J:Rd g a (.cx cs)) (au:j6 P t=true) (aa:cs.head?=some x):cf P g (.load t a) ty x:=by
 cases cs with
 | nil=>cases aa
 | cons y cs=>cases aa; exact .eD (.F9 J.bs au)
theorem n' {z:Nat}{cs cs':List ab}(J:Rd g a (.cx cs)) (au:h8 P t z=true) (aa:cs.take z=cs') (aW:cs'.length=z):cf P g (.load t a) ty (.agg cs'):=by
 subst aa;exact .eD (.F_ J.bs au (by rw [List.length_take] at aW; omega))
theorem vW {cs:List ab}(J:Rd g a (.cx cs)):cf P g (.nilCheck a) ty (.cx cs):=.eD (.qF J.bs)
theorem cQ {p:Place}{k:Nat}(J:Rd g a (.ptr p k)):cf P g (.nilCheck a) ty (.ptr p k):=.eD (.Gi J.bs)
theorem ex {p i:Nat}{cs:List ab}{x y:ab}(J:g p=some (.bR cs)) (ao:cs[i]?=some x) (hr:fZ 1 (Place.push ⟨p,[]⟩ i) x=y):cf P g (.extract (.tmp p) i) ty y :=
 .eD (.Fg (cs:=cs.mapIdx λi x=>fZ 1 (Place.push ⟨p,[]⟩ i) x) (by simp [bs,J,pn,fZ]) (by simp [ao,hr]))
theorem box {e:TypeId}{y:ab}{cs:List ab}(J:Rd g a y) (aa:j5 y=some cs):cf P g (.box e a) ty (.obj cs):=.sC (.box J.bs aa)
theorem nt {cz f off k r:Nat}{cs:List ab}(av:g r=some (.obj cs)) (J:Rd g a (.ptr ⟨r,[]⟩ k)) (aU:iY P cz f off t=true) (aP:Nat.blt (k+off) cs.length=true):cf P g (.fieldAddr cz a f) ty (.ptr ⟨r,[]⟩ (k+off)) :=
 .eD (.BT J.bs aU ⟨.obj cs,by simp [bE,av,ab.at],0,0,cs,.inr rfl,by simpa using aP⟩)
theorem qE {k r:Nat}{cs:List ab}{x y:ab}(av:g r=some (.obj cs)) (J:Rd g a (.ptr ⟨r,[]⟩ k)) (au:j6 P t=true) (aa:cs[k]?=some x) (ao:fZ 0 ⟨r,[k]⟩ x=y):cf P g (.load t a) ty y:=by
 subst ao;exact .eD (.C' (p:=⟨r,[]⟩) J.bs au (by simp [bE,av,ab.at,Place.push,ab.kids,aa]))
theorem ez {k r z:Nat}{cs cs':List ab}(av:g r=some (.obj cs)) (J:Rd g a (.ptr ⟨r,[]⟩ k)) (au:h8 P t z=true) (hk:Nat.ble (k+z) cs.length=true) (aa:(((cs.drop k).take z).mapIdx λi x=>fZ 0 ⟨r,[k+i]⟩ x)=cs'):cf P g (.load t a) ty (.agg cs'):=by
 subst aa;exact .eD (.z' (p:=⟨r,[]⟩) (n:=0) (z:=0) J.bs au (by simp [bE,av,ab.at]) (.inr rfl) (Nat.le_of_ble_eq_true hk))
end O
theorem q1.cr {x:Operand}{y:ab}{xs:List Operand}{ys:List ab}(h:Rd g x y) [aC:b6 y] (au:q1 g xs ys):q1 g (x::xs) (y::ys):=.cons h aC.bn au
theorem cp.go {xs:List Operand}{fR:Array TypeId}{f:FuncId}{ys:List ab}{outs:List (Option ab)}{res:ab}(J:q1 g xs ys) (hj:bS P f ys outs res) (aU:hG P f=true) (aX:uE outs=true) [hr:b6 res] :
  cp P g (.call { callee:=.value (.func f),args:=xs.toArray,argTypes:=fR }) res:=.U2 hj aU J aX hr.bn
end
def x3:Nat->List ab->List (Nat × ab)
 | _,[]=>[]
 | i,x::l=>(i,x)::x3 (i+1) l
theorem NT:∀ (l:List ab) (i t:Nat),get (x3 i l) t=if i<=t then l[t - i]? else none
 | [],i,t=>by simp [x3,get]
 | x::l,i,t=>by
  simp only [x3,get];by_cases h:t=i
  ·subst h; simp
  ·rw [if_neg h,NT l (i+1) t];by_cases h1:i+1<=t
   ·rw [if_pos h1,if_pos (by omega)];have:t - i=(t - (i+1))+1:=by omega
    rw [this,List.getElem?_cons_succ]
   ·rw [if_neg h1,if_neg (by omega)]
theorem S3 (args:List ab):sV args=get (x3 0 args):=funext λt=>by rw [NT]; simp [sV]
theorem bS.go {P:Program}{f:FuncId}{fn:Func}{c:Code}{args:List ab}{outs:List (Option ab)}{res:ab}{N:cP}(aU:P.funcs[f]?=some fn) (ar:fn.body=some c) (bp:fn.ntmps=N.size) (aJ:Nat.ble args.length N.size=true) (hlen:outs.length=args.length)
  (hw:W P N c (get (x3 0 args)) (Fin P N fn.results.toList args.length outs res)):bS P f args outs res :=
 .fin aU ar bp aJ hlen (by rw [S3]; exact hw)
end Go.Own
namespace Go.Own
open Go
variable [cF]
section
variable {P:Program}{N:cP}{Φ qT:Exit->aM->Prop}{Ψ:aM->Prop}{G G1:List (Nat × ab)}{A B c:Code}{id k:Nat}{e:Exit}{S R:Type}
inductive ib:aM->List (Nat × ab)->Prop
 | h3 {G:List (Nat × ab)}:ib (get G) G
 | eP {g g1:aM}{G:List (Nat × ab)}(h:np g g1) (ar:ib g1 G):ib g G
theorem ib.trans {g:aM}{G G1:List (Nat × ab)}(h:ib g G) (h1:ib (get G) G1):ib g G1:=by
 induction h with
 | h3=>exact h1
 | eP h _ aO=>exact .eP h (aO h1)
inductive Bg (P:Program) (N:cP):aM->Exit->(Exit->aM->Prop)->Prop
 | h3 {g:aM}{e:Exit}{Φ:Exit->aM->Prop}(h:Φ e g):Bg P N g e Φ
 | eP {g g1:aM}{e:Exit}{Φ:Exit->aM->Prop}(hw:np g g1) (h:Bg P N g1 e Φ):Bg P N g e Φ
theorem W.outs {g:aM}(h:W P N c g Φ) (qD:∀ e g',Φ e g'->Bg P N g' e qT):W P N c g qT:=by
 intro a w I Fs Q bf bp ew;refine h bf bp λe g' ca w' aq aC=>?_;have sa:=qD e g' aq;clear aq qD;revert aC
 induction sa with
 | h3 h=>exact λaC=>ew _ _ _ _ h aC
 | eP hw _ aO =>
  intro aC;refine aO ew ?_;obtain ⟨h1,af,I',bW,d',bU⟩:=aC;obtain ⟨jY,iw,hL⟩:=d'.eP hw;exact ⟨h1,af,I',jY,iw,bU.dM,bU.more,bU.new,λc ⟨t,aa⟩=>bU.own c ⟨t,hL t c aa⟩⟩
def ay (e:Exit) (Φ:Exit->aM->Prop) (G:List (Nat × ab)):Prop:=∀ g,ib g G->Φ e g
theorem W.be {g:aM}(h:W P N c (get G) Φ) (ar:ib g G):W P N c g Φ:=by
 induction ar with
 | h3=>exact h
 | eP hw _ aO=>exact (aO h).weaken hw
theorem pC.be {g:aM}(h:pC P N c (get G) Φ) (ar:ib g G):pC P N c g Φ:=by
 induction ar with
 | h3=>exact h
 | eP hw _ aO=>exact (aO h).weaken hw
theorem ay.bG (h:W P N B (get G) Φ):ay .normal (pr (λg1=>W P N B g1 Φ) qT) G:=λ_ ar=>aa4 (h.be ar)
theorem ay.fm (h:ay (.exit k) qT G):ay (.exit k) (pr Ψ qT) G:=λg ar=>aa3 (h g ar)
theorem ay.gC (h:ay .ret qT G):ay .ret (pr Ψ qT) G:=λg ar=>aa5 (h g ar)
theorem ay.b_ (h:ay .normal Φ G):ay .normal (mo id Φ) G:=λg ar=>YA (h g ar)
theorem ay.fA (h:ay .normal Φ G):ay (.exit id) (mo id Φ) G:=λg ar=>Yy (h g ar)
theorem ay.E7 (hk:Nat.beq k id=false) (h:ay (.exit k) Φ G):ay (.exit k) (mo id Φ) G:=λg ar=>Yz hk (h g ar)
theorem ay.lP (h:ay .ret Φ G):ay .ret (mo id Φ) G:=λg ar=>YB (h g ar)
theorem W.fw (h:ay (.exit k) Φ G):W P N (.exit k) (get G) Φ:=W.exit (h _ .h3)
theorem W.cR (h:ay .normal Φ G):W P N .skip (get G) Φ:=W.skip (h _ .h3)
theorem W.rt (h:ay .ret Φ G):W P N .ret (get G) Φ:=W.ret (h _ .h3)
theorem W.rx {id:Nat}{l:List Oper}(G1:List (Nat × ab)) (h:aA P N l.toArray l (get G) λg'=>np g' (get G1)) (hk:ay .normal Φ G1):W P N (.region id l.toArray false) (get G) Φ :=
 W.D4 (λi hi=>by obtain ⟨g',h1,af⟩:=h i hi; exact ⟨g',h1,hk g' (.eP af .h3)⟩)
theorem W.c7 {G1:List (Nat × ab)}(h:Trim true (get G) (get G1) G1) (hw:W P N c (get G1) Φ):W P N c (get G) Φ:=hw.weaken h.eP
theorem W.st {G:List (Nat × ab)}(G1:List (Nat × ab)) (h:W P N c (get G1) Φ) (e:G1=G:=by rfl):W P N c (get G) Φ:=by subst e; exact h
theorem W.b_ (h:W P N c (get G) (mo id Φ)):W P N (.block id c) (get G) Φ:=W.block h
theorem W.dG (G1:List (Nat × ab)) (h:W P N c (get G) λe g=>e=.normal/\ib g G1) (hk:ay .normal Φ G1):W P N c (get G) Φ :=
 h.mono λe g ⟨he,ar⟩=>by subst he; exact hk g ar
theorem ay.dG (h:Trim true (get G) (get G1) G1):ay .normal (λe g=>e=.normal/\ib g G1) G:=λ_ ar=>⟨rfl,ar.trans (.eP h.eP .h3)⟩
def lr (G:S->List (Nat × ab)) (Ψ:R->Exit->aM->Prop):S ⊕ R->Exit->aM->Prop
 | .inl s,e,g=>e=.normal/\ib g (G s)
 | .inr r,e,g=>e≠.normal/\Ψ r e g
theorem pC.it {f:S->Option (S ⊕ R)}{G:S->List (Nat × ab)}{Ψ:R->Exit->aM->Prop}(ar:∀ s o,f s=some o->W P N c (get (G s)) (lr G Ψ o)) :
  ∀ (n:Nat) (s:S) (r:R),Own.iter f n s=some r->pC P N c (get (G s)) (Ψ r)
 | 0,_,_,h=>by simp [Own.iter] at h
 | n+1,s,r,h=>by
  simp only [Own.iter] at h;cases aU:f s with
  | none=>rw [aU] at h; cases h
  | some o =>
   rw [aU] at h;refine .step ((ar s o aU).mono λe g' hr=>?_);cases o with
   | inl cz =>
    obtain ⟨rfl,hw⟩:=hr;exact (pC.it ar n cz r h).be hw
   | inr c' =>
    cases h;obtain ⟨aC,hw⟩:=hr;cases e with
    | normal=>exact absurd rfl aC
    | _=>exact hw
theorem W.e' {f:S->Option (S ⊕ R)}{s:S}{r:R}(G:S->List (Nat × ab)) (Ψ:R->Exit->aM->Prop) (h:cd f s=some r) (ar:∀ s o,f s=some o->W P N c (get (G s)) (lr G Ψ o)) (hk:∀ e g,Ψ r e g->Φ e g):W P N (.loop c) (get (G s)) Φ :=
 (W.loop (pC.it ar fuel s r h)).mono hk
theorem W.Aa {f:S->Option (S ⊕ R)}{s:S}{r:R}(G:S->List (Nat × ab)) (id:Nat) (mF:R->List (Nat × ab)) (h:cd f s=some r) (ar:∀ s o,f s=some o->W P N c (get (G s)) (lr G (λr e g=>e=.exit id/\ib g (mF r)) o)) (hk:ay (.exit id) Φ (mF r)):W P N (.loop c) (get (G s)) Φ :=
 .e' G _ h ar λe g ⟨he,aN⟩=>by subst he; exact hk g aN
theorem W.PI {gQ:Type}{f:S->Option (S ⊕ (R ⊕ gQ))}{s:S}{r:R ⊕ gQ}(G:S->List (Nat × ab)) (id:Nat) (mF:R->List (Nat × ab)) (jB:gQ->List (Nat × ab)) (h:cd f s=some r)
  (ar:∀ s o,f s=some o->W P N c (get (G s)) (lr G (λ(r:R ⊕ gQ) e g=>match r with | .inl r=>e=.exit id/\ib g (mF r) | .inr r=>e=.ret/\ib g (jB r)) o))
  (J:∀ x,r=.inl x->ay (.exit id) Φ (mF x)) (hr:∀ x,r=.inr x->ay .ret Φ (jB x)):W P N (.loop c) (get (G s)) Φ:=by
 refine .e' G _ h ar λe g h=>?_;cases r with
 | inl r=>obtain ⟨rfl,aN⟩:=h; exact J r rfl g aN
 | inr r=>obtain ⟨rfl,aN⟩:=h; exact hr r rfl g aN
theorem ay.go {s:S}{F:S->List (Nat × ab)}{Ψ:R->Exit->aM->Prop}(h:Trim true (get G) (get (F s)) (F s)):ay .normal (lr F Ψ (.inl s)) G:=λ_ ar=>⟨rfl,ar.trans (.eP h.eP .h3)⟩
theorem ay.aR {r:R}{F:S->List (Nat × ab)}{mF:R->List (Nat × ab)}(h:Trim true (get G) (get (mF r)) (mF r)):ay (.exit id) (lr F (λr e g=>e=.exit id/\ib g (mF r)) (.inr r)) G:=λ_ ar=>⟨by simp,rfl,ar.trans (.eP h.eP .h3)⟩
theorem ay.x2 {gQ:Type}{r:R}{F:S->List (Nat × ab)}{mF:R->List (Nat × ab)}{jB:gQ->List (Nat × ab)}(h:Trim true (get G) (get (mF r)) (mF r)) :
  ay (.exit id) (lr F (λ(r:R ⊕ gQ) e g=>match r with | .inl r=>e=.exit id/\ib g (mF r) | .inr r=>e=.ret/\ib g (jB r)) (.inr (.inl r))) G:=λ_ ar=>⟨by simp,rfl,ar.trans (.eP h.eP .h3)⟩
theorem ay.jy {gQ:Type}{r:gQ}{F:S->List (Nat × ab)}{mF:R->List (Nat × ab)}{jB:gQ->List (Nat × ab)}(h:Trim true (get G) (get (jB r)) (jB r)) :
  ay .ret (lr F (λ(r:R ⊕ gQ) e g=>match r with | .inl r=>e=.exit id/\ib g (mF r) | .inr r=>e=.ret/\ib g (jB r)) (.inr (.inr r))) G:=λ_ ar=>⟨by simp,rfl,ar.trans (.eP h.eP .h3)⟩
def p9 (P:Program) (N:cP) (rs:List ResultVar) (n:Nat) (outs:List (Option ab)) (res:ab) (e:Exit) (g:aM):Prop:=∃ G,ib g G/\Fin P N rs n outs res e (get G)
theorem W.fin {rs:List ResultVar}{n:Nat}{outs:List (Option ab)}{res:ab}{g:aM}(h:W P N c g (p9 P N rs n outs res)):W P N c g (Fin P N rs n outs res):=by
 have key:∀ e g,p9 P N rs n outs res e g->Bg P N g e (Fin P N rs n outs res):=by
  rintro e g ⟨G,ar,aU⟩
  induction ar with
  | h3=>exact .h3 aU
  | eP hw _ aO=>exact .eP hw (aO aU)
 exact W.outs h key
theorem ay.fin {rs:List ResultVar}{n:Nat}{outs:List (Option ab)}{res:ab}(h:Fin P N rs n outs res e (get G)):ay e (p9 P N rs n outs res) G:=λ_ ar=>⟨G,ar,h⟩
end
section
variable {P:Program}{N:cP}{ops:Array Oper}{bd:List (List Nat)}{g0:aM}{K:aM->Prop}{l:List Oper}{acc:Acc}{d i:Nat}{op:Op}{ty:TypeId}{pos:String}{after:Array Edge}{x:ab}{gd:Option (Nat × Bool)}
abbrev kE (bd:List (List Nat)) (g0:aM) (j:Nat) (acc:Acc):aM:=ds g0 (λm=>(bd.getD j []).contains m) acc
def bx (P:Program) (N:cP) (ops:Array Oper) (bd:List (List Nat)) (g0:aM) (i:Nat) (acc:Acc) (l:List Oper) (K:aM->Prop):Prop:=∀ dE j,nj P N ops bd g0 i dE->iG P N ops bd g0 i dE j acc->ops.toList.drop j=l->∃ g',sR P N ops bd i dE g0 g'/\K g'
theorem BM {j bV:Nat}{o:Oper}(h:ops.toList.drop j=o::l) (ag:Nat.beq ops.size (bV+l.length+1)=true):j=bV:=by
 grind [List.length_cons,Nat.eq_of_beq_eq_true]
theorem SA (aC:acc.all (λe=>!Nat.beq e.2.1 d)=true):∀ e∈acc,e.2.1≠d:=by
 intro e he h;have:=List.all_eq_true.1 aC e he
 simp_all
theorem bx.st (bV:Nat) {r:Option ab}{o:Oper}(aQ:o.dst=some d) (av:qe P (kE bd g0 bV acc) ops o r) (ag:Nat.beq ops.size (bV+l.length+1)=true) (aU:g0 d=none) (aC:acc.all (λe=>!Nat.beq e.2.1 d)=true) (bp:N.ok d=true)
  (hk:bx P N ops bd g0 i ((bV,d,r)::acc) l K):bx P N ops bd g0 i acc (o::l) K:=by
 intro dE j bT lZ mh;have:=BM mh ag;subst this;obtain ⟨h1,af⟩:=drop_cons mh;exact hk dE (j+1) bT (.step lZ h1 aQ aU (SA aC) bp av) af
theorem bx.v (bV:Nat) (aq:cf P (kE bd g0 bV acc) op ty x) (ag:Nat.beq ops.size (bV+l.length+1)=true) (aU:g0 d=none) (aC:acc.all (λe=>!Nat.beq e.2.1 d)=true) (bp:N.ok d=true) (aN:eI (kE bd g0 bV acc) ops gd)
  (hk:bx P N ops bd g0 i ((bV,d,some x)::acc) l K):bx P N ops bd g0 i acc (⟨some d,op,ty,pos,after,gd⟩::l) K :=
 .st bV (r:=some x) rfl (.inl ⟨aN.wanted,.inl aq⟩) ag aU aC bp hk
theorem bx.c (bV:Nat) (aq:cp P (kE bd g0 bV acc) op x) (ag:Nat.beq ops.size (bV+l.length+1)=true) (aU:g0 d=none) (aC:acc.all (λe=>!Nat.beq e.2.1 d)=true) (bp:N.ok d=true) (aN:eI (kE bd g0 bV acc) ops gd)
  (hk:bx P N ops bd g0 i ((bV,d,some x)::acc) l K):bx P N ops bd g0 i acc (⟨some d,op,ty,pos,after,gd⟩::l) K :=
 .st bV (r:=some x) rfl (.inl ⟨aN.wanted,.inr aq⟩) ag aU aC bp hk
theorem bx.ps (bV:Nat) {vT t':Nat}{b c:Bool}(h:(ops[vT]?).bind (·.dst)=some t') (aN:kE bd g0 bV acc t'=some (bh c)) (ar:c=!b) (ag:Nat.beq ops.size (bV+l.length+1)=true) (aU:g0 d=none) (aC:acc.all (λe=>!Nat.beq e.2.1 d)=true) (bp:N.ok d=true)
  (hk:bx P N ops bd g0 i ((bV,d,some (.bR []))::acc) l K):bx P N ops bd g0 i acc (⟨some d,op,ty,pos,after,some (vT,b)⟩::l) K :=
 .st bV (r:=some (.bR [])) rfl (.inr (.inl ⟨⟨t',h,.inl ⟨c,aN,by subst ar; cases b <;> rfl⟩⟩,rfl⟩)) ag aU aC bp hk
theorem bx.pu (bV:Nat) {vT t':Nat}{b:Bool}(h:(ops[vT]?).bind (·.dst)=some t') (aN:kE bd g0 bV acc t'=some (.bR [])) (ag:Nat.beq ops.size (bV+l.length+1)=true) (aU:g0 d=none) (aC:acc.all (λe=>!Nat.beq e.2.1 d)=true) (bp:N.ok d=true)
  (hk:bx P N ops bd g0 i ((bV,d,some (.bR []))::acc) l K):bx P N ops bd g0 i acc (⟨some d,op,ty,pos,after,some (vT,b)⟩::l) K :=
 .st bV (r:=some (.bR [])) rfl (.inr (.inl ⟨⟨t',h,.inr ⟨aN,rfl⟩⟩,rfl⟩)) ag aU aC bp hk
def oc (G:List (Nat × ab)):Bool:=G.all λp=>match p.2 with | .bI ..=>false | _=>true
theorem x0 {G:List (Nat × ab)}(h:oc G=true):∀ t z q n m new,get G t≠some (.bI z q n m new):=by
 induction G with
 | nil=>intro t z q n m new J; cases J
 | cons p G aO =>
  grind [oc,get]
def xY:List Place->Bool
 | []=>true
 | p::l=>l.all (λq=>!(Nat.beq p.root q.root&&decide (p.path=q.path)))&&xY l
omit [cF] in
theorem K5:∀ {l:List Place},xY l=true->l.Nodup
 | [],_=>List.nodup_nil
 | p::l,h=>by
  simp only [xY,Bool.and_eq_true,List.all_eq_true] at h;refine List.nodup_cons.2 ⟨λhm=>?_,K5 h.2⟩;have:=h.1 p hm;simp at this
theorem bx.fin {G G1:List (Nat × ab)}(aW:xY (acc.filterMap lj)=true) (fO:oc G=true) (hi:Nat.ble i ops.size=true) (h:Trim true (ds (get G) (λ_=>true) acc) (get G1) G1):bx P N ops bd (get G) i acc [] λg'=>np g' (get G1):=by
 intro dE j bT lZ mh;have ag:j=ops.size:=by
  have h1:ops.size<=j:=by
   have:=congrArg List.length mh;rw [List.length_drop,List.length_nil,Array.length_toList] at this;omega
  have aE:j<=ops.size:=by
   cases lZ with
   | nil=>exact Nat.le_of_ble_eq_true hi
   | step _ aX=>have:=(Array.getElem?_eq_some_iff.1 aX).1; omega
  omega
 subst ag;exact ⟨_,.fin lZ (K5 aW) (x0 fO),h.eP⟩
theorem sR.Ti {g g1 g':aM}{i j:Nat}{dE:Acc}{o:Oper}(bT:nj P N ops bd g i dE) (av:iG P N ops bd g i dE j acc) (gS:(acc.filterMap lj).Nodup) (fO:∀ t z q n m new,g t≠some (.bI z q n m new)) (aX:ops[j]?=some o) (hw:iH (ds g (λ_=>true) acc) ops o true)
  (he:bj P N (ds g (λ_=>true) acc) o g1) (aJ:(List.range j).all (λk=>(bd.getD j []).contains k)=true) (ar:(List.range ops.size).all (λk=>decide (k<=j)||(bd.getD k []).contains j)=true) (hr:sR P N ops bd (j+1) [] g1 g'):sR P N ops bd i dE g g':=by
 have dL:∀ e∈acc,(bd.getD j []).contains e.1=true:=λe h=>List.all_eq_true.1 aJ e.1 (List.mem_range.2 ((av.le bT).2 e h));have e:ds g (λm=>(bd.getD j []).contains m) acc=ds g (λ_=>true) acc:=funext λt=>Ek λe h _=>dL e h;have fq:[]=acc.filter λe=>!(bd.getD j []).contains e.1:=by
  grind [List.filter_eq_nil_iff]
 exact .Bw (rs:=sE []) av gS fO aX (by rw [e]; exact hw) (by rw [e]; exact he.jJ.v) (λp aq=>by simp [sE] at aq) fq (by simp) (by simp) (by simp) ar hr
theorem W.rd {id:Nat}{l:List Oper}{G:List (Nat × ab)}{Φ:Exit->aM->Prop}(bd:List (List Nat)) (G1:List (Nat × ab)) (hm:P.follows .mixedOrders=true) (dL:qg l.toArray bd=true)
  (h:bx P N l.toArray bd (get G) 0 [] l λg'=>np g' (get G1)) (hk:ay .normal Φ G1):W P N (.region id l.toArray true) (get G) Φ:=by
 obtain ⟨g',h1,af⟩:=h [] 0 .nil .nil (by simp);exact (lK.draw hm dL h1).w (hk g' (.eP af .h3))
end
end Go.Own
namespace Go.Own
open Go
variable [cF]
variable {α:Type}
section
variable {P:Program}{N:cP}{ops:Array Oper}{g g2:aM}{K:aM->Prop}{l:List Oper}{d r:Nat}{ty t t2:TypeId}{pos:String}{after:Array Edge}{a b c:Operand}{k kc:IntKind}{m n:Int}{s u:ByteArray}
namespace O
theorem dB {e:TypeId}{z:Value}{cs:List ab}(aW:(P.info? e).bind (·.zero)=some z) (h1:z.cells.toList.all Value.oneCell'=true) (aa:z.cells.toList.map kC=cs):cf P g (.alloc e) ty (.obj cs):=by
 subst aa; exact .sC (.alloc aW (by rw [<- Array.all_toList]; exact h1))
theorem eb {t:TypeId}{parts:Array (Nat × Operand)}{pl:List (Nat × Nat)}{cY:Value}{ps:List (Nat × List ab)}{cs:List ab}(au:jV P t pl=true) (aW:(P.info? t).bind (·.zero)=some cY) (h1:cY.cells.toList.all Value.oneCell'=true)
  (aq:rC g parts.toList=some ps) (aa:vk (λi=>pl[i]?) (cY.cells.toList.map kC) ps=some cs):cf P g (.build t parts) ty (.agg cs):=.Dp (.build au aW (by rw [<- Array.all_toList]; exact h1) aq aa)
end O
inductive qd (g g2:aM):ab->Prop
 | n {x:ab}(h:cG x):qd g g2 x
 | p {r k:Nat}{cs cs2:List ab}(h:g r=some (.obj cs)) (hk:k<cs.length) (af:g2 r=some (.obj cs2)) (fF:k<cs2.length):qd g g2 (.ptr ⟨r,[]⟩ k)
 | r {z n N Mq q:Nat}{cs cs2:List ab}(h:g q=some (.own z N cs)) (aC:n<=N) (af:g2 q=some (.own z Mq cs2)) (rh:n<=Mq):qd g g2 (.a6 z ⟨q,[]⟩ n)
theorem uP {r k:Nat}{cs:List ab}(h:g r=some (.obj cs)) (hk:k<cs.length):gE g (.ptr ⟨r,[]⟩ k):=⟨.obj cs,by simp [bE,h,ab.at],0,0,cs,.inr rfl,hk⟩
theorem AY {z n N q:Nat}{cs:List ab}(h:g q=some (.own z N cs)) (aC:n<=N):gE g (.a6 z ⟨q,[]⟩ n):=.inl ⟨N,cs,by simp [bE,h,ab.at],aC⟩
theorem qd.b0 {x:ab}(h:qd g g2 x):cW g2 x:=by
 cases h with
 | n h=>exact .bn h
 | p _ _ af fF=>exact .ref rfl (uP af fF)
 | r _ _ af rh=>exact .ref rfl (AY af rh)
theorem qd.wm {x:ab}{AW k0 m0:Nat}(h:qd g g2 x):jE (λr=>gE g r/\Clear ⟨AW,[]⟩ k0 m0 r/\gE g2 r) x:=by
 cases h with
 | n h=>exact .bn h
 | p h hk af fF =>
  refine .ref rfl ⟨uP h hk,?_,uP af fF⟩;intro q a_ _ j c' e
  grind [AZ]
 | r h hk af fF =>
  refine .ref rfl ⟨AY h hk,?_,AY af fF⟩;intro q a_ _ j c' e
  grind [AZ]
theorem qd.fJ {x:ab}(h:qd g g2 x):∀ z p n m new,x≠.bI z p n m new:=by
 rintro z p n m new rfl;cases h with
 | n h=>cases h
inductive lu (g g2:aM) (r:Nat) (cs2:List ab):List (Nat × ab)->Prop
 | nil:lu g g2 r cs2 []
 | n {s:Nat}{x:ab}{l:List (Nat × ab)}(cS:Nat.beq s r=false) (h:g s=some x) [aC:b6 x] (t:lu g g2 r cs2 l):lu g g2 r cs2 ((s,x)::l)
 | p {s q k:Nat}{l:List (Nat × ab)}{cs kL:List ab}(cS:Nat.beq s r=false) (h:g s=some (.ptr ⟨q,[]⟩ k)) (h1:g q=some (.obj cs)) (hk:Nat.blt k cs.length=true) (af:g2 q=some (.obj kL)) (fF:Nat.blt k kL.length=true) (t:lu g g2 r cs2 l):lu g g2 r cs2 ((s,.ptr ⟨q,[]⟩ k)::l)
 | w {α:Type}{s q:Nat}{en:bN α}{L:List α}{l:List (Nat × ab)}(cS:Nat.beq s r=false) (h:g s=some (.a6 en.z ⟨q,[]⟩ L.length)) (h1:g q=some (aD en L)) (af:g2 q=some (aD en L)) (t:lu g g2 r cs2 l):lu g g2 r cs2 ((s,.a6 en.z ⟨q,[]⟩ L.length)::l)
 | b {l:List (Nat × ab)}{x:ab}(e:x=.obj cs2) [aC:dp cs2] (t:lu g g2 r cs2 l):lu g g2 r cs2 ((r,x)::l)
theorem lu.spec {cs2:List ab}{l:List (Nat × ab)}(h:lu g g2 r cs2 l):∀ t x,get l t=some x->(t≠r/\g t=some x/\qd g g2 x)\/(t=r/\x=.obj cs2/\cG x):=by
 induction h with
 | nil=>intro t x J; cases J
 | @n s x l cS h aC _ aO =>
  intro t y ao; simp only [get] at ao
  split at ao
  ·rename_i e; subst e; cases ao; exact .inl ⟨Nat.ne_of_beq_eq_false cS,h,.n aC.bn⟩
  ·exact aO t y ao
 | @p s q k l cs kL cS h h1 hk af fF _ aO =>
  intro t y ao; simp only [get] at ao
  split at ao
  ·rename_i e; subst e; cases ao; exact .inl ⟨Nat.ne_of_beq_eq_false cS,h,.p h1 (by simpa using hk) af (by simpa using fF)⟩
  ·exact aO t y ao
 | @w α s q en L l cS h h1 af _ aO =>
  intro t y ao; simp only [get] at ao
  split at ao
  ·rename_i e; subst e; cases ao; exact .inl ⟨Nat.ne_of_beq_eq_false cS,h,.r h1 (Nat.le_refl _) af (Nat.le_refl _)⟩
  ·exact aO t y ao
 | @b l x e aC _ aO =>
  intro t y ao; simp only [get] at ao
  split at ao
  ·rename_i b5; subst b5; cases ao; subst e; exact .inr ⟨rfl,rfl,.obj aC.bn⟩
  ·exact aO t y ao
theorem bj.box {o:Oper}{k0:Nat}{cs cs' cs2:List ab}{y:ab}{G2:List (Nat × ab)}(aX:o.op=.store t a b) (aQ:o.dst=none) (av:g r=some (.obj cs)) (aJ:Rd g a (.ptr ⟨r,[]⟩ k0)) (ar:Rd g b y) (aC:cG y) (aa:o4 y=some cs') (aW:hF P t cs'.length=true)
  (hk:k0+cs'.length<=cs.length) (aK:0<cs'.length) (he:e4 cs k0 cs'=cs2) [eN:dp cs] (hr:get G2 r≠none) (dh:lu g (get G2) r cs2 G2):bj P N g o (get G2):=by
 subst he;have j9:g r≠none:=by rw [av]; simp
 refine .store aX aQ aJ.bs ar.bs (.bn (by simpa using aC)) .refl aa aW (p:=⟨r,[]⟩) (nd:=.obj cs) (z:=0) (n:=0) (by simp [bE,av,ab.at]) (.inr rfl) hk aK (λt x J=>?_) (λt x J y ao=>?_) (λt z q n m new J=>?_) hr
 ·rcases dh.spec t x J with ⟨h1,af,_⟩ | ⟨h1,af,_⟩
  all_goals grind [ct,ab.setAt,ab.e4]
 ·rcases dh.spec t x J with ⟨h1,af,aE⟩ | ⟨h1,af,aE⟩
  ·rw [af] at ao;cases ao;exact aE.wm
  ·subst h1;rw [av] at ao;cases ao;exact .bn (.obj eN.bn)
 ·rcases dh.spec t _ J with ⟨_,_,aE⟩ | ⟨_,af,_⟩
  ·exact aE.fJ _ _ _ _ _ rfl
  grind
theorem Trim.q {H3:Bool}{yA q k0:Nat}{cs:List ab}{PF:List (Nat × ab)}(h:g yA=some (.ptr ⟨q,[]⟩ k0)) (af:g2 q=some (.obj cs)) (hk:Nat.blt k0 cs.length=true) (mx:Trim H3 g g2 PF):Trim H3 g g2 ((yA,.ptr ⟨q,[]⟩ k0)::PF) :=
 .r h (.ref rfl (uP af (by simpa using hk))) (by simp) mx
theorem aA.jn {o:Oper}{G2:List (Nat × ab)}(aN:o.guard=none) (he:bj P N g o (get G2)) (hk:aA P N ops l (get G2) K):aA P N ops (o::l) g K:=by
 intro i hi;obtain ⟨h1,af⟩:=drop_cons hi;obtain ⟨g',hr,c5⟩:=hk (i+1) af;refine ⟨g',.jJ h1 ?_ he hr,c5⟩
 grind [iH]
theorem aA.ke {k0:Nat}{cs cs' cs2:List ab}{y:ab}{G2:List (Nat × ab)}(av:g r=some (.obj cs)) (aJ:Rd g a (.ptr ⟨r,[]⟩ k0)) (ar:Rd g b y) [aC:b6 y] (aa:o4 y=some cs') (aW:hF P t cs'.length=true)
  (hk:Nat.ble (k0+cs'.length) cs.length=true) (aK:Nat.blt 0 cs'.length=true) (he:e4 cs k0 cs'=cs2) [eN:dp cs] (hr:(get G2 r).isSome=true) (dh:lu g (get G2) r cs2 G2) (JT:aA P N ops l (get G2) K):aA P N ops (⟨none,.store t a b,ty,pos,after,none⟩::l) g K :=
 .jn rfl (.box rfl rfl av aJ ar aC.bn aa aW (Nat.le_of_ble_eq_true hk) (by simpa using aK) he (by intro e; rw [e] at hr; cases hr) dh) JT
variable {bd:List (List Nat)}{acc:Acc}{i:Nat}
end
end Go.Own
namespace Go.Own
open Go
variable [cF]
variable {α β:Type}
def oO (m:Int) (z:α):Option (List α):=if 0<=m/\m<=lim then some (List.replicate m.toNat z) else none
def c8 (l m:List α):Option (List α):=if l.length+m.length<=lim then some (l++m) else none
class Flat (e:bN α):Prop where iK:∀ a,(e.cells a).all mc=true
instance:Flat ai:=⟨λ_=>rfl⟩
theorem Z' (e:bN α) [h:Flat e] (l:List α):(bB e l).all mc=true:=by
 refine List.all_eq_true.2 λx J=>?_;obtain ⟨a,_,aJ⟩:=List.mem_flatMap.1 J;exact List.all_eq_true.1 (h.iK a) x aJ
theorem pZ (e:bN α) (l m:List α):(.own e.z (l.length+m.length) (bB e l++bB e m):ab)=aD e (l++m):=by
 grind [QK]
theorem wo (e:bN α) (l:List α):(bB e l).take (l.length * e.z)=bB e l:=by grind [oR]
theorem QM:∀ L:List Int,bB r4 L=L.map λb=>.lit (.int .u8 b)
 | []=>rfl
 | x::L=>by
  have:bB r4 (x::L)=rX x::bB r4 L:=rfl;rw [this,List.map_cons,QM L]
section
variable {P:Program}{N:cP}{ops:Array Oper}{g g1 g2:aM}{K:aM->Prop}{l:List Oper}{d r:Nat}{ty t t2:TypeId}{pos:String}{after:Array Edge}{gd:Option (Nat × Bool)}{a b c:Operand}{k kc:IntKind}{m n:Int}{s u:ByteArray}{p q:Place}
namespace O
theorem dg {e e1:Nat}{parts:Array (Nat × Operand)}{ys:List ab}(en:bN α) (L:List α) (au:ft P t e en.z=true) (J:hn g (parts.toList.map (·.2))=some ys) (aa:o3 ys=some (bB en L)) (aW:ys.all (λy=>match j5 y with | some c=>Nat.beq c.length en.z | none=>false)=true)
  (aq:parts.toList=(parts.toList.map (·.2)).mapIdx (λi x=>(i,x))) (aC:(parts.toList.map (·.2)).length=e1) (ah:L.length=e1) (hzero:jf P e en.z=true) (ar:Nat.ble (e1 * en.z) 16777216=true) (hS:Nat.ble e1 16777216=true):cf P g (.buildSlice t e1 parts) ty (aD en L):=by
 subst aC;have:=ov.buildSlice (P:=P) (ty:=ty) au aq J (λy ao=>by
  grind [Nat.eq_of_beq_eq_true]) aa (Nat.le_of_ble_eq_true ar) (Nat.le_of_ble_eq_true hS) (.inr (RS hzero))
 unfold aD;rw [ah];exact .sC this
theorem kB {z bQ n:Nat}{e:TypeId}(J:Rd g a (.a6 z p n)) (au:ft P t e bQ=true):cf P g (.call { callee:=.builtin .len,args:=#[a],argTypes:=#[t] }) ty (ae n):=.eD (.F5 J.bs au)
theorem gL {en:bN α}{L:List α}{y:α}{e:TypeId}(aq:bE g p=some (aD en L)) (J:Rd g a (.a6 en.z p L.length)) (hi:Rd g b (.lit (.int k m))) (au:ft P t e en.z=true) (h:idx L m=some y) (aW:Nat.blt 0 en.z=true):cf P g (.indexAddr t a b) ty (.ptr p (m.toNat * en.z+0)):=by
 obtain ⟨aK,h1,_⟩:=mn h;obtain ⟨j,rfl⟩:=Int.eq_ofNat_of_zero_le aK;have Pg:0<en.z:=by simpa using aW
 have ag:j<L.length:=by omega
 refine .eD (.FT J.bs hi.bs au ag ⟨_,aq,_,_,_,.inl rfl,?_⟩)
 simp_all [oR]
theorem Z6 {en:bN α}{L:List α}{y:α}{o:Nat}(h:idx L m=some y) (aX:o<en.z):m.toNat * en.z+o<(bB en L).length:=by
 obtain ⟨aK,h1,_⟩:=mn h;rw [oR];have af:m.toNat+1<=L.length:=by omega
 calc m.toNat * en.z+o<m.toNat * en.z+en.z:=by omega
  _=(m.toNat+1) * en.z:=by rw [Nat.add_mul]; omega
  _<=L.length * en.z:=Nat.mul_le_mul_right _ af
theorem kM {en:bN α}{L:List α}{y:α}{cz f off o fW:Nat}(aq:bE g p=some (aD en L)) (J:Rd g a (.ptr p (m.toNat * en.z+o))) (aU:iY P cz f off t=true) (h:idx L m=some y) (aX:o+off=fW) (aP:Nat.blt fW en.z=true):cf P g (.fieldAddr cz a f) ty (.ptr p (m.toNat * en.z+fW)):=by
 subst aX;rw [<- Nat.add_assoc];refine .eD (.BT J.bs aU ⟨_,aq,_,_,_,.inl rfl,?_⟩)
 simp_all [Nat.add_assoc,Z6]
theorem vc {en:bN α}{L:List α}{y:α}{o:Nat}{x:ab}(aq:bE g p=some (aD en L)) (h:idx L m=some y) (aa:(en.cells y)[o]?=some x):bE g (p.push (m.toNat * en.z+o))=some x:=by
 rw [tP,aq];exact Ls en h aa
theorem jP {en:bN α}{L:List α}{y:α}{o:Nat}{x x':ab}(aq:bE g p=some (aD en L)) (J:Rd g a (.ptr p (m.toNat * en.z+o))) (au:j6 P t=true) (h:idx L m=some y) (aa:(en.cells y)[o]?=some x) (hr:fZ 0 (p.push (m.toNat * en.z+o)) x=x'):cf P g (.load t a) ty x':=by
 subst hr;exact .eD (.C' J.bs au (vc aq h aa))
theorem YL {en:bN α}{L:List α}{y:α}{o z:Nat}{cs':List ab}(aq:bE g p=some (aD en L)) (J:Rd g a (.ptr p (m.toNat * en.z+o))) (au:h8 P t z=true) (h:idx L m=some y) (aW:Nat.ble (o+z) en.z=true)
  (aa:(((en.cells y).drop o).take z).mapIdx (λi x=>fZ 0 (p.push (m.toNat * en.z+o+i)) x)=cs'):cf P g (.load t a) ty (.agg cs'):=by
 have Pg:=Nat.le_of_ble_eq_true aW;have mh:((bB en L).drop (m.toNat * en.z+o)).take z=((en.cells y).drop o).take z:=by
  rw [<- List.drop_drop,Lt en h,List.drop_append_of_le_length (by rw [en.len]; omega),List.take_append_of_le_length (by rw [List.length_drop,en.len]; omega)]
 subst aa;rw [<- mh];refine .eD (.z' J.bs au aq (.inl rfl) ?_);obtain ⟨aK,h1,_⟩:=mn h;rw [oR];have af:m.toNat+1<=L.length:=by omega
 calc m.toNat * en.z+o+z<=m.toNat * en.z+en.z:=by omega
  _=(m.toNat+1) * en.z:=by rw [Nat.add_mul]; omega
  _<=L.length * en.z:=Nat.mul_le_mul_right _ af
end O
class rU (g:aM):Prop where fJ:∀ t z q n m new,g t≠some (.bI z q n m new)
class p_ (x:ab):Prop where fJ:∀ z q n m new,x≠.bI z q n m new
instance {x:ab} [h:b6 x]:p_ x:=⟨by rintro z q n m new rfl; cases h.bn⟩
instance {p:Place}{k:Nat}:p_ (.ptr p k):=⟨by simp⟩
instance {p:Place}{z n:Nat}:p_ (.a6 z p n):=⟨by simp⟩
instance {cs:List ab}:p_ (.agg cs):=⟨by simp⟩
instance {cs:List ab}:p_ (.obj cs):=⟨by simp⟩
instance {g:aM}{d:Nat}{x:ab} [h:rU g] [J:p_ x]:rU (cV g d x):=⟨λt z q n m new e=>by
 unfold cV at e
 split at e
 ·cases e; exact J.fJ _ _ _ _ _ rfl
 ·exact h.fJ _ _ _ _ _ _ e⟩
instance:rU (get []):=⟨λ_ _ _ _ _ _ e=>by cases e⟩
instance {t:Nat}{x:ab}{G:List (Nat × ab)} [J:p_ x] [h:rU (get G)]:rU (get ((t,x)::G)):=⟨λs z q n m new e=>by
 simp only [get] at e
 split at e
 ·cases e; exact J.fJ _ _ _ _ _ rfl
 ·exact h.fJ _ _ _ _ _ _ e⟩
class EK (acc:Acc):Prop where fJ:∀ e∈acc,∀ z q n m new,e.2.2≠some (.bI z q n m new)
instance:EK []:=⟨by simp⟩
instance {j d:Nat}{x:ab}{acc:Acc} [J:p_ x] [h:EK acc]:EK ((j,d,some x)::acc):=⟨λe he z q n m new bO=>by
 rcases List.mem_cons.1 he with rfl | he
 ·exact J.fJ z q n m new (Option.some.inj bO)
 ·exact h.fJ e he z q n m new bO⟩
instance {G:List (Nat × ab)}{A:Nat->Bool}{acc:Acc} [aN:rU (get G)] [h:EK acc]:rU (ds (get G) A acc):=⟨λt z q n m new e=>by
 rcases u1 e with ⟨b5,he,_,_,af⟩ | ⟨_,af⟩
 ·exact h.fJ b5 he _ _ _ _ _ af
 ·exact aN.fJ _ _ _ _ _ _ af⟩
theorem wP {L M:List α}{r:List α}{b:Nat}(h:c8 L M=some r) (ar:Nat.ble b 128=true):L.length+M.length<=4611686018427387904/\(L.length+M.length) * b<=140737488355328/\r=L++M:=by
 unfold c8 at h
 split at h
 ·rename_i ah;have j7:=Nat.le_of_ble_eq_true ar;have s9:lim=1099511627776:=rfl;refine ⟨by omega,?_,(Option.some.inj h).symm⟩
  calc (L.length+M.length) * b<=1099511627776 * 128:=Nat.mul_le_mul ah j7
   _=140737488355328:=by decide
 ·cases h
inductive ox (g:aM) (en:bN α):ab->List α->Prop
 | i {M:List α}:ox g en (.bl en.z M.length (bB en M)) M
 | n:ox g en .aS []
 | o {q:Place}{M:List α}(a_:bE g q=some (aD en M)) (aU:(bB en M).all mc=true):ox g en (.a6 en.z q M.length) M
 | of {y:ab}{M:List α}(h:Src g y en.z M.length (bB en M)):ox g en y M
theorem ox.src {en:bN α}{y:ab}{M:List α}(h:ox g en y M):Src g y en.z M.length (bB en M):=by
 cases h with
 | i=>exact .bl
 | n=>exact .aS
 | of h=>exact h
 | o a_ aU =>
  have:=Src.a6 (g:=g) (m:=M.length) a_ (Nat.le_refl _)
  simp_all [wo,BV]
theorem ox.flat (en:bN α) [Flat en] {q:Place}{M:List α}(a_:bE g q=some (aD en M)):ox g en (.a6 en.z q M.length) M:=.o a_ (Z' en M)
namespace O
theorem ap {en:bN α}{L M r:List α}{y:ab}{e gF:Nat}(av:Rd g a (.a6 en.z p L.length)) (aq:bE g p=some (aD en L)) (J:Rd g b y) (hm:ox g en y M) (au:im P t e en.z gF=true) (ar:Nat.ble gF 128=true) (h:c8 L M=some r) [eN:rU g] :
  cf P g (.call { callee:=.builtin .append,args:=#[a,b],argTypes:=#[t,t] }) ty (.bI en.z p L.length M.length (bB en M)):=by
 obtain ⟨h1,af,_⟩:=wP h ar;exact .l4 (.grow av.bs (.inl ⟨_,aq⟩) (λt bQ cm m' cO e=>eN.fJ _ _ _ _ _ _ e) J.bs hm.src au h1 af)
theorem SX {en:bN α}{M r:List α}{y:ab}{e gF:Nat}(av:Rd g a .aS) (J:Rd g b y) (hm:ox g en y M) (au:im P t e en.z gF=true) (ar:Nat.ble gF 128=true) (h:c8 [] M=some r) :
  cf P g (.call { callee:=.builtin .append,args:=#[a,b],argTypes:=#[t,t] }) ty (aD en M):=by
 obtain ⟨h1,af,_⟩:=wP h ar;simp only [List.length_nil,Nat.zero_add] at h1 af;exact .l4 (.nil av.bs J.bs hm.src au h1 af)
end O
inductive nn (ex:List Nat) (g g2:aM):List (Nat × ab)->Prop
 | nil:nn ex g g2 []
 | n {s:Nat}{x:ab}{l:List (Nat × ab)}(cS:ex.elem s=false) (h:g s=some x) [aC:b6 x] (t:nn ex g g2 l):nn ex g g2 ((s,x)::l)
 | p {s q k:Nat}{l:List (Nat × ab)}{kL:List ab}(cS:ex.elem s=false) (h:g s=some (.ptr ⟨q,[]⟩ k)) (af:g2 q=some (.obj kL)) (fF:Nat.blt k kL.length=true) (t:nn ex g g2 l):nn ex g g2 ((s,.ptr ⟨q,[]⟩ k)::l)
 | w {α:Type}{s q:Nat}{en:bN α}{L:List α}{l:List (Nat × ab)}(cS:ex.elem s=false) (h:g s=some (.a6 en.z ⟨q,[]⟩ L.length)) (af:g2 q=some (aD en L)) (t:nn ex g g2 l):nn ex g g2 ((s,.a6 en.z ⟨q,[]⟩ L.length)::l)
theorem nn.spec {ex:List Nat}{l:List (Nat × ab)}(h:nn ex g g2 l):∀ t x,get l t=some x->ex.elem t=false/\g t=some x/\cW g2 x/\∀ z p n m new,x≠.bI z p n m new:=by
 induction h with
 | nil=>intro t x J; cases J
 | @n s x l cS h aC _ aO =>
  intro t y ao; simp only [get] at ao
  split at ao
  ·rename_i e; subst e; cases ao; exact ⟨cS,h,.bn aC.bn,by rintro z p n m new rfl; cases aC.bn⟩
  ·exact aO t y ao
 | @p s q k l kL cS h af fF _ aO =>
  intro t y ao; simp only [get] at ao
  split at ao
  ·rename_i e; subst e; cases ao; exact ⟨cS,h,.ref rfl (uP af (by simpa using fF)),by simp⟩
  ·exact aO t y ao
 | @w α s q en L l cS h af _ aO =>
  intro t y ao; simp only [get] at ao
  split at ao
  ·rename_i e; subst e; cases ao; exact ⟨cS,h,.ref rfl (.inl ⟨_,_,(by simp [bE,af,ab.at]:bE g2 ⟨q,[]⟩=some (aD en L)),Nat.le_refl _⟩),by simp⟩
  ·exact aO t y ao
theorem nn.keep {ex:List Nat}{G2:List (Nat × ab)}(h:nn ex g (get G2) G2) (aN:∀ t,ex.elem t=false->g1 t=g t):iE g1 (get G2) :=
 ⟨λt x J=>by obtain ⟨h1,af,_⟩:=h.spec t x J; rw [aN t h1]; exact af,λt x J=>(h.spec t x J).2.2.1,λt z q n m new J=>(h.spec t _ J).2.2.2 _ _ _ _ _ rfl⟩
theorem Take.row {en:bN α}{L:List α}(aq:bE g p=some (aD en L)):Take g [.a6 en.z p L.length] [aD en L] (ct g p .dead):=by
 have h1:Take (ct g p .dead) ((bB en L).take (L.length * en.z)) (bB en L) (ct g p .dead):=by
  rw [wo]; exact .bn (po en L)
 exact .a6 aq (Nat.le_refl _) h1 (.bn (by simp))
theorem Take.Z8 {en:bN α}{L M:List α}{s:Nat}(av:g s=some (.bI en.z q L.length M.length (bB en M))) (aq:bE g q=some (aD en L)) (a_:q.root≠s):Take g [.a6 en.z ⟨s,[]⟩ (L.length+M.length)] [aD en (L++M)] (ct (ct g ⟨s,[]⟩ .dead) q .dead):=by
 rw [<- pZ];exact .bI av aq a_ (.bn λx J=>(List.mem_append.1 J).elim (po en L x) (po en M x)) (.bn (by simp))
theorem Take.Z9 {en:bN α}{L M M2:List α}{s s2:Nat}(av:g s=some (.bI en.z ⟨s2,[]⟩ (L.length+M2.length) M.length (bB en M))) (j_:g s2=some (.bI en.z q L.length M2.length (bB en M2))) (aq:bE g q=some (aD en L)) (a_:q.root≠s) (rl:q.root≠s2) (CK:s≠s2) :
  Take g [.a6 en.z ⟨s,[]⟩ (L.length+M2.length+M.length)] [aD en (L++M2++M)] (ct (ct (ct g ⟨s,[]⟩ .dead) ⟨s2,[]⟩ .dead) q .dead):=by
 have:=Take.Ao (g:=g) (xs:=[]) (xs':=[]) av j_ rfl aq a_ rl CK (.bn (xs:=bB en L++bB en M2++bB en M) λx J=>by
  grind [po]) (.bn (by simp))
 grind [QK]
theorem uS {t:Nat}{y:ab}(h:t≠p.root):ct g p y t=g t:=by
 grind [ct]
theorem zy {ex:List Nat}{t s:Nat}(h:ex.elem t=false) (av:ex.elem s=true):t≠s:=by
 grind
theorem bj.EV {o:Oper}{en:bN α}{L:List α}{x:Operand}{G2:List (Nat × ab)}(aX:o.op=.assign x) (aQ:o.dst=some d) (J:Rd g x (.a6 en.z p L.length)) (aq:bE g p=some (aD en L)) (dh:nn [p.root] g (get G2) G2) (aN:get G2 d=none) (bp:N.ok d=true):bj P N g o (cV (get G2) d (aD en L)) :=
 .assign aX aQ J.bs (.row aq) .refl (dh.keep λt au=>uS (zy au (by simp))) aN bp
theorem bj.MC {o:Oper}{en:bN α}{L M:List α}{s:Nat}{x:Operand}{G2:List (Nat × ab)}(aX:o.op=.assign x) (aQ:o.dst=some d) (J:Rd g x (.a6 en.z ⟨s,[]⟩ (L.length+M.length))) (av:g s=some (.bI en.z q L.length M.length (bB en M))) (aq:bE g q=some (aD en L)) (a_:Nat.beq q.root s=false)
  (dh:nn [s,q.root] g (get G2) G2) (aN:get G2 d=none) (bp:N.ok d=true):bj P N g o (cV (get G2) d (aD en (L++M))) :=
 .assign aX aQ J.bs (.Z8 av aq (Nat.ne_of_beq_eq_false a_)) .refl (dh.keep λt au=>by rw [uS (zy au (by simp)),uS (zy au (by simp))]) aN bp
theorem bj.Sz {o:Oper}{en:bN α}{L M M2:List α}{s s2:Nat}{x:Operand}{G2:List (Nat × ab)}(aX:o.op=.assign x) (aQ:o.dst=some d) (J:Rd g x (.a6 en.z ⟨s,[]⟩ (L.length+M2.length+M.length))) (av:g s=some (.bI en.z ⟨s2,[]⟩ (L.length+M2.length) M.length (bB en M)))
  (j_:g s2=some (.bI en.z q L.length M2.length (bB en M2))) (aq:bE g q=some (aD en L)) (a_:Nat.beq q.root s=false) (rl:Nat.beq q.root s2=false) (CK:Nat.beq s s2=false)
  (dh:nn [s,s2,q.root] g (get G2) G2) (aN:get G2 d=none) (bp:N.ok d=true):bj P N g o (cV (get G2) d (aD en (L++M2++M))) :=
 .assign aX aQ J.bs (.Z9 av j_ aq (Nat.ne_of_beq_eq_false a_) (Nat.ne_of_beq_eq_false rl) (Nat.ne_of_beq_eq_false CK)) .refl (dh.keep λt au=>by rw [uS (zy au (by simp)),uS (zy au (by simp)),uS (zy au (by simp))]) aN bp
theorem aA.q_ {o:Oper}{x:ab}{G2:List (Nat × ab)}(aN:o.guard=none) (he:bj P N g o (cV (get G2) d x)) (hk:aA P N ops l (cV (get G2) d x) K):aA P N ops (o::l) g K:=by
 intro i hi;obtain ⟨h1,af⟩:=drop_cons hi;obtain ⟨g',hr,c5⟩:=hk (i+1) af;refine ⟨g',.jJ h1 ?_ he hr,c5⟩
 grind [iH]
theorem sZ {x:ab}{G:List (Nat × ab)}:cV (get G) d x=get ((d,x)::G):=by
 grind [cV,get]
variable {bd:List (List Nat)}{acc:Acc}{i:Nat}
end
section
variable {P:Program}{N:cP}{ops:Array Oper}{g g' g1 g2:aM}{K:aM->Prop}{l:List Oper}{d r:Nat}{ty t t2:TypeId}{pos:String}{after:Array Edge}{a b c:Operand}{p q:Place}{e:Exit}
inductive nM (s:Nat):aM->Nat->List ab->List ab->aM->Prop
 | nil {g:aM}{i:Nat}:nM s g i [] [] g
 | f {g g':aM}{i:Nat}{x:ab}{ys xs:List ab}(aU:mc x=true) [aC:b6 x] (au:nM s g (i+1) ys xs g'):nM s g i (x::ys) (x::xs) g'
 | o {α:Type}{g g':aM}{i:Nat}{en:bN α}{L:List α}{ys xs:List ab}(aq:bE g ⟨s,[i]⟩=some (aD en L)) (au:nM s (ct g ⟨s,[i]⟩ .dead) (i+1) ys xs g'):nM s g i (.a6 en.z ⟨s,[i]⟩ L.length::ys) (aD en L::xs) g'
theorem nM.take {s i:Nat}{ys xs:List ab}(h:nM s g i ys xs g'):Take g ys xs g':=by
 induction h with
 | nil=>exact .bn (by simp)
 | @f g g' i x ys xs aU aC _ aO=>exact .cons aC.bn aO
 | @o α g g' i en L ys xs aq _ aO =>
  refine .a6 aq (Nat.le_refl _) ?_ aO;rw [wo]; exact .bn (po en L)
inductive ki (P:Program):aM->List ResultVar->List ab->List ab->aM->Prop
 | nil {g:aM}:ki P g [] [] [] g
 | f {g g':aM}{t:Nat}{x:ab}{rs:List ResultVar}{ys xs:List ab}(h:g t=some x) (aU:mc x=true) [aC:b6 x] (au:ki P g rs ys xs g'):ki P g (.tmp t::rs) (x::ys) (x::xs) g'
 | o {α:Type}{g g':aM}{t:Nat}{en:bN α}{L:List α}{rs:List ResultVar}{ys xs:List ab}(h:g t=some (aD en L)) (au:ki P (ct g ⟨t,[]⟩ .dead) rs ys xs g'):ki P g (.tmp t::rs) (.a6 en.z ⟨t,[]⟩ L.length::ys) (aD en L::xs) g'
 | c {g g' w9:aM}{t z:Nat}{ty:TypeId}{cs ys0:List ab}{rs:List ResultVar}{ys xs:List ab}(h:g t=some (.obj cs)) (au:h8 P ty z=true) (aW:cs.length=z) (aK:Nat.blt 0 z=true) (ao:(cs.mapIdx λi x=>fZ 0 ⟨t,[i]⟩ x)=ys0) (hk:nM t g 0 ys0 cs w9) (hr:ki P w9 rs ys xs g'):ki P g (.cell t ty::rs) (.agg ys0::ys) (.agg cs::xs) g'
def yW (g0 g:aM):Prop:=∀ t x,g t=some x->(mc x=true\/(∃ z n cs,x=.own z n cs))->g0 t=some x
theorem yW.set {g0:aM}{t:Nat}{pp:List Nat}(h:yW g0 g) (aX:pp=[]\/∃ cs,g t=some (.obj cs)):yW g0 (ct g ⟨t,pp⟩ .dead):=by
 intro s x J aU;unfold ct at J
 split at J
 ·rename_i av;simp only at av J;subst av;exfalso;cases aN:g s with
  | none=>rw [aN] at J; cases J
  | some y =>
   rw [aN] at J;simp only [Option.map_some,Option.some.injEq] at J;rcases aX with rfl | ⟨cs,aa⟩
   ·simp only [ab.setAt] at J;subst J;rcases aU with aU | ⟨_,_,_,aU⟩ <;> cases aU
   ·rw [aN] at aa;cases aa;have:∃ cs',x=.obj cs':=by
     subst J;cases pp with
     | nil=>simp only [ab.setAt] at aU; rcases aU with aU | ⟨_,_,_,aU⟩ <;> cases aU
     | cons k pp =>
      simp only [ab.setAt,ab.kids];split
      ·exact ⟨_,rfl⟩
      ·exact ⟨_,rfl⟩
    obtain ⟨cs',rfl⟩:=this;rcases aU with aU | ⟨_,_,_,aU⟩ <;> cases aU
 ·exact h s x J aU
theorem nM.UP {g0:aM}{s i:Nat}{ys xs:List ab}(h:nM s g i ys xs g'):(∃ cs,g s=some (.obj cs))->yW g0 g->yW g0 g':=by
 induction h with
 | nil=>exact λ_ h=>h
 | f _ _ aO=>exact aO
 | @o α g g' i en L ys xs aq _ aO =>
  intro aX aQ;refine aO ?_ (aQ.set (.inr aX));obtain ⟨cs,aa⟩:=aX;unfold ct;simp only [if_pos,aa,Option.map_some,ab.setAt,ab.kids];split
  ·exact ⟨_,rfl⟩
  ·exact ⟨_,rfl⟩
theorem nM.out {s i:Nat}{ys xs:List ab}(h:nM s g i ys xs g'):∀ t,t≠s->g' t=g t:=by
 induction h with
 | nil=>exact λ_ _=>rfl
 | f _ _ aO=>exact aO
 | o _ _ aO=>exact λt au=>by rw [aO t au,uS au]
theorem ki.take {rs:List ResultVar}{ys xs:List ab}(h:ki P g rs ys xs g'):Take g ys xs g':=by
 induction h with
 | nil=>exact .bn (by simp)
 | @f g g' t x rs ys xs h aU aC _ aO=>exact .cons aC.bn aO
 | @o α g g' t en L rs ys xs h _ aO =>
  have aq:bE g ⟨t,[]⟩=some (aD en L):=by simp [bE,h,ab.at]
  refine .a6 aq (Nat.le_refl _) ?_ aO;rw [wo]; exact .bn (po en L)
 | @c g g' w9 t z ty cs ys0 rs ys xs h au aW aK ao hk _ aO=>exact .agg hk.take aO
theorem ki.vs {rs:List ResultVar}{ys xs:List ab}(h:ki P g rs ys xs g'):∀ g0:aM,yW g0 g->(∀ t ty,ResultVar.cell t ty∈rs->∀ cs,g t=some (.obj cs)->g0 t=some (.obj cs))->(rs.filterMap fun | .cell t _=>some t | _=>none).Nodup->tI P g0 rs ys:=by
 induction h with
 | nil=>exact λ_ _ _ _=>.nil
 | @f g g' t x rs ys xs h aU aC _ aO =>
  intro g0 aQ ar eG;exact .cons (.tmp (Rd.f (aQ t x h (.inl aU)) aU)) (aO g0 aQ (λt ty hm=>ar t ty (List.mem_cons_of_mem _ hm)) (by simpa using eG))
 | @o α g g' t en L rs ys xs h _ aO =>
  intro g0 aQ ar eG;refine .cons (.tmp ?_) (aO g0 (aQ.set (.inl rfl)) (λs ty hm cs aa=>?_) (by simpa using eG))
  ·have:=aQ t _ h (.inr ⟨_,_,_,rfl⟩);simp [Own.bs,this,pn,fZ]
  ·by_cases av:s=t
   ·subst av; simp [ct,h,ab.setAt] at aa
   ·rw [uS av] at aa; exact ar s ty (List.mem_cons_of_mem _ hm) cs aa
 | @c g g' w9 t z ty cs ys0 rs ys xs h au aW aK ao hk _ aO =>
  intro g0 aQ ar eG;have h1:=ar t ty (by simp) cs h;simp only [List.filterMap_cons,List.nodup_cons] at eG;refine .cons ?_ (aO g0 (hk.UP ⟨cs,h⟩ aQ) (λs yH hm cs' aa=>?_) eG.2)
  ·have Pg:0<z:=by simpa using aK
   have J:Own.bs g0 (.tmp t)=some (.ptr ⟨t,[]⟩ 0):=by
    cases cs with
    | nil=>simp at aW; omega
    | cons c cs=>simp [Own.bs,h1,pn,fZ]
   have:=dj.z' (P:=P) (ty:=ty) (p:=⟨t,[]⟩) (n:=0) (z:=0) J au (by simp only [bE,h1,ab.at]) (.inr rfl) (show 0+z<=cs.length by omega);have hq:((cs.drop 0).take z).mapIdx (λi x=>fZ 0 (Place.push ⟨t,[]⟩ (0+i)) x)=ys0:=by
    rw [List.drop_zero,List.take_of_length_le (by omega),<- ao];congr 1;funext i x;simp [Place.push]
   rw [hq] at this;exact .cell this
  ·have bU:s≠t:=by
    rintro rfl;exact eG.1 (List.mem_filterMap.2 ⟨.cell s yH,hm,rfl⟩)
   have:=hk.out s bU;rw [this] at aa;exact ar s yH (List.mem_cons_of_mem _ hm) cs' aa
inductive q2 (g:aM) (pins:List Nat):Nat->List (Option ab)->Prop
 | nil {i:Nat}:q2 g pins i []
 | no {i:Nat}{os:List (Option ab)}(t:q2 g pins (i+1) os):q2 g pins i (none::os)
 | aj {i:Nat}{x:ab}{os:List (Option ab)}(h:g i=some x) [aC:b6 x] (aq:pins.elem i=true) (t:q2 g pins (i+1) os):q2 g pins i (some x::os)
theorem q2.spec {pins:List Nat}{i:Nat}{os:List (Option ab)}(h:q2 g pins i os):∀ k x,os[k]?=some (some x)->g (i+k)=some x/\cG x/\i+k∈pins:=by
 induction h with
 | nil=>intro k x hk; simp at hk
 | no _ aO =>
  intro k x hk;cases k with
  | zero=>simp at hk
  | succ k=>have:=aO k x (by simpa using hk); rw [Nat.add_assoc,Nat.add_comm 1 k] at this; exact this
 | @aj i y os h aC aq _ aO =>
  intro k x hk;cases k with
  | zero=>simp at hk; subst hk; exact ⟨h,aC.bn,by simpa using aq⟩
  | succ k=>have:=aO k x (by simpa using hk); rw [Nat.add_assoc,Nat.add_comm 1 k] at this; exact this
theorem Fin.ro {rs:List ResultVar}{ys xs:List ab}{res:ab}{outs:List (Option ab)}{n:Nat}(h:ki P g rs ys xs g') (he:p2 xs=res) (eG:(rs.filterMap fun | .cell t _=>some t | _=>none).Nodup) (aX:q2 g' N.pins 0 outs) (ah:outs.length=n) (J:e=.normal\/e=.ret):Fin P N rs n outs res e g :=
 ⟨J,⟨ys,xs,g',h.vs g (λ_ _ h _=>h) (λ_ _ _ _ h=>h) eG,h.take,he.symm,λk x hk=>by have:=aX.spec k x hk; rw [Nat.zero_add] at this; exact this⟩,ah⟩
class j4 (x y:ab):Prop where v:∀ g,View g x y
class ga (xs ys:List ab):Prop where
 l:ys.length=xs.length
 v:∀ (g:aM) (k:Nat) (x y:ab),xs[k]?=some x->ys[k]?=some y->View g x y
class il (e b5:bN α):Prop where
 z:e.z=b5.z
 v:∀ a,ga (e.cells a) (b5.cells a)
instance {v:Value}:j4 (.lit v) (.lit v):=⟨λ_=>.self .lit (by simp) (by simp) (by simp) (by simp) (by simp)⟩
instance {z n:Nat}{cs:List ab} [h:dp cs]:j4 (.bl z n cs) (.bl z n cs):=⟨λ_=>.self (.bl h.bn) (by simp) (by simp) (by simp) (by simp) (by simp)⟩
instance {e:bN α}:j4 .aS (ak e []):=⟨λ_=>.qF⟩
instance:ga [] []:=⟨rfl,by simp⟩
instance {x y:ab}{xs ys:List ab} [h:j4 x y] [aI:ga xs ys]:ga (x::xs) (y::ys):=⟨by simp [aI.l],λg k a b aJ ar=>by
 cases k with
 | zero=>simp at aJ ar; subst aJ ar; exact h.v g
 | succ k=>exact aI.v g k a b (by simpa using aJ) (by simpa using ar)⟩
theorem Em (e b5:bN α) [h:il e b5]:∀ L:List α,(bB b5 L).length=(bB e L).length/\∀ (g:aM) (k:Nat) (x y:ab),(bB e L)[k]?=some x->(bB b5 L)[k]?=some y->View g x y
 | []=>⟨rfl,by simp [bB]⟩
 | a::L=>by
  obtain ⟨h1,af⟩:=Em e b5 L;have U3:∀ e:bN α,bB e (a::L)=e.cells a++bB e L:=λe=>by simp [bB]
  refine ⟨by rw [oR,oR,h.z],λg k x y J ao=>?_⟩;rw [U3] at J ao;by_cases hk:k<e.z
  ·rw [List.getElem?_append_left (by rw [e.len]; exact hk)] at J;rw [List.getElem?_append_left (by rw [b5.len,<- h.z]; exact hk)] at ao;exact (h.v a).v g k x y J ao
  ·rw [List.getElem?_append_right (by rw [e.len]; omega),e.len] at J;rw [List.getElem?_append_right (by rw [b5.len,<- h.z]; omega),b5.len,<- h.z] at ao;exact af g _ x y J ao
instance {e b5:bN α}{L:List α} [h:il e b5]:j4 (aD e L) (ak b5 L):=⟨λg=>by
 have:=Em e b5 L;show View g (.own e.z L.length (bB e L)) (.bl b5.z L.length (bB b5 L));rw [<- h.z];exact .own this.1 (this.2 g)⟩
instance:il ai ai:=⟨rfl,λa=>(inferInstance:ga [ae a] [ae a])⟩
instance:il r4 r4:=⟨rfl,λa=>(inferInstance:ga [rX a] [rX a])⟩
instance:il e8 e8:=⟨rfl,λa=>(inferInstance:ga [bh a] [bh a])⟩
instance:il nU nU:=⟨rfl,λa=>(inferInstance:ga [a1 a] [a1 a])⟩
instance {e:bN α}:il (bC e) (bC e):=⟨rfl,λa=>(inferInstance:ga [ak e a] [ak e a])⟩
theorem View.row {e b5:bN α}{L:List α} [h:il e b5] (aq:bE g p=some (aD e L)):View g (.a6 e.z p L.length) (ak b5 L):=by
 have:=Em e b5 L;show View g _ (.bl b5.z L.length (bB b5 L));rw [<- h.z];refine .a6 aq (Nat.le_refl _) (by rw [wo]; exact this.1) (λk x y J ao=>?_);rw [wo] at J;exact this.2 g k x y J ao
inductive o2 (g:aM):List ab->List ab->Prop
 | nil:o2 g [] []
 | s {x y:ab}{xs ys:List ab} [h:j4 x y] (t:o2 g xs ys):o2 g (x::xs) (y::ys)
 | c {x y:ab}{xs ys:List ab}(h:View g x y) (t:o2 g xs ys):o2 g (x::xs) (y::ys)
theorem o2.len {xs ys:List ab}(h:o2 g xs ys):ys.length=xs.length:=by
 induction h with
 | nil=>rfl
 | s _ aO=>simp [aO]
 | c _ _ aO=>simp [aO]
theorem o2.get {xs ys:List ab}(h:o2 g xs ys):∀ (k:Nat) (x y:ab),xs[k]?=some x->ys[k]?=some y->View g x y:=by
 induction h with
 | nil=>intro k x y J; simp at J
 | @s x y xs ys h _ aO =>
  intro k a b aJ ar;cases k with
  | zero=>simp at aJ ar; subst aJ ar; exact h.v g
  | succ k=>exact aO k a b (by simpa using aJ) (by simpa using ar)
 | @c x y xs ys h _ aO =>
  intro k a b aJ ar;cases k with
  | zero=>simp at aJ ar; subst aJ ar; exact h
  | succ k=>exact aO k a b (by simpa using aJ) (by simpa using ar)
theorem View.nP {xs ys:List ab}(h:o2 g xs ys):View g (.agg xs) (.agg ys):=.agg h.len h.get
class p' (x:ab):Prop where l3:j1 x
class q0 (cs:List ab):Prop where l3:∀ x∈cs,j1 x
class Bn (e:bN α):Prop where l3:∀ a,q0 (e.cells a)
instance {v:Value}:p' (.lit v):=⟨.lit⟩
instance:q0 []:=⟨by simp⟩
instance {x:ab}{xs:List ab} [h:p' x] [aI:q0 xs]:q0 (x::xs):=⟨λy ao=>by
 rcases List.mem_cons.1 ao with rfl | ao
 ·exact h.l3
 ·exact aI.l3 y ao⟩
instance {e:bN α}{L:List α} [h:Bn e]:q0 (bB e L):=⟨λx J=>by
 obtain ⟨a,_,aJ⟩:=List.mem_flatMap.1 J;exact (h.l3 a).l3 x aJ⟩
instance {z n:Nat}{cs:List ab} [h:q0 cs]:p' (.own z n cs):=⟨.own h.l3⟩
instance {cs:List ab} [h:q0 cs]:p' (.agg cs):=⟨.agg h.l3⟩
instance {cs:List ab} [h:q0 cs]:p' (.bR cs):=⟨.bR h.l3⟩
instance {e:bN α}{a:α} [h:Bn e]:q0 (e.cells a):=h.l3 a
instance:Bn ai:=⟨λa=>(inferInstance:q0 [ae a])⟩
theorem P1 {outs:List (Option ab)}{args:List ab}(aX:uE outs=true) (ah:outs.length=args.length):outs=args.map λ_=>none:=by
 apply List.ext_getElem?;intro k;rw [List.getElem?_map];cases ao:args[k]? with
 | none=>rw [List.getElem?_eq_none (by rw [ah]; exact List.getElem?_eq_none_iff.1 ao)]; rfl
 | some y =>
  have hk:k<outs.length:=by rw [ah]; exact (List.getElem?_eq_some_iff.1 ao).1
  have h1:=List.getElem?_eq_getElem hk;rw [h1];cases af:outs[k] with
  | none=>rfl
  | some x=>rw [af] at h1; exact absurd h1 (P2 aX k x)
theorem cp.vw {xs:List Operand}{fR:Array TypeId}{f:FuncId}{ys args:List ab}{outs:List (Option ab)}{res:ab}(J:hn g xs=some ys) (hv:o2 g ys args) (hj:bS P f args outs res) (aU:hG P f=true) (aX:uE outs=true) [hr:p' res] :
  cp P g (.call { callee:=.value (.func f),args:=xs.toArray,argTypes:=fR }) res:=by
 have e:=P1 aX hj.1;refine .F7 (first:=[]) (caps:=[]) (ys:=ys) (args:=args) rfl (by simpa using J) aU (by simpa using hv.len) (λk x y J ao=>hv.get k x y (by simpa using J) ao) ?_ hr.l3;rw [<- e]; exact hj
end
section
variable {P:Program}{N:cP}{ops:Array Oper}{g g' g1 g2:aM}{K:aM->Prop}{l:List Oper}{d r:Nat}{op:Op}{ty t t2:TypeId}{pos:String}{after:Array Edge}{gd:Option (Nat × Bool)}{a b c:Operand}{p q:Place}{x y:ab}
variable {bd:List (List Nat)}{g0:aM}{acc:Acc}{i:Nat}
instance {cs cs':List ab} [h:ga cs cs']:j4 (.agg cs) (.agg cs'):=⟨λg=>.agg h.l (h.v g)⟩
theorem aA.fe (aq:cf P g op ty y) [aC:b6 y] [hv:j4 y x] (bp:N.ok d=true) (aU:g d=none) (aN:eI g ops gd) (hk:aA P N ops l (cV g d x) K):aA P N ops (⟨some d,op,ty,pos,after,gd⟩::l) g K :=
 .Ef rfl bp aU (r:=some x) (.inr (.inr ⟨aN.wanted,y,.inl aq,aC.bn,hv.v _⟩)) hk
theorem bx.fe (bV:Nat) (aq:cf P (kE bd g0 bV acc) op ty y) [aC:b6 y] [hv:j4 y x] (ag:Nat.beq ops.size (bV+l.length+1)=true) (aU:g0 d=none) (mj:acc.all (λe=>!Nat.beq e.2.1 d)=true) (bp:N.ok d=true) (aN:eI (kE bd g0 bV acc) ops gd)
  (hk:bx P N ops bd g0 i ((bV,d,some x)::acc) l K):bx P N ops bd g0 i acc (⟨some d,op,ty,pos,after,gd⟩::l) K :=
 .st bV (r:=some x) rfl (.inr (.inr ⟨aN.wanted,y,.inl aq,aC.bn,hv.v _⟩)) ag aU mj bp hk
inductive o1 (ex:List Nat) (g g2:aM):List (Nat × ab)->Prop
 | nil:o1 ex g g2 []
 | n {s:Nat}{x:ab}{l:List (Nat × ab)}(cS:ex.elem s=false) (h:g s=some x) [aC:b6 x] (t:o1 ex g g2 l):o1 ex g g2 ((s,x)::l)
 | p {s q k:Nat}{l:List (Nat × ab)}{kL:List ab}(cS:ex.elem s=false) (h:g s=some (.ptr ⟨q,[]⟩ k)) (af:g2 q=some (.obj kL)) (fF:Nat.blt k kL.length=true) (t:o1 ex g g2 l):o1 ex g g2 ((s,.ptr ⟨q,[]⟩ k)::l)
 | z {s:Nat}{x y:ab}{l:List (Nat × ab)}(he:ex.elem s=true) (h:g s=some y) [aC:b6 y] (hv:gX y x) [J:p_ x] (t:o1 ex g g2 l):o1 ex g g2 ((s,x)::l)
theorem o1.spec {ex:List Nat}{l:List (Nat × ab)}(h:o1 ex g g2 l):∀ t x,get l t=some x->((ex.elem t=false/\g t=some x/\cW g2 x)\/(ex.elem t=true/\∃ y,g t=some y/\cG y/\gX y x))/\∀ z p n m new,x≠.bI z p n m new:=by
 induction h with
 | nil=>intro t x J; cases J
 | @n s x l cS h aC _ aO =>
  intro t y ao; simp only [get] at ao
  split at ao
  ·rename_i e; subst e; cases ao; exact ⟨.inl ⟨cS,h,.bn aC.bn⟩,by rintro z p n m new rfl; cases aC.bn⟩
  ·exact aO t y ao
 | @p s q k l kL cS h af fF _ aO =>
  intro t y ao; simp only [get] at ao
  split at ao
  ·rename_i e; subst e; cases ao; exact ⟨.inl ⟨cS,h,.ref rfl (uP af (by simpa using fF))⟩,by simp⟩
  ·exact aO t y ao
 | @z s x y l he h aC hv J _ aO =>
  intro t y' ao; simp only [get] at ao
  split at ao
  ·rename_i e; subst e; cases ao; exact ⟨.inr ⟨he,y,h,aC.bn,hv⟩,J.fJ⟩
  ·exact aO t y' ao
theorem o1.zz {ex:List Nat}{G2:List (Nat × ab)}(h:o1 ex g (get G2) G2):HJ (λt=>ex.elem t) g (get G2):=by
 refine ⟨λt x J au=>?_,λt x J au=>?_,λt z q n m new J=>(h.spec t _ J).2 _ _ _ _ _ rfl⟩
 ·rcases (h.spec t x J).1 with ⟨_,h1,af⟩ | ⟨h1,_⟩
  ·grind
  grind
 ·rcases (h.spec t x J).1 with ⟨h1,_⟩ | ⟨_,af⟩
  ·grind
  grind
theorem W.dN {bH:Code}{G G1:List (Nat × ab)}{Φ:Exit->aM->Prop}(ex:List Nat) (h:o1 ex (get G) (get G1) G1) (hw:W P N bH (get G1) Φ):W P N bH (get G) Φ:=by
 intro Q a w I Fs bf bp ew;obtain ⟨I',bW,d',bU⟩:=bf.zz h.zz;exact hw d' bp λe g' ca w' he aC=>ew e g' ca w' he (kh.trans rfl ic.refl bU aC)
theorem Take.pre {xs xs':List ab}:∀ {ps:List ab},(∀ x∈ps,cG x)->Take g xs xs' g'->Take g (ps++xs) (ps++xs') g'
 | [],_,h=>h
 | x::ps,aC,h=>.cons (aC x (by simp)) (Take.pre (ps:=ps) (λy ao=>aC y (List.mem_cons_of_mem _ ao)) h)
inductive eS:aM->List ab->List ab->aM->Prop
 | nil {g:aM}:eS g [] [] g
 | jx {g:aM}{xs:List ab} [aC:dp xs]:eS g xs xs g
 | f {g g':aM}{x:ab}{xs xs':List ab} [aC:b6 x] (t:eS g xs xs' g'):eS g (x::xs) (x::xs') g'
 | r {α:Type}{g g':aM}{p:Place}{en:bN α}{L:List α}{xs xs':List ab}(aq:bE g p=some (aD en L)) (t:eS (ct g p .dead) xs xs' g'):eS g (.a6 en.z p L.length::xs) (aD en L::xs') g'
 | l {g g1 g':aM}{p:Place}{z n:Nat}{cs cs' xs xs':List ab}(aq:bE g p=some (.own z n cs)) (ah:cs.length=n * z) (h1:eS (ct g p .dead) cs cs' g1) (t:eS g1 xs xs' g'):eS g (.a6 z p n::xs) (.own z n cs'::xs') g'
 | jd {α:Type}{g g1 g':aM}{q:Place}{s m:Nat}{en:bN α}{L:List α}{new cO xs xs':List ab}(av:g s=some (.bI en.z q L.length m new)) (aq:bE g q=some (aD en L)) (a_:Nat.beq q.root s=false) (h1:eS (ct (ct g ⟨s,[]⟩ .dead) q .dead) new cO g1) (t:eS g1 xs xs' g') :
   eS g (.a6 en.z ⟨s,[]⟩ (L.length+m)::xs) (.own en.z (L.length+m) (bB en L++cO)::xs') g'
 | nP {g g1 g':aM}{cs cs' xs xs':List ab}(h1:eS g cs cs' g1) (t:eS g1 xs xs' g'):eS g (.agg cs::xs) (.agg cs'::xs') g'
 | m {g g':aM}{p:Place}{q:Array MapEntry->Nat->Prop}{xs xs':List ab}(aq:bE g p=some (.mp q)) (t:eS (ct g p .dead) xs xs' g'):eS g (.gm p::xs) (.mp q::xs') g'
 | b {g g1 g':aM}{p:Place}{cs cs' xs xs':List ab}(aq:bE g p=some (.obj cs)) (h1:eS (ct g p .dead) cs cs' g1) (t:eS g1 xs xs' g'):eS g (.ptr p 0::xs) (.obj cs'::xs') g'
 | of {g g':aM}{x x':ab}(h:Take g [x] [x'] g'):eS g [x] [x'] g'
theorem eS.take {xs xs':List ab}(h:eS g xs xs' g'):Take g xs xs' g':=by
 induction h with
 | m aq _ aO=>exact .mp aq (.bn (by simp)) aO
 | of h=>exact h
 | nil=>exact .bn (by simp)
 | @jx g xs aC=>exact .bn aC.bn
 | @f g g' x xs xs' aC _ aO=>exact .cons aC.bn aO
 | @r α g g' p en L xs xs' aq _ aO =>
  refine .a6 aq (Nat.le_refl _) ?_ aO;rw [wo];exact .bn (po en L)
 | @l g g1 g' p z n cs cs' xs xs' aq ah _ _ gj fV =>
  refine .a6 aq (Nat.le_refl _) ?_ fV
  grind
 | @jd α g g1 g' q s m en L new cO xs xs' av aq a_ _ _ gj fV=>exact .bI av aq (Nat.ne_of_beq_eq_false a_) (.pre (po en L) gj) fV
 | @nP g g1 g' cs cs' xs xs' _ _ gj fV=>exact .agg gj fV
 | @b g g1 g' p cs cs' xs xs' aq _ _ gj fV=>exact .obj aq gj fV
inductive fK:List ab->List ab->Prop
 | nil:fK [] []
 | h3 {xs:List ab}:fK xs xs
 | f {x:ab}{xs ys:List ab}(t:fK xs ys):fK (x::xs) (x::ys)
 | o {z:Nat}{xs ys:List ab}(t:fK xs ys):fK (.aS::xs) (.own z 0 []::ys)
 | z {x y:ab}{xs ys:List ab} [aC:b6 x] [hv:j4 x y] (t:fK xs ys):fK (x::xs) (y::ys)
 | g {x y:ab}{xs ys:List ab}(h:gX x y) (t:fK xs ys):fK (x::xs) (y::ys)
theorem fK.len {xs ys:List ab}(h:fK xs ys):ys.length=xs.length:=by
 induction h with
 | nil=>rfl
 | h3=>rfl
 | f _ aO=>simp [aO]
 | o _ aO=>simp [aO]
 | z _ aO=>simp [aO]
 | g _ _ aO=>simp [aO]
theorem fK.get {xs ys:List ab}(h:fK xs ys):∀ (k:Nat) (x y:ab),xs[k]?=some x->ys[k]?=some y->gX x y:=by
 induction h with
 | nil=>intro k x y J; simp at J
 | h3=>intro k x y J ao; rw [J] at ao; cases ao; exact .refl
 | @f x xs ys _ aO =>
  intro k a b aJ ar;cases k with
  | zero=>simp at aJ ar; subst aJ ar; exact .refl
  | succ k=>exact aO k a b (by simpa using aJ) (by simpa using ar)
 | @o z xs ys _ aO =>
  intro k a b aJ ar;cases k with
  | zero=>simp at aJ ar; subst aJ ar; exact .Df
  | succ k=>exact aO k a b (by simpa using aJ) (by simpa using ar)
 | @z x y xs ys aC hv _ aO =>
  intro k a b aJ ar;cases k with
  | zero=>simp at aJ ar; subst aJ ar; exact .pe aC.bn (hv.v _)
  | succ k=>exact aO k a b (by simpa using aJ) (by simpa using ar)
 | @g x y xs ys h _ aO =>
  grind
theorem fK.pre {xs ys:List ab}(h:fK xs ys):∀ ps:List ab,fK (ps++xs) (ps++ys)
 | []=>h
 | _::ps=>.f (fK.pre h ps)
theorem fK.own {z n:Nat}{xs ys:List ab}(h:fK xs ys):gX (.own z n xs) (.own z n ys):=.own h.len h.get
theorem fK.obj {xs ys:List ab}(h:fK xs ys):gX (.obj xs) (.obj ys):=.obj h.len h.get
theorem fK.agg {xs ys:List ab}(h:fK xs ys):gX (.agg xs) (.agg ys):=.agg h.len h.get
theorem gX.kZ [aC:b6 x] [hv:j4 x y]:gX x y:=.pe aC.bn (hv.v _)
theorem bj.Br {o:Oper}{x:Operand}{y bF y':ab}{G2:List (Nat × ab)}(aX:o.op=.assign x) (aQ:o.dst=some d) (J:Rd g x y) (au:eS g [y] [bF] g1) (aW:gX bF y') (dh:Trim false g1 (get G2) G2) (aN:get G2 d=none) (bp:N.ok d=true):bj P N g o (cV (get G2) d y') :=
 .assign aX aQ J.bs au.take aW dh.keep aN bp
theorem bj.ML {o:Oper}{x:Operand}{en:bN α}{L M R:List α}{s m:Nat}{new cO:List ab}{G2:List (Nat × ab)}(aX:o.op=.assign x) (aQ:o.dst=some d) (J:Rd g x (.a6 en.z ⟨s,[]⟩ (L.length+m))) (av:g s=some (.bI en.z q L.length m new)) (aq:bE g q=some (aD en L)) (a_:Nat.beq q.root s=false)
  (h1:eS (ct (ct g ⟨s,[]⟩ .dead) q .dead) new cO g1) (aW:fK cO (bB en M)) (hm:M.length=m) (hr:L++M=R) (dh:Trim false g1 (get G2) G2) (aN:get G2 d=none) (bp:N.ok d=true):bj P N g o (cV (get G2) d (aD en R)):=by
 subst hm hr;have au:=eS.jd (xs:=[]) (xs':=[]) av aq a_ h1 .nil;rw [<- pZ];exact .assign aX aQ J.bs au.take (aW.pre _).own dh.keep aN bp
theorem bj.tv {o:Oper}{k0:Nat}{cs1 cs' cs2:List ab}{y bF y':ab}{G2:List (Nat × ab)}(aX:o.op=.store t a b) (aQ:o.dst=none) (aJ:Rd g a (.ptr ⟨r,[]⟩ k0)) (ar:Rd g b y) (au:eS g [y] [bF] g1) (o':gX bF y') (aa:o4 y'=some cs') (aW:hF P t cs'.length=true)
  (av:g1 r=some (.obj cs1)) (hk:Nat.ble (k0+cs'.length) cs1.length=true) (aK:Nat.blt 0 cs'.length=true) (he:e4 cs1 k0 cs'=cs2) [eN:dp cs1] (hr:(get G2 r).isSome=true) (dh:lu g1 (get G2) r cs2 G2):bj P N g o (get G2):=by
 subst he;refine .store aX aQ aJ.bs ar.bs au.take o' aa aW (p:=⟨r,[]⟩) (nd:=.obj cs1) (z:=0) (n:=0) (by simp [bE,av,ab.at]) (.inr rfl) (Nat.le_of_ble_eq_true hk) (by simpa using aK) (λt x J=>?_) (λt x J y ao=>?_) (λt z q n m new J=>?_) (by intro e; rw [e] at hr; cases hr)
 ·rcases dh.spec t x J with ⟨h1,af,_⟩ | ⟨h1,af,_⟩
  all_goals grind [ct,ab.setAt,ab.e4]
 ·rcases dh.spec t x J with ⟨h1,af,aE⟩ | ⟨h1,af,aE⟩
  ·rw [af] at ao;cases ao;exact aE.wm
  ·subst h1;rw [av] at ao;cases ao;exact .bn (.obj eN.bn)
 ·rcases dh.spec t _ J with ⟨_,_,aE⟩ | ⟨_,af,_⟩
  ·exact aE.fJ _ _ _ _ _ rfl
  grind
theorem bj.G9 {o:Oper}{k0 s m:Nat}{en:bN α}{L M R:List α}{new cO:List ab}{cs1 cs2:List ab}{G2:List (Nat × ab)}(aX:o.op=.store t a b) (aQ:o.dst=none) (aJ:Rd g a (.ptr ⟨r,[]⟩ k0)) (ar:Rd g b (.a6 en.z ⟨s,[]⟩ (L.length+m))) (qy:g s=some (.bI en.z q L.length m new)) (aq:bE g q=some (aD en L)) (a_:Nat.beq q.root s=false)
  (h1:eS (ct (ct g ⟨s,[]⟩ .dead) q .dead) new cO g1) (o':fK cO (bB en M)) (hm:M.length=m) (aY:L++M=R) (aW:hF P t 1=true)
  (av:g1 r=some (.obj cs1)) (hk:Nat.ble (k0+1) cs1.length=true) (he:e4 cs1 k0 [aD en R]=cs2) [eN:dp cs1] (hr:(get G2 r).isSome=true) (dh:lu g1 (get G2) r cs2 G2):bj P N g o (get G2):=by
 subst hm aY;have au:=eS.jd (xs:=[]) (xs':=[]) qy aq a_ h1 .nil;refine .tv (y':=aD en (L++M)) aX aQ aJ ar au ?_ rfl aW av hk rfl he hr dh;rw [<- pZ]; exact (o'.pre _).own
inductive oq (r:Nat) (cs:List ab) (k0:Nat):Nat->List ab->List ab->Prop
 | nil {i:Nat}:oq r cs k0 i [] []
 | b {i:Nat}{xs ys:List ab}(hi:Nat.beq i k0=true) (t:oq r cs k0 (i+1) xs ys):oq r cs k0 i (.ptr ⟨r,[]⟩ 0::xs) (.obj cs::ys)
 | n {i:Nat}{x:ab}{xs ys:List ab}(hi:Nat.beq i k0=false) [aC:b6 x] (t:oq r cs k0 (i+1) xs ys):oq r cs k0 i (x::xs) (x::ys)
theorem oq.len {cs:List ab}{k0 i:Nat}{xs ys:List ab}(h:oq r cs k0 i xs ys):ys.length=xs.length:=by
 induction h with
 | nil=>rfl
 | b _ _ aO=>simp [aO]
 | n _ _ aO=>simp [aO]
theorem oq.Y2 {cs:List ab}{k0 i:Nat}{xs ys:List ab}(h:oq r cs k0 i xs ys) (hi:k0<i):xs=ys/\∀ x∈xs,cG x:=by
 induction h with
 | nil=>exact ⟨rfl,by simp⟩
 | @b i _ _ h _ _=>have:=Nat.eq_of_beq_eq_true h; omega
 | @n i x xs ys _ aC _ aO =>
  obtain ⟨h1,af⟩:=aO (by omega);exact ⟨by rw [h1],sA aC.bn af⟩
theorem oq.take {cs:List ab}{k0 i:Nat}{xs ys:List ab}(h:oq r cs k0 i xs ys) (av:g r=some (.obj cs)) (aC:∀ x∈cs,cG x):i<=k0->k0<i+xs.length->Take g xs ys (ct g ⟨r,[]⟩ .dead):=by
 induction h with
 | nil=>intro h1 af; simp at af; omega
 | @b i xs ys hi t _ =>
  intro h1 af;have:=Nat.eq_of_beq_eq_true hi;obtain ⟨e,oF⟩:=t.Y2 (by omega);subst e;exact .obj (by simp [bE,av,ab.at]) (.bn aC) (.bn oF)
 | @n i x xs ys hi J _ aO =>
  intro h1 af;have:=Nat.ne_of_beq_eq_false hi;simp only [List.length_cons] at af;exact .cons J.bn (aO (by omega) (by omega))
theorem oq.S9 {cs:List ab}{k0 i:Nat}{xs ys:List ab}(h:oq r cs k0 i xs ys):i<=k0->k0<i+xs.length->xs[k0 - i]?=some (.ptr ⟨r,[]⟩ 0):=by
 induction h with
 | nil=>intro h1 af; simp at af; omega
 | @b i xs ys hi _ _=>intro _ _; have:=Nat.eq_of_beq_eq_true hi; subst this; simp
 | @n i x xs ys hi _ _ aO =>
  grind [Nat.ne_of_beq_eq_false]
def vY (n k0:Nat) (x:ab):List (Option ab):=(List.range n).map λi=>if i=k0 then some x else none
inductive yS (g:aM) (d r:Nat) (n:Nat) (G4:List (Nat × ab)):List (Nat × ab)->Prop
 | nil:yS g d r n G4 []
 | c {s k:Nat}{l:List (Nat × ab)}(h:g s=some (.ptr ⟨r,[]⟩ k)) (hk:Nat.blt k n=true) (aQ:Nat.beq s d=false) (bm:get G4 s=none) (t:yS g d r n G4 l):yS g d r n G4 ((s,.ptr ⟨r,[]⟩ k)::l)
theorem Fl {A B:List (Nat × ab)}{t:Nat}:get (A++B) t=match get A t with | some x=>some x | none=>get B t:=by
 induction A with
 | nil=>rfl
 | cons p A aO =>
  grind [get]
theorem yS.spec {n:Nat}{G4 A:List (Nat × ab)}(h:yS g d r n G4 A):∀ t x,get A t=some x->get G4 t=none/\t≠d/\g t=some x/\∃ k,x=.ptr ⟨r,[]⟩ k/\k<n:=by
 induction h with
 | nil=>intro t x J; cases J
 | @c s k l h hk aQ bm _ aO =>
  intro t x J;simp only [get] at J
  split at J
  ·rename_i e;subst e;cases J
   simp_all [Nat.ne_of_beq_eq_false]
  grind
theorem k1.jQ {o:Oper}{xs:List Operand}{fR:Array TypeId}{f:FuncId}{ys args:List ab}{res:ab}{cs cs':List ab}{k0:Nat}{G2 A:List (Nat × ab)}(aX:o.op=.call { callee:=.value (.func f),args:=xs.toArray,argTypes:=fR }) (aQ:o.dst=some d) (J:Own.hn g xs=some ys)
  (av:g r=some (.obj cs)) [eN:dp cs] (aJ:oq r cs k0 0 ys args) (ny:Nat.blt k0 ys.length=true) (hj:bS P f args (vY args.length k0 (.obj cs')) res) (aU:hG P f=true) [hr:b6 res] [FD:dp cs']
  (dh:Trim false (ct g ⟨r,[]⟩ .dead) (get ((r,.dead)::G2)) G2) (aN:get G2 d=none) (uk:Nat.beq r d=false) (B3:Trim false (get ((r,.obj cs')::G2)) (get ((r,.obj cs')::G2)) G2) (dL:yS g d r cs'.length ((r,.obj cs')::G2) A) (bp:N.ok d=true) :
  k1 P N g o d (get (A++(d,res)::(r,.obj cs')::G2)):=by
 have aev:k0<ys.length:=by simpa using ny
 have CF:r≠d:=Nat.ne_of_beq_eq_false uk;have vr:args.length=ys.length:=aJ.len;have rj:(vY args.length k0 (.obj cs'))[k0]?=some (some (.obj cs')):=by
  unfold vY;rw [List.getElem?_map,List.getElem?_range (by omega)];simp
 have Xx:∀ (k:Nat) (x:ab),(vY args.length k0 (.obj cs'))[k]?=some (some x)->x=.obj cs':=by
  intro k x h;unfold vY at h;rw [List.getElem?_map] at h;cases hk:(List.range args.length)[k]? with
  | none=>rw [hk] at h; cases h
  | some j =>
   rw [hk] at h;simp only [Option.map_some,Option.some.injEq] at h
   split at h
   ·exact (Option.some.inj h).symm
   ·cases h
 have IA:get ((r,ab.dead)::G2) r=some .dead:=by simp [get]
 have C4:iE (ct g ⟨r,[]⟩ .dead) (get ((r,.dead)::G2)):=by
  refine ⟨λt x h=>?_,λt x h=>?_,λt z q n m new h=>?_⟩
  all_goals
   simp only [get] at h
   split at h
  ·rename_i e; subst e; cases h; simp [ct,av,ab.setAt]
  ·obtain ⟨⟨y,h1,_,aE⟩,_⟩:=dh.spec t x h; rw [<- aE rfl]; exact h1
  ·cases h; exact .bn .dead
  ·exact (dh.spec t x h).2.1
  ·cases h
  ·exact (dh.spec t _ h).2.2 _ _ _ _ _ rfl
 have put:qJ (get ((r,.dead)::G2)) [(⟨r,[]⟩,.obj cs')]=get ((r,.obj cs')::G2):=by
  funext t;simp only [qJ,ct,get];by_cases h:t=r
  ·simp [h,ab.setAt]
  ·simp [h]
 have C5:iE (get ((r,.obj cs')::G2)) (get ((r,.obj cs')::G2)):=by
  refine ⟨λt x h=>h,λt x h=>?_,λt z q n m new h=>?_⟩
  all_goals
   simp only [get] at h
   split at h
  ·cases h; exact .bn (.obj FD.bn)
  ·exact (B3.spec t x h).2.1
  ·cases h
  ·exact (B3.spec t _ h).2.2 _ _ _ _ _ rfl
 refine Bf.ok (first:=[]) (caps:=[]) (ys:=ys) (tk:=λ_=>true) (vw:=false) (outs:=vY args.length k0 (.obj cs')) (g1:=ct g ⟨r,[]⟩ .dead) (g2:=get ((r,.dead)::G2)) (g4:=get ((r,.obj cs')::G2)) (l:=[(⟨r,[]⟩,.obj cs')]) (ks:=λ_=>k0) (xs0:=ys) (xs1:=args) (args:=args) (res:=res) aX aQ rfl (by simpa using J)
  ⟨aU,by simp,by simpa using vr,λk x h=>.inl (by simpa using h),aJ.take av eN.bn (Nat.zero_le _) (by omega),C4,λk x y _ ao=>by simpa using ao,hj,by simpa using hr.bn,λk x h=>by rw [Xx k x h]; simpa using cG.obj FD.bn,λj p x ag=>?_,by simp,λi j hi ag _=>by simp at hi ag; omega,by rw [put]; exact C5⟩ ?_ bp ?_
 ·cases j with
  | succ j=>simp at ag
  | zero =>
   simp only [List.getElem?_cons_zero,Option.some.injEq,Prod.mk.injEq] at ag;obtain ⟨rfl,rfl⟩:=ag;refine ⟨rj,by simp [bE,IA,ab.at],.inr ⟨cs,?_,by simp [bE,av,ab.at]⟩,λ_ h=>by cases h⟩;have:=aJ.S9 (Nat.zero_le _) (by omega);simpa using this
 ·simp only [get,if_neg (Ne.symm CF)]; exact aN
 ·refine ⟨λt x h=>?_,λt x h=>?_⟩
  ·rw [sZ] at h;rw [Fl];cases r6:get A t with
   | none=>exact h
   | some y =>
    obtain ⟨h1,af,_⟩:=dL.spec t y r6;simp only [get,if_neg af] at h;simp only [get] at h1;rw [h1] at h; cases h
  ·rw [sZ];rw [Fl] at h;cases r6:get A t with
   | none=>rw [r6] at h; exact .inl h
   | some y =>
    rw [r6] at h;cases h;obtain ⟨h1,af,aE,k,rfl,hk⟩:=dL.spec t x r6;refine .inr ⟨?_,af,aE,r,k,cs',rfl,CF,?_,hk⟩
    ·simp only [get,if_neg af]; exact h1
    ·simp only [get,if_neg CF,if_true]
end
instance {cs:List ab}{n:Nat}{x:ab} [h:dp cs] [J:b6 x]:dp (cs.set n x):=⟨λy ao=>by
 rcases List.mem_or_eq_of_mem_set ao with aI | aI
 ·exact h.bn y aI
 ·rw [aI]; exact J.bn⟩
instance {x y:ab} [h:b6 y]:b6 (x.setAt [] y):=⟨by simpa [ab.setAt] using h.bn⟩
def rG (m n:Int):Option Int:=if n=0 then none else some (IntKind.u64.wrap (m.tdiv n))
def rI (m n:Int):Option Int:=if n=0 then none else some (m.tmod n)
inductive kl:List ab->List ab->Prop
 | nil:kl [] []
 | f {x:ab}{xs ys:List ab}(t:kl xs ys):kl (x::xs) (x::ys)
 | o {z:Nat}{xs ys:List ab}(t:kl xs ys):kl (.aS::xs) (.own z 0 []::ys)
 | i {z:Nat}{xs ys:List ab}(t:kl xs ys):kl (.aS::xs) (.bl z 0 []::ys)
theorem kl.len {xs ys:List ab}(h:kl xs ys):ys.length=xs.length:=by
 induction h with
 | nil=>rfl
 | f _ aO=>simp [aO]
 | o _ aO=>simp [aO]
 | i _ aO=>simp [aO]
theorem kl.get {xs ys:List ab}(h:kl xs ys):∀ (k:Nat) (x y:ab),xs[k]?=some x->ys[k]?=some y->nN x y:=by
 induction h with
 | nil=>intro k x y J; simp at J
 | f _ aO =>
  intro k a b aJ ar;cases k with
  | zero=>simp at aJ ar; subst aJ ar; exact .refl
  | succ k=>exact aO k a b (by simpa using aJ) (by simpa using ar)
 | o _ aO =>
  intro k a b aJ ar;cases k with
  | zero=>simp at aJ ar; subst aJ ar; exact .pY
  | succ k=>exact aO k a b (by simpa using aJ) (by simpa using ar)
 | i _ aO =>
  intro k a b aJ ar;cases k with
  | zero=>simp at aJ ar; subst aJ ar; exact .pX
  | succ k=>exact aO k a b (by simpa using aJ) (by simpa using ar)
theorem kl.obj {xs ys:List ab}(h:kl xs ys):nN (.obj xs) (.obj ys):=.obj h.len h.get
section
variable {P:Program}{N:cP}{ops:Array Oper}{g g' g1 g2:aM}{K:aM->Prop}{l:List Oper}{d r:Nat}{op:Op}{ty t t2:TypeId}{pos:String}{after:Array Edge}{gd:Option (Nat × Bool)}{a b c:Operand}{p q:Place}{x y:ab}{k:IntKind}{m n:Int}
variable {bd:List (List Nat)}{g0:aM}{acc:Acc}{i:Nat}
def sz:List Nat->Bool
 | []=>true
 | x::l=>l.all (λy=>!Nat.beq x y)&&sz l
theorem Gd:∀ {l:List Place},sz (l.map Place.root)=true->l.Nodup
 | [],_=>List.nodup_nil
 | p::l,h=>by
  simp only [List.map_cons,sz,Bool.and_eq_true,List.all_eq_true] at h;refine List.nodup_cons.2 ⟨λhm=>?_,Gd h.2⟩;have:=h.1 p.root (List.mem_map.2 ⟨p,hm,rfl⟩);simp at this
theorem bx.zm (bV:Nat) {G G2:List (Nat × ab)}{o:Oper}(he:bj P N (ds (get G) (λ_=>true) acc) o (get G2)) (aN:o.guard=none) (gS:sz ((acc.filterMap lj).map Place.root)=true) (fO:oc G=true) (ag:Nat.beq ops.size (bV+l.length+1)=true)
  (aJ:(List.range bV).all (λk=>(bd.getD bV []).contains k)=true) (ar:(List.range ops.size).all (λk=>Nat.ble k bV||(bd.getD k []).contains bV)=true) (hk:bx P N ops bd (get G2) (bV+1) [] l K):bx P N ops bd (get G) i acc (o::l) K:=by
 intro dE j bT lZ mh;have:=BM mh ag;subst this;obtain ⟨h1,af⟩:=drop_cons mh;obtain ⟨g',hr,c5⟩:=hk [] (j+1) .nil .nil af;refine ⟨g',.Ti bT lZ (Gd gS) (x0 fO) h1 ?_ he aJ ?_ hr,c5⟩
 ·grind [iH]
 simp_all
theorem bx.bv (bV:Nat) {G G2:List (Nat × ab)}{o:Oper}{x:ab}(he:bj P N (ds (get G) (λ_=>true) acc) o (cV (get G2) d x)) (aN:o.guard=none) (gS:sz ((acc.filterMap lj).map Place.root)=true) (fO:oc G=true) (ag:Nat.beq ops.size (bV+l.length+1)=true)
  (aJ:(List.range bV).all (λk=>(bd.getD bV []).contains k)=true) (ar:(List.range ops.size).all (λk=>Nat.ble k bV||(bd.getD k []).contains bV)=true) (hk:bx P N ops bd (get ((d,x)::G2)) (bV+1) [] l K):bx P N ops bd (get G) i acc (o::l) K :=
 .zm bV (sZ ▸ he) aN gS fO ag aJ ar hk
class HM (s:Nat) (g:aM):Prop where fJ:∀ t,t≠s->∀ z q n m new,g t≠some (.bI z q n m new)
class y_ (s:Nat) (acc:Acc):Prop where fJ:∀ e∈acc,e.2.1≠s->∀ z q n m new,e.2.2≠some (.bI z q n m new)
instance {s:Nat}:y_ s []:=⟨by simp⟩
instance {s j d:Nat}{x:ab}{acc:Acc} [J:p_ x] [h:y_ s acc]:y_ s ((j,d,some x)::acc):=⟨λe he av z q n m new bO=>by
 rcases List.mem_cons.1 he with rfl | he
 ·exact J.fJ z q n m new (Option.some.inj bO)
 ·exact h.fJ e he av z q n m new bO⟩
instance {s j:Nat}{x:Option ab}{acc:Acc} [h:y_ s acc]:y_ s ((j,s,x)::acc):=⟨λe he av z q n m new bO=>by
 rcases List.mem_cons.1 he with rfl | he
 ·exact absurd rfl av
 ·exact h.fJ e he av z q n m new bO⟩
instance {s:Nat}{G:List (Nat × ab)}{A:Nat->Bool}{acc:Acc} [aN:rU (get G)] [h:y_ s acc]:HM s (ds (get G) A acc):=⟨λt au z q n m new e=>by
 rcases u1 e with ⟨b5,he,h1,_,af⟩ | ⟨_,af⟩
 ·exact h.fJ b5 he (by rw [h1]; exact au) _ _ _ _ _ af
 ·exact aN.fJ _ _ _ _ _ _ af⟩
namespace O
theorem rG {r:Int}(J:Rd g a (.lit (.int .u64 m))) (ao:Rd g b (.lit (.int .u64 n))) (h:Own.rG m n=some r):cf P g (.binOp .quo t a b t2) ty (.lit (.int .u64 r)):=by
 unfold Own.rG at h
 split at h
 ·cases h
 ·cases h; exact .eD (.quo J ao (by assumption))
theorem rI {r:Int}(J:Rd g a (.lit (.int .u64 m))) (ao:Rd g b (.lit (.int .u64 n))) (h:Own.rI m n=some r):cf P g (.binOp .rem t a b t2) ty (.lit (.int .u64 r)):=by
 unfold Own.rI at h
 split at h
 ·cases h
 ·cases h; exact .eD (.rem J ao (by assumption))
theorem UL {L:List Int}(J:Rd g a (.bl r4.z L.length (bB r4 L))) (au:zq P t t2=true):cf P g (.convert t t2 a) ty (a1 (strOfNums L)):=by
 have h:=J.bs;rw [QM] at h;exact .eD (.Fb h au)
theorem vf {e e1:Nat}{parts:Array (Nat × Operand)}{ys cs:List ab}{z:Nat}(au:ft P t e z=true) (J:hn g (parts.toList.map (·.2))=some ys) (aa:o3 ys=some cs) (aW:ys.all (λy=>match j5 y with | some c=>Nat.beq c.length z | none=>false)=true)
  (aq:parts.toList=(parts.toList.map (·.2)).mapIdx (λi x=>(i,x))) (aC:(parts.toList.map (·.2)).length=e1) (hzero:jf P e z=true) (ar:Nat.ble (e1 * z) 16777216=true) (hS:Nat.ble e1 16777216=true):cf P g (.buildSlice t e1 parts) ty (.own z e1 cs):=by
 subst aC;exact .sC (.buildSlice au aq J (λy ao=>by
  grind [Nat.eq_of_beq_eq_true]) aa (Nat.le_of_ble_eq_true ar) (Nat.le_of_ble_eq_true hS) (.inr (RS hzero)))
theorem Rh {z m:Nat}{cs:List ab}(a_:bE g q=some (.own z m cs)) (ah:cs.length=m * z) (aU:cs.all mc=true):Src g (.a6 z q m) z m cs:=by
 have:=Src.a6 (g:=g) (m:=m) a_ (Nat.le_refl _)
 simp_all [List.take_of_length_le,BV]
theorem HX {en:bN α}{L M r:List α}{e gF m:Nat}{cs:List ab}(av:Rd g a (.a6 en.z p L.length)) (aq:bE g p=some (aD en L)) (J:Rd g b (.a6 en.z q m)) (a_:bE g q=some (.own en.z m cs)) (ah:cs.length=m * en.z) (aU:cs.all mc=true) (hm:M.length=m) (au:im P t e en.z gF=true) (ar:Nat.ble gF 128=true) (h:c8 L M=some r) [eN:rU g] :
  cf P g (.call { callee:=.builtin .append,args:=#[a,b],argTypes:=#[t,t] }) ty (.bI en.z p L.length m cs):=by
 subst hm;obtain ⟨h1,af,_⟩:=wP h ar;exact .l4 (.grow av.bs (.inl ⟨_,aq⟩) (λt bQ cm m' cO e=>eN.fJ _ _ _ _ _ _ e) J.bs (Rh a_ ah aU) au h1 af)
theorem E0 {en:bN α}{L M M2 r:List α}{y:ab}{e gF s:Nat}(av:Rd g a (.a6 en.z ⟨s,[]⟩ (L.length+M.length))) (qy:g s=some (.bI en.z q L.length M.length (bB en M))) (aq:bE g q=some (aD en L)) (J:Rd g b y) (hm:ox g en y M2) (au:im P t e en.z gF=true) (ar:Nat.ble gF 128=true) (h:c8 (L++M) M2=some r) [eN:HM s g] :
  cf P g (.call { callee:=.builtin .append,args:=#[a,b],argTypes:=#[t,t] }) ty (.bI en.z ⟨s,[]⟩ (L.length+M.length) M2.length (bB en M2)):=by
 obtain ⟨h1,af,_⟩:=wP h ar;rw [List.length_append] at h1 af;refine .l4 (.grow av.bs (.inr ⟨rfl,q,L.length,M.length,bB en M,_,qy,rfl,aq⟩) (λt bQ cm m' cO e=>?_) J.bs hm.src au h1 af);by_cases XR:t=s
 ·grind [bE,ab.at]
 ·exact eN.fJ t XR _ _ _ _ _ e
theorem PS {en:bN α}{z0:α}{r:List α}{e gF:Nat}{cY:Value}(au:ft P t e en.z=true) (J:Rd g a (.lit (.int k m))) (ao:Rd g b (.lit (.int .i64 m))) (hzero:(P.info? e).bind (·.zero)=some cY) (h1:cY.cells.toList.all Value.oneCell'=true) (hT:(en.cells z0).length=cY.cells.size) (WU:∀ (k:Nat) (u:Value) (x:ab),cY.cells[k]?=some u->(en.cells z0)[k]?=some x->x=kC u\/(kC u=.aS/\∃ bQ,x=.bl bQ 0 [])) (h:oO m z0=some r) (i_:(P.info? e).map (·.bytes)=some gF) (ar:Nat.ble gF 128=true) :
  cf P g (.makeSlice t a b) ty (aD en r):=by
 unfold oO at h
 split at h
 ·rename_i hm;have s9:lim=1099511627776:=rfl;have j7:=Nat.le_of_ble_eq_true ar;obtain ⟨j,rfl⟩:=Int.eq_ofNat_of_zero_le hm.1;cases h;have ag:j<=1099511627776:=by omega
  have fr:cY.cells.size=en.z:=by rw [<- hT,en.len]
  have:=ov.makeSlice (P:=P) (ty:=ty) au J.bs ao.bs hzero (by rw [<- Array.all_toList]; exact h1) fr i_ (by
   calc j * gF<=1099511627776 * 128:=Nat.mul_le_mul ag j7
    _=140737488355328:=by decide) (by omega) hT WU
  have b9:(List.replicate j (en.cells z0)).flatten=bB en (List.replicate j z0):=by simp [bB,List.flatMap_def]
  unfold aD;rw [Int.toNat_natCast,List.length_replicate,<- b9];exact .sC this
 ·cases h
theorem mk {en:bN α}{z0:α}{r:List α}{e gF:Nat}{cY:Value}(au:ft P t e en.z=true) (J:Rd g a (.lit (.int k m))) (ao:Rd g b (.lit (.int .i64 m))) (hzero:(P.info? e).bind (·.zero)=some cY) (h1:cY.cells.toList.all Value.oneCell'=true) (aa:cY.cells.toList.map kC=en.cells z0) (h:oO m z0=some r) (i_:(P.info? e).map (·.bytes)=some gF) (ar:Nat.ble gF 128=true) :
  cf P g (.makeSlice t a b) ty (aD en r):=by
 grind [PS]
theorem YU {e:bN β}{r:List (List β)}{m:Int}{k:IntKind}{a b:Operand}{t ty:TypeId}{w7 gF:Nat}{cY:Value}(au:ft P t w7 (bC e).z=true) (J:Rd g a (.lit (.int k m))) (ao:Rd g b (.lit (.int .i64 m))) (hzero:(P.info? w7).bind (·.zero)=some cY) (h1:cY.cells.toList.all Value.oneCell'=true) (aa:cY.cells.toList.map kC=[.aS]) (h:oO m ([]:List β)=some r) (i_:(P.info? w7).map (·.bytes)=some gF) (ar:Nat.ble gF 128=true) :
  cf P g (.makeSlice t a b) ty (aD (bC e) r):=by
 refine PS au J ao hzero h1 ?_ (λk u x hu J=>.inr ?_) h i_ ar
 ·grind [List.length_map,bC]
 ·have ah:=congrArg List.length aa;rw [List.length_map] at ah;have hk:k=0:=by
   grind
  subst hk;have h0:cY.cells.toList[0]?=some u:=by simpa using hu
  have af:=congrArg (λl=>l[0]?) aa;simp only [List.getElem?_map,h0,Option.map_some] at af;have af:=Option.some.inj af;refine ⟨af,e.z,?_⟩;have J:([ak e []]:List ab)[0]?=some x:=J;have:x=ak e []:=(Option.some.inj J).symm;rw [this];rfl
theorem PR (J:Rd g a (ae m)) (ao:Rd g b (ae n)):cf P g (.call { callee:=.builtin .min,args:=#[a,b],argTypes:=#[t,t2] }) ty (ae (min m n)):=.eD (.lits (vs:=[.int .i64 m,.int .i64 n]) (by simp [J.bs,ao.bs]) rfl λw cs=>by
 have:(if n<m then n else m)=min m n:=by omega
 simp [builtin,Builtin.min_,Builtin.min2,this])
theorem Ga (J:Rd g a (ae m)) (ao:Rd g b (ae n)):cf P g (.call { callee:=.builtin .max,args:=#[a,b],argTypes:=#[t,t2] }) ty (ae (max m n)):=.eD (.lits (vs:=[.int .i64 m,.int .i64 n]) (by simp [J.bs,ao.bs]) rfl λw cs=>by
 have:(if m<n then n else m)=max m n:=by omega
 simp [builtin,Builtin.max_,Builtin.max2,this])
end O
theorem Lr (en:bN α) {L:List α}{y y2:α}{o:Nat}{cs':List ab}(h:idx L m=some y) (he:e4 (en.cells y) o cs'=en.cells y2) (hlen:o+cs'.length<=en.z):e4 (bB en L) (m.toNat * en.z+o) cs'=bB en (L.set m.toNat y2):=by
 obtain ⟨aK,h1,af⟩:=mn h;have aP:m.toNat<L.length:=(List.getElem?_eq_some_iff.1 af).1;have ao:L[m.toNat]=y:=(List.getElem?_eq_some_iff.1 af).2;have b9:bB en L=bB en (L.take m.toNat)++(en.cells y++bB en (L.drop (m.toNat+1))):=by
  grind [bB,List.take_append_drop,List.drop_eq_getElem_cons]
 have b3:bB en (L.set m.toNat y2)=bB en (L.take m.toNat)++(en.cells y2++bB en (L.drop (m.toNat+1))):=by
  grind [List.set_eq_take_append_cons_drop,bB]
 have ah:(bB en (L.take m.toNat)).length=m.toNat * en.z:=by rw [oR,List.length_take]; congr 1; omega
 rw [b9,b3,<- he];unfold e4;generalize bB en (L.take m.toNat)=A at *;generalize bB en (L.drop (m.toNat+1))=B at *;rw [<- ah];have FO:=en.len y;rw [List.take_append,List.take_of_length_le (by omega),show A.length+o - A.length=o by omega,List.take_append_of_le_length (by omega)];rw [List.drop_append,List.drop_eq_nil_of_le (by omega),show A.length+o+cs'.length - A.length=o+cs'.length by omega,List.drop_append_of_le_length (by omega)];simp
theorem IM {en:bN α}{L:List α}{i:Int}{off:Nat}{y:α}(h:idx L i=some y) (aX:Nat.blt off en.z=true):i.toNat * en.z+off<(bB en L).length:=by
 obtain ⟨D0,mq,_⟩:=mn h;have ml:off<en.z:=by simpa using aX
 rw [oR];have af:i.toNat+1<=L.length:=by omega
 calc i.toNat * en.z+off<i.toNat * en.z+en.z:=by omega
  _=(i.toNat+1) * en.z:=by rw [Nat.add_mul]; omega
  _<=L.length * en.z:=Nat.mul_le_mul_right _ af
theorem oL {L:List α}{i:Int}{y y2:α}(h:idx L i=some y):idx (L.set i.toNat y2) i=some y2:=by
 grind [idx]
inductive pA (g g2:aM):ab->Prop
 | mk {α:Type}{en:bN α}{L Mn:List α}{r j off:Nat}{i:Int}{y y2:α}(h1:bE g ⟨r,[j]⟩=some (aD en L)) (hi:idx L i=some y) (af:bE g2 ⟨r,[j]⟩=some (aD en Mn)) (Cp:idx Mn i=some y2) (aX:Nat.blt off en.z=true):pA g g2 (.ptr ⟨r,[j]⟩ (i.toNat * en.z+off))
theorem pA.Qa {x:ab}(h:pA g g2 x):gE g x:=by
 cases h with
 | mk h1 hi af Cp aX=>exact ⟨_,h1,_,_,_,.inl rfl,IM hi aX⟩
theorem pA.Gn {x:ab}(h:pA g g2 x):gE g2 x:=by
 cases h with
 | mk h1 hi af Cp aX=>exact ⟨_,af,_,_,_,.inl rfl,IM Cp aX⟩
theorem pA.b0 {x:ab}(h:pA g g2 x):cW g2 x:=by
 have:=h.Gn;cases h with
 | mk=>exact .ref rfl this
theorem pA.fJ {x:ab}(h:pA g g2 x):∀ z p n m new,x≠.bI z p n m new:=by
 cases h with
 | mk=>simp
theorem pA.clear {x:ab}{k0 m0:Nat}(h:pA g g2 x) (aq:p.path≠[]):Clear p k0 m0 x:=by
 cases h with
 | mk =>
  intro q a_ _ j c' e;simp only [AZ,Option.some.injEq] at a_;subst a_;cases FG:p.path with
  | nil=>exact absurd FG aq
  | cons a b=>rw [FG] at e; simp at e
inductive k4 (g g2:aM) (r:Nat) (x2:ab):List (Nat × ab)->Prop
 | nil:k4 g g2 r x2 []
 | n {s:Nat}{x:ab}{l:List (Nat × ab)}(cS:Nat.beq s r=false) (h:g s=some x) [aC:b6 x] (t:k4 g g2 r x2 l):k4 g g2 r x2 ((s,x)::l)
 | p {s q k:Nat}{l:List (Nat × ab)}{cs kL:List ab}(cS:Nat.beq s r=false) (h:g s=some (.ptr ⟨q,[]⟩ k)) (h1:g q=some (.obj cs)) (hk:Nat.blt k cs.length=true) (af:g2 q=some (.obj kL)) (fF:Nat.blt k kL.length=true) (t:k4 g g2 r x2 l):k4 g g2 r x2 ((s,.ptr ⟨q,[]⟩ k)::l)
 | e {s:Nat}{x:ab}{c2:List ab}{l:List (Nat × ab)}(cS:Nat.beq s r=false) (h:g s=some x) (he:pA g g2 x) (gv:x2=.obj c2) (t:k4 g g2 r x2 l):k4 g g2 r x2 ((s,x)::l)
 | w {α:Type}{s q:Nat}{en:bN α}{L:List α}{l:List (Nat × ab)}(cS:Nat.beq s r=false) (h:g s=some (.a6 en.z ⟨q,[]⟩ L.length)) (h1:g q=some (aD en L)) (af:g2 q=some (aD en L)) (t:k4 g g2 r x2 l):k4 g g2 r x2 ((s,.a6 en.z ⟨q,[]⟩ L.length)::l)
 | b {l:List (Nat × ab)}{x:ab}(e:x=x2) [aC:b6 x2] (t:k4 g g2 r x2 l):k4 g g2 r x2 ((r,x)::l)
theorem k4.spec {x2:ab}{l:List (Nat × ab)}(h:k4 g g2 r x2 l):∀ t x,get l t=some x->(t≠r/\g t=some x/\(qd g g2 x\/pA g g2 x/\∃ c2,x2=.obj c2))\/(t=r/\x=x2/\cG x):=by
 induction h with
 | nil=>intro t x J; cases J
 | @n s x l cS h aC _ aO =>
  intro t y ao;simp only [get] at ao
  split at ao
  ·rename_i e;subst e;cases ao;exact .inl ⟨Nat.ne_of_beq_eq_false cS,h,.inl (.n aC.bn)⟩
  grind
 | @p s q k l cs kL cS h h1 hk af fF _ aO =>
  intro t y ao;simp only [get] at ao
  split at ao
  ·rename_i e;subst e;cases ao;exact .inl ⟨Nat.ne_of_beq_eq_false cS,h,.inl (.p h1 (by simpa using hk) af (by simpa using fF))⟩
  grind
 | @e s x c2 l cS h he gv _ aO =>
  grind [get,Nat.ne_of_beq_eq_false]
 | @w α s q en L l cS h h1 af _ aO =>
  intro t y ao;simp only [get] at ao
  split at ao
  ·rename_i e;subst e;cases ao;exact .inl ⟨Nat.ne_of_beq_eq_false cS,h,.inl (.r h1 (Nat.le_refl _) af (Nat.le_refl _))⟩
  grind
 | @b l x e aC _ aO =>
  intro t y ao;simp only [get] at ao
  split at ao
  ·rename_i b5;subst b5;cases ao;subst e;exact .inr ⟨rfl,rfl,aC.bn⟩
  grind
theorem qd.QG {x:ab}{k0 m0:Nat}(h:qd g g2 x):jE (λr=>gE g r/\Clear p k0 m0 r/\gE g2 r) x:=by
 cases h with
 | n h=>exact .bn h
 | p h hk af fF =>
  refine .ref rfl ⟨uP h hk,?_,uP af fF⟩;intro q a_ _ j c' e;simp only [AZ,Option.some.injEq] at a_;subst a_;simp at e
 | r h hk af fF =>
  refine .ref rfl ⟨AY h hk,?_,AY af fF⟩;intro q a_ _ j c' e;simp only [AZ,Option.some.injEq] at a_;subst a_;simp at e
theorem bj.uX {fW:Oper}{en:bN α}{L:List α}{iS y2:α}{o:Nat}{cs':List ab}{x2:ab}{G2:List (Nat × ab)}(aX:fW.op=.store t a b) (aQ:fW.dst=none) (aJ:Rd g a (.ptr p (m.toNat * en.z+o))) (ar:Rd g b y) (aq:bE g p=some (aD en L)) (h:idx L m=some iS) (aW:hF P t cs'.length=true)
  (aa:o4 y=some cs') (he:e4 (en.cells iS) o cs'=en.cells y2) (hlen:Nat.ble (o+cs'.length) en.z=true) (aK:Nat.blt 0 cs'.length=true) (gv:ct g p (aD en (L.set m.toNat y2)) p.root=some x2) (hr:(get G2 p.root).isSome=true) [aC:b6 y] {y0:ab}(ru:g p.root=some y0) [eN:b6 y0] (dh:k4 g (get G2) p.root x2 G2):bj P N g fW (get G2):=by
 have Cs:=Nat.le_of_ble_eq_true hlen;have ja:=Lr en h he Cs;have OI:(L.set m.toNat y2).length=L.length:=List.length_set;refine .store aX aQ aJ.bs ar.bs (.bn (by simpa using aC.bn)) .refl aa aW (p:=p) (nd:=aD en L) (z:=en.z) (n:=L.length) (cs:=bB en L) aq (.inl rfl) ?_ (by simpa using aK) (λt x J=>?_) (λt x J y ao=>?_) (λt z q n m new J=>?_) (by intro e; rw [e] at hr; cases hr)
 ·obtain ⟨D0,mq,_⟩:=mn h;rw [oR];have af:m.toNat+1<=L.length:=by omega
  calc m.toNat * en.z+o+cs'.length<=m.toNat * en.z+en.z:=by omega
   _=(m.toNat+1) * en.z:=by rw [Nat.add_mul]; omega
   _<=L.length * en.z:=Nat.mul_le_mul_right _ af
 ·have eG:(aD en L).e4 (m.toNat * en.z+o) cs'=aD en (L.set m.toNat y2):=by
   show ab.own en.z L.length (e4 (bB en L) (m.toNat * en.z+o) cs')=_
   grind
  rw [eG];rcases dh.spec t x J with ⟨h1,af,_⟩ | ⟨h1,af,_⟩
  ·grind [wu]
  grind
 ·rcases dh.spec t x J with ⟨h1,af,aE⟩ | ⟨h1,af,aE⟩
  ·rw [af] at ao;cases ao;rcases aE with aE | ⟨aE,c2,rfl⟩
   ·exact aE.QG
   ·refine jE.ref (by cases aE; rfl) ⟨aE.Qa,aE.clear ?_,aE.Gn⟩
    grind [ct,ab.setAt]
  ·subst h1;rw [ru] at ao;cases ao;exact .bn eN.bn
 ·rcases dh.spec t _ J with ⟨_,_,aE | ⟨aE,_⟩⟩ | ⟨_,_,aE⟩
  ·exact aE.fJ _ _ _ _ _ rfl
  ·exact aE.fJ _ _ _ _ _ rfl
  ·cases aE
end
end Go.Own
namespace Go.Own
open Go
variable [cF]
theorem Tk (a b:ByteArray):(a == b)=decide (a=b):=by
 obtain ⟨a⟩:=a;obtain ⟨b⟩:=b;have:(({ data:=a }:ByteArray) == { data:=b })=(a == b):=rfl;rw [this,Bool.eq_iff_iff];simp
inductive ow where
 | b | s | i (k:IntKind)
 deriving DecidableEq
def mu:Value->Option ow
 | .bool _=>some .b
 | .string _=>some .s
 | .int k _=>some (.i k)
 | _=>none
def BP (P:Program) (rc:TypeId->List ow->Bool):List Field->Nat->List ow->Bool
 | [],_,dO=>dO.isEmpty
 | f :: fs, o, dO => f.name != "_" && f.offset == o && (match P.info? f.type with
   | some i=>i.size<=dO.length&&rc f.type (dO.take i.size)&&BP P rc fs (o+i.size) (dO.drop i.size)
   | none=>false)
def tX (P:Program):Nat->TypeId->List ow->Bool
 | 0,_,_=>false
 | d+1,t,dO=>match P.underlying t with
  | some .bool=>dO == [.b]&&j6 P t
  | some (.int k)=>dO == [.i k]&&j6 P t
  | some .string=>dO == [.s]&&j6 P t
  | some (.struct fs)=>h8 P t dO.length&&!P.stoodInHeld t&&BP P (tX P d) fs.toList 0 dO
  | _=>false
def Nw:Value->Value->Bool
 | .bool a,.bool b=>a == b
 | .int _ a,.int _ b=>decide (a=b)
 | .string a,.string b=>decide (a=b)
 | _,_=>false
def lS:List Value->List Value->Bool
 | a::az,b::dg=>Nw a b&&lS az dg
 | _,_=>true
theorem Nx:∀ (az dg cs jI:List Value),az.length=dg.length->lS (az++cs) (dg++jI)=(lS az dg&&lS cs jI)
 | [],[],cs,jI,_=>by simp [lS]
 | [],_::_,_,_,h=>by simp at h
 | _::_,[],_,_,h=>by simp at h
 | a::az,b::dg,cs,jI,h=>by
  simp only [List.cons_append,lS,Nx az dg cs jI (by simpa using h),Bool.and_assoc]
def pack (P:Program) (t:TypeId) (vs:List Value):Value :=
 match P.underlying t,vs with
 | some (.struct _),_=>.agg vs.toArray
 | _,v::_=>v
 | _,[]=>.agg #[]
theorem QS {P:Program}{w:World}{t:TypeId}{d:Nat}{dO:List ow}(h:tX P (d+1) t dO=true) {cs:List Value}{o:Nat}{vs:List Value}(hv:(cs.drop o).take dO.length=vs) (ah:vs.length=dO.length) :
  (part t cs.toArray o).run P w=.ok (pack P t vs) w:=by
 unfold tX at h
 split at h
 case h_4 fs hu =>
  simp only [Bool.and_eq_true] at h;obtain ⟨h1,af⟩:=EX (w:=w) h.1.1;simp [part,h1,af,pack,hu,<- hv,List.take_drop]
 case h_5=>cases h
 all_goals
  rename_i hu;simp only [Bool.and_eq_true,beq_iff_eq] at h;obtain ⟨rfl,aa⟩:=h;obtain ⟨h1,af⟩:=Ir (w:=w) aa;obtain ⟨v,rfl⟩:∃ v,vs=[v]:=by
   rcases vs with _ | ⟨v,_ | _⟩ <;> simp at ah;exact ⟨v,rfl⟩
  have:cs[o]?=some v:=by
   have:=congrArg List.head? hv;simpa [List.head?_take] using this
  simp [part,h1,pack,hu,this]
theorem Lv {P:Program}(w:World):∀ (d:Nat) (t:TypeId) (dO:List ow),tX P d t dO=true->∀ (D:Nat),d<=D->∀ (az dg:List Value),az.map mu=dO.map some->dg.map mu=dO.map some ->
  (Op.equalIn D t (pack P t az) (pack P t dg)).run P w=.ok (lS az dg) w
 | 0,_,_,h,_,_,_,_,_,_=>by simp [tX] at h
 | d+1,t,dO,h,D,js,az,dg,aJ,ar=>by
  obtain ⟨D,rfl⟩:∃ E,D=E+1:=⟨D - 1,by omega⟩;have aK:=h;unfold tX at h
  split at h
  case h_5=>cases h
  case h_4 fs hu =>
   simp only [Bool.and_eq_true,Bool.not_eq_true'] at h;obtain ⟨⟨h1,af⟩,aE⟩:=h;have key:∀ (fs:List Field) (o:Nat) (dO:List ow) (nQ nR:List Value),BP P (tX P d) fs o dO=true->az.drop o=nQ->dg.drop o=nR->nQ.map mu=dO.map some->nR.map mu=dO.map some ->
     (forIn (m:=Sem) (β:=Option Bool × Unit) fs (none,()) λf _ =>
      if f.name = "_" then pure (.yield (none, ()))
      else do
       let x <- part f.type az.toArray f.offset
       let y <- part f.type dg.toArray f.offset
       let c <- Op.equalIn D f.type x y
       if c=false then pure (.done (some false,())) else pure (.yield (none,()))).run P w=.ok (if lS nQ nR then (none,()) else (some false,())) w:=by
    intro fs
    induction fs with
    | nil =>
     intro o dO nQ nR aN _ _ aJ ar;have av:dO=[]:=by simpa [BP] using aN
     subst av;have h1:nQ=[]:=by simpa using aJ
     have af:nR=[]:=by simpa using ar
     subst h1 af;simp [lS]
    | cons f fs aO =>
     intro o dO nQ nR aN Oq Ot aJ ar;unfold BP at aN;cases hi:P.info? f.type with
     | none=>simp [hi] at aN
     | some i =>
      simp only [hi,Bool.and_eq_true,bne_iff_ne,beq_iff_eq,decide_eq_true_eq] at aN;obtain ⟨⟨aC,rfl⟩,⟨hle,he⟩,Co⟩:=aN;obtain ⟨e,rfl⟩:∃ e,d=e+1:=by
       cases d with
       | zero=>simp [tX] at he
       | succ e=>exact ⟨e,rfl⟩
      have xU:nQ.length=dO.length:=by simpa using congrArg List.length aJ
      have aeP:nR.length=dO.length:=by simpa using congrArg List.length ar
      have aa1:(nQ.take i.size).map mu=(dO.take i.size).map some:=by rw [List.map_take,List.map_take,aJ]
      have hW:(nR.take i.size).map mu=(dO.take i.size).map some:=by rw [List.map_take,List.map_take,ar]
      have UN:(nQ.drop i.size).map mu=(dO.drop i.size).map some:=by rw [List.map_drop,List.map_drop,aJ]
      have UO:(nR.drop i.size).map mu=(dO.drop i.size).map some:=by rw [List.map_drop,List.map_drop,ar]
      have lt:(dO.take i.size).length=i.size:=by simp; omega
      have l4:=QS (w:=w) he (cs:=az) (o:=f.offset) (vs:=nQ.take i.size) (by rw [Oq,lt]) (by simp; omega);have Qq:=QS (w:=w) he (cs:=dg) (o:=f.offset) (vs:=nR.take i.size) (by rw [Ot,lt]) (by simp; omega);have IJ:=Lv w (e+1) f.type _ he D (by omega) _ _ aa1 hW;have aO:=aO (f.offset+i.size) (dO.drop i.size) (nQ.drop i.size) (nR.drop i.size) Co (by rw [<- Oq,List.drop_drop]) (by rw [<- Ot,List.drop_drop]) UN UO;have sp:lS nQ nR=(lS (nQ.take i.size) (nR.take i.size)&&lS (nQ.drop i.size) (nR.drop i.size)):=by
       have:=Nx (nQ.take i.size) (nR.take i.size) (nQ.drop i.size) (nR.drop i.size) (by simp; omega)
       rwa [List.take_append_drop,List.take_append_drop] at this
      rw [List.forIn_cons];cases aa:lS (nQ.take i.size) (nR.take i.size) with
      | false=>simp [aC,l4,Qq,IJ,aa,sp]
      | true =>
       simp only [aa] at IJ;simp [aC,l4,Qq,IJ,aa,sp];simpa using aO
   have hk:=key fs.toList 0 dO az dg aE rfl rfl aJ ar;unfold Op.equalIn;simp [pack,hu,run_underlying hu,af];rw [<- Array.forIn_toList,hk];cases lS az dg <;> simp
  all_goals
   rename_i hu;simp only [Bool.and_eq_true,beq_iff_eq] at h;obtain ⟨rfl,aa⟩:=h;obtain ⟨a,rfl⟩:∃ v,az=[v]:=by
    rcases az with _ | ⟨v,_ | _⟩ <;> simp at aJ;exact ⟨v,rfl⟩
   obtain ⟨b,rfl⟩:∃ v,dg=[v]:=by
    rcases dg with _ | ⟨v,_ | _⟩ <;> simp at ar;exact ⟨v,rfl⟩
   cases a <;> simp [mu] at aJ <;> cases b <;> simp [mu] at ar;simp [Op.equalIn,pack,hu,run_underlying hu,lS,Nw,aJ,ar,Tk] <;> rfl
def vj (P:Program) (t:TypeId) (dO:List ow):Bool :=
 tX P 100 t dO&&(match P.underlying t with | some (.struct _)=>true | _=>false)&&!P.eqGuardType P.depth t
section
variable {P:Program}{g:aM}{t t2:TypeId}{ty:TypeId}{a b:Operand}
theorem aad {az dg:List Value}{dO:List ow}(aJ:az.map mu=dO.map some) (ar:dg.map mu=dO.map some) (au:vj P t dO=true) (w:World) :
  (do eqGuard .eql t a b (.agg az.toArray) (.agg dg.toArray); binOp .eql t (.agg az.toArray) (.agg dg.toArray):Sem Value).run P w=.ok (.bool (lS az dg)) w:=by
 simp only [vj,Bool.and_eq_true,Bool.not_eq_true'] at au;obtain ⟨⟨h1,af⟩,aE⟩:=au;have h:=Lv w 100 t dO h1 Op.maxDepth (by decide) az dg aJ ar
 split at af
 ·rename_i fs hu;simp only [pack,hu] at h;simp [eqGuard,binOp,aE,Op.equal,h]
 ·cases af
theorem aaf {az dg:List Value}{dO:List ow}(aJ:az.map mu=dO.map some) (ar:dg.map mu=dO.map some) (au:vj P t dO=true) (w:World) :
  (do eqGuard .neq t a b (.agg az.toArray) (.agg dg.toArray); binOp .neq t (.agg az.toArray) (.agg dg.toArray):Sem Value).run P w=.ok (.bool (!lS az dg)) w:=by
 simp only [vj,Bool.and_eq_true,Bool.not_eq_true'] at au;obtain ⟨⟨h1,af⟩,aE⟩:=au;have h:=Lv w 100 t dO h1 Op.maxDepth (by decide) az dg aJ ar
 split at af
 ·rename_i fs hu;simp only [pack,hu] at h;simp [eqGuard,binOp,aE,Op.equal,h]
 ·cases af
namespace O
theorem U6 {nI pt:List Value}{dO:List ow}(J:Rd g a (.agg (nI.map .lit))) (ao:Rd g b (.agg (pt.map .lit))) (aJ:nI.map mu=dO.map some) (ar:pt.map mu=dO.map some) (au:vj P t dO=true) :
  cf P g (.binOp .eql t a b t2) ty (bh (lS nI pt)):=.eD (.Bx J.bs ao.bs rfl λw=>aad aJ ar au w)
theorem YZ {nI pt:List Value}{dO:List ow}(J:Rd g a (.agg (nI.map .lit))) (ao:Rd g b (.agg (pt.map .lit))) (aJ:nI.map mu=dO.map some) (ar:pt.map mu=dO.map some) (au:vj P t dO=true) :
  cf P g (.binOp .neq t a b t2) ty (bh (!lS nI pt)):=.eD (.Bx J.bs ao.bs rfl λw=>aaf aJ ar au w)
end O
end
section
variable {P:Program}{N:cP}{g g2:aM}{d r k0:Nat}{α:Type}
theorem View.kT {p:Place}{cs cs':List ab}(aq:bE g p=some (.obj cs)) (hk:Nat.blt 0 cs.length=true) [h:ga cs cs']:View g (.ptr p 0) (.cx cs') :=
 .ptr aq (z:=0) (n:=0) (.inr rfl) (by simpa using hk) (by simpa using h.l) λk x y J ao=>h.v g k x y (by simpa using J) ao
theorem cW.el {en:bN α}{L:List α}{j off:Nat}{i:Int}{y:α}(af:bE g2 ⟨r,[j]⟩=some (aD en L)) (hi:idx L i=some y) (aX:Nat.blt off en.z=true):cW g2 (.ptr ⟨r,[j]⟩ (i.toNat * en.z+off)) :=
 (pA.mk (g:=g2) af hi af hi aX).b0
theorem jS {p:Place}{k:Nat}:∀ z q n m new,ab.ptr p k≠.bI z q n m new:=by simp
inductive yR (g:aM) (d r k0:Nat) (G4:List (Nat × ab)):List (Nat × ab)->Prop
 | nil:yR g d r k0 G4 []
 | c {α:Type}{en:bN α}{L:List α}{s off:Nat}{i:Int}{y:α}{l:List (Nat × ab)}(h:g s=some (.ptr ⟨r,[k0]⟩ (i.toNat * en.z+off))) (aq:bE (get G4) ⟨r,[k0]⟩=some (aD en L)) (hi:idx L i=some y) (aX:Nat.blt off en.z=true) (aQ:Nat.beq s d=false) (bm:get G4 s=none) (t:yR g d r k0 G4 l):yR g d r k0 G4 ((s,.ptr ⟨r,[k0]⟩ (i.toNat * en.z+off))::l)
theorem yR.spec {G4 l:List (Nat × ab)}(h:yR g d r k0 G4 l):∀ t x,get l t=some x->get G4 t=none/\t≠d/\g t=some x/\∃ m z n cs,x=.ptr ⟨r,[k0]⟩ m/\bE (get G4) ⟨r,[k0]⟩=some (.own z n cs)/\m<cs.length:=by
 induction h with
 | nil=>intro t x J; cases J
 | @c α en L s off i y l h aq hi aX aQ bm _ aO =>
  intro t x J; simp only [get] at J
  split at J
  ·rename_i e; subst e; cases J; exact ⟨bm,Nat.ne_of_beq_eq_false aQ,h,_,_,_,_,rfl,aq,IM hi aX⟩
  ·exact aO t x J
theorem k4.keep {g':aM}{x2:ab}{G2:List (Nat × ab)}(dh:k4 g (get G2) r x2 G2) (h1:∀ t,t≠r->g' t=g t) (af:g' r=some x2):iE g' (get G2):=by
 refine ⟨λt x J=>?_,λt x J=>?_,λt z q n m new J=>?_⟩
 ·rcases dh.spec t x J with ⟨a,b,_⟩ | ⟨rfl,rfl,_⟩
  ·grind
  grind
 ·rcases dh.spec t x J with ⟨_,_,aE | ⟨aE,_⟩⟩ | ⟨_,_,aE⟩
  ·exact aE.b0
  ·exact aE.b0
  ·exact .bn aE
 ·rcases dh.spec t _ J with ⟨_,_,aE | ⟨aE,_⟩⟩ | ⟨_,_,aE⟩
  ·exact aE.fJ _ _ _ _ _ rfl
  ·exact aE.fJ _ _ _ _ _ rfl
  ·cases aE
theorem Q3 {cs:List ab}{y x:ab}(h:g r=some (.obj cs)) (hk:cs[k0]?=some x):ct g ⟨r,[k0]⟩ y r=some (.obj (cs.set k0 y)):=by
 grind [ct,ab.setAt,ab.kids,ab.sI]
theorem bj.dM {o:Oper}{y:ab}{cs cs5:List ab}{G1 G4:Value->List (Nat × ab)}{c4:Value->List ab}{G5 A:List (Nat × ab)}(aQ:o.dst=some d) (bp:N.ok d=true) (hr:g r=some (.obj cs)) (ao:cs[k0]?=some y) [xI:b6 y]
  (h1:∀ v,k4 g (get (G1 v)) r (.obj (cs.set k0 (.lit v))) (G1 v)) (aa:∀ v,k1 P N (get (G1 v)) o d (get (G4 v))) (NZ:∀ v,get (G4 v) r=some (.obj (c4 v))) (NY:∀ v,(c4 v)[k0]?=some (.lit v)) (Vz:∀ v,(c4 v).set k0 y=cs5)
  (b7:∀ v,k4 (get (G4 v)) (get G5) r (.obj cs5) G5) (VE:bE (get G5) ⟨r,[k0]⟩=some y) (dL:yR g d r k0 G5 A) (ly:∀ i,y≠.self i:=by exact λ_ h=>by cases h):bj P N g o (get (A++G5)):=by
 refine .call aQ bp (k1.Vj hr ao xI.bn ly λv hv=>⟨get (G1 v),get (G4 v),get G5,?_,aa v,?_,?_,VE,?_⟩)
 ·exact (h1 v).keep (λt au=>wu au) (Q3 hr ao)
 ·have:=NZ v;simp only [bE,this,ab.at,ab.kids,NY v]
 ·refine (b7 v).keep (λt au=>wu au) ?_;rw [Q3 (NZ v) (NY v),Vz v]
 ·refine ⟨λt x h=>?_,λt x h=>?_⟩
  ·rw [Fl];cases r6:get A t with
   | none=>exact h
   | some z =>
    obtain ⟨mq,_⟩:=dL.spec t z r6;rw [mq] at h; cases h
  ·rw [Fl] at h;cases r6:get A t with
   | none=>rw [r6] at h; exact .inl h
   | some z =>
    rw [r6] at h;cases h;exact .inr (dL.spec t x r6)
end
section
variable {P:Program}{N:cP}{ops:Array Oper}{g g1 lT:aM}{K:aM->Prop}{l:List Oper}{d r:Nat}{t:TypeId}{a b:Operand}{x y:ab}
variable {bd:List (List Nat)}{acc:Acc}{i:Nat}
theorem gT {a b:Nat}(h:Nat.blt a b=true):a<b:=by simpa using h
def De:Option Nat->Nat->Bool
 | none,_=>true
 | some a,d=>!Nat.beq a d
theorem K6 {o:Option Nat}{d:Nat}(h:De o d=true):o≠some d:=by
 rintro rfl;simp [De] at h
inductive tL (P:Program) (N:cP) (ops:Array Oper) (bd:List (List Nat)) (rs:Place->Prop) (lT g1:aM) (o:Oper) (U:Acc):Acc->Prop
 | nil:tL P N ops bd rs lT g1 o U []
 | c {k d:Nat}{x:ab}{fW:Oper}{V:Acc}(bU:wK rs lT g1 o x) (h1:g1 d=none) (cS:De o.dst d=true) (aX:ops[k]?=some fW) (xx:fW.dst=some d) (bp:N.ok d=true) (hw:iH (ds g1 (λm=>(bd.getD k []).contains m) U) ops fW true)
   (av:cf P (ds g1 (λm=>(bd.getD k []).contains m) U) fW.op fW.type x) (t:tL P N ops bd rs lT g1 o U V):tL P N ops bd rs lT g1 o U ((k,d,some x)::V)
 | ci {k d:Nat}{x y:ab}{fW:Oper}{V:Acc}(bU:wK rs lT g1 o x) (h1:g1 d=none) (cS:De o.dst d=true) (aX:ops[k]?=some fW) (xx:fW.dst=some d) (bp:N.ok d=true) (hw:iH (ds g1 (λm=>(bd.getD k []).contains m) U) ops fW true)
   (av:cf P (ds g1 (λm=>(bd.getD k []).contains m) U) fW.op fW.type y) [aC:b6 y] [hv:j4 y x] (t:tL P N ops bd rs lT g1 o U V):tL P N ops bd rs lT g1 o U ((k,d,some x)::V)
theorem tL.spec {o:Oper}{U V:Acc}{rs:Place->Prop}(h:tL P N ops bd rs lT g1 o U V):∀ e∈V,(∃ x,e.2.2=some x/\wK rs lT g1 o x)/\(g1 e.2.1=none/\o.dst≠some e.2.1)/\∃ fW,ops[e.1]?=some fW/\fW.dst=some e.2.1/\N.ok e.2.1=true/\qe P (ds g1 (λm=>(bd.getD e.1 []).contains m) U) ops fW e.2.2:=by
 induction h with
 | nil=>intro e he; cases he
 | c bU h1 cS aX xx bp hw av _ aO =>
  intro e he;rcases List.mem_cons.1 he with rfl | he
  ·exact ⟨⟨_,rfl,bU⟩,⟨h1,K6 cS⟩,_,aX,xx,bp,.inl ⟨hw,.inl av⟩⟩
  ·exact aO e he
 | @ci k d x y fW V bU h1 cS aX xx bp hw av aC hv _ aO =>
  intro e he;rcases List.mem_cons.1 he with rfl | he
  ·exact ⟨⟨_,rfl,bU⟩,⟨h1,K6 cS⟩,_,aX,xx,bp,.inr (.inr ⟨hw,y,.inl av,aC.bn,hv.v _⟩)⟩
  ·exact aO e he
theorem bx.eb (bV:Nat) {G G2:List (Nat × ab)}{U:Acc}{o:Oper}{rs:List Nat}(he:ng P N (sE rs) (ds (get G) (λm=>(bd.getD bV []).contains m) acc) o (get G2)) (lz:rs.all (λr=>(get G r).isSome)=true) (aN:o.guard=none) (gS:sz ((acc.filterMap lj).map Place.root)=true) (fO:oc G=true) (ag:Nat.beq ops.size (bV+l.length+1)=true)
  (fq:acc.filter (λe=>!(bd.getD bV []).contains e.1)=U) (oJ:tL P N ops bd (sE rs) (ds (get G) (λm=>(bd.getD bV []).contains m) acc) (get G2) o U U)
  (ar:(List.range ops.size).all (λk=>Nat.ble k bV||(bd.getD k []).contains bV)=true) (hk:bx P N ops bd (get G2) (bV+1) U l K):bx P N ops bd (get G) i acc (o::l) K:=by
 intro dE j bT lZ mh;have:=BM mh ag;subst this;obtain ⟨h1,af⟩:=drop_cons mh;have mS:∀ e∈U,e∈acc:=λe he=>by rw [<- fq] at he; exact (List.mem_filter.1 he).1
 have B5:nj P N ops bd (get G2) (j+1) U:=⟨λe he=>by have:=(lZ.le bT).2 e (mS e he); omega,λe he=>(oJ.spec e he).2.1.1,by rw [<- fq]; exact (List.filter_sublist.map _).nodup (lZ.nodup bT),λe he b5 h_ h=>lZ.uniq bT (mS e he) (mS b5 h_) h,λe he=>(oJ.spec e he).2.2⟩;obtain ⟨g',hr,c5⟩:=hk U (j+1) B5 .nil af;refine ⟨g',.Bw lZ (Gd gS) (x0 fO) h1 ?_ he (λr hr e=>by have:=List.all_eq_true.1 lz r.root hr; rw [e] at this; cases this) fq.symm (λe h=>(oJ.spec e h).1) (λe h=>(oJ.spec e h).2.1) (λe h=>(oJ.spec e h).2.2) ?_ hr,c5⟩
 ·unfold iH; rw [aN]
 ·refine List.all_eq_true.2 λk hk=>?_;have:=List.all_eq_true.1 ar k hk;simp only [Bool.or_eq_true,decide_eq_true_eq,Nat.ble_eq] at this ⊢;exact this
theorem bx.M5 (bV:Nat) {G G2:List (Nat × ab)}{U:Acc}{o:Oper}{ps:List Place}(he:ng P N (λp=>p∈ps) (ds (get G) (λm=>(bd.getD bV []).contains m) acc) o (get G2)) (lz:ps.all (λr=>(get G r.root).isSome)=true) (aN:o.guard=none) (gS:sz ((acc.filterMap lj).map Place.root)=true) (fO:oc G=true) (ag:Nat.beq ops.size (bV+l.length+1)=true)
  (fq:acc.filter (λe=>!(bd.getD bV []).contains e.1)=U) (oJ:tL P N ops bd (λp=>p∈ps) (ds (get G) (λm=>(bd.getD bV []).contains m) acc) (get G2) o U U)
  (ar:(List.range ops.size).all (λk=>Nat.ble k bV||(bd.getD k []).contains bV)=true) (hk:bx P N ops bd (get G2) (bV+1) U l K):bx P N ops bd (get G) i acc (o::l) K:=by
 intro dE j bT lZ mh;have:=BM mh ag;subst this;obtain ⟨h1,af⟩:=drop_cons mh;have mS:∀ e∈U,e∈acc:=λe he=>by rw [<- fq] at he; exact (List.mem_filter.1 he).1
 have B5:nj P N ops bd (get G2) (j+1) U:=⟨λe he=>by have:=(lZ.le bT).2 e (mS e he); omega,λe he=>(oJ.spec e he).2.1.1,by rw [<- fq]; exact (List.filter_sublist.map _).nodup (lZ.nodup bT),λe he b5 h_ h=>lZ.uniq bT (mS e he) (mS b5 h_) h,λe he=>(oJ.spec e he).2.2⟩;obtain ⟨g',hr,c5⟩:=hk U (j+1) B5 .nil af;refine ⟨g',.Bw lZ (Gd gS) (x0 fO) h1 ?_ he (λr hr e=>by have:=List.all_eq_true.1 lz r hr; rw [e] at this; cases this) fq.symm (λe h=>(oJ.spec e h).1) (λe h=>(oJ.spec e h).2.1) (λe h=>(oJ.spec e h).2.2) ?_ hr,c5⟩
 ·unfold iH; rw [aN]
 ·refine List.all_eq_true.2 λk hk=>?_;have:=List.all_eq_true.1 ar k hk;simp only [Bool.or_eq_true,decide_eq_true_eq,Nat.ble_eq] at this ⊢;exact this
theorem ng.box {o:Oper}{r:Nat}{x:ab}{G1 G2:List (Nat × ab)}(he:bj P N (get G1) o (get G2)) (hr:g r=some x) [J:b6 x] (hk:Trim false g (get G1) G1) (aK:get G1 r=none) (h1:get G2 r=none) (aQ:De o.dst r=true):ng P N (sE [r]) g o (get ((r,x)::G2)):=by
 rw [<- sZ];exact he.jJ.frame hr J.bn hk.keep aK h1 (K6 aQ)
theorem bj.ke {o:Oper}{k0:Nat}{cs cs' cs2:List ab}{G2:List (Nat × ab)}(aX:o.op=.store t a b) (aQ:o.dst=none) (av:g r=some (.obj cs)) (aJ:Rd g a (.ptr ⟨r,[]⟩ k0)) (ar:Rd g b y) [aC:b6 y] (aa:o4 y=some cs') (aW:hF P t cs'.length=true)
  (hk:Nat.ble (k0+cs'.length) cs.length=true) (aK:Nat.blt 0 cs'.length=true) (he:e4 cs k0 cs'=cs2) [eN:dp cs] (hr:(get G2 r).isSome=true) (dh:lu g (get G2) r cs2 G2):bj P N g o (get G2) :=
 .box aX aQ av aJ ar aC.bn aa aW (Nat.le_of_ble_eq_true hk) (by simpa using aK) he (by intro e; rw [e] at hr; cases hr) dh
end
section
variable {α:Type}
theorem ga.app {xs ys xs' Es:List ab}(h:ga xs ys) (aI:ga xs' Es):ga (xs++xs') (ys++Es):=⟨by simp [h.l,aI.l],λg k a b aJ ar=>by
 by_cases hk:k<xs.length
 ·rw [List.getElem?_append_left hk] at aJ;rw [List.getElem?_append_left (by rw [h.l]; exact hk)] at ar;exact h.v g k a b aJ ar
 ·rw [List.getElem?_append_right (by omega)] at aJ;rw [List.getElem?_append_right (by rw [h.l]; omega),h.l] at ar;exact aI.v g _ a b aJ ar⟩
instance {e b5:bN α}{L:List α} [h:il e b5]:ga (bB e L) (bB b5 L):=⟨(Em e b5 L).1,(Em e b5 L).2⟩
theorem j4.A0 {en:bN α}{L:List α}{n:Nat}{cs cs':List ab}(h:bB en L=cs') (ah:L.length=n) [hv:ga cs cs']:j4 (.own en.z n cs) (ak en L):=⟨λg=>by
 subst h ah;exact .own hv.l (hv.v g)⟩
theorem j4.jd {en tW:bN α}{L M:List α}{m:Nat}{new cO:List ab} [h:il en tW] (aC:bB tW M=cO) (hm:M.length=m) [aI:ga new cO]:j4 (.own en.z (L.length+m) (bB en L++new)) (ak tW (L++M)):=⟨λg=>by
 subst aC hm;have hv:=ga.app (inferInstance:ga (bB en L) (bB tW L)) aI;show View g (.own en.z (L.length+M.length) (bB en L++new)) (.bl tW.z (L++M).length (bB tW (L++M)));have e:bB tW (L++M)=bB tW L++bB tW M:=by simp [bB]
 rw [e,List.length_append,<- h.z];exact .own hv.l (hv.v g)⟩
end
section
variable {α:Type}{g g2:aM}{p q:Place}{P:Program}{a b:Operand}{t:TypeId}{ty:TypeId}
theorem cW.a6 {en:bN α}{L:List α}(h:bE g2 p=some (aD en L)):cW g2 (.a6 en.z p L.length):=.ref rfl (.inl ⟨_,_,h,Nat.le_refl _⟩)
theorem iz {z n:Nat}:∀ bQ q cm m new,ab.a6 z p n≠.bI bQ q cm m new:=by simp
namespace O
theorem SV {en:bN α}{L M r:List α}{e gF m:Nat}{cs:List ab}(av:Rd g a (.a6 en.z p L.length)) (aq:bE g p=some (aD en L)) (J:Rd g b (.a6 en.z q m)) (a_:bE g q=some (.own en.z m cs)) (ah:cs.length=m * en.z) (aU:cs.all mc=true) (hm:M.length=m) (au:im P t e en.z gF=true) (ar:Nat.ble gF 128=true) (h:c8 L M=some r)
  (eN:∀ t z n m new,g t≠some (.bI z p n m new)):cf P g (.call { callee:=.builtin .append,args:=#[a,b],argTypes:=#[t,t] }) ty (.bI en.z p L.length m cs):=by
 subst hm;obtain ⟨h1,af,_⟩:=wP h ar;exact .l4 (.grow av.bs (.inl ⟨_,aq⟩) (λt bQ cm m' cO e=>eN _ _ _ _ _ e) J.bs (Rh a_ ah aU) au h1 af)
end O
end
end Go.Own
namespace Go.Own
open Go Go.RowKit Go.ChangeShapes Go.WideShapes Go.Deep
variable [cF]
variable {α β Me:Type}{P:Program}
abbrev tH (w:World) (y:ab) (u:Value):Prop:=R w (λb=>b<w.heap.size) (λ_ _=>False) y u (λ_=>False)
def nm (w:World) (ys:List ab) (cs:List Value):Prop :=
 ys.length=cs.length/\∀ (k:Nat) (y:ab) (u:Value),ys[k]?=some y->cs[k]?=some u->u.oneCell'=true/\tH w y u
theorem nm.nil {w:World}:nm w [] []:=⟨rfl,λ_ _ _ h=>by simp at h⟩
theorem nm.one {w:World}{y:ab}{u:Value}(h1:u.oneCell'=true) (h:tH w y u):nm w [y] [u] :=
 ⟨rfl,λk y' sM ao hu=>by
  cases k with
  | zero=>simp at ao hu; subst ao hu; exact ⟨h1,h⟩
  | succ k=>simp at ao⟩
theorem nm.app {w:World}{ys yM:List ab}{cs jI:List Value}(h:nm w ys cs) (af:nm w yM jI):nm w (ys++yM) (cs++jI):=by
 refine ⟨by simp [h.1,af.1],λk y u ao hu=>?_⟩;by_cases hk:k<ys.length
 ·rw [List.getElem?_append_left hk] at ao;rw [List.getElem?_append_left (h.1 ▸ hk)] at hu;exact h.2 k y u ao hu
 ·rw [List.getElem?_append_right (by omega)] at ao;rw [List.getElem?_append_right (by have:=h.1; omega),<- h.1] at hu;exact af.2 _ y u ao hu
structure lJ (P:Program) (e:bN α) (t:TypeId) (ok:α->Prop):Prop where
 z:P.cellsOf t=e.z
 go:∀ {H:Type}{enc:TypeId × Value->H}{w:World}{n:Nat}{cs:List Value}{x:DataW H × List MemPlace},
  DataW.trod enc P w 0 (λ_=>true) true n t cs=some x->∃ a,ok a/\nm w (e.cells a) cs
theorem lJ.int {e:bN Int}{t:TypeId}{k:IntKind}(au:P.underlying t=some (.int k)) (aW:P.cellsOf t=e.z) (he:∀ n,e.cells n=[.lit (.int k n)]) :
  lJ P e t (λn=>(Lit.int k n).wf=true):=by
 refine ⟨aW,λh=>?_⟩;obtain ⟨n,rfl,_,hw⟩:=DataW.trod_int au h;exact ⟨n,hw,he n ▸ nm.one rfl (.lit rfl λ_ h=>h)⟩
theorem lJ.bool {e:bN Bool}{t:TypeId}(au:P.underlying t=some .bool) (aW:P.cellsOf t=e.z) (he:∀ n,e.cells n=[.lit (.bool n)]) :
  lJ P e t (λ_=>True):=by
 refine ⟨aW,λh=>?_⟩;obtain ⟨n,rfl,_⟩:=DataW.trod_bool au h;exact ⟨n,trivial,he n ▸ nm.one rfl (.lit rfl λ_ h=>h)⟩
theorem QN (e:bN α) (aW:0<e.z):∀ (l:List α) (k:Nat) (y:ab),(bB e l)[k]?=some y->∃ a,l[k / e.z]?=some a/\(e.cells a)[k % e.z]?=some y
 | [],k,y,h=>by simp [bB] at h
 | a::l,k,y,h=>by
  have he:bB e (a::l)=e.cells a++bB e l:=by simp [bB]
  rw [he] at h;by_cases hk:k<e.z
  ·rw [List.getElem?_append_left (by rw [e.len]; exact hk)] at h;exact ⟨a,by simp [Nat.div_eq_of_lt hk],by rw [Nat.mod_eq_of_lt hk]; exact h⟩
  ·rw [List.getElem?_append_right (by rw [e.len]; omega),e.len] at h;obtain ⟨b,h1,af⟩:=QN e aW l (k - e.z) y h;have aQ:k / e.z=(k - e.z) / e.z+1:=by rw [Nat.div_eq_sub_div aW (by omega)]
   refine ⟨b,by rw [aQ]; simpa using h1,?_⟩;rw [Nat.mod_eq_sub_mod (by omega)]; exact af
theorem lJ.slice {e:bN α}{t A4:TypeId}{ok:α->Prop}(h:lJ P e A4 ok) (au:P.underlying t=some (.slice A4)) (aW:P.cellsOf t=1) (pP:0<e.z) :
  lJ P (bC e) t (λl=>l.length<=maxLen/\∀ x∈l,ok x):=by
 classical
 refine ⟨aW,λ{H enc w n cs x} hr=>?_⟩;rcases open_slice au hr with ⟨rfl,rfl⟩ | ⟨a,len,cap,m,cm,D,qb,rfl,ar,ah,hm,J1,rfl,J⟩
 ·exact ⟨[],⟨by simp,by simp⟩,nm.one rfl (.gK λ_ h=>h)⟩
 ·have vD:m=cap:=by simpa using J1
  subst vD;have hex:∀ i,i<len->∃ q:α × List Value,ok q.1/\nm w (e.cells q.1) q.2/\w.cells? 0 (a.add (i * P.cellsOf A4)) (P.cellsOf A4)=some q.2:=λi hi=>by
   obtain ⟨cs',h1,af⟩:=J i (by omega);obtain ⟨b,kO,hS⟩:=h.go af;exact ⟨(b,cs'),kO,hS,h1⟩
  by_cases aK:len=0
  ·subst aK;exact ⟨[],⟨by simp,by simp⟩,nm.one rfl (.gK λ_ h=>h)⟩
  ·obtain ⟨D0,_⟩:=hex 0 (by omega)
   haveI:Inhabited (α × List Value):=⟨D0⟩
   obtain ⟨f,aU⟩:=choose_lt hex;have hlen:((List.range len).map λi=>(f i).1).length=len:=by simp
   have mR:∀ (i:Nat) (b:α),((List.range len).map λi=>(f i).1)[i]?=some b->i<len/\b=(f i).1:=λi b hi=>by
    have aP:=(List.getElem?_eq_some_iff.1 hi).1;simp at aP;simp [aP] at hi;exact ⟨aP,hi.symm⟩
   have ja:a.spot=none/\a.block<w.heap.size:=by
    obtain ⟨_,_,aE⟩:=aU 0 (by omega);obtain ⟨_,JV,b7⟩:=World.cells?_some aE;have dr:=b7 0 (by rw [h.z]; exact pP);simp only [Nat.zero_mul,Addr.add,if_true] at dr;have:0<(f 0).2.length:=by rw [JV,h.z]; exact pP
    rw [List.getElem?_eq_getElem this] at dr;unfold World.cell? at dr
    split at dr
    ·rename_i bO;refine ⟨?_,(Array.getElem?_eq_some_iff.1 bO).1⟩;cases av:a.spot with
     | none=>rfl
     | some s=>simp [av] at dr
    ·cases dr
   have key:∀ (k:Nat) (y:ab),(bB e ((List.range len).map λi=>(f i).1))[k]?=some y->∃ u,w.cell? ⟨a.block,a.off+k,none⟩=some u/\u.oneCell'=true/\tH w y u:=λk y hk=>by
    obtain ⟨b,kO,hS⟩:=QN e pP _ k y hk;obtain ⟨hi,rfl⟩:=mR _ _ kO;obtain ⟨_,af,aE⟩:=aU _ hi;obtain ⟨_,JV,b7⟩:=World.cells?_some aE;have ON:k % e.z<e.z:=Nat.mod_lt _ pP;have dr:=b7 (k % e.z) (by rw [h.z]; exact ON);rw [Deep.add_add,h.z] at dr;have fF:k / e.z * e.z+k % e.z=k:=by rw [Nat.mul_comm]; exact Nat.div_add_mod k e.z
    rw [fF] at dr;have aP:k % e.z<(f (k / e.z)).2.length:=by rw [JV,h.z]; exact ON
    rw [List.getElem?_eq_getElem aP] at dr;have aJ:a.add k=⟨a.block,a.off+k,none⟩:=by
     unfold Addr.add;split
     ·rename_i Vs; subst Vs; cases a; simp at ja ⊢; exact ja.1
     ·rfl
    rw [aJ] at dr;exact ⟨_,dr,af.2 _ _ _ hS (List.getElem?_eq_getElem aP)⟩
   refine ⟨(List.range len).map λi=>(f i).1,⟨by rw [hlen]; omega,λy ao=>?_⟩,nm.one rfl ?_⟩
   ·obtain ⟨i,hi,rfl⟩:=List.mem_map.1 ao;exact (aU i (List.mem_range.1 hi)).1
   ·show tH w (.bl e.z _ _) _;rw [hlen];refine .bl (us:=λk=>(w.cell? ⟨a.block,a.off+k,none⟩).getD .nilFunc) (λ_ h=>h) ah ja.2 ja.1 (by rw [oR,hlen]) (λk y hk=>?_) (λk y hk=>?_) (λk y hk=>?_)
    ·obtain ⟨u,h1,af,aE⟩:=key k y hk;simp only [h1,Option.getD_some]; exact af
    ·obtain ⟨u,h1,af,aE⟩:=key k y hk;simp only [h1,Option.getD_some]
    ·obtain ⟨u,h1,af,aE⟩:=key k y hk;simp only [h1,Option.getD_some]; exact aE
def BU (P:Program):Nat->List Field->List TypeId->Bool
 | _,[],[]=>true
 | off,f::fs,t::ts=>decide (f.type=t)&&decide (f.offset=off)&&BU P (off+P.cellsOf t) fs ts
 | _,_,_=>false
def Eg (P:Program) (t:TypeId) (ts:List TypeId):Bool :=
 match P.underlying t with
 | some (.struct fs)=>BU P 0 fs.toList ts&&decide (P.cellsOf t=(ts.map P.cellsOf).sum)
 | _=>false
structure yP (P:Program) (cells:β->List ab) (ts:List TypeId) (ok:β->Prop):Prop where
 go:∀ {H:Type}{enc:TypeId × Value->H}{w:World}{n:Nat}{cs:List Value}{fs:List Field}{off:Nat},BU P off fs ts=true->cs.length=off+(ts.map P.cellsOf).sum ->
  (∀ (i:Nat) (f:Field),fs[i]?=some f->∃ x,DataW.trod enc P w 0 (λ_=>true) true n f.type ((cs.drop f.offset).take (P.cellsOf f.type))=some x) ->
  ∃ b,ok b/\nm w (cells b) (cs.drop off)
theorem yP.nil:yP P (λ_:Unit=>[]) [] (λ_=>True) :=
 ⟨λ{H enc w n cs fs off} _ ah _=>⟨(),trivial,by rw [List.drop_eq_nil_of_le (by simp at ah; omega)]; exact nm.nil⟩⟩
theorem yP.cons {e:bN α}{t:TypeId}{ts:List TypeId}{ok:α->Prop}{cells:β->List ab}{Qc:β->Prop}(h:lJ P e t ok) (ah:yP P cells ts Qc) :
  yP P (λp:α × β=>e.cells p.1++cells p.2) (t::ts) (λp=>ok p.1/\Qc p.2):=by
 refine ⟨λ{H enc w n cs fs off} eX hlen hr=>?_⟩;cases fs with
 | nil=>simp [BU] at eX
 | cons f fs =>
  simp only [BU,Bool.and_eq_true,decide_eq_true_eq] at eX;obtain ⟨⟨rfl,rfl⟩,eX⟩:=eX;obtain ⟨x,J⟩:=hr 0 f rfl;obtain ⟨a,aJ,aY⟩:=h.go J;obtain ⟨b,ar,Wa⟩:=ah.go (off:=f.offset+P.cellsOf f.type) (cs:=cs) eX (by rw [hlen]; simp [Nat.add_assoc]) (λi dJ vy=>hr (i+1) dJ (by simpa using vy));refine ⟨(a,b),⟨aJ,ar⟩,?_⟩;have:cs.drop f.offset=(cs.drop f.offset).take (P.cellsOf f.type)++cs.drop (f.offset+P.cellsOf f.type):=by
   rw [<- List.drop_drop]; exact (List.take_append_drop _ _).symm
  rw [this];exact aY.app Wa
theorem lJ.struct {e:bN Me}{t:TypeId}{ts:List TypeId}{cells:β->List ab}{ok:β->Prop}(h:yP P cells ts ok) (mk:β->Me) (un:Me->β) (O5:∀ b,un (mk b)=b) (aa:∀ b,e.cells (mk b)=cells b) (au:Eg P t ts=true) (aW:P.cellsOf t=e.z) :
  lJ P e t (λs=>ok (un s)):=by
 refine ⟨aW,λ{H enc w n cs x} hr=>?_⟩;unfold Eg at au
 split at au
 ·rename_i fs hu;simp only [Bool.and_eq_true,decide_eq_true_eq] at au;obtain ⟨xs,cm,rfl,rfl,ah,CX,J⟩:=DataW.trod_struct hu hr;obtain ⟨b,ar,aY⟩:=h.go (w:=w) (off:=0) (cs:=cs) (fs:=fs.toList) (n:=cm) (enc:=enc) au.1 (by rw [ah,au.2]; simp) (λi f aU=>by
   have vy:fs[i]?=some f:=by simpa using aU
   have hi:i<xs.length:=by rw [CX]; exact (Array.getElem?_eq_some_iff.1 vy).1
   exact ⟨xs[i],by rw [J i f vy,List.getElem?_eq_getElem hi]⟩)
  exact ⟨mk b,by rw [O5]; exact ar,by rw [aa]; simpa using aY⟩
 ·cases au
inductive Ba (w:World):ab->Value->Prop
 | mk {y:ab}{v:Value}(h:tH w y v):Ba w y v
theorem lJ.one {e:bN α}{t:TypeId}{ok:α->Prop}{g:α->ab}(h:lJ P e t ok) (he:∀ a,e.cells a=[g a]) {H:Type}{enc:TypeId × Value->H}{w:World}{v:Value}{d:DataW H}{p:List MemPlace}(hv:v.cells.toList=[v])
  (au:DataW.Trod enc P w 0 (λ_=>true) true t v d p):∃ a,ok a/\Ba w (g a) v:=by
 obtain ⟨n,aC⟩:=au;obtain ⟨a,aJ,aY⟩:=h.go aC;refine ⟨a,aJ,.mk ?_⟩;rw [hv,he] at aY;exact (aY.2 0 _ _ rfl rfl).2
theorem lJ.Zb {e:bN α}{t A4:TypeId}{ok:List α->Prop}(h:lJ P (bC e) t ok) (hu:P.underlying t=some (.slice A4)) {H:Type}{enc:TypeId × Value->H}{w:World}{v:Value}{d:DataW H}{p:List MemPlace}{base:Nat}(hv:Value.okWide P w .any base t v)
  (au:DataW.Trod enc P w 0 (λ_=>true) true t v d p):∃ a,ok a/\Ba w (ak e a) v:=by
 obtain ⟨a,l,c,rfl⟩:=okWide_slice hu hv;exact h.one (λ_=>rfl) rfl au
theorem lJ.Za {e:bN α}{t:TypeId}{ok:α->Prop}{ts:List TypeId}(h:lJ P e t ok) (eX:Eg P t ts=true) {H:Type}{enc:TypeId × Value->H}{w:World}{v:Value}{d:DataW H}{p:List MemPlace}{base:Nat}(hv:Value.okWide P w .any base t v)
  (au:DataW.Trod enc P w 0 (λ_=>true) true t v d p):∃ a,ok a/\Ba w (.agg (e.cells a)) v:=by
 have hu:∃ fs,P.underlying t=some (.struct fs):=by
  unfold Eg at eX
  split at eX
  ·exact ⟨_,by assumption⟩
  ·cases eX
 obtain ⟨fs,hu⟩:=hu;obtain ⟨cs,rfl,eY⟩:=okWide_struct hu hv;obtain ⟨n,aC⟩:=au;obtain ⟨a,aJ,aY⟩:=h.go aC;refine ⟨a,aJ,.mk ?_⟩;have iL:nm w (e.cells a) cs.toList:=aY;refine .agg (Fs:=λ_ _=>False) (by simpa using iL.1) (λk u hu=>?_) (λk x u J hu=>(iL.2 k x u J (by simpa using hu)).2) (λ_ _ _ _ _ h=>h.elim) (λc=>⟨λh=>h.elim,λ⟨_,_,h⟩=>h⟩);have hk:k<(e.cells a).length:=by rw [iL.1]; simpa using (Array.getElem?_eq_some_iff.1 hu).1
 exact (iL.2 k _ u (List.getElem?_eq_getElem hk) (by simpa using hu)).1
inductive u5 (w:World):List ab->List Value->Prop
 | nil:u5 w [] []
 | cons {y:ab}{v:Value}{ys:List ab}{vs:List Value}(h:Ba w y v) (av:u5 w ys vs):u5 w (y::ys) (v::vs)
theorem u5.get {w:World}{ys:List ab}{vs:List Value}(h:u5 w ys vs):ys.length=vs.length/\∀ (k:Nat) (y:ab),ys[k]?=some y->∃ v,vs[k]?=some v/\tH w y v:=by
 induction h with
 | nil=>exact ⟨rfl,λk y h=>by simp at h⟩
 | cons h _ aO =>
  refine ⟨by simp [aO.1],λk y ao=>?_⟩;cases k with
  | zero =>
   simp at ao; subst ao;obtain ⟨h⟩:=h;exact ⟨_,rfl,h⟩
  | succ k=>simpa using aO.2 k y (by simpa using ao)
theorem u5.aaP {w:World}{ys:List ab}{vs:List Value}(h:u5 w ys vs) (aq:ys.all (λy=>match y with | .bI ..=>false | _=>true)=true) (jv:cF.q w λb=>b<w.heap.size) :
  cB w (λb=>b<w.heap.size) vs.toArray (sV ys) (λ_=>cg):=by
 refine ⟨λt x J=>?_,λ_ _ _ h=>h,λ_ _ _ h=>h.elim,λ_ _ h=>h.elim,λ_ h=>h,λt t' z p n m new bQ cm m' cO h1 _=>?_,jv⟩
 ·obtain ⟨v,hv,aY⟩:=h.get.2 t x J;exact ⟨v,by simpa using hv,.tree (aY.frame (λ_ _=>rfl) (λ_ h=>h) (λ_ _ h=>h.elim) (λ_ _=>rfl))⟩
 ·have:=List.all_eq_true.1 aq _ (List.mem_of_getElem? h1);cases this
structure Mm (w w':World):Prop where
 kept:∀ may:MemPlace->Prop,w.keptBut w' may
 dN:∀ a,a.block<w.heap.size->w'.frozen? a=w.frozen? a
theorem bS.abm {f:FuncId}{ys:List ab}{vs:List Value}{outs:List (Option ab)}{r:Value}(aa:bS P f ys outs (.lit r)) (w:World) (h:u5 w ys vs) (aq:ys.all (λy=>match y with | .bI ..=>false | _=>true)=true) (jv:cF.q w λb=>b<w.heap.size) :
  Calls P f vs.toArray w λe w'=>e=.returned r/\Mm w w'/\∀ i:Nat,i<w.heap.size->w'.heap[i]?=w.heap[i]?:=by
 have:=aa.2 w _ vs _ h.get.1.symm (h.aaP aq jv);refine this.mono ?_;rintro e w' ⟨v,I',bW,rfl,bf,bU⟩;obtain ⟨u,hu,aY⟩:=bf.rel outs.length (.lit r) (by simp [kS]);have ah:outs.length=vs.length:=by rw [aa.1]; exact h.get.1
 have FL:u=v:=by
  rw [ah] at hu;simpa using hu.symm
 subst FL;have hv:=(aY.gw (by simp)).hM.1;subst hv;have ar:∀ i:Nat,i<w.heap.size->w'.heap[i]?=w.heap[i]?:=λi hi=>bU.dM.block i hi λ⟨_,h⟩=>h;have hk:World.keptBut w w' (λ_=>False):=⟨bU.dM.os,bU.dM.output,λi hi=>by
  rw [ar i hi];exact (World.keptBut_refl w (λ_=>False)).2.2 i hi⟩
 exact ⟨rfl,⟨λmay=>World.keptBut_mono (λ_ f=>f.elim) hk,λa aJ=>bU.dM.dN a aJ λ⟨_,h⟩=>h⟩,ar⟩
theorem Rv {H:Type}{enc:TypeId × Value->H}{w w':World}{base:Nat}{sp:Nat->Bool}{held:Bool}(ar:∀ i:Nat,i<w.heap.size->w'.heap[i]?=w.heap[i]?) :
  ∀ {ts:List TypeId}{vs:List Value}{jI:List (DataW H)}{ps:List MemPlace},DataW.TrodAll enc P w base sp held ts vs jI ps->DataW.TrodAll enc P w' base sp held ts vs jI ps
 | [],[],[],_,h=>h
 | _::_,_::_,_::_,_,⟨p,q,⟨n,aC⟩,af,e⟩=>by
  refine ⟨p,q,⟨n,DataW.trod_carry n _ _ _ aC λx J=>?_⟩,Rv ar af,e⟩;have aP:=DataW.trod_lt n _ _ _ aC x J;cases x with
  | cell b off =>
   show w'.cell? _=w.cell? _;exact World.cell?_of_block (ar b aP)
  | map b=>exact ar b aP
theorem S4 {H:Type}{enc:TypeId × Value->H}{w w':World}(ah:laidOutB P=true) (hm:mapsRowed P=true)
  (aW:((List.range P.types.size).all λt=>match P.underlying t with | some (.slice e)=>decide (0<P.cellsOf e) | _=>true)=true)
  (ar:∀ i:Nat,i<w.heap.size->w'.heap[i]?=w.heap[i]?) {ts:List TypeId}{vs:List Value}{jI:List (DataW H)}{ps:List MemPlace}(au:ts.all (λt=>decide (t<P.types.size))=true)
  (h:DataW.TrodAll enc P w 0 (λ_=>true) true ts vs jI ps) {sp:Nat->Bool}(ja:∀ p∈ps,sp p.block=true):DataW.TrodAll enc P w' 0 sp true ts vs jI ps :=
 (Rv ar h).respare (kids_rows ah hm) (slices_full_of P aW) (λt h=>of_decide_eq_true (List.all_eq_true.1 au t h)) ja
end Go.Own
namespace Go.Own
open Go
variable [cF]
section
variable {α β:Type}{P:Program}{N:cP}{g g1:aM}{p:Place}{m:Int}{a b:Operand}{t:TypeId}
theorem ab.MU:∀ (l:List Nat) {x nd:ab}{k:Nat}{c:ab},x.at l=some nd->nd.kids[k]?=some c->x.at (l++[k])=some c
 | [],x,nd,k,c,h,hk=>by
  simp only [ab.at,Option.some.injEq] at h;subst h;simp [ab.at,hk]
 | j::l,x,nd,k,c,h,hk=>by
  simp only [ab.at] at h;cases ag:x.kids[j]? with
  | none=>rw [ag] at h; cases h
  | some y =>
   rw [ag] at h;simp only [List.cons_append,ab.at,ag];exact ab.MU l h hk
theorem ab.Q1:∀ (l:List Nat) {x nd:ab}{k:Nat}{c:ab}(y:ab),x.at l=some nd->nd.kids[k]?=some c->x.setAt (l++[k]) y=x.setAt l (nd.sI k y)
 | [],x,nd,k,c,y,h,hk=>by
  simp only [ab.at,Option.some.injEq] at h;subst h;simp [ab.setAt,hk]
 | j::l,x,nd,k,c,y,h,hk=>by
  simp only [ab.at] at h;cases ag:x.kids[j]? with
  | none=>rw [ag] at h; cases h
  | some z =>
   rw [ag] at h;simp only [List.cons_append,ab.setAt,ag];rw [ab.Q1 l y h hk]
theorem Nu {en:bN α}{L:List α}{iS:α}{o:Nat}{c:ab}(h:idx L m=some iS) (aa:(en.cells iS)[o]?=some c):(aD en L).kids[m.toNat * en.z+o]?=some c:=Ls en h aa
theorem vc {en:bN α}{L:List α}{iS:α}{r o:Nat}{path:List Nat}{c:ab}(aq:bE g ⟨r,path⟩=some (aD en L)) (h:idx L m=some iS) (aa:(en.cells iS)[o]?=some c):bE g ⟨r,path++[m.toNat * en.z+o]⟩=some c:=by
 unfold bE at aq ⊢;simp only at aq ⊢;cases J:g r with
 | none=>rw [J] at aq; cases aq
 | some x =>
  rw [J] at aq;exact ab.MU path aq (Nu h aa)
theorem aav {en:bN α}{L:List α}{iS:α}{r o:Nat}{path:List Nat}{c:ab}(y:ab) (aq:bE g ⟨r,path⟩=some (aD en L)) (h:idx L m=some iS) (aa:(en.cells iS)[o]?=some c) :
  ct g ⟨r,path++[m.toNat * en.z+o]⟩ y=ct g ⟨r,path⟩ (.own en.z L.length ((bB en L).set (m.toNat * en.z+o) y)):=by
 funext s;unfold ct;simp only;split
 ·rename_i e;subst e;unfold bE at aq;simp only at aq;cases J:g s with
  | none=>rfl
  | some x =>
   rw [J] at aq;simp only [Option.map_some,Option.some.injEq];rw [ab.Q1 path y aq (Nu h aa)];rfl
 ·rfl
theorem aaN (l:List ab) (k:Nat) (x c:ab):e4 (l.set k x) k [c]=e4 l k [c]:=by
 unfold e4;simp only [List.length_singleton];rw [List.take_set,List.drop_set];rw [List.set_eq_of_length_le (by simp; omega)];simp
theorem bj.Ee {fW:Oper}{en:bN α}{en2:bN β}{L:List α}{iS y2:α}{qZ M R:List β}{o s K4:Nat}{new cO:List ab}{x2 y0:ab}{G2:List (Nat × ab)}
  (aX:fW.op=.store t a b) (aQ:fW.dst=none) (aJ:Rd g a (.ptr p (m.toNat * en.z+o))) (ar:Rd g b (.a6 en2.z ⟨s,[]⟩ (qZ.length+K4)))
  (qy:g s=some (.bI en2.z ⟨p.root,p.path++[m.toNat * en.z+o]⟩ qZ.length K4 new)) (aq:bE g p=some (aD en L)) (h:idx L m=some iS) (mP:(en.cells iS)[o]?=some (aD en2 qZ)) (a_:Nat.beq p.root s=false)
  (h1:eS (ct (ct g ⟨s,[]⟩ .dead) p (.own en.z L.length ((bB en L).set (m.toNat * en.z+o) .dead))) new cO g1)
  (o':fK cO (bB en2 M)) (hm:M.length=K4) (aY:qZ++M=R) (aW:hF P t 1=true)
  (vG:bE g1 p=some (.own en.z L.length ((bB en L).set (m.toNat * en.z+o) .dead)))
  (he:e4 (en.cells iS) o [aD en2 R]=en.cells y2) (hlen:Nat.ble (o+1) en.z=true)
  (gv:ct g1 p (aD en (L.set m.toNat y2)) p.root=some x2) (hr:(get G2 p.root).isSome=true) (ru:g1 p.root=some y0) [eN:b6 y0] (dh:k4 g1 (get G2) p.root x2 G2):bj P N g fW (get G2):=by
 subst hm aY;have Cs:=Nat.le_of_ble_eq_true hlen;have ja:=Lr en (cs':=[aD en2 (qZ++M)]) h he (by simpa using Cs);have OI:(L.set m.toNat y2).length=L.length:=List.length_set;have FI:=Nat.ne_of_beq_eq_false a_;have Cf:bE g ⟨p.root,p.path++[m.toNat * en.z+o]⟩=some (aD en2 qZ):=vc (g:=g) (r:=p.root) (path:=p.path) aq h mP;have Xy:bE (ct g ⟨s,[]⟩ .dead) p=some (aD en L):=by
  unfold bE at aq ⊢;rw [wu (p:=⟨s,[]⟩) (λe=>FI e)]; exact aq
 have au:eS g [.a6 en2.z ⟨s,[]⟩ (qZ.length+M.length)] [.own en2.z (qZ.length+M.length) (bB en2 qZ++cO)] g1:=by
  refine .jd qy Cf a_ ?_ .nil;rw [aav .dead (r:=p.root) (path:=p.path) Xy h mP];exact h1
 have hk:m.toNat * en.z+o+1<=L.length * en.z:=by
  obtain ⟨D0,mq,_⟩:=mn h;have af:m.toNat+1<=L.length:=by omega
  calc m.toNat * en.z+o+1<=m.toNat * en.z+en.z:=by omega
   _=(m.toNat+1) * en.z:=by rw [Nat.add_mul]; omega
   _<=L.length * en.z:=Nat.mul_le_mul_right _ af
 refine .store aX aQ aJ.bs ar.bs au.take (y':=aD en2 (qZ++M)) ?_ rfl aW (p:=p) (nd:=.own en.z L.length ((bB en L).set (m.toNat * en.z+o) .dead)) (z:=en.z) (n:=L.length) (cs:=(bB en L).set (m.toNat * en.z+o) .dead) vG (.inl rfl) ?_ (by simp) (λt x J=>?_) (λt x J y ao=>?_) (λt z q n m new J=>?_) (by intro e; rw [e] at hr; cases hr)
 ·rw [<- pZ]; exact (o'.pre _).own
 ·simp only [List.length_singleton,List.length_set,oR]; exact hk
 ·have eG:(ab.own en.z L.length ((bB en L).set (m.toNat * en.z+o) .dead)).e4 (m.toNat * en.z+o) [aD en2 (qZ++M)]=aD en (L.set m.toNat y2):=by
   show ab.own en.z L.length (e4 ((bB en L).set (m.toNat * en.z+o) .dead) (m.toNat * en.z+o) [aD en2 (qZ++M)])=_;unfold aD at ja ⊢;rw [aaN,ja,OI]
  rw [eG];rcases dh.spec t x J with ⟨h1,af,_⟩ | ⟨h1,af,_⟩
  ·rw [wu h1]; exact af
  ·subst h1 af; exact gv
 ·rcases dh.spec t x J with ⟨h1,af,aE⟩ | ⟨h1,af,aE⟩
  ·rw [af] at ao; cases ao;rcases aE with aE | ⟨aE,c2,rfl⟩
   ·exact aE.QG
   ·refine jE.ref (by cases aE; rfl) ⟨aE.Qa,aE.clear ?_,aE.Gn⟩;intro e;obtain ⟨gB,pp⟩:=p;simp only at e;subst e;simp only [ct,if_true,ru,Option.map_some,ab.setAt,Option.some.injEq] at gv;cases gv
  ·subst h1; rw [ru] at ao; cases ao; exact .bn eN.bn
 ·rcases dh.spec t _ J with ⟨_,_,aE | ⟨aE,_⟩⟩ | ⟨_,_,aE⟩
  ·exact aE.fJ _ _ _ _ _ rfl
  ·exact aE.fJ _ _ _ _ _ rfl
  ·cases aE
end
end Go.Own
/- Short forms for printed walks. -/
namespace Go.Own
open Go
variable [cF]
section
variable {P:Program}{N:cP}{ops:Array Oper}{bd:List (List Nat)}{g g0:aM}{K:aM->Prop}{l:List Oper}{acc:Acc}{d i:Nat}{op:Op}{ty:TypeId}{pos:String}{after:Array Edge}{x:ab}
theorem al (aq:cf P g op ty x) (hk:aA P N ops l (cV g d x) K) (bp:N.ok d=true:=by rfl) (aU:g d=none:=by rfl):aA P N ops (⟨some d,op,ty,pos,after,none⟩::l) g K:=.v aq bp aU .none hk
theorem e6 (aq:cp P g op x) (hk:aA P N ops l (cV g d x) K) (bp:N.ok d=true:=by rfl) (aU:g d=none:=by rfl):aA P N ops (⟨some d,op,ty,pos,after,none⟩::l) g K:=.c aq bp aU .none hk
theorem ax (bV:Nat) (aq:cf P (kE bd g0 bV acc) op ty x) (hk:bx P N ops bd g0 i ((bV,d,some x)::acc) l K) (ag:Nat.beq ops.size (bV+l.length+1)=true:=by rfl) (aU:g0 d=none:=by rfl) (aC:acc.all (λe=>!Nat.beq e.2.1 d)=true:=by rfl) (bp:N.ok d=true:=by rfl) :
  bx P N ops bd g0 i acc (⟨some d,op,ty,pos,after,none⟩::l) K:=.v bV aq ag aU aC bp .none hk
theorem kf (bV:Nat) (aq:cp P (kE bd g0 bV acc) op x) (hk:bx P N ops bd g0 i ((bV,d,some x)::acc) l K) (ag:Nat.beq ops.size (bV+l.length+1)=true:=by rfl) (aU:g0 d=none:=by rfl) (aC:acc.all (λe=>!Nat.beq e.2.1 d)=true:=by rfl) (bp:N.ok d=true:=by rfl) :
  bx P N ops bd g0 i acc (⟨some d,op,ty,pos,after,none⟩::l) K:=.c bV aq ag aU aC bp .none hk
end
instance {z n:Nat}{cs:List ab}:p_ (.own z n cs):=⟨by simp⟩
def aF (a n:Nat) (l:List Nat):List Nat:=List.range' a n++l
section
variable {α:Type}{P:Program}{N:cP}{g:aM}{d r:Nat}{ty:TypeId}
instance {fn:Fn}{cs:List ab} [h:dp cs]:b6 (.cD fn [] cs):=⟨.cD (by simp) h.bn⟩
theorem O.Ac {fn:Fn}{caps:List Operand}{b:List ab}(ar:Own.hn g caps=some b):cf P g (.makeFunc fn #[] caps.toArray) ty (.cD fn [] b):=.Dp (.makeFunc rfl (by simpa using ar))
theorem View.cl {fn:Fn}{cs cs':List ab}(h:o2 g cs cs'):View g (.cD fn [] cs) (.cD fn [] cs'):=.cD h.len h.get
theorem cp.gc {c:Operand}{xs:List Operand}{fR:Array TypeId}{f:FuncId}{ys caps:List ab}{outs:List (Option ab)}{res:ab}(aa:Rd g c (.cD (.func f) [] caps)) (J:q1 g xs ys) (hj:bS P f (ys++caps) outs res) (aU:hG P f=true) (aX:uE outs=true) [pL:dp caps] [hr:b6 res] :
  cp P g (.call { callee:=.value c,args:=xs.toArray,argTypes:=fR }) res:=by
 have e:=P1 aX hj.1;refine .plain (first:=[]) (caps:=caps) (ys:=ys) aa.bs (by simpa using J.spec.1) aU (λy ao=>?_) ?_ hr.bn
 ·rw [List.nil_append] at ao;rcases List.mem_append.1 ao with h | h
  ·exact J.spec.2 y h
  ·exact pL.bn y h
 ·rw [List.nil_append,<- e]; exact hj
theorem k1.jw {o:Oper}{xs:List Operand}{fR:Array TypeId}{f:FuncId}{ys args:List ab}{res:ab}{en:bN α}{L L':List α}{G2:List (Nat × ab)}(aX:o.op=.call { callee:=.value (.func f),args:=xs.toArray,argTypes:=fR }) (aQ:o.dst=some d) (J:Own.hn g xs=some (.a6 en.z ⟨r,[]⟩ L.length::ys))
  (av:g r=some (aD en L)) (hv:o2 (get ((r,.dead)::G2)) ys args) (hj:bS P f (aD en L::args) (some (aD en L')::args.map λ_=>none) res) (aU:hG P f=true) [hr:p' res] [lY:p' (aD en L')]
  (dh:Trim false (ct g ⟨r,[]⟩ .dead) (get ((r,.dead)::G2)) G2) (aN:get G2 d=none) (uk:Nat.beq r d=false) (B3:Trim false (get ((r,aD en L')::G2)) (get ((r,aD en L')::G2)) G2) (bp:N.ok d=true) :
  k1 P N g o d (get ((d,res)::(r,aD en L')::G2)):=by
 have CF:r≠d:=Nat.ne_of_beq_eq_false uk;have IA:get ((r,ab.dead)::G2) r=some .dead:=by simp [get]
 have oF:∀ x∈bB en L,cG x:=by
  intro x J;obtain ⟨a,_,aJ⟩:=List.mem_flatMap.1 J;exact en.bn a x aJ
 have fP:(bB en L).take (L.length * en.z)=bB en L:=List.take_of_length_le (by rw [oR]; exact Nat.le_refl _);have C4:iE (ct g ⟨r,[]⟩ .dead) (get ((r,.dead)::G2)):=by
  refine ⟨λt x h=>?_,λt x h=>?_,λt z q n m new h=>?_⟩
  all_goals
   simp only [get] at h
   split at h
  ·rename_i e; subst e; cases h; simp [ct,av,ab.setAt]
  ·obtain ⟨⟨y,h1,_,aE⟩,_⟩:=dh.spec t x h; rw [<- aE rfl]; exact h1
  ·cases h; exact .bn .dead
  ·exact (dh.spec t x h).2.1
  ·cases h
  ·exact (dh.spec t _ h).2.2 _ _ _ _ _ rfl
 have put:qJ (get ((r,.dead)::G2)) [(⟨r,[]⟩,aD en L')]=get ((r,aD en L')::G2):=by
  funext t;simp only [qJ,ct,get];by_cases h:t=r
  ·simp [h,ab.setAt]
  ·simp [h]
 have C5:iE (get ((r,aD en L')::G2)) (get ((r,aD en L')::G2)):=by
  refine ⟨λt x h=>h,λt x h=>?_,λt z q n m new h=>?_⟩
  all_goals
   simp only [get] at h
   split at h
  ·cases h; exact .bn lY.l3.bn
  ·exact (B3.spec t x h).2.1
  ·cases h
  ·exact (B3.spec t _ h).2.2 _ _ _ _ _ rfl
 have ah:=hv.len;have BN:get ((d,res)::(r,aD en L')::G2)=cV (get ((r,aD en L')::G2)) d res:=by
  funext t;rw [sZ]
 rw [BN];refine Bf.ok (first:=[]) (caps:=[]) (ys:=.a6 en.z ⟨r,[]⟩ L.length::ys) (tk:=λk=>k == 0) (vw:=true) (outs:=some (aD en L')::args.map λ_=>none) (g1:=ct g ⟨r,[]⟩ .dead) (g2:=get ((r,.dead)::G2)) (g4:=get ((r,aD en L')::G2)) (l:=[(⟨r,[]⟩,aD en L')]) (ks:=λ_=>0) (xs0:=.a6 en.z ⟨r,[]⟩ L.length::ys.map λ_=>.dead) (xs1:=aD en L::ys.map λ_=>.dead) (args:=aD en L::args) (res:=res) aX aQ rfl (by simpa using J)
  ⟨aU,by simp,by simpa using ah,λk x h=>?_,?_,C4,λk x y J ao=>?_,hj,by simpa using hr.l3,λk x h=>?_,λj p x ag=>?_,by simp,λi j hi ag _=>by simp at hi ag; omega,by rw [put]; exact C5⟩ ?_ bp yQ.refl
 ·simp only [List.nil_append,List.append_nil] at h;cases k with
  | zero=>exact .inl h
  | succ k =>
   refine .inr ?_;simp only [List.getElem?_cons_succ] at h ⊢;rw [List.getElem?_map,h]; rfl
 ·have h1:Take (ct g ⟨r,[]⟩ .dead) ((bB en L).take (L.length * en.z)) (bB en L) (ct g ⟨r,[]⟩ .dead):=by rw [fP]; exact .bn oF
  refine .a6 (N:=L.length) (by simp [bE,av,ab.at]) (Nat.le_refl _) h1 (.bn λx J=>?_);obtain ⟨_,_,rfl⟩:=List.mem_map.1 J;exact .dead
 ·simp only [List.nil_append,List.append_nil] at J;cases k with
  | zero=>simpa using ao
  | succ k =>
   simp only [List.getElem?_cons_succ] at J ao;exact ⟨rfl,hv.get k x y J ao⟩
 ·cases k with
  | zero=>simp only [List.getElem?_cons_zero,Option.some.injEq] at h; subst h; exact lY.l3
  | succ k =>
   simp only [List.getElem?_cons_succ,List.getElem?_map] at h;cases aJ:args[k]? <;> rw [aJ] at h <;> cases h
 ·cases j with
  | succ j=>simp at ag
  | zero =>
   simp only [List.getElem?_cons_zero,Option.some.injEq,Prod.mk.injEq] at ag;obtain ⟨rfl,rfl⟩:=ag;exact ⟨rfl,by simp [bE,IA,ab.at],.inl ⟨en.z,L.length,bB en L,rfl,by simp [bE,av,ab.at]⟩,λ_ h=>by cases h⟩
 ·simp only [get,if_neg (Ne.symm CF)]; exact aN
end
end Go.Own
