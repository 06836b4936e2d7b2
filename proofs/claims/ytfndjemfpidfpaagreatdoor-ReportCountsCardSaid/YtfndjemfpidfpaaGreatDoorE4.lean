/- Parts of the proof that the last text states. -/
import Derived.ChangeAt
import Derived.ChangeOld
import Derived.ChangeSame
import Derived.Deep.Slices
import Derived.ReadAgain
import Derived.RowKit3
import Derived.WideShapes
import Derived.Test.YtfndjemfpidfpaaGreatDoorE3
namespace Go.Own
open Go
set_option linter.unusedSectionVars false
variable [cw]
variable {α β:Type}
def hg (s:ByteArray) (m:Int):Option Int:=if 0<=m/\m<s.size then some (ih s m) else none
def j_ (s:ByteArray) (m n:Int):Option ByteArray:=if 0<=m/\m<=n/\n<=s.size then some (qx s m n) else none
def er (s u:ByteArray):Option ByteArray:=if s.size+u.size<=4611686018427387904 then some (s++u) else none
def z1 (m n:Int):Option Int:=if n=0 then none else some (aS (m.tdiv n))
def qX (m n:Int):Option Int:=if n=0 then none else some (m.tmod n)
def nt (l:List α) (m n:Int):Option (List α):=if 0<=m/\m<=n/\n<=l.length then some ((l.drop m.toNat).take (n - m).toNat) else none
def lA:ab->Bool
 | .lit _ | .bb | .bf .. | .cL _ | .dc .. | .ptr .. | .bo .. | .sub .. | .gY .. | .imp ..=>true
 | _=>false
theorem Uf {d:Nat}{p:Place}{x:ab}(h:lA x=true):fY d p x=x:=by
 cases x <;> simp [lA] at h <;> cases d <;> rfl
theorem Ug {t:Nat}{x:ab}(h:lA x=true):p9 t x=x:=by
 cases x <;> simp [lA] at h <;> rfl
theorem En {d:Nat}{q:Nat->Place}{cs:List ab}(h:cs.all lA=true):(cs.mapIdx λi x=>fY d (q i) x)=cs:=by
 apply List.ext_getElem?;intro k;rw [List.getElem?_mapIdx];cases hk:cs[k]? with
 | none=>rfl
 | some x=>simp only [Option.map_some,Uf (List.all_eq_true.1 h x (List.mem_of_getElem? hk))]
section
variable {P:Program}{N:cQ}{ops:Array Oper}{g:aH}{K:aH->Prop}{l:List Oper}{d:Nat}{ty t t2:TypeId}{a b c:Operand}{k ke:IntKind}{m n:Int}{s u:ByteArray}{p q e:Bool}
theorem Rd.f {t:Nat}{x:ab}(h:g t=some x) (aV:lA x=true):Own.bp g (.tmp t)=some x:=by simp only [Own.bp,h,Option.map_some,Ug aV]
theorem Rd.eK {t:Nat}{cs:List ab}(h:g t=some (.agg cs)) (aV:cs.all lA=true):Rd g (.tmp t) (.agg cs):=.agg h (En aV)
theorem Rd.Dq {t:Nat}{cs:List ab}(h:g t=some (.bI cs)) (aV:cs.all lA=true):Rd g (.tmp t) (.bI cs):=.bI h (En aV)
namespace O
theorem aW {y:ab}(h:Rd g a y):ch P g (.move a) ty y:=.eG (.move h.bp)
theorem dA {y:ab}(h:Rd g a y):ch P g (.assign a) ty y:=.eG (.assign h.bp)
theorem jm {y:ab}(aa:Rd g c (bd p)) (ao:p=true) (h:Rd g a y):ch P g (.pick c a b) ty y:=by subst ao; exact .eG (.Y' aa h)
theorem nn {y:ab}(aa:Rd g c (bd p)) (ao:p=false) (h:Rd g b y):ch P g (.pick c a b) ty y:=by subst ao; exact .eG (.Y_ aa h)
theorem add (J:Rd g a (.lit (.int k m))) (ai:Rd g b (.lit (.int k n))):ch P g (.binOp .add t a b t2) ty (.lit (.int k (k.wrap (m+n)))):=.eG (.add J ai)
theorem sub (J:Rd g a (.lit (.int k m))) (ai:Rd g b (.lit (.int k n))):ch P g (.binOp .sub t a b t2) ty (.lit (.int k (k.wrap (m - n)))):=.eG (.Z7 J ai)
theorem mul (J:Rd g a (.lit (.int k m))) (ai:Rd g b (.lit (.int k n))):ch P g (.binOp .mul t a b t2) ty (.lit (.int k (k.wrap (m * n)))):=.eG (.mul J ai)
theorem quo {r:Int}(J:Rd g a (ae m)) (ai:Rd g b (ae n)) (h:z1 m n=some r):ch P g (.binOp .quo t a b t2) ty (ae r):=by
 unfold z1 at h
 split at h
 ·cases h
 ·cases h; exact .eG (.quo J ai (by assumption))
theorem rem {r:Int}(J:Rd g a (ae m)) (ai:Rd g b (ae n)) (h:qX m n=some r):ch P g (.binOp .rem t a b t2) ty (ae r):=by
 unfold qX at h
 split at h
 ·cases h
 ·cases h; exact .eG (.rem J ai (by assumption))
theorem lss (J:Rd g a (.lit (.int k m))) (ai:Rd g b (.lit (.int k n))):ch P g (.binOp .lss t a b t2) ty (bd (decide (m<n))):=.eG (.lss J ai (by simp))
theorem leq (J:Rd g a (.lit (.int k m))) (ai:Rd g b (.lit (.int k n))):ch P g (.binOp .leq t a b t2) ty (bd (decide (m<=n))):=.eG (.leq J ai (by simp))
theorem gtr (J:Rd g a (.lit (.int k m))) (ai:Rd g b (.lit (.int k n))):ch P g (.binOp .gtr t a b t2) ty (bd (decide (n<m))):=.eG (.gtr J ai (by simp))
theorem geq (J:Rd g a (.lit (.int k m))) (ai:Rd g b (.lit (.int k n))):ch P g (.binOp .geq t a b t2) ty (bd (decide (n<=m))):=.eG (.geq J ai (by simp))
theorem eql (J:Rd g a (.lit (.int k m))) (ai:Rd g b (.lit (.int k n))):ch P g (.binOp .eql t a b t2) ty (bd (decide (m=n))):=.eG (.eql J ai (by simp))
theorem neq (J:Rd g a (.lit (.int k m))) (ai:Rd g b (.lit (.int k n))):ch P g (.binOp .neq t a b t2) ty (bd (!decide (m=n))):=.eG (.neq J ai (by simp))
theorem oM (J:Rd g a (aq s)) (ai:Rd g b (aq u)):ch P g (.binOp .eql t a b t2) ty (bd (decide (s=u))):=.eG (.oM J ai (by simp))
theorem nk (J:Rd g a (aq s)) (ai:Rd g b (aq u)):ch P g (.binOp .neq t a b t2) ty (bd (!decide (s=u))):=.eG (.nk J ai (by simp))
theorem Eg (J:Rd g a (bd p)) (ai:Rd g b (bd q)) (au:G7 P t=true):ch P g (.binOp .eql t a b t2) ty (bd (p == q)):=.eG (.bin J.bp ai.bp rfl λw=>Zz (Sv au) w)
theorem neg (J:Rd g a (.lit (.int k m))):ch P g (.unOp .neg t a) ty (.lit (.int k (k.wrap (-m)))):=.eG (.un J.bp rfl λw=>by simp [Op.unary,Op.intArith])
theorem not (J:Rd g a (bd p)):ch P g (.unOp .not t a) ty (bd (!p)):=.eG (.not J)
theorem Eb (J:Rd g a (.lit (.int k m))) (av:tP P t k=true) (aP:tP P t2 ke=true):ch P g (.convert t t2 a) ty (.lit (.int ke (ke.wrap m))):=.eG (.Tv J av aP)
theorem cat {r:ByteArray}(J:Rd g a (aq s)) (ai:Rd g b (aq u)) (h:er s u=some r):ch P g (.binOp .add t a b t2) ty (aq r):=by
 unfold er at h
 split at h
 ·cases h; exact .eG (.cat J ai (by omega))
 ·cases h
theorem ot (J:Rd g a (aq s)) (au:o' P t=true):ch P g (.call { callee:=.builtin .len,args:=#[a],argTypes:=#[t] }) ty (ae s.size):=.eG (.ot J au)
theorem at' {r:Int}(J:Rd g a (aq s)) (ai:Rd g b (.lit (.int k m))) (au:o' P t=true) (h:hg s m=some r):ch P g (.index t a b) ty (mi r):=by
 unfold hg at h
 split at h
 ·cases h; exact .eG (.Se J ai au (by assumption))
 ·cases h
theorem sT {r:ByteArray}{fX:IntKind}(J:Rd g a (aq s)) (ah:Rd g b (.lit (.int k m))) (br:Rd g c (.lit (.int fX n))) (au:o' P t=true) (h:j_ s m n=some r):ch P g (.slice t a (some b) (some c) none) ty (aq r):=by
 unfold j_ at h
 split at h
 ·cases h; exact .eG (.KX J ah br au (by assumption))
 ·cases h
theorem Af {r:ByteArray}(J:Rd g a (aq s)) (br:Rd g c (.lit (.int k n))) (au:o' P t=true) (h:j_ s 0 n=some r):ch P g (.slice t a none (some c) none) ty (aq r):=by
 unfold j_ at h
 split at h
 ·rename_i aa; cases h; exact .eG (.ZR J br au ⟨aa.2.1,aa.2.2⟩)
 ·cases h
theorem vp {z bM n:Nat}{cs:List ab}{e:TypeId}(J:Rd g a (.bf z n cs)) (au:fh P t e bM=true):ch P g (.call { callee:=.builtin .len,args:=#[a],argTypes:=#[t] }) ty (ae n):=.eG (.Ff J.bp au)
theorem rP {en:bK α}{L:List α}{y:α}{e:TypeId}(J:Rd g a (.bf en.z L.length (bu en L))) (ai:Rd g b (.lit (.int k m))) (au:fh P t e en.z=true) (h:idx L m=some y):ch P g (.indexAddr t a b) ty (.cL (en.cells y++bu en (L.drop (m.toNat+1)))):=by
 rw [<- KL en h];obtain ⟨aI,h1,_⟩:=qO h;obtain ⟨j,rfl⟩:=Int.eq_ofNat_of_zero_le aI;exact .eG (.E6 J.bp ai.bp au (by omega))
theorem ZQ {en:bK α}{L r:List α}{e:TypeId}(J:Rd g a (.bf en.z L.length (bu en L))) (br:Rd g c (.lit (.int k n))) (au:fh P t e en.z=true) (h:nt L 0 n=some r):ch P g (.slice t a none (some c) none) ty (ay en r):=by
 unfold nt at h
 split at h
 ·rename_i aa;obtain ⟨_,h1,af⟩:=aa;cases h;obtain ⟨j,rfl⟩:=Int.eq_ofNat_of_zero_le h1;have:=c9.De (P:=P) (ty:=ty) (t:=t) (l:=0) (h:=j) (lo:=none) (hi:=some c) J.bp rfl ⟨_,br.bp⟩ au (by omega) (by omega);rw [C7,z'] at this;have bP:(((L.drop 0).take (j - 0)).length)=j - 0:=by rw [List.length_take,List.length_drop]; omega
  have cu:((j:Int) - 0).toNat=j - 0:=by omega
  rw [cu];unfold ay;have eP:(0:Int).toNat=0:=rfl;rw [eP,bP];exact .eG this
 ·cases h
theorem Qu {en:bK α}{L r:List α}{e:TypeId}(J:Rd g a (.bf en.z L.length (bu en L))) (ah:Rd g b (.lit (.int k m))) (au:fh P t e en.z=true) (h:nt L m L.length=some r):ch P g (.slice t a (some b) none none) ty (ay en r):=by
 unfold nt at h
 split at h
 ·rename_i aa;obtain ⟨aI,h1,af⟩:=aa;cases h;obtain ⟨i,rfl⟩:=Int.eq_ofNat_of_zero_le aI;have:=c9.De (P:=P) (ty:=ty) (t:=t) (l:=i) (h:=L.length) (lo:=some b) (hi:=none) J.bp ⟨_,ah.bp⟩ rfl au (by omega) (by omega);rw [C7,z'] at this;have bP:(((L.drop i).take (L.length - i)).length)=L.length - i:=by rw [List.length_take,List.length_drop]; omega
  have cu:((L.length:Int) - (i:Int)).toNat=L.length - i:=by omega
  rw [Int.toNat_natCast,cu];unfold ay;rw [bP];exact .eG this
 ·cases h
theorem A7 {cY f off:Nat}{cs:List ab}(J:Rd g a (.cL cs)) (aV:iN P cY f off t=true):ch P g (.fieldAddr cY a f) ty (.cL (cs.drop off)):=.eG (.El J.bp aV)
theorem Ch {x:ab}{cs:List ab}(J:Rd g a (.cL cs)) (au:jQ P t=true) (aa:cs.head?=some x):ch P g (.load t a) ty x:=by
 cases cs with
 | nil=>cases aa
 | cons y cs=>cases aa; exact .eG (.Fh J.bp au)
theorem oq {z:Nat}{cs cs':List ab}(J:Rd g a (.cL cs)) (au:hX P t z=true) (aa:cs.take z=cs') (aT:cs'.length=z):ch P g (.load t a) ty (.agg cs'):=by
 subst aa;exact .eG (.Fi J.bp au (by rw [List.length_take] at aT; omega))
theorem xy {cs:List ab}(J:Rd g a (.cL cs)):ch P g (.nilCheck a) ty (.cL cs):=.eG (.p3 J.bp)
theorem dP {p:Place}{k:Nat}(J:Rd g a (.ptr p k)):ch P g (.nilCheck a) ty (.ptr p k):=.eG (.Fu J.bp)
theorem ex {p i:Nat}{cs:List ab}{x y:ab}(J:g p=some (.bI cs)) (ai:cs[i]?=some x) (ak:fY 1 (Place.push ⟨p,[]⟩ i) x=y):ch P g (.extract (.tmp p) i) ty y :=
 .eG (.Ei (cs:=cs.mapIdx λi x=>fY 1 (Place.push ⟨p,[]⟩ i) x) (by simp [bp,J,p9,fY]) (by simp [ai,ak]))
theorem box {e:TypeId}{y:ab}{cs:List ab}(J:Rd g a y) (aa:jf y=some cs):ch P g (.box e a) ty (.obj cs):=.qQ (.box J.bp aa)
theorem mT {cY f off k r:Nat}{cs:List ab}(av:g r=some (.obj cs)) (J:Rd g a (.ptr ⟨r,[]⟩ k)) (aV:iN P cY f off t=true) (aK:Nat.blt (k+off) cs.length=true):ch P g (.fieldAddr cY a f) ty (.ptr ⟨r,[]⟩ (k+off)) :=
 .eG (.A9 J.bp aV ⟨.obj cs,by simp [bB,av,ab.at],0,0,cs,.inr rfl,by simpa using aK⟩)
theorem zq {k r:Nat}{cs:List ab}{x y:ab}(av:g r=some (.obj cs)) (J:Rd g a (.ptr ⟨r,[]⟩ k)) (au:jQ P t=true) (aa:cs[k]?=some x) (ai:fY 0 ⟨r,[k]⟩ x=y):ch P g (.load t a) ty y:=by
 subst ai;exact .eG (.Cj (p:=⟨r,[]⟩) J.bp au (by simp [bB,av,ab.at,Place.push,ab.kids,aa]))
theorem ff {k r z:Nat}{cs cs':List ab}(av:g r=some (.obj cs)) (J:Rd g a (.ptr ⟨r,[]⟩ k)) (au:hX P t z=true) (hk:Nat.ble (k+z) cs.length=true) (aa:(((cs.drop k).take z).mapIdx λi x=>fY 0 ⟨r,[k+i]⟩ x)=cs'):ch P g (.load t a) ty (.agg cs'):=by
 subst aa;exact .eG (.zt (p:=⟨r,[]⟩) (n:=0) (z:=0) J.bp au (by simp [bB,av,ab.at]) (.inr rfl) (Nat.le_of_ble_eq_true hk))
end O
theorem q'.cA {x:Operand}{y:ab}{xs:List Operand}{ys:List ab}(h:Rd g x y) [aA:b6 y] (au:q' g xs ys):q' g (x::xs) (y::ys):=.cons h aA.bh au
theorem cF.go {xs:List Operand}{fT:Array TypeId}{f:FuncId}{ys:List ab}{outs:List (Option ab)}{res:ab}(J:q' g xs ys) (gH:bO P f ys outs res) (aV:gU P f=true) (aM:vt outs=true) [ak:b6 res] :
  cF P g (.call { callee:=.value (.func f),args:=xs.toArray,argTypes:=fT }) res:=.TU gH aV J aM ak.bh
inductive AI (P:Program) (g:aH):List ResultVar->List ab->Prop
 | nil:AI P g [] []
 | f {t:Nat}{x:ab}{rs:List ResultVar}{xs:List ab}(h:g t=some x) (aV:lA x=true) [aA:b6 x] (au:AI P g rs xs):AI P g (.tmp t::rs) (x::xs)
 | c {a:Nat}{t:TypeId}{z:Nat}{cs:List ab}{rs:List ResultVar}{xs:List ab}(h:g a=some (.obj cs)) (au:hX P t z=true) (aT:cs.length=z) (aV:(0<z&&cs.all lA)=true) [aA:dp cs] (ak:AI P g rs xs):AI P g (.cell a t::rs) (.agg cs::xs)
end
def xA:Nat->List ab->List (Nat × ab)
 | _,[]=>[]
 | i,x::l=>(i,x)::xA (i+1) l
theorem Ni:∀ (l:List ab) (i t:Nat),get (xA i l) t=if i<=t then l[t - i]? else none
 | [],i,t=>by simp [xA,get]
 | x::l,i,t=>by
  simp only [xA,get];by_cases h:t=i
  ·subst h; simp
  ·rw [if_neg h,Ni l (i+1) t];by_cases h1:i+1<=t
   ·rw [if_pos h1,if_pos (by omega)];have:t - i=(t - (i+1))+1:=by omega
    rw [this,List.getElem?_cons_succ]
   ·rw [if_neg h1,if_neg (by omega)]
theorem R2 (args:List ab):re args=get (xA 0 args):=funext λt=>by rw [Ni]; simp [re]
theorem bO.go {P:Program}{f:FuncId}{fn:Func}{c:Code}{args:List ab}{outs:List (Option ab)}{res:ab}{N:cQ}(aV:P.funcs[f]?=some fn) (ao:fn.body=some c) (bc:fn.ntmps=N.size) (aQ:Nat.ble args.length N.size=true) (hlen:outs.length=args.length)
  (hw:W P N c (get (xA 0 args)) (Fin P N fn.results.toList args.length outs res)):bO P f args outs res :=
 .fin aV ao bc aQ hlen (by rw [R2]; exact hw)
end Go.Own
namespace Go.Own
open Go
set_option linter.unusedSectionVars false
variable [cw]
section
variable {P:Program}{N:cQ}{Φ qj:Exit->aH->Prop}{dS:aH->Prop}{G G1:List (Nat × ab)}{A B c:Code}{id k:Nat}{e:Exit}{S R:Type}
inductive hN:aH->List (Nat × ab)->Prop
 | hA {G:List (Nat × ab)}:hN (get G) G
 | eS {g g1:aH}{G:List (Nat × ab)}(h:lX g g1) (ao:hN g1 G):hN g G
theorem hN.trans {g:aH}{G G1:List (Nat × ab)}(h:hN g G) (h1:hN (get G) G1):hN g G1:=by
 induction h with
 | hA=>exact h1
 | eS h _ aJ=>exact .eS h (aJ h1)
inductive Ay (P:Program) (N:cQ):aH->Exit->(Exit->aH->Prop)->Prop
 | hA {g:aH}{e:Exit}{Φ:Exit->aH->Prop}(h:Φ e g):Ay P N g e Φ
 | eS {g g1:aH}{e:Exit}{Φ:Exit->aH->Prop}(hw:lX g g1) (h:Ay P N g1 e Φ):Ay P N g e Φ
theorem W.outs {g:aH}(h:W P N c g Φ) (p0:∀ e g',Φ e g'->Ay P N g' e qj):W P N c g qj:=by
 intro a w I Fs Q a_ bc eu;refine h a_ bc λe g' cb w' aw aA=>?_;have tE:=p0 e g' aw;clear aw p0;revert aA
 induction tE with
 | hA h=>exact λaA=>eu _ _ _ _ h aA
 | eS hw _ aJ =>
  intro aA;refine aJ eu ?_;obtain ⟨h1,af,I',b5,eL,bQ⟩:=aA;obtain ⟨j4,hI,gi⟩:=eL.eS hw;exact ⟨h1,af,I',j4,hI,bQ.eh,bQ.more,bQ.new,λc ⟨t,aa⟩=>bQ.own c ⟨t,gi t c aa⟩⟩
def aB (e:Exit) (Φ:Exit->aH->Prop) (G:List (Nat × ab)):Prop:=∀ g,hN g G->Φ e g
theorem W.be {g:aH}(h:W P N c (get G) Φ) (ao:hN g G):W P N c g Φ:=by
 induction ao with
 | hA=>exact h
 | eS hw _ aJ=>exact (aJ h).weaken hw
theorem oG.be {g:aH}(h:oG P N c (get G) Φ) (ao:hN g G):oG P N c g Φ:=by
 induction ao with
 | hA=>exact h
 | eS hw _ aJ=>exact (aJ h).weaken hw
theorem aB.bL (h:W P N B (get G) Φ):aB .normal (oz (λg1=>W P N B g1 Φ) qj) G:=λ_ ao=>aam (h.be ao)
theorem aB.fi (h:aB (.exit k) qj G):aB (.exit k) (oz dS qj) G:=λg ao=>aal (h g ao)
theorem aB.lr (h:aB .ret qj G):aB .ret (oz dS qj) G:=λg ao=>aan (h g ao)
theorem aB.b9 (h:aB .normal Φ G):aB .normal (lJ id Φ) G:=λg ao=>XX (h g ao)
theorem aB.fa (h:aB .normal Φ G):aB (.exit id) (lJ id Φ) G:=λg ao=>XV (h g ao)
theorem aB.G3 (hk:Nat.beq k id=false) (h:aB (.exit k) Φ G):aB (.exit k) (lJ id Φ) G:=λg ao=>XW hk (h g ao)
theorem aB.qw (h:aB .ret Φ G):aB .ret (lJ id Φ) G:=λg ao=>XY (h g ao)
theorem W.fk (h:aB (.exit k) Φ G):W P N (.exit k) (get G) Φ:=W.exit (h _ .hA)
theorem W.cZ (h:aB .normal Φ G):W P N .skip (get G) Φ:=W.skip (h _ .hA)
theorem W.rt (h:aB .ret Φ G):W P N .ret (get G) Φ:=W.ret (h _ .hA)
theorem W.rx {id:Nat}{l:List Oper}(G1:List (Nat × ab)) (h:aD P N l.toArray l (get G) λg'=>lX g' (get G1)) (hk:aB .normal Φ G1):W P N (.region id l.toArray false) (get G) Φ :=
 W.C4 (λi hi=>by obtain ⟨g',h1,af⟩:=h i hi; exact ⟨g',h1,hk g' (.eS af .hA)⟩)
theorem W.dn {G1:List (Nat × ab)}(h:Trim true (get G) (get G1) G1) (hw:W P N c (get G1) Φ):W P N c (get G) Φ:=hw.weaken h.eS
theorem W.st {G:List (Nat × ab)}(G1:List (Nat × ab)) (h:W P N c (get G1) Φ) (e:G1=G:=by rfl):W P N c (get G) Φ:=by subst e; exact h
theorem W.b9 (h:W P N c (get G) (lJ id Φ)):W P N (.block id c) (get G) Φ:=W.block h
theorem W.dw (G1:List (Nat × ab)) (h:W P N c (get G) λe g=>e=.normal/\hN g G1) (hk:aB .normal Φ G1):W P N c (get G) Φ :=
 h.mono λe g ⟨he,ao⟩=>by subst he; exact hk g ao
theorem aB.dw (h:Trim true (get G) (get G1) G1):aB .normal (λe g=>e=.normal/\hN g G1) G:=λ_ ao=>⟨rfl,ao.trans (.eS h.eS .hA)⟩
def kL (G:S->List (Nat × ab)) (dS:R->Exit->aH->Prop):S ⊕ R->Exit->aH->Prop
 | .inl s,e,g=>e=.normal/\hN g (G s)
 | .inr r,e,g=>e≠.normal/\dS r e g
theorem oG.it {f:S->Option (S ⊕ R)}{G:S->List (Nat × ab)}{dS:R->Exit->aH->Prop}(ao:∀ s o,f s=some o->W P N c (get (G s)) (kL G dS o)) :
  ∀ (n:Nat) (s:S) (r:R),Own.iter f n s=some r->oG P N c (get (G s)) (dS r)
 | 0,_,_,h=>by simp [Own.iter] at h
 | n+1,s,r,h=>by
  simp only [Own.iter] at h;cases aV:f s with
  | none=>rw [aV] at h; cases h
  | some o =>
   rw [aV] at h;refine .step ((ao s o aV).mono λe g' ak=>?_);cases o with
   | inl cY =>
    obtain ⟨rfl,hw⟩:=ak;exact (oG.it ao n cY r h).be hw
   | inr dr =>
    cases h;obtain ⟨aA,hw⟩:=ak;cases e with
    | normal=>exact absurd rfl aA
    | _=>exact hw
theorem W.fx {f:S->Option (S ⊕ R)}{s:S}{r:R}(G:S->List (Nat × ab)) (dS:R->Exit->aH->Prop) (h:cc f s=some r) (ao:∀ s o,f s=some o->W P N c (get (G s)) (kL G dS o)) (hk:∀ e g,dS r e g->Φ e g):W P N (.loop c) (get (G s)) Φ :=
 (W.loop (oG.it ao fuel s r h)).mono hk
theorem W.Fj {f:S->Option (S ⊕ R)}{s:S}{r:R}(G:S->List (Nat × ab)) (id:Nat) (lS:R->List (Nat × ab)) (h:cc f s=some r) (ao:∀ s o,f s=some o->W P N c (get (G s)) (kL G (λr e g=>e=.exit id/\hN g (lS r)) o)) (hk:aB (.exit id) Φ (lS r)):W P N (.loop c) (get (G s)) Φ :=
 .fx G _ h ao λe g ⟨he,aL⟩=>by subst he; exact hk g aL
theorem W.O8 {gz:Type}{f:S->Option (S ⊕ (R ⊕ gz))}{s:S}{r:R ⊕ gz}(G:S->List (Nat × ab)) (id:Nat) (lS:R->List (Nat × ab)) (i_:gz->List (Nat × ab)) (h:cc f s=some r)
  (ao:∀ s o,f s=some o->W P N c (get (G s)) (kL G (λ(r:R ⊕ gz) e g=>match r with | .inl r=>e=.exit id/\hN g (lS r) | .inr r=>e=.ret/\hN g (i_ r)) o))
  (J:∀ x,r=.inl x->aB (.exit id) Φ (lS x)) (ak:∀ x,r=.inr x->aB .ret Φ (i_ x)):W P N (.loop c) (get (G s)) Φ:=by
 refine .fx G _ h ao λe g h=>?_;cases r with
 | inl r=>obtain ⟨rfl,aL⟩:=h; exact J r rfl g aL
 | inr r=>obtain ⟨rfl,aL⟩:=h; exact ak r rfl g aL
theorem aB.go {s:S}{F:S->List (Nat × ab)}{dS:R->Exit->aH->Prop}(h:Trim true (get G) (get (F s)) (F s)):aB .normal (kL F dS (.inl s)) G:=λ_ ao=>⟨rfl,ao.trans (.eS h.eS .hA)⟩
theorem aB.aY {r:R}{F:S->List (Nat × ab)}{lS:R->List (Nat × ab)}(h:Trim true (get G) (get (lS r)) (lS r)):aB (.exit id) (kL F (λr e g=>e=.exit id/\hN g (lS r)) (.inr r)) G:=λ_ ao=>⟨by simp,rfl,ao.trans (.eS h.eS .hA)⟩
theorem aB.x2 {gz:Type}{r:R}{F:S->List (Nat × ab)}{lS:R->List (Nat × ab)}{i_:gz->List (Nat × ab)}(h:Trim true (get G) (get (lS r)) (lS r)) :
  aB (.exit id) (kL F (λ(r:R ⊕ gz) e g=>match r with | .inl r=>e=.exit id/\hN g (lS r) | .inr r=>e=.ret/\hN g (i_ r)) (.inr (.inl r))) G:=λ_ ao=>⟨by simp,rfl,ao.trans (.eS h.eS .hA)⟩
theorem aB.iW {gz:Type}{r:gz}{F:S->List (Nat × ab)}{lS:R->List (Nat × ab)}{i_:gz->List (Nat × ab)}(h:Trim true (get G) (get (i_ r)) (i_ r)) :
  aB .ret (kL F (λ(r:R ⊕ gz) e g=>match r with | .inl r=>e=.exit id/\hN g (lS r) | .inr r=>e=.ret/\hN g (i_ r)) (.inr (.inr r))) G:=λ_ ao=>⟨by simp,rfl,ao.trans (.eS h.eS .hA)⟩
def pf (P:Program) (N:cQ) (rs:List ResultVar) (n:Nat) (outs:List (Option ab)) (res:ab) (e:Exit) (g:aH):Prop:=∃ G,hN g G/\Fin P N rs n outs res e (get G)
theorem W.fin {rs:List ResultVar}{n:Nat}{outs:List (Option ab)}{res:ab}{g:aH}(h:W P N c g (pf P N rs n outs res)):W P N c g (Fin P N rs n outs res):=by
 have key:∀ e g,pf P N rs n outs res e g->Ay P N g e (Fin P N rs n outs res):=by
  rintro e g ⟨G,ao,aV⟩
  induction ao with
  | hA=>exact .hA aV
  | eS hw _ aJ=>exact .eS hw (aJ aV)
 exact W.outs h key
theorem aB.fin {rs:List ResultVar}{n:Nat}{outs:List (Option ab)}{res:ab}(h:Fin P N rs n outs res e (get G)):aB e (pf P N rs n outs res) G:=λ_ ao=>⟨G,ao,h⟩
end
end Go.Own
namespace Go.Own
open Go
set_option linter.unusedSectionVars false
variable [cw]
section
variable {P:Program}{N:cQ}{ops:Array Oper}{bl:List (List Nat)}{g0:aH}{K:aH->Prop}{l:List Oper}{acc:Acc}{d i:Nat}{op:Op}{ty:TypeId}{pos:String}{after:Array Edge}{x:ab}{gd:Option (Nat × Bool)}
abbrev kj (bl:List (List Nat)) (g0:aH) (j:Nat) (acc:Acc):aH:=dz g0 (λm=>(bl.getD j []).contains m) acc
def b8 (P:Program) (N:cQ) (ops:Array Oper) (bl:List (List Nat)) (g0:aH) (i:Nat) (acc:Acc) (l:List Oper) (K:aH->Prop):Prop:=∀ dI j,mM P N ops bl g0 i dI->h9 P N ops bl g0 i dI j acc->ops.toList.drop j=l->∃ g',r6 P N ops bl i dI g0 g'/\K g'
theorem HA {j b7:Nat}{o:Oper}(h:ops.toList.drop j=o::l) (ag:Nat.beq ops.size (b7+l.length+1)=true):j=b7:=by
 grind [List.length_cons,Nat.eq_of_beq_eq_true]
theorem RK (aA:acc.all (λe=>!Nat.beq e.2.1 d)=true):∀ e∈acc,e.2.1≠d:=by
 intro e he h;have:=List.all_eq_true.1 aA e he
 simp_all
theorem b8.st (b7:Nat) {r:Option ab}{o:Oper}(aP:o.dst=some d) (av:pq P (kj bl g0 b7 acc) ops o r) (ag:Nat.beq ops.size (b7+l.length+1)=true) (aV:g0 d=none) (aA:acc.all (λe=>!Nat.beq e.2.1 d)=true) (bc:N.ok d=true)
  (hk:b8 P N ops bl g0 i ((b7,d,r)::acc) l K):b8 P N ops bl g0 i acc (o::l) K:=by
 intro dI j cX oV oR;have:=HA oR ag;subst this;obtain ⟨h1,af⟩:=drop_cons oR;exact hk dI (j+1) cX (.step oV h1 aP aV (RK aA) bc av) af
theorem b8.v (b7:Nat) (aw:ch P (kj bl g0 b7 acc) op ty x) (ag:Nat.beq ops.size (b7+l.length+1)=true) (aV:g0 d=none) (aA:acc.all (λe=>!Nat.beq e.2.1 d)=true) (bc:N.ok d=true) (aL:gm (kj bl g0 b7 acc) ops gd)
  (hk:b8 P N ops bl g0 i ((b7,d,some x)::acc) l K):b8 P N ops bl g0 i acc (⟨some d,op,ty,pos,after,gd⟩::l) K :=
 .st b7 (r:=some x) rfl (.inl ⟨aL.wanted,.inl aw⟩) ag aV aA bc hk
theorem b8.c (b7:Nat) (aw:cF P (kj bl g0 b7 acc) op x) (ag:Nat.beq ops.size (b7+l.length+1)=true) (aV:g0 d=none) (aA:acc.all (λe=>!Nat.beq e.2.1 d)=true) (bc:N.ok d=true) (aL:gm (kj bl g0 b7 acc) ops gd)
  (hk:b8 P N ops bl g0 i ((b7,d,some x)::acc) l K):b8 P N ops bl g0 i acc (⟨some d,op,ty,pos,after,gd⟩::l) K :=
 .st b7 (r:=some x) rfl (.inl ⟨aL.wanted,.inr aw⟩) ag aV aA bc hk
theorem b8.ps (b7:Nat) {vm t':Nat}{b c:Bool}(h:(ops[vm]?).bind (·.dst)=some t') (aL:kj bl g0 b7 acc t'=some (bd c)) (ao:c=!b) (ag:Nat.beq ops.size (b7+l.length+1)=true) (aV:g0 d=none) (aA:acc.all (λe=>!Nat.beq e.2.1 d)=true) (bc:N.ok d=true)
  (hk:b8 P N ops bl g0 i ((b7,d,some (.bI []))::acc) l K):b8 P N ops bl g0 i acc (⟨some d,op,ty,pos,after,some (vm,b)⟩::l) K :=
 .st b7 (r:=some (.bI [])) rfl (.inr (.inl ⟨⟨t',h,.inl ⟨c,aL,by subst ao; cases b <;> rfl⟩⟩,rfl⟩)) ag aV aA bc hk
theorem b8.pu (b7:Nat) {vm t':Nat}{b:Bool}(h:(ops[vm]?).bind (·.dst)=some t') (aL:kj bl g0 b7 acc t'=some (.bI [])) (ag:Nat.beq ops.size (b7+l.length+1)=true) (aV:g0 d=none) (aA:acc.all (λe=>!Nat.beq e.2.1 d)=true) (bc:N.ok d=true)
  (hk:b8 P N ops bl g0 i ((b7,d,some (.bI []))::acc) l K):b8 P N ops bl g0 i acc (⟨some d,op,ty,pos,after,some (vm,b)⟩::l) K :=
 .st b7 (r:=some (.bI [])) rfl (.inr (.inl ⟨⟨t',h,.inr ⟨aL,rfl⟩⟩,rfl⟩)) ag aV aA bc hk
def o4 (G:List (Nat × ab)):Bool:=G.all λp=>match p.2 with | .bD ..=>false | _=>true
theorem Cs {G:List (Nat × ab)}(h:o4 G=true):∀ t z q n m new,get G t≠some (.bD z q n m new):=by
 induction G with
 | nil=>intro t z q n m new J; cases J
 | cons p G aJ =>
  grind [o4,get]
def xw:List Place->Bool
 | []=>true
 | p::l=>l.all (λq=>!(Nat.beq p.root q.root&&decide (p.path=q.path)))&&xw l
omit [cw] in
theorem Kk:∀ {l:List Place},xw l=true->l.Nodup
 | [],_=>List.nodup_nil
 | p::l,h=>by
  simp only [xw,Bool.and_eq_true,List.all_eq_true] at h;refine List.nodup_cons.2 ⟨λhm=>?_,Kk h.2⟩;have:=h.1 p hm;simp at this
theorem b8.fin {G G1:List (Nat × ab)}(aT:xw (acc.filterMap lN)=true) (gJ:o4 G=true) (hi:Nat.ble i ops.size=true) (h:Trim true (dz (get G) (λ_=>true) acc) (get G1) G1):b8 P N ops bl (get G) i acc [] λg'=>lX g' (get G1):=by
 intro dI j cX oV oR;have ag:j=ops.size:=by
  have h1:ops.size<=j:=by
   have:=congrArg List.length oR;rw [List.length_drop,List.length_nil,Array.length_toList] at this;omega
  have aF:j<=ops.size:=by
   cases oV with
   | nil=>exact Nat.le_of_ble_eq_true hi
   | step _ aM=>have:=(Array.getElem?_eq_some_iff.1 aM).1; omega
  omega
 subst ag;exact ⟨_,.fin oV (Kk aT) (Cs gJ),h.eS⟩
theorem r6.Sl {g g1 g':aH}{i j:Nat}{dI:Acc}{o:Oper}(cX:mM P N ops bl g i dI) (av:h9 P N ops bl g i dI j acc) (hq:(acc.filterMap lN).Nodup) (gJ:∀ t z q n m new,g t≠some (.bD z q n m new)) (aM:ops[j]?=some o) (hw:jd (dz g (λ_=>true) acc) ops o true)
  (he:bx P N (dz g (λ_=>true) acc) o g1) (aQ:(List.range j).all (λk=>(bl.getD j []).contains k)=true) (ao:(List.range ops.size).all (λk=>decide (k<=j)||(bl.getD k []).contains j)=true) (ak:r6 P N ops bl (j+1) [] g1 g'):r6 P N ops bl i dI g g':=by
 have dh:∀ e∈acc,(bl.getD j []).contains e.1=true:=λe h=>List.all_eq_true.1 aQ e.1 (List.mem_range.2 ((av.le cX).2 e h));have e:dz g (λm=>(bl.getD j []).contains m) acc=dz g (λ_=>true) acc:=funext λt=>Du λe h _=>dh e h;have gq:[]=acc.filter λe=>!(bl.getD j []).contains e.1:=by
  grind [List.filter_eq_nil_iff]
 exact .GY (rs:=ub []) av hq gJ aM (by rw [e]; exact hw) (by rw [e]; exact he.oL.v) (λp aw=>by simp [ub] at aw) gq (by simp) (by simp) (by simp) ao ak
theorem W.rd {id:Nat}{l:List Oper}{G:List (Nat × ab)}{Φ:Exit->aH->Prop}(bl:List (List Nat)) (G1:List (Nat × ab)) (hm:P.follows .mixedOrders=true) (dh:pt l.toArray bl=true)
  (h:b8 P N l.toArray bl (get G) 0 [] l λg'=>lX g' (get G1)) (hk:aB .normal Φ G1):W P N (.region id l.toArray true) (get G) Φ:=by
 obtain ⟨g',h1,af⟩:=h [] 0 .nil .nil (by simp);exact (k6.draw hm dh h1).w (hk g' (.eS af .hA))
end
end Go.Own
namespace Go.Own
open Go
set_option linter.unusedSectionVars false
variable [cw]
variable {α:Type}
section
variable {P:Program}{N:cQ}{ops:Array Oper}{g g2:aH}{K:aH->Prop}{l:List Oper}{d r:Nat}{ty t t2:TypeId}{pos:String}{after:Array Edge}{a b c:Operand}{k ke:IntKind}{m n:Int}{s u:ByteArray}
namespace O
theorem ho {e:TypeId}{z:Value}{cs:List ab}(aT:(P.info? e).bind (·.zero)=some z) (h1:z.cells.toList.all Value.oneCell'=true) (aa:z.cells.toList.map jZ=cs):ch P g (.alloc e) ty (.obj cs):=by
 subst aa; exact .qQ (.alloc aT (by rw [<- Array.all_toList]; exact h1))
theorem e4 {t:TypeId}{parts:Array (Nat × Operand)}{pl:List (Nat × Nat)}{dj:Value}{ps:List (Nat × List ab)}{cs:List ab}(au:k3 P t pl=true) (aT:(P.info? t).bind (·.zero)=some dj) (h1:dj.cells.toList.all Value.oneCell'=true)
  (aw:qR g parts.toList=some ps) (aa:uL (λi=>pl[i]?) (dj.cells.toList.map jZ) ps=some cs):ch P g (.build t parts) ty (.agg cs):=.FE (.build au aT (by rw [<- Array.all_toList]; exact h1) aw aa)
end O
inductive pn (g g2:aH):ab->Prop
 | n {x:ab}(h:cK x):pn g g2 x
 | p {r k:Nat}{cs cs2:List ab}(h:g r=some (.obj cs)) (hk:k<cs.length) (af:g2 r=some (.obj cs2)) (fK:k<cs2.length):pn g g2 (.ptr ⟨r,[]⟩ k)
 | r {z n N LJ q:Nat}{cs cs2:List ab}(h:g q=some (.own z N cs)) (aA:n<=N) (af:g2 q=some (.own z LJ cs2)) (rA:n<=LJ):pn g g2 (.bo z ⟨q,[]⟩ n)
theorem vH {r k:Nat}{cs:List ab}(h:g r=some (.obj cs)) (hk:k<cs.length):gF g (.ptr ⟨r,[]⟩ k):=⟨.obj cs,by simp [bB,h,ab.at],0,0,cs,.inr rfl,hk⟩
theorem C3 {z n N q:Nat}{cs:List ab}(h:g q=some (.own z N cs)) (aA:n<=N):gF g (.bo z ⟨q,[]⟩ n):=.inl ⟨N,cs,by simp [bB,h,ab.at],aA⟩
theorem pn.bR {x:ab}(h:pn g g2 x):eo g2 x:=by
 cases h with
 | n h=>exact .bh h
 | p _ _ af fK=>exact .ref rfl (vH af fK)
 | r _ _ af rA=>exact .ref rfl (C3 af rA)
theorem pn.C6 {x:ab}{z6 k0 m0:Nat}(h:pn g g2 x):j7 (λr=>gF g r/\Clear ⟨z6,[]⟩ k0 m0 r/\gF g2 r) x:=by
 cases h with
 | n h=>exact .bh h
 | p h hk af fK =>
  refine .ref rfl ⟨vH h hk,?_,vH af fK⟩;intro q ba _ j dr e
  grind [z8]
 | r h hk af fK =>
  refine .ref rfl ⟨C3 h hk,?_,C3 af fK⟩;intro q ba _ j dr e
  grind [z8]
theorem pn.e8 {x:ab}(h:pn g g2 x):∀ z p n m new,x≠.bD z p n m new:=by
 rintro z p n m new rfl;cases h with
 | n h=>cases h
inductive ly (g g2:aH) (r:Nat) (cs2:List ab):List (Nat × ab)->Prop
 | nil:ly g g2 r cs2 []
 | n {s:Nat}{x:ab}{l:List (Nat × ab)}(cN:Nat.beq s r=false) (h:g s=some x) [aA:b6 x] (t:ly g g2 r cs2 l):ly g g2 r cs2 ((s,x)::l)
 | p {s q k:Nat}{l:List (Nat × ab)}{cs j9:List ab}(cN:Nat.beq s r=false) (h:g s=some (.ptr ⟨q,[]⟩ k)) (h1:g q=some (.obj cs)) (hk:Nat.blt k cs.length=true) (af:g2 q=some (.obj j9)) (fK:Nat.blt k j9.length=true) (t:ly g g2 r cs2 l):ly g g2 r cs2 ((s,.ptr ⟨q,[]⟩ k)::l)
 | w {α:Type}{s q:Nat}{en:bK α}{L:List α}{l:List (Nat × ab)}(cN:Nat.beq s r=false) (h:g s=some (.bo en.z ⟨q,[]⟩ L.length)) (h1:g q=some (ar en L)) (af:g2 q=some (ar en L)) (t:ly g g2 r cs2 l):ly g g2 r cs2 ((s,.bo en.z ⟨q,[]⟩ L.length)::l)
 | b {l:List (Nat × ab)}{x:ab}(e:x=.obj cs2) [aA:dp cs2] (t:ly g g2 r cs2 l):ly g g2 r cs2 ((r,x)::l)
theorem ly.spec {cs2:List ab}{l:List (Nat × ab)}(h:ly g g2 r cs2 l):∀ t x,get l t=some x->(t≠r/\g t=some x/\pn g g2 x)\/(t=r/\x=.obj cs2/\cK x):=by
 induction h with
 | nil=>intro t x J; cases J
 | @n s x l cN h aA _ aJ =>
  intro t y ai; simp only [get] at ai
  split at ai
  ·rename_i e; subst e; cases ai; exact .inl ⟨Nat.ne_of_beq_eq_false cN,h,.n aA.bh⟩
  ·exact aJ t y ai
 | @p s q k l cs j9 cN h h1 hk af fK _ aJ =>
  intro t y ai; simp only [get] at ai
  split at ai
  ·rename_i e; subst e; cases ai; exact .inl ⟨Nat.ne_of_beq_eq_false cN,h,.p h1 (by simpa using hk) af (by simpa using fK)⟩
  ·exact aJ t y ai
 | @w α s q en L l cN h h1 af _ aJ =>
  intro t y ai; simp only [get] at ai
  split at ai
  ·rename_i e; subst e; cases ai; exact .inl ⟨Nat.ne_of_beq_eq_false cN,h,.r h1 (Nat.le_refl _) af (Nat.le_refl _)⟩
  ·exact aJ t y ai
 | @b l x e aA _ aJ =>
  intro t y ai; simp only [get] at ai
  split at ai
  ·rename_i b0; subst b0; cases ai; subst e; exact .inr ⟨rfl,rfl,.obj aA.bh⟩
  ·exact aJ t y ai
theorem bx.box {o:Oper}{k0:Nat}{cs cs' cs2:List ab}{y:ab}{G2:List (Nat × ab)}(aM:o.op=.store t a b) (aP:o.dst=none) (av:g r=some (.obj cs)) (aQ:Rd g a (.ptr ⟨r,[]⟩ k0)) (ao:Rd g b y) (aA:cK y) (aa:n3 y=some cs') (aT:hB P t cs'.length=true)
  (hk:k0+cs'.length<=cs.length) (aI:0<cs'.length) (he:ew cs k0 cs'=cs2) [eR:dp cs] (ak:get G2 r≠none) (c':ly g (get G2) r cs2 G2):bx P N g o (get G2):=by
 subst he;have mv:g r≠none:=by rw [av]; simp
 refine .store aM aP aQ.bp ao.bp (.bh (by simpa using aA)) .refl aa aT (p:=⟨r,[]⟩) (nd:=.obj cs) (z:=0) (n:=0) (by simp [bB,av,ab.at]) (.inr rfl) hk aI (λt x J=>?_) (λt x J y ai=>?_) (λt z q n m new J=>?_) ak
 ·rcases c'.spec t x J with ⟨h1,af,_⟩ | ⟨h1,af,_⟩
  all_goals grind [cp,ab.setAt,ab.ew]
 ·rcases c'.spec t x J with ⟨h1,af,aF⟩ | ⟨h1,af,aF⟩
  ·rw [af] at ai;cases ai;exact aF.C6
  ·subst h1;rw [av] at ai;cases ai;exact .bh (.obj eR.bh)
 ·rcases c'.spec t _ J with ⟨_,_,aF⟩ | ⟨_,af,_⟩
  ·exact aF.e8 _ _ _ _ _ rfl
  grind
theorem Trim.q {GZ:Bool}{sT q k0:Nat}{cs:List ab}{OX:List (Nat × ab)}(h:g sT=some (.ptr ⟨q,[]⟩ k0)) (af:g2 q=some (.obj cs)) (hk:Nat.blt k0 cs.length=true) (lP:Trim GZ g g2 OX):Trim GZ g g2 ((sT,.ptr ⟨q,[]⟩ k0)::OX) :=
 .r h (.ref rfl (vH af (by simpa using hk))) (by simp) lP
theorem aD.hR {o:Oper}{G2:List (Nat × ab)}(aL:o.guard=none) (he:bx P N g o (get G2)) (hk:aD P N ops l (get G2) K):aD P N ops (o::l) g K:=by
 intro i hi;obtain ⟨h1,af⟩:=drop_cons hi;obtain ⟨g',ak,dk⟩:=hk (i+1) af;refine ⟨g',.oL h1 ?_ he ak,dk⟩
 grind [jd]
theorem aD.qb {k0:Nat}{cs cs' cs2:List ab}{y:ab}{G2:List (Nat × ab)}(av:g r=some (.obj cs)) (aQ:Rd g a (.ptr ⟨r,[]⟩ k0)) (ao:Rd g b y) [aA:b6 y] (aa:n3 y=some cs') (aT:hB P t cs'.length=true)
  (hk:Nat.ble (k0+cs'.length) cs.length=true) (aI:Nat.blt 0 cs'.length=true) (he:ew cs k0 cs'=cs2) [eR:dp cs] (ak:(get G2 r).isSome=true) (c':ly g (get G2) r cs2 G2) (EK:aD P N ops l (get G2) K):aD P N ops (⟨none,.store t a b,ty,pos,after,none⟩::l) g K :=
 .hR rfl (.box rfl rfl av aQ ao aA.bh aa aT (Nat.le_of_ble_eq_true hk) (by simpa using aI) he (by intro e; rw [e] at ak; cases ak) c') EK
variable {bl:List (List Nat)}{acc:Acc}{i:Nat}
end
end Go.Own
namespace Go.Own
open Go
set_option linter.unusedSectionVars false
variable [cw]
variable {α β:Type}
def nQ (m:Int) (z:α):Option (List α):=if 0<=m/\m<=lim then some (List.replicate m.toNat z) else none
def ea (l m:List α):Option (List α):=if l.length+m.length<=lim then some (l++m) else none
class Flat (e:bK α):Prop where k_:∀ a,(e.cells a).all lA=true
instance:Flat aZ:=⟨λ_=>rfl⟩
instance:Flat pE:=⟨λ_=>rfl⟩
instance:Flat cr:=⟨λ_=>rfl⟩
instance:Flat cH:=⟨λ_=>rfl⟩
instance {e:bK α}:Flat (b4 e):=⟨λ_=>rfl⟩
theorem Zt (e:bK α) [h:Flat e] (l:List α):(bu e l).all lA=true:=by
 refine List.all_eq_true.2 λx J=>?_;obtain ⟨a,_,aQ⟩:=List.mem_flatMap.1 J;exact List.all_eq_true.1 (h.k_ a) x aQ
theorem FB (e:bK α) (l m:List α):(.own e.z (l.length+m.length) (bu e l++bu e m):ab)=ar e (l++m):=by
 grind [FU]
theorem xX (e:bK α) (l:List α):(bu e l).take (l.length * e.z)=bu e l:=by grind [np]
theorem PZ:∀ L:List Int,bu pE L=L.map λb=>.lit (.int .u8 b)
 | []=>rfl
 | x::L=>by
  have:bu pE (x::L)=mi x::bu pE L:=rfl;rw [this,List.map_cons,PZ L]
section
variable {P:Program}{N:cQ}{ops:Array Oper}{g g1 g2:aH}{K:aH->Prop}{l:List Oper}{d r:Nat}{ty t t2:TypeId}{pos:String}{after:Array Edge}{gd:Option (Nat × Bool)}{a b c:Operand}{k ke:IntKind}{m n:Int}{s u:ByteArray}{p q:Place}
namespace O
theorem bs {e ev:Nat}{parts:Array (Nat × Operand)}{ys:List ab}(en:bK α) (L:List α) (au:fh P t e en.z=true) (J:hz g (parts.toList.map (·.2))=some ys) (aa:n2 ys=some (bu en L)) (aT:ys.all (λy=>match jf y with | some c=>Nat.beq c.length en.z | none=>false)=true)
  (aw:parts.toList=(parts.toList.map (·.2)).mapIdx (λi x=>(i,x))) (aA:(parts.toList.map (·.2)).length=ev) (ah:L.length=ev) (hzero:jI P e en.z=true) (ao:Nat.ble (ev * en.z) 16777216=true) (hj:Nat.ble ev 16777216=true):ch P g (.buildSlice t ev parts) ty (ar en L):=by
 subst aA;have:=ny.buildSlice (P:=P) (ty:=ty) au aw J (λy ai=>by
  grind [Nat.eq_of_beq_eq_true]) aa (Nat.le_of_ble_eq_true ao) (Nat.le_of_ble_eq_true hj) (.inr (Q1 hzero))
 unfold ar;rw [ah];exact .qQ this
theorem mB {z bM n:Nat}{e:TypeId}(J:Rd g a (.bo z p n)) (au:fh P t e bM=true):ch P g (.call { callee:=.builtin .len,args:=#[a],argTypes:=#[t] }) ty (ae n):=.eG (.Fe J.bp au)
theorem gS {en:bK α}{L:List α}{y:α}{e:TypeId}(aw:bB g p=some (ar en L)) (J:Rd g a (.bo en.z p L.length)) (hi:Rd g b (.lit (.int k m))) (au:fh P t e en.z=true) (h:idx L m=some y) (aT:Nat.blt 0 en.z=true):ch P g (.indexAddr t a b) ty (.ptr p (m.toNat * en.z+0)):=by
 obtain ⟨aI,h1,_⟩:=qO h;obtain ⟨j,rfl⟩:=Int.eq_ofNat_of_zero_le aI;have OE:0<en.z:=by simpa using aT
 have ag:j<L.length:=by omega
 refine .eG (.E5 J.bp hi.bp au ag ⟨_,aw,_,_,_,.inl rfl,?_⟩)
 simp_all [np]
theorem Zp {en:bK α}{L:List α}{y:α}{o:Nat}(h:idx L m=some y) (aM:o<en.z):m.toNat * en.z+o<(bu en L).length:=by
 obtain ⟨aI,h1,_⟩:=qO h;rw [np];have af:m.toNat+1<=L.length:=by omega
 calc m.toNat * en.z+o<m.toNat * en.z+en.z:=by omega
  _=(m.toNat+1) * en.z:=by rw [Nat.add_mul]; omega
  _<=L.length * en.z:=Nat.mul_le_mul_right _ af
theorem j' {en:bK α}{L:List α}{y:α}{cY f off o hy:Nat}(aw:bB g p=some (ar en L)) (J:Rd g a (.ptr p (m.toNat * en.z+o))) (aV:iN P cY f off t=true) (h:idx L m=some y) (aM:o+off=hy) (aK:Nat.blt hy en.z=true):ch P g (.fieldAddr cY a f) ty (.ptr p (m.toNat * en.z+hy)):=by
 subst aM;rw [<- Nat.add_assoc];refine .eG (.A9 J.bp aV ⟨_,aw,_,_,_,.inl rfl,?_⟩)
 simp_all [Nat.add_assoc,Zp]
theorem sa {en:bK α}{L:List α}{y:α}{o:Nat}{x:ab}(aw:bB g p=some (ar en L)) (h:idx L m=some y) (aa:(en.cells y)[o]?=some x):bB g (p.push (m.toNat * en.z+o))=some x:=by
 rw [s',aw];exact PY en h aa
theorem kf {en:bK α}{L:List α}{y:α}{o:Nat}{x x':ab}(aw:bB g p=some (ar en L)) (J:Rd g a (.ptr p (m.toNat * en.z+o))) (au:jQ P t=true) (h:idx L m=some y) (aa:(en.cells y)[o]?=some x) (ak:fY 0 (p.push (m.toNat * en.z+o)) x=x'):ch P g (.load t a) ty x':=by
 subst ak;exact .eG (.Cj J.bp au (sa aw h aa))
theorem J9 {en:bK α}{L:List α}{y:α}{o z:Nat}{cs':List ab}(aw:bB g p=some (ar en L)) (J:Rd g a (.ptr p (m.toNat * en.z+o))) (au:hX P t z=true) (h:idx L m=some y) (aT:Nat.ble (o+z) en.z=true)
  (aa:(((en.cells y).drop o).take z).mapIdx (λi x=>fY 0 (p.push (m.toNat * en.z+o+i)) x)=cs'):ch P g (.load t a) ty (.agg cs'):=by
 have OE:=Nat.le_of_ble_eq_true aT;have oR:((bu en L).drop (m.toNat * en.z+o)).take z=((en.cells y).drop o).take z:=by
  rw [<- List.drop_drop,KL en h,List.drop_append_of_le_length (by rw [en.len]; omega),List.take_append_of_le_length (by rw [List.length_drop,en.len]; omega)]
 subst aa;rw [<- oR];refine .eG (.zt J.bp au aw (.inl rfl) ?_);obtain ⟨aI,h1,_⟩:=qO h;rw [np];have af:m.toNat+1<=L.length:=by omega
 calc m.toNat * en.z+o+z<=m.toNat * en.z+en.z:=by omega
  _=(m.toNat+1) * en.z:=by rw [Nat.add_mul]; omega
  _<=L.length * en.z:=Nat.mul_le_mul_right _ af
end O
class qt (g:aH):Prop where e8:∀ t z q n m new,g t≠some (.bD z q n m new)
class mL (x:ab):Prop where e8:∀ z q n m new,x≠.bD z q n m new
instance {x:ab} [h:b6 x]:mL x:=⟨by rintro z q n m new rfl; cases h.bh⟩
instance {p:Place}{k:Nat}:mL (.ptr p k):=⟨by simp⟩
instance {p:Place}{z n:Nat}:mL (.bo z p n):=⟨by simp⟩
instance {p:Place}{z lo n:Nat}:mL (.sub z p lo n):=⟨by simp⟩
instance {cs:List ab}:mL (.agg cs):=⟨by simp⟩
instance {cs:List ab}:mL (.bI cs):=⟨by simp⟩
instance {cs:List ab}:mL (.obj cs):=⟨by simp⟩
instance {g:aH}{d:Nat}{x:ab} [h:qt g] [J:mL x]:qt (cR g d x):=⟨λt z q n m new e=>by
 unfold cR at e
 split at e
 ·cases e; exact J.e8 _ _ _ _ _ rfl
 ·exact h.e8 _ _ _ _ _ _ e⟩
instance:qt (get []):=⟨λ_ _ _ _ _ _ e=>by cases e⟩
instance {t:Nat}{x:ab}{G:List (Nat × ab)} [J:mL x] [h:qt (get G)]:qt (get ((t,x)::G)):=⟨λs z q n m new e=>by
 simp only [get] at e
 split at e
 ·cases e; exact J.e8 _ _ _ _ _ rfl
 ·exact h.e8 _ _ _ _ _ _ e⟩
class DM (acc:Acc):Prop where e8:∀ e∈acc,∀ z q n m new,e.2.2≠some (.bD z q n m new)
instance:DM []:=⟨by simp⟩
instance {j d:Nat}{x:ab}{acc:Acc} [J:mL x] [h:DM acc]:DM ((j,d,some x)::acc):=⟨λe he z q n m new br=>by
 rcases List.mem_cons.1 he with rfl | he
 ·exact J.e8 z q n m new (Option.some.inj br)
 ·exact h.e8 e he z q n m new br⟩
instance {G:List (Nat × ab)}{A:Nat->Bool}{acc:Acc} [aL:qt (get G)] [h:DM acc]:qt (dz (get G) A acc):=⟨λt z q n m new e=>by
 rcases uj e with ⟨b0,he,_,_,af⟩ | ⟨_,af⟩
 ·exact h.e8 b0 he _ _ _ _ _ af
 ·exact aL.e8 _ _ _ _ _ _ af⟩
theorem AM {L M:List α}{r:List α}{b:Nat}(h:ea L M=some r) (ao:Nat.ble b 128=true):L.length+M.length<=4611686018427387904/\(L.length+M.length) * b<=140737488355328/\r=L++M:=by
 unfold ea at h
 split at h
 ·rename_i ah;have kT:=Nat.le_of_ble_eq_true ao;have sv:lim=1099511627776:=rfl;refine ⟨by omega,?_,(Option.some.inj h).symm⟩
  calc (L.length+M.length) * b<=1099511627776 * 128:=Nat.mul_le_mul ah kT
   _=140737488355328:=by decide
 ·cases h
inductive po (g:aH) (en:bK α):ab->List α->Prop
 | i {M:List α}:po g en (.bf en.z M.length (bu en M)) M
 | n:po g en .bb []
 | o {q:Place}{M:List α}(ba:bB g q=some (ar en M)) (aV:(bu en M).all lA=true):po g en (.bo en.z q M.length) M
theorem po.src {en:bK α}{y:ab}{M:List α}(h:po g en y M):Src g y en.z M.length (bu en M):=by
 cases h with
 | i=>exact .bf
 | n=>exact .bb
 | o ba aV =>
  have:=Src.bo (g:=g) (m:=M.length) ba (Nat.le_refl _)
  simp_all [xX,En]
theorem po.flat (en:bK α) [Flat en] {q:Place}{M:List α}(ba:bB g q=some (ar en M)):po g en (.bo en.z q M.length) M:=.o ba (Zt en M)
namespace O
theorem ap {en:bK α}{L M r:List α}{y:ab}{e gf:Nat}(av:Rd g a (.bo en.z p L.length)) (aw:bB g p=some (ar en L)) (J:Rd g b y) (hm:po g en y M) (au:jP P t e en.z gf=true) (ao:Nat.ble gf 128=true) (h:ea L M=some r) [eR:qt g] :
  ch P g (.call { callee:=.builtin .append,args:=#[a,b],argTypes:=#[t,t] }) ty (.bD en.z p L.length M.length (bu en M)):=by
 obtain ⟨h1,af,_⟩:=AM h ao;exact .lM (.grow av.bp (.inl ⟨_,aw⟩) (λt bM ck bn cO e=>eR.e8 _ _ _ _ _ _ e) J.bp hm.src au h1 af)
theorem RZ {en:bK α}{M r:List α}{y:ab}{e gf:Nat}(av:Rd g a .bb) (J:Rd g b y) (hm:po g en y M) (au:jP P t e en.z gf=true) (ao:Nat.ble gf 128=true) (h:ea [] M=some r) :
  ch P g (.call { callee:=.builtin .append,args:=#[a,b],argTypes:=#[t,t] }) ty (ar en M):=by
 obtain ⟨h1,af,_⟩:=AM h ao;simp only [List.length_nil,Nat.zero_add] at h1 af;exact .lM (.nil av.bp J.bp hm.src au h1 af)
end O
inductive mh (ex:List Nat) (g g2:aH):List (Nat × ab)->Prop
 | nil:mh ex g g2 []
 | n {s:Nat}{x:ab}{l:List (Nat × ab)}(cN:ex.elem s=false) (h:g s=some x) [aA:b6 x] (t:mh ex g g2 l):mh ex g g2 ((s,x)::l)
 | p {s q k:Nat}{l:List (Nat × ab)}{j9:List ab}(cN:ex.elem s=false) (h:g s=some (.ptr ⟨q,[]⟩ k)) (af:g2 q=some (.obj j9)) (fK:Nat.blt k j9.length=true) (t:mh ex g g2 l):mh ex g g2 ((s,.ptr ⟨q,[]⟩ k)::l)
 | w {α:Type}{s q:Nat}{en:bK α}{L:List α}{l:List (Nat × ab)}(cN:ex.elem s=false) (h:g s=some (.bo en.z ⟨q,[]⟩ L.length)) (af:g2 q=some (ar en L)) (t:mh ex g g2 l):mh ex g g2 ((s,.bo en.z ⟨q,[]⟩ L.length)::l)
theorem mh.spec {ex:List Nat}{l:List (Nat × ab)}(h:mh ex g g2 l):∀ t x,get l t=some x->ex.elem t=false/\g t=some x/\eo g2 x/\∀ z p n m new,x≠.bD z p n m new:=by
 induction h with
 | nil=>intro t x J; cases J
 | @n s x l cN h aA _ aJ =>
  intro t y ai; simp only [get] at ai
  split at ai
  ·rename_i e; subst e; cases ai; exact ⟨cN,h,.bh aA.bh,by rintro z p n m new rfl; cases aA.bh⟩
  ·exact aJ t y ai
 | @p s q k l j9 cN h af fK _ aJ =>
  intro t y ai; simp only [get] at ai
  split at ai
  ·rename_i e; subst e; cases ai; exact ⟨cN,h,.ref rfl (vH af (by simpa using fK)),by simp⟩
  ·exact aJ t y ai
 | @w α s q en L l cN h af _ aJ =>
  intro t y ai; simp only [get] at ai
  split at ai
  ·rename_i e; subst e; cases ai; exact ⟨cN,h,.ref rfl (.inl ⟨_,_,(by simp [bB,af,ab.at]:bB g2 ⟨q,[]⟩=some (ar en L)),Nat.le_refl _⟩),by simp⟩
  ·exact aJ t y ai
theorem mh.keep {ex:List Nat}{G2:List (Nat × ab)}(h:mh ex g (get G2) G2) (aL:∀ t,ex.elem t=false->g1 t=g t):hn g1 (get G2) :=
 ⟨λt x J=>by obtain ⟨h1,af,_⟩:=h.spec t x J; rw [aL t h1]; exact af,λt x J=>(h.spec t x J).2.2.1,λt z q n m new J=>(h.spec t _ J).2.2.2 _ _ _ _ _ rfl⟩
theorem Take.row {en:bK α}{L:List α}(aw:bB g p=some (ar en L)):Take g [.bo en.z p L.length] [ar en L] (cp g p .dead):=by
 have h1:Take (cp g p .dead) ((bu en L).take (L.length * en.z)) (bu en L) (cp g p .dead):=by
  rw [xX]; exact .bh (o9 en L)
 exact .bo aw (Nat.le_refl _) h1 (.bh (by simp))
theorem Take.Zr {en:bK α}{L M:List α}{s:Nat}(av:g s=some (.bD en.z q L.length M.length (bu en M))) (aw:bB g q=some (ar en L)) (ba:q.root≠s):Take g [.bo en.z ⟨s,[]⟩ (L.length+M.length)] [ar en (L++M)] (cp (cp g ⟨s,[]⟩ .dead) q .dead):=by
 rw [<- FB];exact .bD av aw ba (.bh λx J=>(List.mem_append.1 J).elim (o9 en L x) (o9 en M x)) (.bh (by simp))
theorem Take.Zs {en:bK α}{L M M2:List α}{s s2:Nat}(av:g s=some (.bD en.z ⟨s2,[]⟩ (L.length+M2.length) M.length (bu en M))) (kV:g s2=some (.bD en.z q L.length M2.length (bu en M2))) (aw:bB g q=some (ar en L)) (ba:q.root≠s) (qI:q.root≠s2) (BT:s≠s2) :
  Take g [.bo en.z ⟨s,[]⟩ (L.length+M2.length+M.length)] [ar en (L++M2++M)] (cp (cp (cp g ⟨s,[]⟩ .dead) ⟨s2,[]⟩ .dead) q .dead):=by
 have:=Take.zz (g:=g) (xs:=[]) (xs':=[]) av kV rfl aw ba qI BT (.bh (xs:=bu en L++bu en M2++bu en M) λx J=>by
  grind [o9]) (.bh (by simp))
 grind [FU]
theorem vJ {t:Nat}{y:ab}(h:t≠p.root):cp g p y t=g t:=by
 grind [cp]
theorem yQ {ex:List Nat}{t s:Nat}(h:ex.elem t=false) (av:ex.elem s=true):t≠s:=by
 grind
theorem bx.GN {o:Oper}{en:bK α}{L:List α}{x:Operand}{G2:List (Nat × ab)}(aM:o.op=.assign x) (aP:o.dst=some d) (J:Rd g x (.bo en.z p L.length)) (aw:bB g p=some (ar en L)) (c':mh [p.root] g (get G2) G2) (aL:get G2 d=none) (bc:N.ok d=true):bx P N g o (cR (get G2) d (ar en L)) :=
 .assign aM aP J.bp (.row aw) .refl (c'.keep λt au=>vJ (yQ au (by simp))) aL bc
theorem bx.GM {o:Oper}{en:bK α}{L M:List α}{s:Nat}{x:Operand}{G2:List (Nat × ab)}(aM:o.op=.assign x) (aP:o.dst=some d) (J:Rd g x (.bo en.z ⟨s,[]⟩ (L.length+M.length))) (av:g s=some (.bD en.z q L.length M.length (bu en M))) (aw:bB g q=some (ar en L)) (ba:Nat.beq q.root s=false)
  (c':mh [s,q.root] g (get G2) G2) (aL:get G2 d=none) (bc:N.ok d=true):bx P N g o (cR (get G2) d (ar en (L++M))) :=
 .assign aM aP J.bp (.Zr av aw (Nat.ne_of_beq_eq_false ba)) .refl (c'.keep λt au=>by rw [vJ (yQ au (by simp)),vJ (yQ au (by simp))]) aL bc
theorem bx.RJ {o:Oper}{en:bK α}{L M M2:List α}{s s2:Nat}{x:Operand}{G2:List (Nat × ab)}(aM:o.op=.assign x) (aP:o.dst=some d) (J:Rd g x (.bo en.z ⟨s,[]⟩ (L.length+M2.length+M.length))) (av:g s=some (.bD en.z ⟨s2,[]⟩ (L.length+M2.length) M.length (bu en M)))
  (kV:g s2=some (.bD en.z q L.length M2.length (bu en M2))) (aw:bB g q=some (ar en L)) (ba:Nat.beq q.root s=false) (qI:Nat.beq q.root s2=false) (BT:Nat.beq s s2=false)
  (c':mh [s,s2,q.root] g (get G2) G2) (aL:get G2 d=none) (bc:N.ok d=true):bx P N g o (cR (get G2) d (ar en (L++M2++M))) :=
 .assign aM aP J.bp (.Zs av kV aw (Nat.ne_of_beq_eq_false ba) (Nat.ne_of_beq_eq_false qI) (Nat.ne_of_beq_eq_false BT)) .refl (c'.keep λt au=>by rw [vJ (yQ au (by simp)),vJ (yQ au (by simp)),vJ (yQ au (by simp))]) aL bc
theorem aD.qy {o:Oper}{x:ab}{G2:List (Nat × ab)}(aL:o.guard=none) (he:bx P N g o (cR (get G2) d x)) (hk:aD P N ops l (cR (get G2) d x) K):aD P N ops (o::l) g K:=by
 intro i hi;obtain ⟨h1,af⟩:=drop_cons hi;obtain ⟨g',ak,dk⟩:=hk (i+1) af;refine ⟨g',.oL h1 ?_ he ak,dk⟩
 grind [jd]
theorem rn {x:ab}{G:List (Nat × ab)}:cR (get G) d x=get ((d,x)::G):=by
 grind [cR,get]
variable {bl:List (List Nat)}{acc:Acc}{i:Nat}
inductive AH (P:Program):aH->List ResultVar->List ab->List ab->aH->Prop
 | nil {g:aH}:AH P g [] [] [] g
 | f {g g':aH}{t:Nat}{x:ab}{rs:List ResultVar}{ys xs:List ab}(h:g t=some x) (aV:lA x=true) [aA:b6 x] (au:AH P g rs ys xs g'):AH P g (.tmp t::rs) (x::ys) (x::xs) g'
 | o {g g':aH}{t:Nat}{en:bK α}{L:List α}{rs:List ResultVar}{ys xs:List ab}(h:g t=some (ar en L)) (au:AH P (cp g ⟨t,[]⟩ .dead) rs ys xs g'):AH P g (.tmp t::rs) (.bo en.z ⟨t,[]⟩ L.length::ys) (ar en L::xs) g'
end
end Go.Own
namespace Go.Own
open Go
set_option linter.unusedSectionVars false
variable [cw]
variable {α β:Type}
section
variable {P:Program}{N:cQ}{ops:Array Oper}{g g' g1 g2:aH}{K:aH->Prop}{l:List Oper}{d r:Nat}{ty t t2:TypeId}{pos:String}{after:Array Edge}{a b c:Operand}{p q:Place}{e:Exit}
inductive mO (s:Nat):aH->Nat->List ab->List ab->aH->Prop
 | nil {g:aH}{i:Nat}:mO s g i [] [] g
 | f {g g':aH}{i:Nat}{x:ab}{ys xs:List ab}(aV:lA x=true) [aA:b6 x] (au:mO s g (i+1) ys xs g'):mO s g i (x::ys) (x::xs) g'
 | o {α:Type}{g g':aH}{i:Nat}{en:bK α}{L:List α}{ys xs:List ab}(aw:bB g ⟨s,[i]⟩=some (ar en L)) (au:mO s (cp g ⟨s,[i]⟩ .dead) (i+1) ys xs g'):mO s g i (.bo en.z ⟨s,[i]⟩ L.length::ys) (ar en L::xs) g'
theorem mO.take {s i:Nat}{ys xs:List ab}(h:mO s g i ys xs g'):Take g ys xs g':=by
 induction h with
 | nil=>exact .bh (by simp)
 | @f g g' i x ys xs aV aA _ aJ=>exact .cons aA.bh aJ
 | @o α g g' i en L ys xs aw _ aJ =>
  refine .bo aw (Nat.le_refl _) ?_ aJ;rw [xX]; exact .bh (o9 en L)
inductive jM (P:Program):aH->List ResultVar->List ab->List ab->aH->Prop
 | nil {g:aH}:jM P g [] [] [] g
 | f {g g':aH}{t:Nat}{x:ab}{rs:List ResultVar}{ys xs:List ab}(h:g t=some x) (aV:lA x=true) [aA:b6 x] (au:jM P g rs ys xs g'):jM P g (.tmp t::rs) (x::ys) (x::xs) g'
 | o {α:Type}{g g':aH}{t:Nat}{en:bK α}{L:List α}{rs:List ResultVar}{ys xs:List ab}(h:g t=some (ar en L)) (au:jM P (cp g ⟨t,[]⟩ .dead) rs ys xs g'):jM P g (.tmp t::rs) (.bo en.z ⟨t,[]⟩ L.length::ys) (ar en L::xs) g'
 | c {g g' wH:aH}{t z:Nat}{ty:TypeId}{cs ys0:List ab}{rs:List ResultVar}{ys xs:List ab}(h:g t=some (.obj cs)) (au:hX P ty z=true) (aT:cs.length=z) (aI:Nat.blt 0 z=true) (ai:(cs.mapIdx λi x=>fY 0 ⟨t,[i]⟩ x)=ys0) (hk:mO t g 0 ys0 cs wH) (ak:jM P wH rs ys xs g'):jM P g (.cell t ty::rs) (.agg ys0::ys) (.agg cs::xs) g'
def yj (g0 g:aH):Prop:=∀ t x,g t=some x->(lA x=true\/(∃ z n cs,x=.own z n cs))->g0 t=some x
theorem yj.set {g0:aH}{t:Nat}{pp:List Nat}(h:yj g0 g) (aM:pp=[]\/∃ cs,g t=some (.obj cs)):yj g0 (cp g ⟨t,pp⟩ .dead):=by
 intro s x J aV;unfold cp at J
 split at J
 ·rename_i av;simp only at av J;subst av;exfalso;cases aL:g s with
  | none=>rw [aL] at J; cases J
  | some y =>
   rw [aL] at J;simp only [Option.map_some,Option.some.injEq] at J;rcases aM with rfl | ⟨cs,aa⟩
   ·simp only [ab.setAt] at J;subst J;rcases aV with aV | ⟨_,_,_,aV⟩ <;> cases aV
   ·rw [aL] at aa;cases aa;have:∃ cs',x=.obj cs':=by
     subst J;cases pp with
     | nil=>simp only [ab.setAt] at aV; rcases aV with aV | ⟨_,_,_,aV⟩ <;> cases aV
     | cons k pp =>
      simp only [ab.setAt,ab.kids];split
      ·exact ⟨_,rfl⟩
      ·exact ⟨_,rfl⟩
    obtain ⟨cs',rfl⟩:=this;rcases aV with aV | ⟨_,_,_,aV⟩ <;> cases aV
 ·exact h s x J aV
theorem mO.dies {g0:aH}{s i:Nat}{ys xs:List ab}(h:mO s g i ys xs g'):(∃ cs,g s=some (.obj cs))->yj g0 g->yj g0 g':=by
 induction h with
 | nil=>exact λ_ h=>h
 | f _ _ aJ=>exact aJ
 | @o α g g' i en L ys xs aw _ aJ =>
  intro aM aP;refine aJ ?_ (aP.set (.inr aM));obtain ⟨cs,aa⟩:=aM;unfold cp;simp only [if_pos,aa,Option.map_some,ab.setAt,ab.kids];split
  ·exact ⟨_,rfl⟩
  ·exact ⟨_,rfl⟩
theorem mO.out {s i:Nat}{ys xs:List ab}(h:mO s g i ys xs g'):∀ t,t≠s->g' t=g t:=by
 induction h with
 | nil=>exact λ_ _=>rfl
 | f _ _ aJ=>exact aJ
 | o _ _ aJ=>exact λt au=>by rw [aJ t au,vJ au]
theorem jM.take {rs:List ResultVar}{ys xs:List ab}(h:jM P g rs ys xs g'):Take g ys xs g':=by
 induction h with
 | nil=>exact .bh (by simp)
 | @f g g' t x rs ys xs h aV aA _ aJ=>exact .cons aA.bh aJ
 | @o α g g' t en L rs ys xs h _ aJ =>
  have aw:bB g ⟨t,[]⟩=some (ar en L):=by simp [bB,h,ab.at]
  refine .bo aw (Nat.le_refl _) ?_ aJ;rw [xX]; exact .bh (o9 en L)
 | @c g g' wH t z ty cs ys0 rs ys xs h au aT aI ai hk _ aJ=>exact .agg hk.take aJ
theorem jM.vs {rs:List ResultVar}{ys xs:List ab}(h:jM P g rs ys xs g'):∀ g0:aH,yj g0 g->(∀ t ty,ResultVar.cell t ty∈rs->∀ cs,g t=some (.obj cs)->g0 t=some (.obj cs))->(rs.filterMap fun | .cell t _=>some t | _=>none).Nodup->s6 P g0 rs ys:=by
 induction h with
 | nil=>exact λ_ _ _ _=>.nil
 | @f g g' t x rs ys xs h aV aA _ aJ =>
  intro g0 aP ao e7;exact .cons (.tmp (Rd.f (aP t x h (.inl aV)) aV)) (aJ g0 aP (λt ty hm=>ao t ty (List.mem_cons_of_mem _ hm)) (by simpa using e7))
 | @o α g g' t en L rs ys xs h _ aJ =>
  intro g0 aP ao e7;refine .cons (.tmp ?_) (aJ g0 (aP.set (.inl rfl)) (λs ty hm cs aa=>?_) (by simpa using e7))
  ·have:=aP t _ h (.inr ⟨_,_,_,rfl⟩);simp [Own.bp,this,p9,fY]
  ·by_cases av:s=t
   ·subst av; simp [cp,h,ab.setAt] at aa
   ·rw [vJ av] at aa; exact ao s ty (List.mem_cons_of_mem _ hm) cs aa
 | @c g g' wH t z ty cs ys0 rs ys xs h au aT aI ai hk _ aJ =>
  intro g0 aP ao e7;have h1:=ao t ty (by simp) cs h;simp only [List.filterMap_cons,List.nodup_cons] at e7;refine .cons ?_ (aJ g0 (hk.dies ⟨cs,h⟩ aP) (λs x6 hm cs' aa=>?_) e7.2)
  ·have OE:0<z:=by simpa using aI
   have J:Own.bp g0 (.tmp t)=some (.ptr ⟨t,[]⟩ 0):=by
    cases cs with
    | nil=>simp at aT; omega
    | cons c cs=>simp [Own.bp,h1,p9,fY]
   have:=c9.zt (P:=P) (ty:=ty) (p:=⟨t,[]⟩) (n:=0) (z:=0) J au (by simp only [bB,h1,ab.at]) (.inr rfl) (show 0+z<=cs.length by omega);have fv:((cs.drop 0).take z).mapIdx (λi x=>fY 0 (Place.push ⟨t,[]⟩ (0+i)) x)=ys0:=by
    rw [List.drop_zero,List.take_of_length_le (by omega),<- ai];congr 1;funext i x;simp [Place.push]
   rw [fv] at this;exact .cell this
  ·have bQ:s≠t:=by
    rintro rfl;exact e7.1 (List.mem_filterMap.2 ⟨.cell s x6,hm,rfl⟩)
   have:=hk.out s bQ;rw [this] at aa;exact ao s x6 (List.mem_cons_of_mem _ hm) cs' aa
inductive qu (g:aH) (pins:List Nat):Nat->List (Option ab)->Prop
 | nil {i:Nat}:qu g pins i []
 | no {i:Nat}{os:List (Option ab)}(t:qu g pins (i+1) os):qu g pins i (none::os)
 | al {i:Nat}{x:ab}{os:List (Option ab)}(h:g i=some x) [aA:b6 x] (aw:pins.elem i=true) (t:qu g pins (i+1) os):qu g pins i (some x::os)
theorem qu.spec {pins:List Nat}{i:Nat}{os:List (Option ab)}(h:qu g pins i os):∀ k x,os[k]?=some (some x)->g (i+k)=some x/\cK x/\i+k∈pins:=by
 induction h with
 | nil=>intro k x hk; simp at hk
 | no _ aJ =>
  intro k x hk;cases k with
  | zero=>simp at hk
  | succ k=>have:=aJ k x (by simpa using hk); rw [Nat.add_assoc,Nat.add_comm 1 k] at this; exact this
 | @al i y os h aA aw _ aJ =>
  intro k x hk;cases k with
  | zero=>simp at hk; subst hk; exact ⟨h,aA.bh,by simpa using aw⟩
  | succ k=>have:=aJ k x (by simpa using hk); rw [Nat.add_assoc,Nat.add_comm 1 k] at this; exact this
theorem Fin.ro {rs:List ResultVar}{ys xs:List ab}{res:ab}{outs:List (Option ab)}{n:Nat}(h:jM P g rs ys xs g') (he:o8 xs=res) (e7:(rs.filterMap fun | .cell t _=>some t | _=>none).Nodup) (aM:qu g' N.pins 0 outs) (ah:outs.length=n) (J:e=.normal\/e=.ret):Fin P N rs n outs res e g :=
 ⟨J,⟨ys,xs,g',h.vs g (λ_ _ h _=>h) (λ_ _ _ _ h=>h) e7,h.take,he.symm,λk x hk=>by have:=aM.spec k x hk; rw [Nat.zero_add] at this; exact this⟩,ah⟩
class iK (x y:ab):Prop where v:∀ g,View g x y
class ds (xs ys:List ab):Prop where
 l:ys.length=xs.length
 v:∀ (g:aH) (k:Nat) (x y:ab),xs[k]?=some x->ys[k]?=some y->View g x y
class gP (e b0:bK α):Prop where
 z:e.z=b0.z
 v:∀ a,ds (e.cells a) (b0.cells a)
instance {v:Value}:iK (.lit v) (.lit v):=⟨λ_=>.self .lit (by simp) (by simp) (by simp) (by simp) (by simp)⟩
instance:iK .bb .bb:=⟨λ_=>.self .bb (by simp) (by simp) (by simp) (by simp) (by simp)⟩
instance {z n:Nat}{cs:List ab} [h:dp cs]:iK (.bf z n cs) (.bf z n cs):=⟨λ_=>.self (.bf h.bh) (by simp) (by simp) (by simp) (by simp) (by simp)⟩
instance {cs:List ab} [h:dp cs]:iK (.cL cs) (.cL cs):=⟨λ_=>.self (.cL h.bh) (by simp) (by simp) (by simp) (by simp) (by simp)⟩
instance {e:bK α}:iK .bb (ay e []):=⟨λ_=>.p3⟩
instance:ds [] []:=⟨rfl,by simp⟩
instance {x y:ab}{xs ys:List ab} [h:iK x y] [aR:ds xs ys]:ds (x::xs) (y::ys):=⟨by simp [aR.l],λg k a b aQ ao=>by
 cases k with
 | zero=>simp at aQ ao; subst aQ ao; exact h.v g
 | succ k=>exact aR.v g k a b (by simpa using aQ) (by simpa using ao)⟩
theorem Dw (e b0:bK α) [h:gP e b0]:∀ L:List α,(bu b0 L).length=(bu e L).length/\∀ (g:aH) (k:Nat) (x y:ab),(bu e L)[k]?=some x->(bu b0 L)[k]?=some y->View g x y
 | []=>⟨rfl,by simp [bu]⟩
 | a::L=>by
  obtain ⟨h1,af⟩:=Dw e b0 L;have TV:∀ e:bK α,bu e (a::L)=e.cells a++bu e L:=λe=>by simp [bu]
  refine ⟨by rw [np,np,h.z],λg k x y J ai=>?_⟩;rw [TV] at J ai;by_cases hk:k<e.z
  ·rw [List.getElem?_append_left (by rw [e.len]; exact hk)] at J;rw [List.getElem?_append_left (by rw [b0.len,<- h.z]; exact hk)] at ai;exact (h.v a).v g k x y J ai
  ·rw [List.getElem?_append_right (by rw [e.len]; omega),e.len] at J;rw [List.getElem?_append_right (by rw [b0.len,<- h.z]; omega),b0.len,<- h.z] at ai;exact af g _ x y J ai
instance {e b0:bK α}{L:List α} [h:gP e b0]:iK (ar e L) (ay b0 L):=⟨λg=>by
 have:=Dw e b0 L;show View g (.own e.z L.length (bu e L)) (.bf b0.z L.length (bu b0 L));rw [<- h.z];exact .own this.1 (this.2 g)⟩
instance:gP aZ aZ:=⟨rfl,λa=>(inferInstance:ds [ae a] [ae a])⟩
instance:gP pE pE:=⟨rfl,λa=>(inferInstance:ds [mi a] [mi a])⟩
instance:gP cr cr:=⟨rfl,λa=>(inferInstance:ds [bd a] [bd a])⟩
instance:gP cH cH:=⟨rfl,λa=>(inferInstance:ds [aq a] [aq a])⟩
instance {e b0:bK α} [h:gP e b0]:gP (fu e) (b4 b0):=⟨rfl,λa=>(inferInstance:ds [ar e a] [ay b0 a])⟩
instance {e:bK α}:gP (b4 e) (b4 e):=⟨rfl,λa=>(inferInstance:ds [ay e a] [ay e a])⟩
theorem View.row {e b0:bK α}{L:List α} [h:gP e b0] (aw:bB g p=some (ar e L)):View g (.bo e.z p L.length) (ay b0 L):=by
 have:=Dw e b0 L;show View g _ (.bf b0.z L.length (bu b0 L));rw [<- h.z];refine .bo aw (Nat.le_refl _) (by rw [xX]; exact this.1) (λk x y J ai=>?_);rw [xX] at J;exact this.2 g k x y J ai
inductive n1 (g:aH):List ab->List ab->Prop
 | nil:n1 g [] []
 | s {x y:ab}{xs ys:List ab} [h:iK x y] (t:n1 g xs ys):n1 g (x::xs) (y::ys)
 | c {x y:ab}{xs ys:List ab}(h:View g x y) (t:n1 g xs ys):n1 g (x::xs) (y::ys)
theorem n1.len {xs ys:List ab}(h:n1 g xs ys):ys.length=xs.length:=by
 induction h with
 | nil=>rfl
 | s _ aJ=>simp [aJ]
 | c _ _ aJ=>simp [aJ]
theorem n1.get {xs ys:List ab}(h:n1 g xs ys):∀ (k:Nat) (x y:ab),xs[k]?=some x->ys[k]?=some y->View g x y:=by
 induction h with
 | nil=>intro k x y J; simp at J
 | @s x y xs ys h _ aJ =>
  intro k a b aQ ao;cases k with
  | zero=>simp at aQ ao; subst aQ ao; exact h.v g
  | succ k=>exact aJ k a b (by simpa using aQ) (by simpa using ao)
 | @c x y xs ys h _ aJ =>
  intro k a b aQ ao;cases k with
  | zero=>simp at aQ ao; subst aQ ao; exact h
  | succ k=>exact aJ k a b (by simpa using aQ) (by simpa using ao)
theorem View.nB {xs ys:List ab}(h:n1 g xs ys):View g (.agg xs) (.agg ys):=.agg h.len h.get
class nY (x:ab):Prop where kY:jL x
class jq (cs:List ab):Prop where kY:∀ x∈cs,jL x
class lU (e:bK α):Prop where kY:∀ a,jq (e.cells a)
instance {v:Value}:nY (.lit v):=⟨.lit⟩
instance:nY .bb:=⟨.bb⟩
instance {k:Nat × Nat}:nY (.self k):=⟨.self⟩
instance {t:Nat}{us:List Value}:nY (.dt t us):=⟨.dt⟩
instance:jq []:=⟨by simp⟩
instance {x:ab}{xs:List ab} [h:nY x] [aR:jq xs]:jq (x::xs):=⟨λy ai=>by
 rcases List.mem_cons.1 ai with rfl | ai
 ·exact h.kY
 ·exact aR.kY y ai⟩
instance {e:bK α}{L:List α} [h:lU e]:jq (bu e L):=⟨λx J=>by
 obtain ⟨a,_,aQ⟩:=List.mem_flatMap.1 J;exact (h.kY a).kY x aQ⟩
instance {z n:Nat}{cs:List ab} [h:jq cs]:nY (.own z n cs):=⟨.own h.kY⟩
instance {cs:List ab} [h:jq cs]:nY (.obj cs):=⟨.obj h.kY⟩
instance {cs:List ab} [h:jq cs]:nY (.agg cs):=⟨.agg h.kY⟩
instance {cs:List ab} [h:jq cs]:nY (.bI cs):=⟨.bI h.kY⟩
instance {e:bK α}{a:α} [h:lU e]:jq (e.cells a):=h.kY a
instance:lU aZ:=⟨λa=>(inferInstance:jq [ae a])⟩
instance:lU pE:=⟨λa=>(inferInstance:jq [mi a])⟩
instance:lU cr:=⟨λa=>(inferInstance:jq [bd a])⟩
instance:lU cH:=⟨λa=>(inferInstance:jq [aq a])⟩
instance {e:bK α} [h:lU e]:lU (fu e):=⟨λa=>(inferInstance:jq [ar e a])⟩
theorem Yx {outs:List (Option ab)}{args:List ab}(aM:vt outs=true) (ah:outs.length=args.length):outs=args.map λ_=>none:=by
 apply List.ext_getElem?;intro k;rw [List.getElem?_map];cases ai:args[k]? with
 | none=>rw [List.getElem?_eq_none (by rw [ah]; exact List.getElem?_eq_none_iff.1 ai)]; rfl
 | some y =>
  have hk:k<outs.length:=by rw [ah]; exact (List.getElem?_eq_some_iff.1 ai).1
  have h1:=List.getElem?_eq_getElem hk;rw [h1];cases af:outs[k] with
  | none=>rfl
  | some x=>rw [af] at h1; exact absurd h1 (Pm aM k x)
theorem cF.vw {xs:List Operand}{fT:Array TypeId}{f:FuncId}{ys args:List ab}{outs:List (Option ab)}{res:ab}(J:hz g xs=some ys) (hv:n1 g ys args) (gH:bO P f args outs res) (aV:gU P f=true) (aM:vt outs=true) [ak:nY res] :
  cF P g (.call { callee:=.value (.func f),args:=xs.toArray,argTypes:=fT }) res:=by
 have e:=Yx aM gH.1;refine .Fg (first:=[]) (caps:=[]) (ys:=ys) (args:=args) rfl (by simpa using J) aV (by simpa using hv.len) (λk x y J ai=>hv.get k x y (by simpa using J) ai) ?_ ak.kY;rw [<- e]; exact gH
end
end Go.Own
namespace Go.Own
open Go
set_option linter.unusedSectionVars false
variable [cw]
variable {α β:Type}
section
variable {P:Program}{N:cQ}{ops:Array Oper}{g g' g1 g2:aH}{K:aH->Prop}{l:List Oper}{d r:Nat}{op:Op}{ty t t2:TypeId}{pos:String}{after:Array Edge}{gd:Option (Nat × Bool)}{a b c:Operand}{p q:Place}{x y:ab}
variable {bl:List (List Nat)}{g0:aH}{acc:Acc}{i:Nat}
instance {cs cs':List ab} [h:ds cs cs']:iK (.obj cs) (.cL cs'):=⟨λg=>.obj h.l (h.v g)⟩
instance {cs cs':List ab} [h:ds cs cs']:iK (.agg cs) (.agg cs'):=⟨λg=>.agg h.l (h.v g)⟩
instance {z n:Nat}{cs cs':List ab} [h:ds cs cs']:iK (.own z n cs) (.bf z n cs'):=⟨λg=>.own h.l (h.v g)⟩
theorem aD.hK (aw:ch P g op ty y) [aA:b6 y] [hv:iK y x] (bc:N.ok d=true) (aV:g d=none) (aL:gm g ops gd) (hk:aD P N ops l (cR g d x) K):aD P N ops (⟨some d,op,ty,pos,after,gd⟩::l) g K :=
 .Dj rfl bc aV (r:=some x) (.inr (.inr ⟨aL.wanted,y,.inl aw,aA.bh,hv.v _⟩)) hk
theorem b8.hK (b7:Nat) (aw:ch P (kj bl g0 b7 acc) op ty y) [aA:b6 y] [hv:iK y x] (ag:Nat.beq ops.size (b7+l.length+1)=true) (aV:g0 d=none) (l4:acc.all (λe=>!Nat.beq e.2.1 d)=true) (bc:N.ok d=true) (aL:gm (kj bl g0 b7 acc) ops gd)
  (hk:b8 P N ops bl g0 i ((b7,d,some x)::acc) l K):b8 P N ops bl g0 i acc (⟨some d,op,ty,pos,after,gd⟩::l) K :=
 .st b7 (r:=some x) rfl (.inr (.inr ⟨aL.wanted,y,.inl aw,aA.bh,hv.v _⟩)) ag aV l4 bc hk
inductive n0 (ex:List Nat) (g g2:aH):List (Nat × ab)->Prop
 | nil:n0 ex g g2 []
 | n {s:Nat}{x:ab}{l:List (Nat × ab)}(cN:ex.elem s=false) (h:g s=some x) [aA:b6 x] (t:n0 ex g g2 l):n0 ex g g2 ((s,x)::l)
 | p {s q k:Nat}{l:List (Nat × ab)}{j9:List ab}(cN:ex.elem s=false) (h:g s=some (.ptr ⟨q,[]⟩ k)) (af:g2 q=some (.obj j9)) (fK:Nat.blt k j9.length=true) (t:n0 ex g g2 l):n0 ex g g2 ((s,.ptr ⟨q,[]⟩ k)::l)
 | z {s:Nat}{x y:ab}{l:List (Nat × ab)}(he:ex.elem s=true) (h:g s=some y) [aA:b6 y] (hv:gE y x) [J:mL x] (t:n0 ex g g2 l):n0 ex g g2 ((s,x)::l)
theorem n0.spec {ex:List Nat}{l:List (Nat × ab)}(h:n0 ex g g2 l):∀ t x,get l t=some x->((ex.elem t=false/\g t=some x/\eo g2 x)\/(ex.elem t=true/\∃ y,g t=some y/\cK y/\gE y x))/\∀ z p n m new,x≠.bD z p n m new:=by
 induction h with
 | nil=>intro t x J; cases J
 | @n s x l cN h aA _ aJ =>
  intro t y ai; simp only [get] at ai
  split at ai
  ·rename_i e; subst e; cases ai; exact ⟨.inl ⟨cN,h,.bh aA.bh⟩,by rintro z p n m new rfl; cases aA.bh⟩
  ·exact aJ t y ai
 | @p s q k l j9 cN h af fK _ aJ =>
  intro t y ai; simp only [get] at ai
  split at ai
  ·rename_i e; subst e; cases ai; exact ⟨.inl ⟨cN,h,.ref rfl (vH af (by simpa using fK))⟩,by simp⟩
  ·exact aJ t y ai
 | @z s x y l he h aA hv J _ aJ =>
  intro t y' ai; simp only [get] at ai
  split at ai
  ·rename_i e; subst e; cases ai; exact ⟨.inr ⟨he,y,h,aA.bh,hv⟩,J.e8⟩
  ·exact aJ t y' ai
theorem n0.yR {ex:List Nat}{G2:List (Nat × ab)}(h:n0 ex g (get G2) G2):GD (λt=>ex.elem t) g (get G2):=by
 refine ⟨λt x J au=>?_,λt x J au=>?_,λt z q n m new J=>(h.spec t _ J).2 _ _ _ _ _ rfl⟩
 ·rcases (h.spec t x J).1 with ⟨_,h1,af⟩ | ⟨h1,_⟩
  ·grind
  grind
 ·rcases (h.spec t x J).1 with ⟨h1,_⟩ | ⟨_,af⟩
  ·grind
  grind
theorem W.fJ {bC:Code}{G G1:List (Nat × ab)}{Φ:Exit->aH->Prop}(ex:List Nat) (h:n0 ex (get G) (get G1) G1) (hw:W P N bC (get G1) Φ):W P N bC (get G) Φ:=by
 intro Q a w I Fs a_ bc eu;obtain ⟨I',b5,eL,bQ⟩:=a_.yR h.yR;exact hw eL bc λe g' cb w' he aA=>eu e g' cb w' he (jo.trans rfl hW.refl bQ aA)
theorem Take.pre {xs xs':List ab}:∀ {ps:List ab},(∀ x∈ps,cK x)->Take g xs xs' g'->Take g (ps++xs) (ps++xs') g'
 | [],_,h=>h
 | x::ps,aA,h=>.cons (aA x (by simp)) (Take.pre (ps:=ps) (λy ai=>aA y (List.mem_cons_of_mem _ ai)) h)
inductive fr:aH->List ab->List ab->aH->Prop
 | nil {g:aH}:fr g [] [] g
 | l7 {g:aH}{xs:List ab} [aA:dp xs]:fr g xs xs g
 | f {g g':aH}{x:ab}{xs xs':List ab} [aA:b6 x] (t:fr g xs xs' g'):fr g (x::xs) (x::xs') g'
 | r {α:Type}{g g':aH}{p:Place}{en:bK α}{L:List α}{xs xs':List ab}(aw:bB g p=some (ar en L)) (t:fr (cp g p .dead) xs xs' g'):fr g (.bo en.z p L.length::xs) (ar en L::xs') g'
 | l {g g1 g':aH}{p:Place}{z n:Nat}{cs cs' xs xs':List ab}(aw:bB g p=some (.own z n cs)) (ah:cs.length=n * z) (h1:fr (cp g p .dead) cs cs' g1) (t:fr g1 xs xs' g'):fr g (.bo z p n::xs) (.own z n cs'::xs') g'
 | k2 {α:Type}{g g1 g':aH}{q:Place}{s m:Nat}{en:bK α}{L:List α}{new cO xs xs':List ab}(av:g s=some (.bD en.z q L.length m new)) (aw:bB g q=some (ar en L)) (ba:Nat.beq q.root s=false) (h1:fr (cp (cp g ⟨s,[]⟩ .dead) q .dead) new cO g1) (t:fr g1 xs xs' g') :
   fr g (.bo en.z ⟨s,[]⟩ (L.length+m)::xs) (.own en.z (L.length+m) (bu en L++cO)::xs') g'
 | nB {g g1 g':aH}{cs cs' xs xs':List ab}(h1:fr g cs cs' g1) (t:fr g1 xs xs' g'):fr g (.agg cs::xs) (.agg cs'::xs') g'
 | m {g g':aH}{p:Place}{q:Array MapEntry->Nat->Prop}{xs xs':List ab}(aw:bB g p=some (.mp q)) (t:fr (cp g p .dead) xs xs' g'):fr g (.gY p::xs) (.mp q::xs') g'
 | b {g g1 g':aH}{p:Place}{cs cs' xs xs':List ab}(aw:bB g p=some (.obj cs)) (h1:fr (cp g p .dead) cs cs' g1) (t:fr g1 xs xs' g'):fr g (.ptr p 0::xs) (.obj cs'::xs') g'
theorem fr.take {xs xs':List ab}(h:fr g xs xs' g'):Take g xs xs' g':=by
 induction h with
 | m aw _ aJ=>exact .mp aw (.bh (by simp)) aJ
 | nil=>exact .bh (by simp)
 | @l7 g xs aA=>exact .bh aA.bh
 | @f g g' x xs xs' aA _ aJ=>exact .cons aA.bh aJ
 | @r α g g' p en L xs xs' aw _ aJ =>
  refine .bo aw (Nat.le_refl _) ?_ aJ;rw [xX];exact .bh (o9 en L)
 | @l g g1 g' p z n cs cs' xs xs' aw ah _ _ f' fL =>
  refine .bo aw (Nat.le_refl _) ?_ fL
  grind
 | @k2 α g g1 g' q s m en L new cO xs xs' av aw ba _ _ f' fL=>exact .bD av aw (Nat.ne_of_beq_eq_false ba) (.pre (o9 en L) f') fL
 | @nB g g1 g' cs cs' xs xs' _ _ f' fL=>exact .agg f' fL
 | @b g g1 g' p cs cs' xs xs' aw _ _ f' fL=>exact .obj aw f' fL
inductive gl:List ab->List ab->Prop
 | nil:gl [] []
 | hA {xs:List ab}:gl xs xs
 | f {x:ab}{xs ys:List ab}(t:gl xs ys):gl (x::xs) (x::ys)
 | o {z:Nat}{xs ys:List ab}(t:gl xs ys):gl (.bb::xs) (.own z 0 []::ys)
 | z {x y:ab}{xs ys:List ab} [aA:b6 x] [hv:iK x y] (t:gl xs ys):gl (x::xs) (y::ys)
 | g {x y:ab}{xs ys:List ab}(h:gE x y) (t:gl xs ys):gl (x::xs) (y::ys)
theorem gl.len {xs ys:List ab}(h:gl xs ys):ys.length=xs.length:=by
 induction h with
 | nil=>rfl
 | hA=>rfl
 | f _ aJ=>simp [aJ]
 | o _ aJ=>simp [aJ]
 | z _ aJ=>simp [aJ]
 | g _ _ aJ=>simp [aJ]
theorem gl.get {xs ys:List ab}(h:gl xs ys):∀ (k:Nat) (x y:ab),xs[k]?=some x->ys[k]?=some y->gE x y:=by
 induction h with
 | nil=>intro k x y J; simp at J
 | hA=>intro k x y J ai; rw [J] at ai; cases ai; exact .refl
 | @f x xs ys _ aJ =>
  intro k a b aQ ao;cases k with
  | zero=>simp at aQ ao; subst aQ ao; exact .refl
  | succ k=>exact aJ k a b (by simpa using aQ) (by simpa using ao)
 | @o z xs ys _ aJ =>
  intro k a b aQ ao;cases k with
  | zero=>simp at aQ ao; subst aQ ao; exact .Cp
  | succ k=>exact aJ k a b (by simpa using aQ) (by simpa using ao)
 | @z x y xs ys aA hv _ aJ =>
  intro k a b aQ ao;cases k with
  | zero=>simp at aQ ao; subst aQ ao; exact .oi aA.bh (hv.v _)
  | succ k=>exact aJ k a b (by simpa using aQ) (by simpa using ao)
 | @g x y xs ys h _ aJ =>
  grind
theorem gl.pre {xs ys:List ab}(h:gl xs ys):∀ ps:List ab,gl (ps++xs) (ps++ys)
 | []=>h
 | _::ps=>.f (gl.pre h ps)
theorem gl.own {z n:Nat}{xs ys:List ab}(h:gl xs ys):gE (.own z n xs) (.own z n ys):=.own h.len h.get
theorem gl.obj {xs ys:List ab}(h:gl xs ys):gE (.obj xs) (.obj ys):=.obj h.len h.get
theorem gl.agg {xs ys:List ab}(h:gl xs ys):gE (.agg xs) (.agg ys):=.agg h.len h.get
theorem gE.pc [aA:b6 x] [hv:iK x y]:gE x y:=.oi aA.bh (hv.v _)
theorem bx.DS {o:Oper}{x:Operand}{y bV y':ab}{G2:List (Nat × ab)}(aM:o.op=.assign x) (aP:o.dst=some d) (J:Rd g x y) (au:fr g [y] [bV] g1) (aT:gE bV y') (c':Trim false g1 (get G2) G2) (aL:get G2 d=none) (bc:N.ok d=true):bx P N g o (cR (get G2) d y') :=
 .assign aM aP J.bp au.take aT c'.keep aL bc
theorem bx.L9 {o:Oper}{x:Operand}{en:bK α}{L M R:List α}{s m:Nat}{new cO:List ab}{G2:List (Nat × ab)}(aM:o.op=.assign x) (aP:o.dst=some d) (J:Rd g x (.bo en.z ⟨s,[]⟩ (L.length+m))) (av:g s=some (.bD en.z q L.length m new)) (aw:bB g q=some (ar en L)) (ba:Nat.beq q.root s=false)
  (h1:fr (cp (cp g ⟨s,[]⟩ .dead) q .dead) new cO g1) (aT:gl cO (bu en M)) (hm:M.length=m) (ak:L++M=R) (c':Trim false g1 (get G2) G2) (aL:get G2 d=none) (bc:N.ok d=true):bx P N g o (cR (get G2) d (ar en R)):=by
 subst hm ak;have au:=fr.k2 (xs:=[]) (xs':=[]) av aw ba h1 .nil;rw [<- FB];exact .assign aM aP J.bp au.take (aT.pre _).own c'.keep aL bc
theorem bx.j1 {o:Oper}{k0:Nat}{kR cs' cs2:List ab}{y bV y':ab}{G2:List (Nat × ab)}(aM:o.op=.store t a b) (aP:o.dst=none) (aQ:Rd g a (.ptr ⟨r,[]⟩ k0)) (ao:Rd g b y) (au:fr g [y] [bV] g1) (nL:gE bV y') (aa:n3 y'=some cs') (aT:hB P t cs'.length=true)
  (av:g1 r=some (.obj kR)) (hk:Nat.ble (k0+cs'.length) kR.length=true) (aI:Nat.blt 0 cs'.length=true) (he:ew kR k0 cs'=cs2) [eR:dp kR] (ak:(get G2 r).isSome=true) (c':ly g1 (get G2) r cs2 G2):bx P N g o (get G2):=by
 subst he;refine .store aM aP aQ.bp ao.bp au.take nL aa aT (p:=⟨r,[]⟩) (nd:=.obj kR) (z:=0) (n:=0) (by simp [bB,av,ab.at]) (.inr rfl) (Nat.le_of_ble_eq_true hk) (by simpa using aI) (λt x J=>?_) (λt x J y ai=>?_) (λt z q n m new J=>?_) (by intro e; rw [e] at ak; cases ak)
 ·rcases c'.spec t x J with ⟨h1,af,_⟩ | ⟨h1,af,_⟩
  all_goals grind [cp,ab.setAt,ab.ew]
 ·rcases c'.spec t x J with ⟨h1,af,aF⟩ | ⟨h1,af,aF⟩
  ·rw [af] at ai;cases ai;exact aF.C6
  ·subst h1;rw [av] at ai;cases ai;exact .bh (.obj eR.bh)
 ·rcases c'.spec t _ J with ⟨_,_,aF⟩ | ⟨_,af,_⟩
  ·exact aF.e8 _ _ _ _ _ rfl
  grind
theorem bx.Ah {o:Oper}{k0 s m:Nat}{en:bK α}{L M R:List α}{new cO:List ab}{kR cs2:List ab}{G2:List (Nat × ab)}(aM:o.op=.store t a b) (aP:o.dst=none) (aQ:Rd g a (.ptr ⟨r,[]⟩ k0)) (ao:Rd g b (.bo en.z ⟨s,[]⟩ (L.length+m))) (pS:g s=some (.bD en.z q L.length m new)) (aw:bB g q=some (ar en L)) (ba:Nat.beq q.root s=false)
  (h1:fr (cp (cp g ⟨s,[]⟩ .dead) q .dead) new cO g1) (nL:gl cO (bu en M)) (hm:M.length=m) (aU:L++M=R) (aT:hB P t 1=true)
  (av:g1 r=some (.obj kR)) (hk:Nat.ble (k0+1) kR.length=true) (he:ew kR k0 [ar en R]=cs2) [eR:dp kR] (ak:(get G2 r).isSome=true) (c':ly g1 (get G2) r cs2 G2):bx P N g o (get G2):=by
 subst hm aU;have au:=fr.k2 (xs:=[]) (xs':=[]) pS aw ba h1 .nil;refine .j1 (y':=ar en (L++M)) aM aP aQ ao au ?_ rfl aT av hk rfl he ak c';rw [<- FB]; exact (nL.pre _).own
inductive nw (r:Nat) (cs:List ab) (k0:Nat):Nat->List ab->List ab->Prop
 | nil {i:Nat}:nw r cs k0 i [] []
 | b {i:Nat}{xs ys:List ab}(hi:Nat.beq i k0=true) (t:nw r cs k0 (i+1) xs ys):nw r cs k0 i (.ptr ⟨r,[]⟩ 0::xs) (.obj cs::ys)
 | n {i:Nat}{x:ab}{xs ys:List ab}(hi:Nat.beq i k0=false) [aA:b6 x] (t:nw r cs k0 (i+1) xs ys):nw r cs k0 i (x::xs) (x::ys)
theorem nw.len {cs:List ab}{k0 i:Nat}{xs ys:List ab}(h:nw r cs k0 i xs ys):ys.length=xs.length:=by
 induction h with
 | nil=>rfl
 | b _ _ aJ=>simp [aJ]
 | n _ _ aJ=>simp [aJ]
theorem nw.Yz {cs:List ab}{k0 i:Nat}{xs ys:List ab}(h:nw r cs k0 i xs ys) (hi:k0<i):xs=ys/\∀ x∈xs,cK x:=by
 induction h with
 | nil=>exact ⟨rfl,by simp⟩
 | @b i _ _ h _ _=>have:=Nat.eq_of_beq_eq_true h; omega
 | @n i x xs ys _ aA _ aJ =>
  obtain ⟨h1,af⟩:=aJ (by omega);exact ⟨by rw [h1],rS aA.bh af⟩
theorem nw.take {cs:List ab}{k0 i:Nat}{xs ys:List ab}(h:nw r cs k0 i xs ys) (av:g r=some (.obj cs)) (aA:∀ x∈cs,cK x):i<=k0->k0<i+xs.length->Take g xs ys (cp g ⟨r,[]⟩ .dead):=by
 induction h with
 | nil=>intro h1 af; simp at af; omega
 | @b i xs ys hi t _ =>
  intro h1 af;have:=Nat.eq_of_beq_eq_true hi;obtain ⟨e,mr⟩:=t.Yz (by omega);subst e;exact .obj (by simp [bB,av,ab.at]) (.bh aA) (.bh mr)
 | @n i x xs ys hi J _ aJ =>
  intro h1 af;have:=Nat.ne_of_beq_eq_false hi;simp only [List.length_cons] at af;exact .cons J.bh (aJ (by omega) (by omega))
theorem nw.R7 {cs:List ab}{k0 i:Nat}{xs ys:List ab}(h:nw r cs k0 i xs ys):i<=k0->k0<i+xs.length->xs[k0 - i]?=some (.ptr ⟨r,[]⟩ 0):=by
 induction h with
 | nil=>intro h1 af; simp at af; omega
 | @b i xs ys hi _ _=>intro _ _; have:=Nat.eq_of_beq_eq_true hi; subst this; simp
 | @n i x xs ys hi _ _ aJ =>
  grind [Nat.ne_of_beq_eq_false]
def vu (n k0:Nat) (x:ab):List (Option ab):=(List.range n).map λi=>if i=k0 then some x else none
inductive v8 (g:aH) (d r:Nat) (n:Nat) (G4:List (Nat × ab)):List (Nat × ab)->Prop
 | nil:v8 g d r n G4 []
 | c {s k:Nat}{l:List (Nat × ab)}(h:g s=some (.ptr ⟨r,[]⟩ k)) (hk:Nat.blt k n=true) (aP:Nat.beq s d=false) (bk:get G4 s=none) (t:v8 g d r n G4 l):v8 g d r n G4 ((s,.ptr ⟨r,[]⟩ k)::l)
theorem yS {A B:List (Nat × ab)}{t:Nat}:get (A++B) t=match get A t with | some x=>some x | none=>get B t:=by
 induction A with
 | nil=>rfl
 | cons p A aJ =>
  grind [get]
theorem v8.spec {n:Nat}{G4 A:List (Nat × ab)}(h:v8 g d r n G4 A):∀ t x,get A t=some x->get G4 t=none/\t≠d/\g t=some x/\∃ k,x=.ptr ⟨r,[]⟩ k/\k<n:=by
 induction h with
 | nil=>intro t x J; cases J
 | @c s k l h hk aP bk _ aJ =>
  intro t x J;simp only [get] at J
  split at J
  ·rename_i e;subst e;cases J
   simp_all [Nat.ne_of_beq_eq_false]
  grind
theorem fy.gM {o:Oper}{xs:List Operand}{fT:Array TypeId}{f:FuncId}{ys args:List ab}{res:ab}{cs cs':List ab}{k0:Nat}{G2 A:List (Nat × ab)}(aM:o.op=.call { callee:=.value (.func f),args:=xs.toArray,argTypes:=fT }) (aP:o.dst=some d) (J:Own.hz g xs=some ys)
  (av:g r=some (.obj cs)) [eR:dp cs] (aQ:nw r cs k0 0 ys args) (ky:Nat.blt k0 ys.length=true) (gH:bO P f args (vu args.length k0 (.obj cs')) res) (aV:gU P f=true) [ak:b6 res] [w0:dp cs']
  (c':Trim false (cp g ⟨r,[]⟩ .dead) (get ((r,.dead)::G2)) G2) (aL:get G2 d=none) (rD:Nat.beq r d=false) (uQ:Trim false (get ((r,.obj cs')::G2)) (get ((r,.obj cs')::G2)) G2) (dh:v8 g d r cs'.length ((r,.obj cs')::G2) A) (bc:N.ok d=true) :
  fy P N g o d (get (A++(d,res)::(r,.obj cs')::G2)):=by
 have adU:k0<ys.length:=by simpa using ky
 have tJ:r≠d:=Nat.ne_of_beq_eq_false rD;have wL:args.length=ys.length:=aQ.len;have na:(vu args.length k0 (.obj cs'))[k0]?=some (some (.obj cs')):=by
  unfold vu;rw [List.getElem?_map,List.getElem?_range (by omega)];simp
 have WL:∀ (k:Nat) (x:ab),(vu args.length k0 (.obj cs'))[k]?=some (some x)->x=.obj cs':=by
  intro k x h;unfold vu at h;rw [List.getElem?_map] at h;cases hk:(List.range args.length)[k]? with
  | none=>rw [hk] at h; cases h
  | some j =>
   rw [hk] at h;simp only [Option.map_some,Option.some.injEq] at h
   split at h
   ·exact (Option.some.inj h).symm
   ·cases h
 have A1:get ((r,ab.dead)::G2) r=some .dead:=by simp [get]
 have tT:hn (cp g ⟨r,[]⟩ .dead) (get ((r,.dead)::G2)):=by
  refine ⟨λt x h=>?_,λt x h=>?_,λt z q n m new h=>?_⟩
  all_goals
   simp only [get] at h
   split at h
  ·rename_i e; subst e; cases h; simp [cp,av,ab.setAt]
  ·obtain ⟨⟨y,h1,_,aF⟩,_⟩:=c'.spec t x h; rw [<- aF rfl]; exact h1
  ·cases h; exact .bh .dead
  ·exact (c'.spec t x h).2.1
  ·cases h
  ·exact (c'.spec t _ h).2.2 _ _ _ _ _ rfl
 have put:p8 (get ((r,.dead)::G2)) [(⟨r,[]⟩,.obj cs')]=get ((r,.obj cs')::G2):=by
  funext t;simp only [p8,cp,get];by_cases h:t=r
  ·simp [h,ab.setAt]
  ·simp [h]
 have tU:hn (get ((r,.obj cs')::G2)) (get ((r,.obj cs')::G2)):=by
  refine ⟨λt x h=>h,λt x h=>?_,λt z q n m new h=>?_⟩
  all_goals
   simp only [get] at h
   split at h
  ·cases h; exact .bh (.obj w0.bh)
  ·exact (uQ.spec t x h).2.1
  ·cases h
  ·exact (uQ.spec t _ h).2.2 _ _ _ _ _ rfl
 refine yk.ok (first:=[]) (caps:=[]) (ys:=ys) (tk:=λ_=>true) (vw:=false) (outs:=vu args.length k0 (.obj cs')) (g1:=cp g ⟨r,[]⟩ .dead) (g2:=get ((r,.dead)::G2)) (g4:=get ((r,.obj cs')::G2)) (l:=[(⟨r,[]⟩,.obj cs')]) (ks:=λ_=>k0) (xs0:=ys) (xs1:=args) (args:=args) (res:=res) aM aP rfl (by simpa using J)
  ⟨aV,by simp,by simpa using wL,λk x h=>.inl (by simpa using h),aQ.take av eR.bh (Nat.zero_le _) (by omega),tT,λk x y _ ai=>by simpa using ai,gH,by simpa using ak.bh,λk x h=>by rw [WL k x h]; simpa using cK.obj w0.bh,λj p x ag=>?_,by simp,λi j hi ag _=>by simp at hi ag; omega,by rw [put]; exact tU⟩ ?_ bc ?_
 ·cases j with
  | succ j=>simp at ag
  | zero =>
   simp only [List.getElem?_cons_zero,Option.some.injEq,Prod.mk.injEq] at ag;obtain ⟨rfl,rfl⟩:=ag;refine ⟨na,by simp [bB,A1,ab.at],.inr ⟨cs,?_,by simp [bB,av,ab.at]⟩,λ_ h=>by cases h⟩;have:=aQ.R7 (Nat.zero_le _) (by omega);simpa using this
 ·simp only [get,if_neg (Ne.symm tJ)]; exact aL
 ·refine ⟨λt x h=>?_,λt x h=>?_⟩
  ·rw [rn] at h;rw [yS];cases mV:get A t with
   | none=>exact h
   | some y =>
    obtain ⟨h1,af,_⟩:=dh.spec t y mV;simp only [get,if_neg af] at h;simp only [get] at h1;rw [h1] at h; cases h
  ·rw [rn];rw [yS] at h;cases mV:get A t with
   | none=>rw [mV] at h; exact .inl h
   | some y =>
    rw [mV] at h;cases h;obtain ⟨h1,af,aF,k,rfl,hk⟩:=dh.spec t x mV;refine .inr ⟨?_,af,aF,r,k,cs',rfl,tJ,?_,hk⟩
    ·simp only [get,if_neg af]; exact h1
    ·simp only [get,if_neg tJ,if_true]
end
end Go.Own
namespace Go.Own
open Go
set_option linter.unusedSectionVars false
variable [cw]
variable {α β:Type}
def Ee (k:IntKind):bK Int:=.one (λn=>.lit (.int k n)) λ_=>.lit
instance {k:IntKind}:Flat (Ee k):=⟨λ_=>rfl⟩
instance {k:IntKind}:gP (Ee k) (Ee k):=⟨rfl,λa=>(inferInstance:ds [.lit (.int k a)] [.lit (.int k a)])⟩
instance {k:IntKind}:lU (Ee k):=⟨λa=>(inferInstance:jq [.lit (.int k a)])⟩
instance {cs:List ab}{n:Nat}{x:ab} [h:dp cs] [J:b6 x]:dp (cs.set n x):=⟨λy ai=>by
 rcases List.mem_or_eq_of_mem_set ai with aR | aR
 ·exact h.bh y aR
 ·rw [aR]; exact J.bh⟩
instance {x y:ab} [h:b6 y]:b6 (x.setAt [] y):=⟨by simpa [ab.setAt] using h.bh⟩
def o5 (m n:Int):Option Int:=if n=0 then none else some (IntKind.u64.wrap (m.tdiv n))
def o7 (m n:Int):Option Int:=if n=0 then none else some (m.tmod n)
inductive jO:List ab->List ab->Prop
 | nil:jO [] []
 | f {x:ab}{xs ys:List ab}(t:jO xs ys):jO (x::xs) (x::ys)
 | o {z:Nat}{xs ys:List ab}(t:jO xs ys):jO (.bb::xs) (.own z 0 []::ys)
 | i {z:Nat}{xs ys:List ab}(t:jO xs ys):jO (.bb::xs) (.bf z 0 []::ys)
theorem jO.len {xs ys:List ab}(h:jO xs ys):ys.length=xs.length:=by
 induction h with
 | nil=>rfl
 | f _ aJ=>simp [aJ]
 | o _ aJ=>simp [aJ]
 | i _ aJ=>simp [aJ]
theorem jO.get {xs ys:List ab}(h:jO xs ys):∀ (k:Nat) (x y:ab),xs[k]?=some x->ys[k]?=some y->mP x y:=by
 induction h with
 | nil=>intro k x y J; simp at J
 | f _ aJ =>
  intro k a b aQ ao;cases k with
  | zero=>simp at aQ ao; subst aQ ao; exact .refl
  | succ k=>exact aJ k a b (by simpa using aQ) (by simpa using ao)
 | o _ aJ =>
  intro k a b aQ ao;cases k with
  | zero=>simp at aQ ao; subst aQ ao; exact .ov
  | succ k=>exact aJ k a b (by simpa using aQ) (by simpa using ao)
 | i _ aJ =>
  intro k a b aQ ao;cases k with
  | zero=>simp at aQ ao; subst aQ ao; exact .o3
  | succ k=>exact aJ k a b (by simpa using aQ) (by simpa using ao)
theorem jO.obj {xs ys:List ab}(h:jO xs ys):mP (.obj xs) (.obj ys):=.obj h.len h.get
section
variable {P:Program}{N:cQ}{ops:Array Oper}{g g' g1 g2:aH}{K:aH->Prop}{l:List Oper}{d r:Nat}{op:Op}{ty t t2:TypeId}{pos:String}{after:Array Edge}{gd:Option (Nat × Bool)}{a b c:Operand}{p q:Place}{x y:ab}{k:IntKind}{m n:Int}
variable {bl:List (List Nat)}{g0:aH}{acc:Acc}{i:Nat}
def sL:List Nat->Bool
 | []=>true
 | x::l=>l.all (λy=>!Nat.beq x y)&&sL l
theorem Kj:∀ {l:List Place},sL (l.map Place.root)=true->l.Nodup
 | [],_=>List.nodup_nil
 | p::l,h=>by
  simp only [List.map_cons,sL,Bool.and_eq_true,List.all_eq_true] at h;refine List.nodup_cons.2 ⟨λhm=>?_,Kj h.2⟩;have:=h.1 p.root (List.mem_map.2 ⟨p,hm,rfl⟩);simp at this
theorem b8.yG (b7:Nat) {G G2:List (Nat × ab)}{o:Oper}(he:bx P N (dz (get G) (λ_=>true) acc) o (get G2)) (aL:o.guard=none) (hq:sL ((acc.filterMap lN).map Place.root)=true) (gJ:o4 G=true) (ag:Nat.beq ops.size (b7+l.length+1)=true)
  (aQ:(List.range b7).all (λk=>(bl.getD b7 []).contains k)=true) (ao:(List.range ops.size).all (λk=>Nat.ble k b7||(bl.getD k []).contains b7)=true) (hk:b8 P N ops bl (get G2) (b7+1) [] l K):b8 P N ops bl (get G) i acc (o::l) K:=by
 intro dI j cX oV oR;have:=HA oR ag;subst this;obtain ⟨h1,af⟩:=drop_cons oR;obtain ⟨g',ak,dk⟩:=hk [] (j+1) .nil .nil af;refine ⟨g',.Sl cX oV (Kj hq) (Cs gJ) h1 ?_ he aQ ?_ ak,dk⟩
 ·grind [jd]
 simp_all
theorem b8.bv (b7:Nat) {G G2:List (Nat × ab)}{o:Oper}{x:ab}(he:bx P N (dz (get G) (λ_=>true) acc) o (cR (get G2) d x)) (aL:o.guard=none) (hq:sL ((acc.filterMap lN).map Place.root)=true) (gJ:o4 G=true) (ag:Nat.beq ops.size (b7+l.length+1)=true)
  (aQ:(List.range b7).all (λk=>(bl.getD b7 []).contains k)=true) (ao:(List.range ops.size).all (λk=>Nat.ble k b7||(bl.getD k []).contains b7)=true) (hk:b8 P N ops bl (get ((d,x)::G2)) (b7+1) [] l K):b8 P N ops bl (get G) i acc (o::l) K :=
 .yG b7 (rn ▸ he) aL hq gJ ag aQ ao hk
class oD (s:Nat) (g:aH):Prop where e8:∀ t,t≠s->∀ z q n m new,g t≠some (.bD z q n m new)
instance (priority:=low) {s:Nat}{g:aH} [h:qt g]:oD s g:=⟨λt _=>h.e8 t⟩
instance {s:Nat}{g:aH}{x:ab} [h:oD s g]:oD s (cR g s x):=⟨λt au z q n m new e=>by
 unfold cR at e;rw [if_neg au] at e;exact h.e8 t au _ _ _ _ _ e⟩
instance {s d:Nat}{g:aH}{x:ab} [h:oD s g] [J:mL x]:oD s (cR g d x):=⟨λt au z q n m new e=>by
 unfold cR at e
 split at e
 ·cases e; exact J.e8 _ _ _ _ _ rfl
 ·exact h.e8 t au _ _ _ _ _ e⟩
class yw (s:Nat) (acc:Acc):Prop where e8:∀ e∈acc,e.2.1≠s->∀ z q n m new,e.2.2≠some (.bD z q n m new)
instance {s:Nat}:yw s []:=⟨by simp⟩
instance {s j d:Nat}{x:ab}{acc:Acc} [J:mL x] [h:yw s acc]:yw s ((j,d,some x)::acc):=⟨λe he av z q n m new br=>by
 rcases List.mem_cons.1 he with rfl | he
 ·exact J.e8 z q n m new (Option.some.inj br)
 ·exact h.e8 e he av z q n m new br⟩
instance {s j:Nat}{x:Option ab}{acc:Acc} [h:yw s acc]:yw s ((j,s,x)::acc):=⟨λe he av z q n m new br=>by
 rcases List.mem_cons.1 he with rfl | he
 ·exact absurd rfl av
 ·exact h.e8 e he av z q n m new br⟩
instance {s:Nat}{G:List (Nat × ab)}{A:Nat->Bool}{acc:Acc} [aL:qt (get G)] [h:yw s acc]:oD s (dz (get G) A acc):=⟨λt au z q n m new e=>by
 rcases uj e with ⟨b0,he,h1,_,af⟩ | ⟨_,af⟩
 ·exact h.e8 b0 he (by rw [h1]; exact au) _ _ _ _ _ af
 ·exact aL.e8 _ _ _ _ _ _ af⟩
namespace O
theorem o5 {r:Int}(J:Rd g a (.lit (.int .u64 m))) (ai:Rd g b (.lit (.int .u64 n))) (h:Own.o5 m n=some r):ch P g (.binOp .quo t a b t2) ty (.lit (.int .u64 r)):=by
 unfold Own.o5 at h
 split at h
 ·cases h
 ·cases h; exact .eG (.quo J ai (by assumption))
theorem o7 {r:Int}(J:Rd g a (.lit (.int .u64 m))) (ai:Rd g b (.lit (.int .u64 n))) (h:Own.o7 m n=some r):ch P g (.binOp .rem t a b t2) ty (.lit (.int .u64 r)):=by
 unfold Own.o7 at h
 split at h
 ·cases h
 ·cases h; exact .eG (.rem J ai (by assumption))
theorem TB {L:List Int}(J:Rd g a (.bf pE.z L.length (bu pE L))) (au:yK P t t2=true):ch P g (.convert t t2 a) ty (aq (strOfNums L)):=by
 have h:=J.bp;rw [PZ] at h;exact .eG (.D' h au)
theorem tc {e ev:Nat}{parts:Array (Nat × Operand)}{ys cs:List ab}{z:Nat}(au:fh P t e z=true) (J:hz g (parts.toList.map (·.2))=some ys) (aa:n2 ys=some cs) (aT:ys.all (λy=>match jf y with | some c=>Nat.beq c.length z | none=>false)=true)
  (aw:parts.toList=(parts.toList.map (·.2)).mapIdx (λi x=>(i,x))) (aA:(parts.toList.map (·.2)).length=ev) (hzero:jI P e z=true) (ao:Nat.ble (ev * z) 16777216=true) (hj:Nat.ble ev 16777216=true):ch P g (.buildSlice t ev parts) ty (.own z ev cs):=by
 subst aA;exact .qQ (.buildSlice au aw J (λy ai=>by
  grind [Nat.eq_of_beq_eq_true]) aa (Nat.le_of_ble_eq_true ao) (Nat.le_of_ble_eq_true hj) (.inr (Q1 hzero)))
theorem Qz {z m:Nat}{cs:List ab}(ba:bB g q=some (.own z m cs)) (ah:cs.length=m * z) (aV:cs.all lA=true):Src g (.bo z q m) z m cs:=by
 have:=Src.bo (g:=g) (m:=m) ba (Nat.le_refl _)
 simp_all [List.take_of_length_le,En]
theorem AL {en:bK α}{L M r:List α}{e gf m:Nat}{cs:List ab}(av:Rd g a (.bo en.z p L.length)) (aw:bB g p=some (ar en L)) (J:Rd g b (.bo en.z q m)) (ba:bB g q=some (.own en.z m cs)) (ah:cs.length=m * en.z) (aV:cs.all lA=true) (hm:M.length=m) (au:jP P t e en.z gf=true) (ao:Nat.ble gf 128=true) (h:ea L M=some r) [eR:qt g] :
  ch P g (.call { callee:=.builtin .append,args:=#[a,b],argTypes:=#[t,t] }) ty (.bD en.z p L.length m cs):=by
 subst hm;obtain ⟨h1,af,_⟩:=AM h ao;exact .lM (.grow av.bp (.inl ⟨_,aw⟩) (λt bM ck bn cO e=>eR.e8 _ _ _ _ _ _ e) J.bp (Qz ba ah aV) au h1 af)
theorem DW {en:bK α}{L M M2 r:List α}{y:ab}{e gf s:Nat}(av:Rd g a (.bo en.z ⟨s,[]⟩ (L.length+M.length))) (pS:g s=some (.bD en.z q L.length M.length (bu en M))) (aw:bB g q=some (ar en L)) (J:Rd g b y) (hm:po g en y M2) (au:jP P t e en.z gf=true) (ao:Nat.ble gf 128=true) (h:ea (L++M) M2=some r) [eR:oD s g] :
  ch P g (.call { callee:=.builtin .append,args:=#[a,b],argTypes:=#[t,t] }) ty (.bD en.z ⟨s,[]⟩ (L.length+M.length) M2.length (bu en M2)):=by
 obtain ⟨h1,af,_⟩:=AM h ao;rw [List.length_append] at h1 af;refine .lM (.grow av.bp (.inr ⟨rfl,q,L.length,M.length,bu en M,_,pS,rfl,aw⟩) (λt bM ck bn cO e=>?_) J.bp hm.src au h1 af);by_cases W9:t=s
 ·grind [bB,ab.at]
 ·exact eR.e8 t W9 _ _ _ _ _ e
theorem Pb {en:bK α}{z0:α}{r:List α}{e gf:Nat}{dj:Value}(au:fh P t e en.z=true) (J:Rd g a (.lit (.int k m))) (ai:Rd g b (.lit (.int .i64 m))) (hzero:(P.info? e).bind (·.zero)=some dj) (h1:dj.cells.toList.all Value.oneCell'=true) (hZ:(en.cells z0).length=dj.cells.size) (V4:∀ (k:Nat) (u:Value) (x:ab),dj.cells[k]?=some u->(en.cells z0)[k]?=some x->x=jZ u\/(jZ u=.bb/\∃ bM,x=.bf bM 0 [])) (h:nQ m z0=some r) (hY:(P.info? e).map (·.bytes)=some gf) (ao:Nat.ble gf 128=true) :
  ch P g (.makeSlice t a b) ty (ar en r):=by
 unfold nQ at h
 split at h
 ·rename_i hm;have sv:lim=1099511627776:=rfl;have kT:=Nat.le_of_ble_eq_true ao;obtain ⟨j,rfl⟩:=Int.eq_ofNat_of_zero_le hm.1;cases h;have ag:j<=1099511627776:=by omega
  have dO:dj.cells.size=en.z:=by rw [<- hZ,en.len]
  have:=ny.makeSlice (P:=P) (ty:=ty) au J.bp ai.bp hzero (by rw [<- Array.all_toList]; exact h1) dO hY (by
   calc j * gf<=1099511627776 * 128:=Nat.mul_le_mul ag kT
    _=140737488355328:=by decide) (by omega) hZ V4
  have bP:(List.replicate j (en.cells z0)).flatten=bu en (List.replicate j z0):=by simp [bu,List.flatMap_def]
  unfold ar;rw [Int.toNat_natCast,List.length_replicate,<- bP];exact .qQ this
 ·cases h
theorem mk {en:bK α}{z0:α}{r:List α}{e gf:Nat}{dj:Value}(au:fh P t e en.z=true) (J:Rd g a (.lit (.int k m))) (ai:Rd g b (.lit (.int .i64 m))) (hzero:(P.info? e).bind (·.zero)=some dj) (h1:dj.cells.toList.all Value.oneCell'=true) (aa:dj.cells.toList.map jZ=en.cells z0) (h:nQ m z0=some r) (hY:(P.info? e).map (·.bytes)=some gf) (ao:Nat.ble gf 128=true) :
  ch P g (.makeSlice t a b) ty (ar en r):=by
 grind [Pb]
theorem Yk {e:bK β}{r:List (List β)}{m:Int}{k:IntKind}{a b:Operand}{t ty:TypeId}{A5 gf:Nat}{dj:Value}(au:fh P t A5 (b4 e).z=true) (J:Rd g a (.lit (.int k m))) (ai:Rd g b (.lit (.int .i64 m))) (hzero:(P.info? A5).bind (·.zero)=some dj) (h1:dj.cells.toList.all Value.oneCell'=true) (aa:dj.cells.toList.map jZ=[.bb]) (h:nQ m ([]:List β)=some r) (hY:(P.info? A5).map (·.bytes)=some gf) (ao:Nat.ble gf 128=true) :
  ch P g (.makeSlice t a b) ty (ar (b4 e) r):=by
 refine Pb au J ai hzero h1 ?_ (λk u x hu J=>.inr ?_) h hY ao
 ·grind [List.length_map,b4]
 ·have ah:=congrArg List.length aa;rw [List.length_map] at ah;have hk:k=0:=by
   grind
  subst hk;have ht:dj.cells.toList[0]?=some u:=by simpa using hu
  have af:=congrArg (λl=>l[0]?) aa;simp only [List.getElem?_map,ht,Option.map_some] at af;have af:=Option.some.inj af;refine ⟨af,e.z,?_⟩;have J:([ay e []]:List ab)[0]?=some x:=J;have:x=ay e []:=(Option.some.inj J).symm;rw [this];rfl
theorem Yi (J:Rd g a (ae m)) (ai:Rd g b (ae n)):ch P g (.call { callee:=.builtin .min,args:=#[a,b],argTypes:=#[t,t2] }) ty (ae (min m n)):=.eG (.lits (vs:=[.int .i64 m,.int .i64 n]) (by simp [J.bp,ai.bp]) rfl λw cs=>by
 have:(if n<m then n else m)=min m n:=by omega
 simp [builtin,Builtin.min_,Builtin.min2,this])
end O
theorem KK (en:bK α) {L:List α}{y y2:α}{o:Nat}{cs':List ab}(h:idx L m=some y) (he:ew (en.cells y) o cs'=en.cells y2) (hlen:o+cs'.length<=en.z):ew (bu en L) (m.toNat * en.z+o) cs'=bu en (L.set m.toNat y2):=by
 obtain ⟨aI,h1,af⟩:=qO h;have aK:m.toNat<L.length:=(List.getElem?_eq_some_iff.1 af).1;have ai:L[m.toNat]=y:=(List.getElem?_eq_some_iff.1 af).2;have bP:bu en L=bu en (L.take m.toNat)++(en.cells y++bu en (L.drop (m.toNat+1))):=by
  grind [bu,List.take_append_drop,List.drop_eq_getElem_cons]
 have cu:bu en (L.set m.toNat y2)=bu en (L.take m.toNat)++(en.cells y2++bu en (L.drop (m.toNat+1))):=by
  grind [List.set_eq_take_append_cons_drop,bu]
 have ah:(bu en (L.take m.toNat)).length=m.toNat * en.z:=by rw [np,List.length_take]; congr 1; omega
 rw [bP,cu,<- he];unfold ew;generalize bu en (L.take m.toNat)=A at *;generalize bu en (L.drop (m.toNat+1))=B at *;rw [<- ah];have OC:=en.len y;rw [List.take_append,List.take_of_length_le (by omega),show A.length+o - A.length=o by omega,List.take_append_of_le_length (by omega)];rw [List.drop_append,List.drop_eq_nil_of_le (by omega),show A.length+o+cs'.length - A.length=o+cs'.length by omega,List.drop_append_of_le_length (by omega)];simp
theorem HE {en:bK α}{L:List α}{i:Int}{off:Nat}{y:α}(h:idx L i=some y) (aM:Nat.blt off en.z=true):i.toNat * en.z+off<(bu en L).length:=by
 obtain ⟨jE,gO,_⟩:=qO h;have mu:off<en.z:=by simpa using aM
 rw [np];have af:i.toNat+1<=L.length:=by omega
 calc i.toNat * en.z+off<i.toNat * en.z+en.z:=by omega
  _=(i.toNat+1) * en.z:=by rw [Nat.add_mul]; omega
  _<=L.length * en.z:=Nat.mul_le_mul_right _ af
theorem nO {L:List α}{i:Int}{y y2:α}(h:idx L i=some y):idx (L.set i.toNat y2) i=some y2:=by
 grind [idx]
inductive oC (g g2:aH):ab->Prop
 | mk {α:Type}{en:bK α}{L LF:List α}{r j off:Nat}{i:Int}{y y2:α}(h1:bB g ⟨r,[j]⟩=some (ar en L)) (hi:idx L i=some y) (af:bB g2 ⟨r,[j]⟩=some (ar en LF)) (BD:idx LF i=some y2) (aM:Nat.blt off en.z=true):oC g g2 (.ptr ⟨r,[j]⟩ (i.toNat * en.z+off))
theorem oC.Px {x:ab}(h:oC g g2 x):gF g x:=by
 cases h with
 | mk h1 hi af BD aM=>exact ⟨_,h1,_,_,_,.inl rfl,HE hi aM⟩
theorem oC.Kr {x:ab}(h:oC g g2 x):gF g2 x:=by
 cases h with
 | mk h1 hi af BD aM=>exact ⟨_,af,_,_,_,.inl rfl,HE BD aM⟩
theorem oC.bR {x:ab}(h:oC g g2 x):eo g2 x:=by
 have:=h.Kr;cases h with
 | mk=>exact .ref rfl this
theorem oC.e8 {x:ab}(h:oC g g2 x):∀ z p n m new,x≠.bD z p n m new:=by
 cases h with
 | mk=>simp
theorem oC.clear {x:ab}{k0 m0:Nat}(h:oC g g2 x) (aw:p.path≠[]):Clear p k0 m0 x:=by
 cases h with
 | mk =>
  intro q ba _ j dr e;simp only [z8,Option.some.injEq] at ba;subst ba;cases ET:p.path with
  | nil=>exact absurd ET aw
  | cons a b=>rw [ET] at e; simp at e
inductive kN (g g2:aH) (r:Nat) (x2:ab):List (Nat × ab)->Prop
 | nil:kN g g2 r x2 []
 | n {s:Nat}{x:ab}{l:List (Nat × ab)}(cN:Nat.beq s r=false) (h:g s=some x) [aA:b6 x] (t:kN g g2 r x2 l):kN g g2 r x2 ((s,x)::l)
 | p {s q k:Nat}{l:List (Nat × ab)}{cs j9:List ab}(cN:Nat.beq s r=false) (h:g s=some (.ptr ⟨q,[]⟩ k)) (h1:g q=some (.obj cs)) (hk:Nat.blt k cs.length=true) (af:g2 q=some (.obj j9)) (fK:Nat.blt k j9.length=true) (t:kN g g2 r x2 l):kN g g2 r x2 ((s,.ptr ⟨q,[]⟩ k)::l)
 | e {s:Nat}{x:ab}{c2:List ab}{l:List (Nat × ab)}(cN:Nat.beq s r=false) (h:g s=some x) (he:oC g g2 x) (gC:x2=.obj c2) (t:kN g g2 r x2 l):kN g g2 r x2 ((s,x)::l)
 | w {α:Type}{s q:Nat}{en:bK α}{L:List α}{l:List (Nat × ab)}(cN:Nat.beq s r=false) (h:g s=some (.bo en.z ⟨q,[]⟩ L.length)) (h1:g q=some (ar en L)) (af:g2 q=some (ar en L)) (t:kN g g2 r x2 l):kN g g2 r x2 ((s,.bo en.z ⟨q,[]⟩ L.length)::l)
 | b {l:List (Nat × ab)}{x:ab}(e:x=x2) [aA:b6 x2] (t:kN g g2 r x2 l):kN g g2 r x2 ((r,x)::l)
theorem kN.spec {x2:ab}{l:List (Nat × ab)}(h:kN g g2 r x2 l):∀ t x,get l t=some x->(t≠r/\g t=some x/\(pn g g2 x\/oC g g2 x/\∃ c2,x2=.obj c2))\/(t=r/\x=x2/\cK x):=by
 induction h with
 | nil=>intro t x J; cases J
 | @n s x l cN h aA _ aJ =>
  intro t y ai;simp only [get] at ai
  split at ai
  ·rename_i e;subst e;cases ai;exact .inl ⟨Nat.ne_of_beq_eq_false cN,h,.inl (.n aA.bh)⟩
  grind
 | @p s q k l cs j9 cN h h1 hk af fK _ aJ =>
  intro t y ai;simp only [get] at ai
  split at ai
  ·rename_i e;subst e;cases ai;exact .inl ⟨Nat.ne_of_beq_eq_false cN,h,.inl (.p h1 (by simpa using hk) af (by simpa using fK))⟩
  grind
 | @e s x c2 l cN h he gC _ aJ =>
  grind [get,Nat.ne_of_beq_eq_false]
 | @w α s q en L l cN h h1 af _ aJ =>
  intro t y ai;simp only [get] at ai
  split at ai
  ·rename_i e;subst e;cases ai;exact .inl ⟨Nat.ne_of_beq_eq_false cN,h,.inl (.r h1 (Nat.le_refl _) af (Nat.le_refl _))⟩
  grind
 | @b l x e aA _ aJ =>
  intro t y ai;simp only [get] at ai
  split at ai
  ·rename_i b0;subst b0;cases ai;subst e;exact .inr ⟨rfl,rfl,aA.bh⟩
  grind
theorem pn.KI {x:ab}{k0 m0:Nat}(h:pn g g2 x):j7 (λr=>gF g r/\Clear p k0 m0 r/\gF g2 r) x:=by
 cases h with
 | n h=>exact .bh h
 | p h hk af fK =>
  refine .ref rfl ⟨vH h hk,?_,vH af fK⟩;intro q ba _ j dr e;simp only [z8,Option.some.injEq] at ba;subst ba;simp at e
 | r h hk af fK =>
  refine .ref rfl ⟨C3 h hk,?_,C3 af fK⟩;intro q ba _ j dr e;simp only [z8,Option.some.injEq] at ba;subst ba;simp at e
theorem bx.x5 {hy:Oper}{en:bK α}{L:List α}{hL y2:α}{o:Nat}{cs':List ab}{x2:ab}{G2:List (Nat × ab)}(aM:hy.op=.store t a b) (aP:hy.dst=none) (aQ:Rd g a (.ptr p (m.toNat * en.z+o))) (ao:Rd g b y) (aw:bB g p=some (ar en L)) (h:idx L m=some hL) (aT:hB P t cs'.length=true)
  (aa:n3 y=some cs') (he:ew (en.cells hL) o cs'=en.cells y2) (hlen:Nat.ble (o+cs'.length) en.z=true) (aI:Nat.blt 0 cs'.length=true) (gC:cp g p (ar en (L.set m.toNat y2)) p.root=some x2) (ak:(get G2 p.root).isSome=true) [aA:b6 y] {y0:ab}(qN:g p.root=some y0) [eR:b6 y0] (c':kN g (get G2) p.root x2 G2):bx P N g hy (get G2):=by
 have BF:=Nat.le_of_ble_eq_true hlen;have kb:=KK en h he BF;have pO:(L.set m.toNat y2).length=L.length:=List.length_set;refine .store aM aP aQ.bp ao.bp (.bh (by simpa using aA.bh)) .refl aa aT (p:=p) (nd:=ar en L) (z:=en.z) (n:=L.length) (cs:=bu en L) aw (.inl rfl) ?_ (by simpa using aI) (λt x J=>?_) (λt x J y ai=>?_) (λt z q n m new J=>?_) (by intro e; rw [e] at ak; cases ak)
 ·obtain ⟨jE,gO,_⟩:=qO h;rw [np];have af:m.toNat+1<=L.length:=by omega
  calc m.toNat * en.z+o+cs'.length<=m.toNat * en.z+en.z:=by omega
   _=(m.toNat+1) * en.z:=by rw [Nat.add_mul]; omega
   _<=L.length * en.z:=Nat.mul_le_mul_right _ af
 ·have e7:(ar en L).ew (m.toNat * en.z+o) cs'=ar en (L.set m.toNat y2):=by
   show ab.own en.z L.length (ew (bu en L) (m.toNat * en.z+o) cs')=_
   grind
  rw [e7];rcases c'.spec t x J with ⟨h1,af,_⟩ | ⟨h1,af,_⟩
  ·grind [x0]
  grind
 ·rcases c'.spec t x J with ⟨h1,af,aF⟩ | ⟨h1,af,aF⟩
  ·rw [af] at ai;cases ai;rcases aF with aF | ⟨aF,c2,rfl⟩
   ·exact aF.KI
   ·refine j7.ref (by cases aF; rfl) ⟨aF.Px,aF.clear ?_,aF.Kr⟩
    grind [cp,ab.setAt]
  ·subst h1;rw [qN] at ai;cases ai;exact .bh eR.bh
 ·rcases c'.spec t _ J with ⟨_,_,aF | ⟨aF,_⟩⟩ | ⟨_,_,aF⟩
  ·exact aF.e8 _ _ _ _ _ rfl
  ·exact aF.e8 _ _ _ _ _ rfl
  ·cases aF
end
end Go.Own
namespace Go.Own
open Go
set_option linter.unusedSectionVars false
variable [cw]
theorem Sq (a b:ByteArray):(a == b)=decide (a=b):=by
 obtain ⟨a⟩:=a;obtain ⟨b⟩:=b;have:(({ data:=a }:ByteArray) == { data:=b })=(a == b):=rfl;rw [this,Bool.eq_iff_iff];simp
inductive lW where
 | b | s | i (k:IntKind)
 deriving DecidableEq
def ki:Value->Option lW
 | .bool _=>some .b
 | .string _=>some .s
 | .int k _=>some (.i k)
 | _=>none
def A4 (P:Program) (rc:TypeId->List lW->Bool):List Field->Nat->List lW->Bool
 | [],_,sh=>sh.isEmpty
 | f :: fs, o, sh => f.name != "_" && f.offset == o && (match P.info? f.type with
   | some i=>i.size<=sh.length&&rc f.type (sh.take i.size)&&A4 P rc fs (o+i.size) (sh.drop i.size)
   | none=>false)
def tj (P:Program):Nat->TypeId->List lW->Bool
 | 0,_,_=>false
 | d+1,t,sh=>match P.underlying t with
  | some .bool=>sh == [.b]&&jQ P t
  | some (.int k)=>sh == [.i k]&&jQ P t
  | some .string=>sh == [.s]&&jQ P t
  | some (.struct fs)=>hX P t sh.length&&!P.stoodInHeld t&&A4 P (tj P d) fs.toList 0 sh
  | _=>false
def HF:Value->Value->Bool
 | .bool a,.bool b=>a == b
 | .int _ a,.int _ b=>decide (a=b)
 | .string a,.string b=>decide (a=b)
 | _,_=>false
def jS:List Value->List Value->Bool
 | a::dA,b::bs=>HF a b&&jS dA bs
 | _,_=>true
theorem MZ:∀ (dA bs cs jg:List Value),dA.length=bs.length->jS (dA++cs) (bs++jg)=(jS dA bs&&jS cs jg)
 | [],[],cs,jg,_=>by simp [jS]
 | [],_::_,_,_,h=>by simp at h
 | _::_,[],_,_,h=>by simp at h
 | a::dA,b::bs,cs,jg,h=>by
  simp only [List.cons_append,jS,MZ dA bs cs jg (by simpa using h),Bool.and_assoc]
def pack (P:Program) (t:TypeId) (vs:List Value):Value :=
 match P.underlying t,vs with
 | some (.struct _),_=>.agg vs.toArray
 | _,v::_=>v
 | _,[]=>.agg #[]
theorem P6 {P:Program}{w:World}{t:TypeId}{d:Nat}{sh:List lW}(h:tj P (d+1) t sh=true) {cs:List Value}{o:Nat}{vs:List Value}(hv:(cs.drop o).take sh.length=vs) (ah:vs.length=sh.length) :
  (part t cs.toArray o).run P w=.ok (pack P t vs) w:=by
 unfold tj at h
 split at h
 case h_4 fs hu =>
  simp only [Bool.and_eq_true] at h;obtain ⟨h1,af⟩:=DU (w:=w) h.1.1;simp [part,h1,af,pack,hu,<- hv,List.take_drop]
 case h_5=>cases h
 all_goals
  rename_i hu;simp only [Bool.and_eq_true,beq_iff_eq] at h;obtain ⟨rfl,aa⟩:=h;obtain ⟨h1,af⟩:=Hq (w:=w) aa;obtain ⟨v,rfl⟩:∃ v,vs=[v]:=by
   rcases vs with _ | ⟨v,_ | _⟩ <;> simp at ah;exact ⟨v,rfl⟩
  have:cs[o]?=some v:=by
   have:=congrArg List.head? hv;simpa [List.head?_take] using this
  simp [part,h1,pack,hu,this]
theorem C8 {P:Program}(w:World):∀ (d:Nat) (t:TypeId) (sh:List lW),tj P d t sh=true->∀ (D:Nat),d<=D->∀ (dA bs:List Value),dA.map ki=sh.map some->bs.map ki=sh.map some ->
  (Op.equalIn D t (pack P t dA) (pack P t bs)).run P w=.ok (jS dA bs) w
 | 0,_,_,h,_,_,_,_,_,_=>by simp [tj] at h
 | d+1,t,sh,h,D,si,dA,bs,aQ,ao=>by
  obtain ⟨D,rfl⟩:∃ E,D=E+1:=⟨D - 1,by omega⟩;have aI:=h;unfold tj at h
  split at h
  case h_5=>cases h
  case h_4 fs hu =>
   simp only [Bool.and_eq_true,Bool.not_eq_true'] at h;obtain ⟨⟨h1,af⟩,aF⟩:=h;have key:∀ (fs:List Field) (o:Nat) (sh:List lW) (mQ mR:List Value),A4 P (tj P d) fs o sh=true->dA.drop o=mQ->bs.drop o=mR->mQ.map ki=sh.map some->mR.map ki=sh.map some ->
     (forIn (m:=Sem) (β:=Option Bool × Unit) fs (none,()) λf _ =>
      if f.name = "_" then pure (.yield (none, ()))
      else do
       let x <- part f.type dA.toArray f.offset
       let y <- part f.type bs.toArray f.offset
       let c <- Op.equalIn D f.type x y
       if c=false then pure (.done (some false,())) else pure (.yield (none,()))).run P w=.ok (if jS mQ mR then (none,()) else (some false,())) w:=by
    intro fs
    induction fs with
    | nil =>
     intro o sh mQ mR aL _ _ aQ ao;have av:sh=[]:=by simpa [A4] using aL
     subst av;have h1:mQ=[]:=by simpa using aQ
     have af:mR=[]:=by simpa using ao
     subst h1 af;simp [jS]
    | cons f fs aJ =>
     intro o sh mQ mR aL EF NR aQ ao;unfold A4 at aL;cases hi:P.info? f.type with
     | none=>simp [hi] at aL
     | some i =>
      simp only [hi,Bool.and_eq_true,bne_iff_ne,beq_iff_eq,decide_eq_true_eq] at aL;obtain ⟨⟨aA,rfl⟩,⟨hle,he⟩,BC⟩:=aL;obtain ⟨e,rfl⟩:∃ e,d=e+1:=by
       cases d with
       | zero=>simp [tj] at he
       | succ e=>exact ⟨e,rfl⟩
      have xu:mQ.length=sh.length:=by simpa using congrArg List.length aQ
      have aeh:mR.length=sh.length:=by simpa using congrArg List.length ao
      have aai:(mQ.take i.size).map ki=(sh.take i.size).map some:=by rw [List.map_take,List.map_take,aQ]
      have g_:(mR.take i.size).map ki=(sh.take i.size).map some:=by rw [List.map_take,List.map_take,ao]
      have TC:(mQ.drop i.size).map ki=(sh.drop i.size).map some:=by rw [List.map_drop,List.map_drop,aQ]
      have TD:(mR.drop i.size).map ki=(sh.drop i.size).map some:=by rw [List.map_drop,List.map_drop,ao]
      have lt:(sh.take i.size).length=i.size:=by simp; omega
      have lM:=P6 (w:=w) he (cs:=dA) (o:=f.offset) (vs:=mQ.take i.size) (by rw [EF,lt]) (by simp; omega);have PK:=P6 (w:=w) he (cs:=bs) (o:=f.offset) (vs:=mR.take i.size) (by rw [NR,lt]) (by simp; omega);have HD:=C8 w (e+1) f.type _ he D (by omega) _ _ aai g_;have aJ:=aJ (f.offset+i.size) (sh.drop i.size) (mQ.drop i.size) (mR.drop i.size) BC (by rw [<- EF,List.drop_drop]) (by rw [<- NR,List.drop_drop]) TC TD;have sp:jS mQ mR=(jS (mQ.take i.size) (mR.take i.size)&&jS (mQ.drop i.size) (mR.drop i.size)):=by
       have:=MZ (mQ.take i.size) (mR.take i.size) (mQ.drop i.size) (mR.drop i.size) (by simp; omega)
       rwa [List.take_append_drop,List.take_append_drop] at this
      rw [List.forIn_cons];cases aa:jS (mQ.take i.size) (mR.take i.size) with
      | false=>simp [aA,lM,PK,HD,aa,sp]
      | true =>
       simp only [aa] at HD;simp [aA,lM,PK,HD,aa,sp];simpa using aJ
   have hk:=key fs.toList 0 sh dA bs aF rfl rfl aQ ao;unfold Op.equalIn;simp [pack,hu,run_underlying hu,af];rw [<- Array.forIn_toList,hk];cases jS dA bs <;> simp
  all_goals
   rename_i hu;simp only [Bool.and_eq_true,beq_iff_eq] at h;obtain ⟨rfl,aa⟩:=h;obtain ⟨a,rfl⟩:∃ v,dA=[v]:=by
    rcases dA with _ | ⟨v,_ | _⟩ <;> simp at aQ;exact ⟨v,rfl⟩
   obtain ⟨b,rfl⟩:∃ v,bs=[v]:=by
    rcases bs with _ | ⟨v,_ | _⟩ <;> simp at ao;exact ⟨v,rfl⟩
   cases a <;> simp [ki] at aQ <;> cases b <;> simp [ki] at ao;simp [Op.equalIn,pack,hu,run_underlying hu,jS,HF,aQ,ao,Sq] <;> rfl
end Go.Own
namespace Go.Own
open Go
set_option linter.unusedSectionVars false
variable [cw]
def n4 (P:Program) (t:TypeId) (sh:List lW):Bool :=
 tj P 100 t sh&&(match P.underlying t with | some (.struct _)=>true | _=>false)&&!P.eqGuardType P.depth t
section
variable {P:Program}{g:aH}{t t2:TypeId}{ty:TypeId}{a b:Operand}
theorem Zy {dA bs:List Value}{sh:List lW}(aQ:dA.map ki=sh.map some) (ao:bs.map ki=sh.map some) (au:n4 P t sh=true) (w:World) :
  (do eqGuard .eql t a b (.agg dA.toArray) (.agg bs.toArray); binOp .eql t (.agg dA.toArray) (.agg bs.toArray):Sem Value).run P w=.ok (.bool (jS dA bs)) w:=by
 simp only [n4,Bool.and_eq_true,Bool.not_eq_true'] at au;obtain ⟨⟨h1,af⟩,aF⟩:=au;have h:=C8 w 100 t sh h1 Op.maxDepth (by decide) dA bs aQ ao
 split at af
 ·rename_i fs hu;simp only [pack,hu] at h;simp [eqGuard,binOp,aF,Op.equal,h]
 ·cases af
theorem ZA {dA bs:List Value}{sh:List lW}(aQ:dA.map ki=sh.map some) (ao:bs.map ki=sh.map some) (au:n4 P t sh=true) (w:World) :
  (do eqGuard .neq t a b (.agg dA.toArray) (.agg bs.toArray); binOp .neq t (.agg dA.toArray) (.agg bs.toArray):Sem Value).run P w=.ok (.bool (!jS dA bs)) w:=by
 simp only [n4,Bool.and_eq_true,Bool.not_eq_true'] at au;obtain ⟨⟨h1,af⟩,aF⟩:=au;have h:=C8 w 100 t sh h1 Op.maxDepth (by decide) dA bs aQ ao
 split at af
 ·rename_i fs hu;simp only [pack,hu] at h;simp [eqGuard,binOp,aF,Op.equal,h]
 ·cases af
namespace O
theorem T0 {nV oA:List Value}{sh:List lW}(J:Rd g a (.agg (nV.map .lit))) (ai:Rd g b (.agg (oA.map .lit))) (aQ:nV.map ki=sh.map some) (ao:oA.map ki=sh.map some) (au:n4 P t sh=true) :
  ch P g (.binOp .eql t a b t2) ty (bd (jS nV oA)):=.eG (.AO J.bp ai.bp rfl λw=>Zy aQ ao au w)
theorem Yu {nV oA:List Value}{sh:List lW}(J:Rd g a (.agg (nV.map .lit))) (ai:Rd g b (.agg (oA.map .lit))) (aQ:nV.map ki=sh.map some) (ao:oA.map ki=sh.map some) (au:n4 P t sh=true) :
  ch P g (.binOp .neq t a b t2) ty (bd (!jS nV oA)):=.eG (.AO J.bp ai.bp rfl λw=>ZA aQ ao au w)
end O
end
end Go.Own
namespace Go.Own
open Go
set_option linter.unusedSectionVars false
variable [cw]
section
variable {P:Program}{N:cQ}{g g2:aH}{d r k0:Nat}{α:Type}
theorem View.nR {p:Place}{cs cs':List ab}(aw:bB g p=some (.obj cs)) (hk:Nat.blt 0 cs.length=true) [h:ds cs cs']:View g (.ptr p 0) (.cL cs') :=
 .ptr aw (z:=0) (n:=0) (.inr rfl) (by simpa using hk) (by simpa using h.l) λk x y J ai=>h.v g k x y (by simpa using J) ai
theorem eo.el {en:bK α}{L:List α}{j off:Nat}{i:Int}{y:α}(af:bB g2 ⟨r,[j]⟩=some (ar en L)) (hi:idx L i=some y) (aM:Nat.blt off en.z=true):eo g2 (.ptr ⟨r,[j]⟩ (i.toNat * en.z+off)) :=
 (oC.mk (g:=g2) af hi af hi aM).bR
theorem jD {p:Place}{k:Nat}:∀ z q n m new,ab.ptr p k≠.bD z q n m new:=by simp
inductive yi (g:aH) (d r k0:Nat) (G4:List (Nat × ab)):List (Nat × ab)->Prop
 | nil:yi g d r k0 G4 []
 | c {α:Type}{en:bK α}{L:List α}{s off:Nat}{i:Int}{y:α}{l:List (Nat × ab)}(h:g s=some (.ptr ⟨r,[k0]⟩ (i.toNat * en.z+off))) (aw:bB (get G4) ⟨r,[k0]⟩=some (ar en L)) (hi:idx L i=some y) (aM:Nat.blt off en.z=true) (aP:Nat.beq s d=false) (bk:get G4 s=none) (t:yi g d r k0 G4 l):yi g d r k0 G4 ((s,.ptr ⟨r,[k0]⟩ (i.toNat * en.z+off))::l)
theorem yi.spec {G4 l:List (Nat × ab)}(h:yi g d r k0 G4 l):∀ t x,get l t=some x->get G4 t=none/\t≠d/\g t=some x/\∃ m z n cs,x=.ptr ⟨r,[k0]⟩ m/\bB (get G4) ⟨r,[k0]⟩=some (.own z n cs)/\m<cs.length:=by
 induction h with
 | nil=>intro t x J; cases J
 | @c α en L s off i y l h aw hi aM aP bk _ aJ =>
  intro t x J; simp only [get] at J
  split at J
  ·rename_i e; subst e; cases J; exact ⟨bk,Nat.ne_of_beq_eq_false aP,h,_,_,_,_,rfl,aw,HE hi aM⟩
  ·exact aJ t x J
theorem kN.keep {g':aH}{x2:ab}{G2:List (Nat × ab)}(c':kN g (get G2) r x2 G2) (h1:∀ t,t≠r->g' t=g t) (af:g' r=some x2):hn g' (get G2):=by
 refine ⟨λt x J=>?_,λt x J=>?_,λt z q n m new J=>?_⟩
 ·rcases c'.spec t x J with ⟨a,b,_⟩ | ⟨rfl,rfl,_⟩
  ·grind
  grind
 ·rcases c'.spec t x J with ⟨_,_,aF | ⟨aF,_⟩⟩ | ⟨_,_,aF⟩
  ·exact aF.bR
  ·exact aF.bR
  ·exact .bh aF
 ·rcases c'.spec t _ J with ⟨_,_,aF | ⟨aF,_⟩⟩ | ⟨_,_,aF⟩
  ·exact aF.e8 _ _ _ _ _ rfl
  ·exact aF.e8 _ _ _ _ _ rfl
  ·cases aF
theorem Qj {cs:List ab}{y x:ab}(h:g r=some (.obj cs)) (hk:cs[k0]?=some x):cp g ⟨r,[k0]⟩ y r=some (.obj (cs.set k0 y)):=by
 grind [cp,ab.setAt,ab.kids,ab.ud]
theorem bx.eh {o:Oper}{y:ab}{cs cs5:List ab}{G1 G4:Value->List (Nat × ab)}{c4:Value->List ab}{G5 A:List (Nat × ab)}(aP:o.dst=some d) (bc:N.ok d=true) (ak:g r=some (.obj cs)) (ai:cs[k0]?=some y) [E3:b6 y]
  (h1:∀ v,kN g (get (G1 v)) r (.obj (cs.set k0 (.lit v))) (G1 v)) (aa:∀ v,fy P N (get (G1 v)) o d (get (G4 v))) (No:∀ v,get (G4 v) r=some (.obj (c4 v))) (Nn:∀ v,(c4 v)[k0]?=some (.lit v)) (Uy:∀ v,(c4 v).set k0 y=cs5)
  (b2:∀ v,kN (get (G4 v)) (get G5) r (.obj cs5) G5) (UD:bB (get G5) ⟨r,[k0]⟩=some y) (dh:yi g d r k0 G5 A) (lH:∀ i,y≠.self i:=by exact λ_ h=>by cases h):bx P N g o (get (A++G5)):=by
 refine .call aP bc (fy.Ui ak ai E3.bh lH λv hv=>⟨get (G1 v),get (G4 v),get G5,?_,aa v,?_,?_,UD,?_⟩)
 ·exact (h1 v).keep (λt au=>x0 au) (Qj ak ai)
 ·have:=No v;simp only [bB,this,ab.at,ab.kids,Nn v]
 ·refine (b2 v).keep (λt au=>x0 au) ?_;rw [Qj (No v) (Nn v),Uy v]
 ·refine ⟨λt x h=>?_,λt x h=>?_⟩
  ·rw [yS];cases mV:get A t with
   | none=>exact h
   | some z =>
    obtain ⟨gO,_⟩:=dh.spec t z mV;rw [gO] at h; cases h
  ·rw [yS] at h;cases mV:get A t with
   | none=>rw [mV] at h; exact .inl h
   | some z =>
    rw [mV] at h;cases h;exact .inr (dh.spec t x mV)
end
end Go.Own
namespace Go.Own
open Go
set_option linter.unusedSectionVars false
variable [cw]
section
variable {P:Program}{N:cQ}{ops:Array Oper}{g g1 mm:aH}{K:aH->Prop}{l:List Oper}{d r:Nat}{t:TypeId}{a b:Operand}{x y:ab}
variable {bl:List (List Nat)}{acc:Acc}{i:Nat}
theorem iV {a b:Nat}(h:Nat.blt a b=true):a<b:=by simpa using h
def Fm:Option Nat->Nat->Bool
 | none,_=>true
 | some a,d=>!Nat.beq a d
theorem Pe {o:Option Nat}{d:Nat}(h:Fm o d=true):o≠some d:=by
 rintro rfl;simp [Fm] at h
inductive yC (P:Program) (N:cQ) (ops:Array Oper) (bl:List (List Nat)) (rs:Place->Prop) (mm g1:aH) (o:Oper) (U:Acc):Acc->Prop
 | nil:yC P N ops bl rs mm g1 o U []
 | c {k d:Nat}{x:ab}{hy:Oper}{V:Acc}(bQ:AJ rs mm g1 o x) (h1:g1 d=none) (cN:Fm o.dst d=true) (aM:ops[k]?=some hy) (ER:hy.dst=some d) (bc:N.ok d=true) (hw:jd (dz g1 (λm=>(bl.getD k []).contains m) U) ops hy true)
   (av:ch P (dz g1 (λm=>(bl.getD k []).contains m) U) hy.op hy.type x) (t:yC P N ops bl rs mm g1 o U V):yC P N ops bl rs mm g1 o U ((k,d,some x)::V)
theorem yC.spec {o:Oper}{U V:Acc}{rs:Place->Prop}(h:yC P N ops bl rs mm g1 o U V):∀ e∈V,(∃ x,e.2.2=some x/\AJ rs mm g1 o x)/\(g1 e.2.1=none/\o.dst≠some e.2.1)/\∃ hy,ops[e.1]?=some hy/\hy.dst=some e.2.1/\N.ok e.2.1=true/\pq P (dz g1 (λm=>(bl.getD e.1 []).contains m) U) ops hy e.2.2:=by
 induction h with
 | nil=>intro e he; cases he
 | c bQ h1 cN aM ER bc hw av _ aJ =>
  intro e he;rcases List.mem_cons.1 he with rfl | he
  ·exact ⟨⟨_,rfl,bQ⟩,⟨h1,Pe cN⟩,_,aM,ER,bc,.inl ⟨hw,.inl av⟩⟩
  ·exact aJ e he
theorem b8.e4 (b7:Nat) {G G2:List (Nat × ab)}{U:Acc}{o:Oper}{rs:List Nat}(he:qm P N (ub rs) (dz (get G) (λm=>(bl.getD b7 []).contains m) acc) o (get G2)) (mw:rs.all (λr=>(get G r).isSome)=true) (aL:o.guard=none) (hq:sL ((acc.filterMap lN).map Place.root)=true) (gJ:o4 G=true) (ag:Nat.beq ops.size (b7+l.length+1)=true)
  (gq:acc.filter (λe=>!(bl.getD b7 []).contains e.1)=U) (sB:yC P N ops bl (ub rs) (dz (get G) (λm=>(bl.getD b7 []).contains m) acc) (get G2) o U U)
  (ao:(List.range ops.size).all (λk=>Nat.ble k b7||(bl.getD k []).contains b7)=true) (hk:b8 P N ops bl (get G2) (b7+1) U l K):b8 P N ops bl (get G) i acc (o::l) K:=by
 intro dI j cX oV oR;have:=HA oR ag;subst this;obtain ⟨h1,af⟩:=drop_cons oR;have pR:∀ e∈U,e∈acc:=λe he=>by rw [<- gq] at he; exact (List.mem_filter.1 he).1
 have H':mM P N ops bl (get G2) (j+1) U:=⟨λe he=>by have:=(oV.le cX).2 e (pR e he); omega,λe he=>(sB.spec e he).2.1.1,by rw [<- gq]; exact (List.filter_sublist.map _).nodup (oV.nodup cX),λe he b0 h0 h=>oV.uniq cX (pR e he) (pR b0 h0) h,λe he=>(sB.spec e he).2.2⟩;obtain ⟨g',ak,dk⟩:=hk U (j+1) H' .nil af;refine ⟨g',.GY oV (Kj hq) (Cs gJ) h1 ?_ he (λr ak e=>by have:=List.all_eq_true.1 mw r.root ak; rw [e] at this; cases this) gq.symm (λe h=>(sB.spec e h).1) (λe h=>(sB.spec e h).2.1) (λe h=>(sB.spec e h).2.2) ?_ ak,dk⟩
 ·unfold jd; rw [aL]
 ·refine List.all_eq_true.2 λk hk=>?_;have:=List.all_eq_true.1 ao k hk;simp only [Bool.or_eq_true,decide_eq_true_eq,Nat.ble_eq] at this ⊢;exact this
theorem qm.box {o:Oper}{r:Nat}{x:ab}{G1 G2:List (Nat × ab)}(he:bx P N (get G1) o (get G2)) (ak:g r=some x) [J:b6 x] (hk:Trim false g (get G1) G1) (aI:get G1 r=none) (h1:get G2 r=none) (aP:Fm o.dst r=true):qm P N (ub [r]) g o (get ((r,x)::G2)):=by
 rw [<- rn];exact he.oL.frame ak J.bh hk.keep aI h1 (Pe aP)
theorem bx.qb {o:Oper}{k0:Nat}{cs cs' cs2:List ab}{G2:List (Nat × ab)}(aM:o.op=.store t a b) (aP:o.dst=none) (av:g r=some (.obj cs)) (aQ:Rd g a (.ptr ⟨r,[]⟩ k0)) (ao:Rd g b y) [aA:b6 y] (aa:n3 y=some cs') (aT:hB P t cs'.length=true)
  (hk:Nat.ble (k0+cs'.length) cs.length=true) (aI:Nat.blt 0 cs'.length=true) (he:ew cs k0 cs'=cs2) [eR:dp cs] (ak:(get G2 r).isSome=true) (c':ly g (get G2) r cs2 G2):bx P N g o (get G2) :=
 .box aM aP av aQ ao aA.bh aa aT (Nat.le_of_ble_eq_true hk) (by simpa using aI) he (by intro e; rw [e] at ak; cases ak) c'
end
end Go.Own
namespace Go.Own
open Go
set_option linter.unusedSectionVars false
variable [cw]
section
variable {α:Type}
theorem ds.app {xs ys xs' Dz:List ab}(h:ds xs ys) (aR:ds xs' Dz):ds (xs++xs') (ys++Dz):=⟨by simp [h.l,aR.l],λg k a b aQ ao=>by
 by_cases hk:k<xs.length
 ·rw [List.getElem?_append_left hk] at aQ;rw [List.getElem?_append_left (by rw [h.l]; exact hk)] at ao;exact h.v g k a b aQ ao
 ·rw [List.getElem?_append_right (by omega)] at aQ;rw [List.getElem?_append_right (by rw [h.l]; omega),h.l] at ao;exact aR.v g _ a b aQ ao⟩
instance {e b0:bK α}{L:List α} [h:gP e b0]:ds (bu e L) (bu b0 L):=⟨(Dw e b0 L).1,(Dw e b0 L).2⟩
theorem iK.KJ {en:bK α}{L:List α}{n:Nat}{cs cs':List ab}(h:bu en L=cs') (ah:L.length=n) [hv:ds cs cs']:iK (.own en.z n cs) (ay en L):=⟨λg=>by
 subst h ah;exact .own hv.l (hv.v g)⟩
theorem iK.k2 {en ti:bK α}{L M:List α}{m:Nat}{new cO:List ab} [h:gP en ti] (aA:bu ti M=cO) (hm:M.length=m) [aR:ds new cO]:iK (.own en.z (L.length+m) (bu en L++new)) (ay ti (L++M)):=⟨λg=>by
 subst aA hm;have hv:=ds.app (inferInstance:ds (bu en L) (bu ti L)) aR;show View g (.own en.z (L.length+M.length) (bu en L++new)) (.bf ti.z (L++M).length (bu ti (L++M)));have e:bu ti (L++M)=bu ti L++bu ti M:=by simp [bu]
 rw [e,List.length_append,<- h.z];exact .own hv.l (hv.v g)⟩
end
end Go.Own
namespace Go.Own
open Go
set_option linter.unusedSectionVars false
variable [cw]
section
variable {α:Type}{g g2:aH}{p q:Place}{P:Program}{a b:Operand}{t:TypeId}{ty:TypeId}
namespace O
theorem RY {en:bK α}{L M r:List α}{e gf m:Nat}{cs:List ab}(av:Rd g a (.bo en.z p L.length)) (aw:bB g p=some (ar en L)) (J:Rd g b (.bo en.z q m)) (ba:bB g q=some (.own en.z m cs)) (ah:cs.length=m * en.z) (aV:cs.all lA=true) (hm:M.length=m) (au:jP P t e en.z gf=true) (ao:Nat.ble gf 128=true) (h:ea L M=some r)
  (eR:∀ t z n m new,g t≠some (.bD z p n m new)):ch P g (.call { callee:=.builtin .append,args:=#[a,b],argTypes:=#[t,t] }) ty (.bD en.z p L.length m cs):=by
 subst hm;obtain ⟨h1,af,_⟩:=AM h ao;exact .lM (.grow av.bp (.inl ⟨_,aw⟩) (λt bM ck bn cO e=>eR _ _ _ _ _ e) J.bp (Qz ba ah aV) au h1 af)
end O
end
end Go.Own
namespace Go.Own
open Go Go.RowKit Go.ChangeShapes Go.WideShapes Go.Deep
set_option linter.unusedSectionVars false
variable [cw]
variable {α β Lt:Type}{P:Program}
abbrev s5 (w:World) (y:ab) (u:Value):Prop:=R w (λb=>b<w.heap.size) (λ_ _=>False) y u (λ_=>False)
def mf (w:World) (ys:List ab) (cs:List Value):Prop :=
 ys.length=cs.length/\∀ (k:Nat) (y:ab) (u:Value),ys[k]?=some y->cs[k]?=some u->u.oneCell'=true/\s5 w y u
theorem mf.nil {w:World}:mf w [] []:=⟨rfl,λ_ _ _ h=>by simp at h⟩
theorem mf.one {w:World}{y:ab}{u:Value}(h1:u.oneCell'=true) (h:s5 w y u):mf w [y] [u] :=
 ⟨rfl,λk y' x7 ai hu=>by
  cases k with
  | zero=>simp at ai hu; subst ai hu; exact ⟨h1,h⟩
  | succ k=>simp at ai⟩
theorem mf.app {w:World}{ys hM:List ab}{cs jg:List Value}(h:mf w ys cs) (af:mf w hM jg):mf w (ys++hM) (cs++jg):=by
 refine ⟨by simp [h.1,af.1],λk y u ai hu=>?_⟩;by_cases hk:k<ys.length
 ·rw [List.getElem?_append_left hk] at ai;rw [List.getElem?_append_left (h.1 ▸ hk)] at hu;exact h.2 k y u ai hu
 ·rw [List.getElem?_append_right (by omega)] at ai;rw [List.getElem?_append_right (by have:=h.1; omega),<- h.1] at hu;exact af.2 _ y u ai hu
structure mI (P:Program) (e:bK α) (t:TypeId) (ok:α->Prop):Prop where
 z:P.cellsOf t=e.z
 go:∀ {H:Type}{enc:TypeId × Value->H}{w:World}{n:Nat}{cs:List Value}{x:DataW H × List MemPlace},
  DataW.trod enc P w 0 (λ_=>true) true n t cs=some x->∃ a,ok a/\mf w (e.cells a) cs
theorem mI.int {e:bK Int}{t:TypeId}{k:IntKind}(au:P.underlying t=some (.int k)) (aT:P.cellsOf t=e.z) (he:∀ n,e.cells n=[.lit (.int k n)]) :
  mI P e t (λn=>(Lit.int k n).wf=true):=by
 refine ⟨aT,λh=>?_⟩;obtain ⟨n,rfl,_,hw⟩:=DataW.trod_int au h;exact ⟨n,hw,he n ▸ mf.one rfl (.lit rfl λ_ h=>h)⟩
theorem mI.bool {e:bK Bool}{t:TypeId}(au:P.underlying t=some .bool) (aT:P.cellsOf t=e.z) (he:∀ n,e.cells n=[.lit (.bool n)]) :
  mI P e t (λ_=>True):=by
 refine ⟨aT,λh=>?_⟩;obtain ⟨n,rfl,_⟩:=DataW.trod_bool au h;exact ⟨n,trivial,he n ▸ mf.one rfl (.lit rfl λ_ h=>h)⟩
theorem P0 (e:bK α) (aT:0<e.z):∀ (l:List α) (k:Nat) (y:ab),(bu e l)[k]?=some y->∃ a,l[k / e.z]?=some a/\(e.cells a)[k % e.z]?=some y
 | [],k,y,h=>by simp [bu] at h
 | a::l,k,y,h=>by
  have he:bu e (a::l)=e.cells a++bu e l:=by simp [bu]
  rw [he] at h;by_cases hk:k<e.z
  ·rw [List.getElem?_append_left (by rw [e.len]; exact hk)] at h;exact ⟨a,by simp [Nat.div_eq_of_lt hk],by rw [Nat.mod_eq_of_lt hk]; exact h⟩
  ·rw [List.getElem?_append_right (by rw [e.len]; omega),e.len] at h;obtain ⟨b,h1,af⟩:=P0 e aT l (k - e.z) y h;have aP:k / e.z=(k - e.z) / e.z+1:=by rw [Nat.div_eq_sub_div aT (by omega)]
   refine ⟨b,by rw [aP]; simpa using h1,?_⟩;rw [Nat.mod_eq_sub_mod (by omega)]; exact af
theorem mI.slice {e:bK α}{t F6:TypeId}{ok:α->Prop}(h:mI P e F6 ok) (au:P.underlying t=some (.slice F6)) (aT:P.cellsOf t=1) (oU:0<e.z) :
  mI P (b4 e) t (λl=>l.length<=maxLen/\∀ x∈l,ok x):=by
 classical
 refine ⟨aT,λ{H enc w n cs x} ak=>?_⟩;rcases open_slice au ak with ⟨rfl,rfl⟩ | ⟨a,len,cap,m,ck,D,pj,rfl,ao,ah,hm,I2,rfl,J⟩
 ·exact ⟨[],⟨by simp,by simp⟩,mf.one rfl (.hd λ_ h=>h)⟩
 ·have WA:m=cap:=by simpa using I2
  subst WA;have hex:∀ i,i<len->∃ q:α × List Value,ok q.1/\mf w (e.cells q.1) q.2/\w.cells? 0 (a.add (i * P.cellsOf F6)) (P.cellsOf F6)=some q.2:=λi hi=>by
   obtain ⟨cs',h1,af⟩:=J i (by omega);obtain ⟨b,kv,hj⟩:=h.go af;exact ⟨(b,cs'),kv,hj,h1⟩
  by_cases aI:len=0
  ·subst aI;exact ⟨[],⟨by simp,by simp⟩,mf.one rfl (.hd λ_ h=>h)⟩
  ·obtain ⟨jE,_⟩:=hex 0 (by omega)
   haveI:Inhabited (α × List Value):=⟨jE⟩
   obtain ⟨f,aV⟩:=choose_lt hex;have hlen:((List.range len).map λi=>(f i).1).length=len:=by simp
   have lE:∀ (i:Nat) (b:α),((List.range len).map λi=>(f i).1)[i]?=some b->i<len/\b=(f i).1:=λi b hi=>by
    have aK:=(List.getElem?_eq_some_iff.1 hi).1;simp at aK;simp [aK] at hi;exact ⟨aK,hi.symm⟩
   have kb:a.spot=none/\a.block<w.heap.size:=by
    obtain ⟨_,_,aF⟩:=aV 0 (by omega);obtain ⟨_,IZ,b2⟩:=World.cells?_some aF;have du:=b2 0 (by rw [h.z]; exact oU);simp only [Nat.zero_mul,Addr.add,if_true] at du;have:0<(f 0).2.length:=by rw [IZ,h.z]; exact oU
    rw [List.getElem?_eq_getElem this] at du;unfold World.cell? at du
    split at du
    ·rename_i br;refine ⟨?_,(Array.getElem?_eq_some_iff.1 br).1⟩;cases av:a.spot with
     | none=>rfl
     | some s=>simp [av] at du
    ·cases du
   have key:∀ (k:Nat) (y:ab),(bu e ((List.range len).map λi=>(f i).1))[k]?=some y->∃ u,w.cell? ⟨a.block,a.off+k,none⟩=some u/\u.oneCell'=true/\s5 w y u:=λk y hk=>by
    obtain ⟨b,kv,hj⟩:=P0 e oU _ k y hk;obtain ⟨hi,rfl⟩:=lE _ _ kv;obtain ⟨_,af,aF⟩:=aV _ hi;obtain ⟨_,IZ,b2⟩:=World.cells?_some aF;have EO:k % e.z<e.z:=Nat.mod_lt _ oU;have du:=b2 (k % e.z) (by rw [h.z]; exact EO);rw [Deep.add_add,h.z] at du;have fK:k / e.z * e.z+k % e.z=k:=by rw [Nat.mul_comm]; exact Nat.div_add_mod k e.z
    rw [fK] at du;have aK:k % e.z<(f (k / e.z)).2.length:=by rw [IZ,h.z]; exact EO
    rw [List.getElem?_eq_getElem aK] at du;have aQ:a.add k=⟨a.block,a.off+k,none⟩:=by
     unfold Addr.add;split
     ·rename_i Us; subst Us; cases a; simp at kb ⊢; exact kb.1
     ·rfl
    rw [aQ] at du;exact ⟨_,du,af.2 _ _ _ hj (List.getElem?_eq_getElem aK)⟩
   refine ⟨(List.range len).map λi=>(f i).1,⟨by rw [hlen]; omega,λy ai=>?_⟩,mf.one rfl ?_⟩
   ·obtain ⟨i,hi,rfl⟩:=List.mem_map.1 ai;exact (aV i (List.mem_range.1 hi)).1
   ·show s5 w (.bf e.z _ _) _;rw [hlen];refine .bf (us:=λk=>(w.cell? ⟨a.block,a.off+k,none⟩).getD .nilFunc) (λ_ h=>h) ah kb.2 kb.1 (by rw [np,hlen]) (λk y hk=>?_) (λk y hk=>?_) (λk y hk=>?_)
    ·obtain ⟨u,h1,af,aF⟩:=key k y hk;simp only [h1,Option.getD_some]; exact af
    ·obtain ⟨u,h1,af,aF⟩:=key k y hk;simp only [h1,Option.getD_some]
    ·obtain ⟨u,h1,af,aF⟩:=key k y hk;simp only [h1,Option.getD_some]; exact aF
def A_ (P:Program):Nat->List Field->List TypeId->Bool
 | _,[],[]=>true
 | off,f::fs,t::jF=>decide (f.type=t)&&decide (f.offset=off)&&A_ P (off+P.cellsOf t) fs jF
 | _,_,_=>false
def Dk (P:Program) (t:TypeId) (jF:List TypeId):Bool :=
 match P.underlying t with
 | some (.struct fs)=>A_ P 0 fs.toList jF&&decide (P.cellsOf t=(jF.map P.cellsOf).sum)
 | _=>false
structure yh (P:Program) (cells:β->List ab) (jF:List TypeId) (ok:β->Prop):Prop where
 go:∀ {H:Type}{enc:TypeId × Value->H}{w:World}{n:Nat}{cs:List Value}{fs:List Field}{off:Nat},A_ P off fs jF=true->cs.length=off+(jF.map P.cellsOf).sum ->
  (∀ (i:Nat) (f:Field),fs[i]?=some f->∃ x,DataW.trod enc P w 0 (λ_=>true) true n f.type ((cs.drop f.offset).take (P.cellsOf f.type))=some x) ->
  ∃ b,ok b/\mf w (cells b) (cs.drop off)
theorem yh.nil:yh P (λ_:Unit=>[]) [] (λ_=>True) :=
 ⟨λ{H enc w n cs fs off} _ ah _=>⟨(),trivial,by rw [List.drop_eq_nil_of_le (by simp at ah; omega)]; exact mf.nil⟩⟩
theorem yh.cons {e:bK α}{t:TypeId}{jF:List TypeId}{ok:α->Prop}{cells:β->List ab}{Pz:β->Prop}(h:mI P e t ok) (ah:yh P cells jF Pz) :
  yh P (λp:α × β=>e.cells p.1++cells p.2) (t::jF) (λp=>ok p.1/\Pz p.2):=by
 refine ⟨λ{H enc w n cs fs off} fB hlen ak=>?_⟩;cases fs with
 | nil=>simp [A_] at fB
 | cons f fs =>
  simp only [A_,Bool.and_eq_true,decide_eq_true_eq] at fB;obtain ⟨⟨rfl,rfl⟩,fB⟩:=fB;obtain ⟨x,J⟩:=ak 0 f rfl;obtain ⟨a,aQ,aU⟩:=h.go J;obtain ⟨b,ao,sj⟩:=ah.go (off:=f.offset+P.cellsOf f.type) (cs:=cs) fB (by rw [hlen]; simp [Nat.add_assoc]) (λi fI qF=>ak (i+1) fI (by simpa using qF));refine ⟨(a,b),⟨aQ,ao⟩,?_⟩;have:cs.drop f.offset=(cs.drop f.offset).take (P.cellsOf f.type)++cs.drop (f.offset+P.cellsOf f.type):=by
   rw [<- List.drop_drop]; exact (List.take_append_drop _ _).symm
  rw [this];exact aU.app sj
theorem mI.struct {e:bK Lt}{t:TypeId}{jF:List TypeId}{cells:β->List ab}{ok:β->Prop}(h:yh P cells jF ok) (mk:β->Lt) (un:Lt->β) (Ol:∀ b,un (mk b)=b) (aa:∀ b,e.cells (mk b)=cells b) (au:Dk P t jF=true) (aT:P.cellsOf t=e.z) :
  mI P e t (λs=>ok (un s)):=by
 refine ⟨aT,λ{H enc w n cs x} ak=>?_⟩;unfold Dk at au
 split at au
 ·rename_i fs hu;simp only [Bool.and_eq_true,decide_eq_true_eq] at au;obtain ⟨xs,ck,rfl,rfl,ah,XI,J⟩:=DataW.trod_struct hu ak;obtain ⟨b,ao,aU⟩:=h.go (w:=w) (off:=0) (cs:=cs) (fs:=fs.toList) (n:=ck) (enc:=enc) au.1 (by rw [ah,au.2]; simp) (λi f aV=>by
   have qF:fs[i]?=some f:=by simpa using aV
   have hi:i<xs.length:=by rw [XI]; exact (Array.getElem?_eq_some_iff.1 qF).1
   exact ⟨xs[i],by rw [J i f qF,List.getElem?_eq_getElem hi]⟩)
  exact ⟨mk b,by rw [Ol]; exact ao,by rw [aa]; simpa using aU⟩
 ·cases au
inductive Gz (w:World):ab->Value->Prop
 | mk {y:ab}{v:Value}(h:s5 w y v):Gz w y v
theorem mI.YL {e:bK α}{t:TypeId}{ok:α->Prop}{jF:List TypeId}(h:mI P e t ok) (fB:Dk P t jF=true) {H:Type}{enc:TypeId × Value->H}{w:World}{v:Value}{d:DataW H}{p:List MemPlace}{base:Nat}(hv:Value.okWide P w .any base t v)
  (au:DataW.Trod enc P w 0 (λ_=>true) true t v d p):∃ a,ok a/\Gz w (.agg (e.cells a)) v:=by
 have hu:∃ fs,P.underlying t=some (.struct fs):=by
  unfold Dk at fB
  split at fB
  ·exact ⟨_,by assumption⟩
  ·cases fB
 obtain ⟨fs,hu⟩:=hu;obtain ⟨cs,rfl,gB⟩:=okWide_struct hu hv;obtain ⟨n,aA⟩:=au;obtain ⟨a,aQ,aU⟩:=h.go aA;refine ⟨a,aQ,.mk ?_⟩;have h_:mf w (e.cells a) cs.toList:=aU;refine .agg (Fs:=λ_ _=>False) (by simpa using h_.1) (λk u hu=>?_) (λk x u J hu=>(h_.2 k x u J (by simpa using hu)).2) (λ_ _ _ _ _ h=>h.elim) (λc=>⟨λh=>h.elim,λ⟨_,_,h⟩=>h⟩);have hk:k<(e.cells a).length:=by rw [h_.1]; simpa using (Array.getElem?_eq_some_iff.1 hu).1
 exact (h_.2 k _ u (List.getElem?_eq_getElem hk) (by simpa using hu)).1
inductive ur (w:World):List ab->List Value->Prop
 | nil:ur w [] []
 | cons {y:ab}{v:Value}{ys:List ab}{vs:List Value}(h:Gz w y v) (av:ur w ys vs):ur w (y::ys) (v::vs)
theorem ur.get {w:World}{ys:List ab}{vs:List Value}(h:ur w ys vs):ys.length=vs.length/\∀ (k:Nat) (y:ab),ys[k]?=some y->∃ v,vs[k]?=some v/\s5 w y v:=by
 induction h with
 | nil=>exact ⟨rfl,λk y h=>by simp at h⟩
 | cons h _ aJ =>
  refine ⟨by simp [aJ.1],λk y ai=>?_⟩;cases k with
  | zero =>
   simp at ai; subst ai;obtain ⟨h⟩:=h;exact ⟨_,rfl,h⟩
  | succ k=>simpa using aJ.2 k y (by simpa using ai)
theorem ur.Z2 {w:World}{ys:List ab}{vs:List Value}(h:ur w ys vs) (aw:ys.all (λy=>match y with | .bD ..=>false | _=>true)=true) (h':cw.q w λb=>b<w.heap.size) :
  cG w (λb=>b<w.heap.size) vs.toArray (re ys) (λ_=>cd):=by
 refine ⟨λt x J=>?_,λ_ _ _ h=>h,λ_ _ _ h=>h.elim,λ_ _ h=>h.elim,λ_ h=>h,λt t' z p n m new bM ck bn cO h1 _=>?_,h'⟩
 ·obtain ⟨v,hv,aU⟩:=h.get.2 t x J;exact ⟨v,by simpa using hv,.tree (aU.frame (λ_ _=>rfl) (λ_ h=>h) (λ_ _ h=>h.elim) (λ_ _=>rfl))⟩
 ·have:=List.all_eq_true.1 aw _ (List.mem_of_getElem? h1);cases this
structure LD (w w':World):Prop where
 kept:∀ may:MemPlace->Prop,w.keptBut w' may
 fJ:∀ a,a.block<w.heap.size->w'.frozen? a=w.frozen? a
theorem bO.aaN {f:FuncId}{ys:List ab}{vs:List Value}{outs:List (Option ab)}{r:Value}(aa:bO P f ys outs (.lit r)) (w:World) (h:ur w ys vs) (aw:ys.all (λy=>match y with | .bD ..=>false | _=>true)=true) (h':cw.q w λb=>b<w.heap.size) :
  Calls P f vs.toArray w λe w'=>e=.returned r/\LD w w'/\∀ i:Nat,i<w.heap.size->w'.heap[i]?=w.heap[i]?:=by
 have:=aa.2 w _ vs _ h.get.1.symm (h.Z2 aw h');refine this.mono ?_;rintro e w' ⟨v,I',b5,rfl,a_,bQ⟩;obtain ⟨u,hu,aU⟩:=a_.rel outs.length (.lit r) (by simp [h4]);have ah:outs.length=vs.length:=by rw [aa.1]; exact h.get.1
 have w_:u=v:=by
  rw [ah] at hu;simpa using hu.symm
 subst w_;have hv:=(aU.fW (by simp)).gW.1;subst hv;have ao:∀ i:Nat,i<w.heap.size->w'.heap[i]?=w.heap[i]?:=λi hi=>bQ.eh.block i hi λ⟨_,h⟩=>h;have hk:World.keptBut w w' (λ_=>False):=⟨bQ.eh.os,bQ.eh.output,λi hi=>by
  rw [ao i hi];exact (World.keptBut_refl w (λ_=>False)).2.2 i hi⟩
 exact ⟨rfl,⟨λmay=>World.keptBut_mono (λ_ f=>f.elim) hk,λa aQ=>bQ.eh.fJ a aQ λ⟨_,h⟩=>h⟩,ao⟩
theorem QJ {H:Type}{enc:TypeId × Value->H}{w w':World}{base:Nat}{sp:Nat->Bool}{held:Bool}(ao:∀ i:Nat,i<w.heap.size->w'.heap[i]?=w.heap[i]?) :
  ∀ {jF:List TypeId}{vs:List Value}{jg:List (DataW H)}{ps:List MemPlace},DataW.TrodAll enc P w base sp held jF vs jg ps->DataW.TrodAll enc P w' base sp held jF vs jg ps
 | [],[],[],_,h=>h
 | _::_,_::_,_::_,_,⟨p,q,⟨n,aA⟩,af,e⟩=>by
  refine ⟨p,q,⟨n,DataW.trod_carry n _ _ _ aA λx J=>?_⟩,QJ ao af,e⟩;have aK:=DataW.trod_lt n _ _ _ aA x J;cases x with
  | cell b off =>
   show w'.cell? _=w.cell? _;exact World.cell?_of_block (ao b aK)
  | map b=>exact ao b aK
theorem R3 {H:Type}{enc:TypeId × Value->H}{w w':World}(ah:laidOutB P=true) (hm:mapsRowed P=true)
  (aT:((List.range P.types.size).all λt=>match P.underlying t with | some (.slice e)=>decide (0<P.cellsOf e) | _=>true)=true)
  (ao:∀ i:Nat,i<w.heap.size->w'.heap[i]?=w.heap[i]?) {jF:List TypeId}{vs:List Value}{jg:List (DataW H)}{ps:List MemPlace}(au:jF.all (λt=>decide (t<P.types.size))=true)
  (h:DataW.TrodAll enc P w 0 (λ_=>true) true jF vs jg ps) {sp:Nat->Bool}(kb:∀ p∈ps,sp p.block=true):DataW.TrodAll enc P w' 0 sp true jF vs jg ps :=
 (QJ ao h).respare (kids_rows ah hm) (slices_full_of P aT) (λt h=>of_decide_eq_true (List.all_eq_true.1 au t h)) kb
end Go.Own
namespace Go.Own
open Go
set_option linter.unusedSectionVars false
variable [cw]
section
variable {α β:Type}{P:Program}{N:cQ}{g g1:aH}{p:Place}{m:Int}{a b:Operand}{t:TypeId}
theorem ab.Mg:∀ (l:List Nat) {x nd:ab}{k:Nat}{c:ab},x.at l=some nd->nd.kids[k]?=some c->x.at (l++[k])=some c
 | [],x,nd,k,c,h,hk=>by
  simp only [ab.at,Option.some.injEq] at h;subst h;simp [ab.at,hk]
 | j::l,x,nd,k,c,h,hk=>by
  simp only [ab.at] at h;cases ag:x.kids[j]? with
  | none=>rw [ag] at h; cases h
  | some y =>
   rw [ag] at h;simp only [List.cons_append,ab.at,ag];exact ab.Mg l h hk
theorem ab.Qh:∀ (l:List Nat) {x nd:ab}{k:Nat}{c:ab}(y:ab),x.at l=some nd->nd.kids[k]?=some c->x.setAt (l++[k]) y=x.setAt l (nd.ud k y)
 | [],x,nd,k,c,y,h,hk=>by
  simp only [ab.at,Option.some.injEq] at h;subst h;simp [ab.setAt,hk]
 | j::l,x,nd,k,c,y,h,hk=>by
  simp only [ab.at] at h;cases ag:x.kids[j]? with
  | none=>rw [ag] at h; cases h
  | some z =>
   rw [ag] at h;simp only [List.cons_append,ab.setAt,ag];rw [ab.Qh l y h hk]
theorem MX {en:bK α}{L:List α}{hL:α}{o:Nat}{c:ab}(h:idx L m=some hL) (aa:(en.cells hL)[o]?=some c):(ar en L).kids[m.toNat * en.z+o]?=some c:=PY en h aa
theorem sa {en:bK α}{L:List α}{hL:α}{r o:Nat}{path:List Nat}{c:ab}(aw:bB g ⟨r,path⟩=some (ar en L)) (h:idx L m=some hL) (aa:(en.cells hL)[o]?=some c):bB g ⟨r,path++[m.toNat * en.z+o]⟩=some c:=by
 unfold bB at aw ⊢;simp only at aw ⊢;cases J:g r with
 | none=>rw [J] at aw; cases aw
 | some x =>
  rw [J] at aw;exact ab.Mg path aw (MX h aa)
theorem Qk {en:bK α}{L:List α}{hL:α}{r o:Nat}{path:List Nat}{c:ab}(y:ab) (aw:bB g ⟨r,path⟩=some (ar en L)) (h:idx L m=some hL) (aa:(en.cells hL)[o]?=some c) :
  cp g ⟨r,path++[m.toNat * en.z+o]⟩ y=cp g ⟨r,path⟩ (.own en.z L.length ((bu en L).set (m.toNat * en.z+o) y)):=by
 funext s;unfold cp;simp only;split
 ·rename_i e;subst e;unfold bB at aw;simp only at aw;cases J:g s with
  | none=>rfl
  | some x =>
   rw [J] at aw;simp only [Option.map_some,Option.some.injEq];rw [ab.Qh path y aw (MX h aa)];rfl
 ·rfl
theorem Z0 (l:List ab) (k:Nat) (x c:ab):ew (l.set k x) k [c]=ew l k [c]:=by
 unfold ew;simp only [List.length_singleton];rw [List.take_set,List.drop_set];rw [List.set_eq_of_length_le (by simp; omega)];simp
theorem bx.Di {hy:Oper}{en:bK α}{en2:bK β}{L:List α}{hL y2:α}{qs M R:List β}{o s Ki:Nat}{new cO:List ab}{x2 y0:ab}{G2:List (Nat × ab)}
  (aM:hy.op=.store t a b) (aP:hy.dst=none) (aQ:Rd g a (.ptr p (m.toNat * en.z+o))) (ao:Rd g b (.bo en2.z ⟨s,[]⟩ (qs.length+Ki)))
  (pS:g s=some (.bD en2.z ⟨p.root,p.path++[m.toNat * en.z+o]⟩ qs.length Ki new)) (aw:bB g p=some (ar en L)) (h:idx L m=some hL) (jt:(en.cells hL)[o]?=some (ar en2 qs)) (ba:Nat.beq p.root s=false)
  (h1:fr (cp (cp g ⟨s,[]⟩ .dead) p (.own en.z L.length ((bu en L).set (m.toNat * en.z+o) .dead))) new cO g1)
  (nL:gl cO (bu en2 M)) (hm:M.length=Ki) (aU:qs++M=R) (aT:hB P t 1=true)
  (sx:bB g1 p=some (.own en.z L.length ((bu en L).set (m.toNat * en.z+o) .dead)))
  (he:ew (en.cells hL) o [ar en2 R]=en.cells y2) (hlen:Nat.ble (o+1) en.z=true)
  (gC:cp g1 p (ar en (L.set m.toNat y2)) p.root=some x2) (ak:(get G2 p.root).isSome=true) (qN:g1 p.root=some y0) [eR:b6 y0] (c':kN g1 (get G2) p.root x2 G2):bx P N g hy (get G2):=by
 subst hm aU;have BF:=Nat.le_of_ble_eq_true hlen;have kb:=KK en (cs':=[ar en2 (qs++M)]) h he (by simpa using BF);have pO:(L.set m.toNat y2).length=L.length:=List.length_set;have EU:=Nat.ne_of_beq_eq_false ba;have Bh:bB g ⟨p.root,p.path++[m.toNat * en.z+o]⟩=some (ar en2 qs):=sa (g:=g) (r:=p.root) (path:=p.path) aw h jt;have WO:bB (cp g ⟨s,[]⟩ .dead) p=some (ar en L):=by
  unfold bB at aw ⊢;rw [x0 (p:=⟨s,[]⟩) (λe=>EU e)]; exact aw
 have au:fr g [.bo en2.z ⟨s,[]⟩ (qs.length+M.length)] [.own en2.z (qs.length+M.length) (bu en2 qs++cO)] g1:=by
  refine .k2 pS Bh ba ?_ .nil;rw [Qk .dead (r:=p.root) (path:=p.path) WO h jt];exact h1
 have hk:m.toNat * en.z+o+1<=L.length * en.z:=by
  obtain ⟨jE,gO,_⟩:=qO h;have af:m.toNat+1<=L.length:=by omega
  calc m.toNat * en.z+o+1<=m.toNat * en.z+en.z:=by omega
   _=(m.toNat+1) * en.z:=by rw [Nat.add_mul]; omega
   _<=L.length * en.z:=Nat.mul_le_mul_right _ af
 refine .store aM aP aQ.bp ao.bp au.take (y':=ar en2 (qs++M)) ?_ rfl aT (p:=p) (nd:=.own en.z L.length ((bu en L).set (m.toNat * en.z+o) .dead)) (z:=en.z) (n:=L.length) (cs:=(bu en L).set (m.toNat * en.z+o) .dead) sx (.inl rfl) ?_ (by simp) (λt x J=>?_) (λt x J y ai=>?_) (λt z q n m new J=>?_) (by intro e; rw [e] at ak; cases ak)
 ·rw [<- FB]; exact (nL.pre _).own
 ·simp only [List.length_singleton,List.length_set,np]; exact hk
 ·have e7:(ab.own en.z L.length ((bu en L).set (m.toNat * en.z+o) .dead)).ew (m.toNat * en.z+o) [ar en2 (qs++M)]=ar en (L.set m.toNat y2):=by
   show ab.own en.z L.length (ew ((bu en L).set (m.toNat * en.z+o) .dead) (m.toNat * en.z+o) [ar en2 (qs++M)])=_;unfold ar at kb ⊢;rw [Z0,kb,pO]
  rw [e7];rcases c'.spec t x J with ⟨h1,af,_⟩ | ⟨h1,af,_⟩
  ·rw [x0 h1]; exact af
  ·subst h1 af; exact gC
 ·rcases c'.spec t x J with ⟨h1,af,aF⟩ | ⟨h1,af,aF⟩
  ·rw [af] at ai; cases ai;rcases aF with aF | ⟨aF,c2,rfl⟩
   ·exact aF.KI
   ·refine j7.ref (by cases aF; rfl) ⟨aF.Px,aF.clear ?_,aF.Kr⟩;intro e;obtain ⟨gN,pp⟩:=p;simp only at e;subst e;simp only [cp,if_true,qN,Option.map_some,ab.setAt,Option.some.injEq] at gC;cases gC
  ·subst h1; rw [qN] at ai; cases ai; exact .bh eR.bh
 ·rcases c'.spec t _ J with ⟨_,_,aF | ⟨aF,_⟩⟩ | ⟨_,_,aF⟩
  ·exact aF.e8 _ _ _ _ _ rfl
  ·exact aF.e8 _ _ _ _ _ rfl
  ·cases aF
end
end Go.Own
namespace Go.Own
open Go
variable {α β S R:Type}
abbrev iI (p:S->Prop) (q:R->Prop) (x:S ⊕ R):Prop:=Sum.elim p q x
def Tot (x:Option α) (Φ:α->Prop):Prop:=∃ a,x=some a/\Φ a
namespace Tot
variable {Φ dS:α->Prop}
theorem al {a:α}(h:Φ a):Tot (some a) Φ:=⟨a,rfl,h⟩
theorem bi {x:Option β}{f:β->Option α}(h:Tot x λa=>Tot (f a) Φ):Tot (x.bind f) Φ:=by
 obtain ⟨a,rfl,b,ao,p0⟩:=h;exact ⟨b,ao,p0⟩
theorem sm {f:β->Option α}{a:β}(h:Tot (f a) Φ):Tot ((some a).bind f) Φ:=h
theorem use {x:Option α}(h:Tot x dS) (hi:∀ a,dS a->Φ a):Tot x Φ:=by
 obtain ⟨a,aQ,JF⟩:=h;exact ⟨a,aQ,hi a JF⟩
theorem aC {x:Option β}{f:β->Option α}{Ξ:β->Prop}(h:Tot x Ξ) (hk:∀ a,Ξ a->Tot (f a) Φ):Tot (x.bind f) Φ:=bi (h.use hk)
theorem bC {c:Bool}{a b:Option α}(au:c=true->Tot a Φ) (aV:c=false->Tot b Φ):Tot (cond c a b) Φ:=by
 grind
theorem bA {p:Prop} [Decidable p] {a b:Option α}(au:p->Tot a Φ) (aV:¬ p->Tot b Φ):Tot (cond (decide p) a b) Φ:=by grind
theorem oJ {p:Prop} [Decidable p] {a b:Option α}(au:¬ p->Tot a Φ) (aV:p->Tot b Φ):Tot (cond (!decide p) a b) Φ:=by grind
theorem gX {l:List α}{i:Int}(aI:0<=i) (h1:i<l.length) (hk:∀ y,idx l i=some y->y∈l->Φ y):Tot (idx l i) Φ:=by
 have aK:i.toNat<l.length:=by omega
 have:idx l i=some l[i.toNat]:=by simp [idx,aI,aK]
 exact ⟨_,this,hk _ this (List.getElem_mem aK)⟩
theorem ap {Φ:List α->Prop}{l m:List α}(h:l.length+m.length<=lim) (hk:Φ (l++m)):Tot (ea l m) Φ:=by
 refine ⟨l++m,?_,hk⟩
 grind [ea]
theorem loop {f:S->Option (S ⊕ R)}{eB:S}{dS:R->Prop}(Inv:S->Prop) (uq:S->Nat) (aI:Inv eB) (JG:uq eB<fuel)
  (av:∀ s,Inv s->Tot (f s) (iI (λcY=>Inv cY/\uq cY<uq s) dS)):Tot (cc f eB) dS:=by
 have key:∀ n s,Inv s->uq s<n->Tot (iter f n s) dS:=by
  intro n
  induction n with
  | zero=>intro s _ h; omega
  | succ n aJ =>
   intro s a' hm;obtain ⟨x,J,cX⟩:=av s a';cases x with
   | inl cY =>
    grind [iter]
   | inr r =>
    simp only [iter,J];exact ⟨r,rfl,cX⟩
 exact key fuel eB aI JG
theorem count {f:S->Option (S ⊕ R)}{eB:S}{dS:R->Prop}(i:S->Int) (n:Int) (Inv:S->Prop) (aI:Inv eB) (aA:n - i eB<1000000000000000000)
  (av:∀ s,Inv s->Tot (f s) (iI (λcY=>Inv cY/\i s<i cY/\i cY<=n) dS)):Tot (cc f eB) dS:=by
 refine loop Inv (λs=>(n - i s).toNat) aI (by show (n - i eB).toNat<1000000000000000000; omega) λs a'=>(av s a').use λx J=>?_
 grind
end Tot
theorem cP (n:Int):aS n=(n+9223372036854775808) % 18446744073709551616 - 9223372036854775808:=IntKind.wrap_i64 n
namespace Tot
theorem cat {Φ:ByteArray->Prop}{s u:ByteArray}(h:s.size+u.size<=4611686018427387904) (hk:Φ (s++u)):Tot (er s u) Φ:=by
 refine ⟨s++u,?_,hk⟩
 grind [er]
theorem cut {Φ:ByteArray->Prop}{s:ByteArray}{m n:Int}(h:0<=m/\m<=n/\n<=s.size) (hk:Φ (qx s m n)):Tot (j_ s m n) Φ:=by
 refine ⟨_,?_,hk⟩
 grind [j_]
theorem nC {Φ:Int->Prop}{s:ByteArray}{m:Int}(h:0<=m/\m<s.size) (hk:Φ (ih s m)):Tot (hg s m) Φ:=by
 refine ⟨_,?_,hk⟩
 grind [hg]
theorem sub {Φ:List α->Prop}{l:List α}{m n:Int}(h:0<=m/\m<=n/\n<=l.length) (hk:Φ ((l.drop m.toNat).take (n - m).toNat)):Tot (nt l m n) Φ:=by
 refine ⟨_,?_,hk⟩
 grind [nt]
theorem rem {Φ:Int->Prop}{m n:Int}(h:n≠0) (hk:Φ (m.tmod n)):Tot (qX m n) Φ:=by
 refine ⟨_,?_,hk⟩
 grind [qX]
theorem quo {Φ:Int->Prop}{m n:Int}(h:n≠0) (hk:Φ (aS (m.tdiv n))):Tot (z1 m n) Φ:=by
 refine ⟨_,?_,hk⟩
 grind [z1]
theorem o7 {Φ:Int->Prop}{m n:Int}(h:n≠0) (hk:Φ (m.tmod n)):Tot (Own.o7 m n) Φ:=by
 refine ⟨_,?_,hk⟩
 grind [Own.o7]
theorem o5 {Φ:Int->Prop}{m n:Int}(h:n≠0) (hk:Φ (IntKind.u64.wrap (m.tdiv n))):Tot (Own.o5 m n) Φ:=by
 refine ⟨_,?_,hk⟩
 grind [Own.o5]
theorem mk {Φ:List α->Prop}{m:Int}{z:α}(h:0<=m/\m<=lim) (hk:Φ (List.replicate m.toNat z)):Tot (nQ m z) Φ:=by
 refine ⟨_,?_,hk⟩
 grind [nQ]
theorem eq {x:Option α}{Φ:α->Prop}{a:α}(h:Tot x Φ) (e:x=some a):Φ a:=by
 obtain ⟨b,ao,p0⟩:=h
 grind
theorem ex {x:Option α}{Φ:α->Prop}(h:Tot x Φ):∃ a,x=some a/\Φ a:=h
end Tot
namespace Tot
theorem scan {f:Int->Option (Int ⊕ (Unit ⊕ R))}(l:List β) (P:β->Prop) (Q:R->Prop) (ah:l.length<=100000000000000000)
  (av:∀ (s:Int) (y:β),0<=s->s<l.length->idx l s=some y->y∈l->Tot (f s) (iI (λcY=>cY=s+1/\P y) (iI (λ_=>False) Q)))
  (he:∀ s:Int,¬ s<l.length->f s=some (.inr (.inl ()))):Tot (cc f 0) (iI (λ_=>∀ y∈l,P y) Q):=by
 refine count (λs=>s) l.length (λs=>0<=s/\s<=l.length/\∀ (j:Nat) (y:β),(j:Int)<s->l[j]?=some y->P y) ⟨by omega,by omega,λj y h=>by omega⟩ (by show (l.length:Int) - 0<_; omega) λs a'=>?_;obtain ⟨aI,h1,af⟩:=a';by_cases aK:s<l.length
 ·have oT:s.toNat<l.length:=by omega
  have hi:idx l s=some l[s.toNat]:=by simp [idx,aI,oT]
  refine (av s _ aI aK hi (List.getElem_mem oT)).use λx J=>?_;rcases x with cY | ⟨⟨⟩⟩ | r
  ·obtain ⟨rfl,cX⟩:=J
   grind
  ·grind
  grind
 ·rw [he s aK];refine al λy ai=>?_;obtain ⟨j,ag,rfl⟩:=List.mem_iff_getElem.1 ai;exact af j _ (by omega) (List.getElem?_eq_getElem ag)
end Tot
end Go.Own
namespace Go.Own
open Go
variable {α β S R:Type}
def Par (x:Option α) (Φ:α->Prop):Prop:=∀ a,x=some a->Φ a
set_option linter.unusedVariables false
namespace Par
variable {Φ dS:α->Prop}
theorem al {a:α}(h:Φ a):Par (some a) Φ:=λb e=>by cases e; exact h
theorem no:Par (none:Option α) Φ:=λb e=>by cases e
theorem use {x:Option α}(h:Par x dS) (hi:∀ a,dS a->Φ a):Par x Φ:=λa e=>hi a (h a e)
theorem aC {x:Option β}{f:β->Option α}{Ξ:β->Prop}(h:Par x Ξ) (hk:∀ a,Ξ a->Par (f a) Φ):Par (x.bind f) Φ:=λa e=>by
 cases x with
 | none=>cases e
 | some b=>exact hk b (h b rfl) a e
theorem go {x:Option β}{f:β->Option α}(hk:∀ a,x=some a->Par (f a) Φ):Par (x.bind f) Φ:=λa e=>by
 cases x with
 | none=>cases e
 | some b=>exact hk b rfl a e
theorem bC {c:Bool}{a b:Option α}(au:c=true->Par a Φ) (aV:c=false->Par b Φ):Par (cond c a b) Φ:=by
 cases c
 ·exact aV rfl
 ·exact au rfl
theorem bA {p:Prop} [Decidable p] {a b:Option α}(au:p->Par a Φ) (aV:¬ p->Par b Φ):Par (cond (decide p) a b) Φ :=
 bC (λh=>au (of_decide_eq_true h)) (λh=>aV (of_decide_eq_false h))
theorem oJ {p:Prop} [Decidable p] {a b:Option α}(au:¬ p->Par a Φ) (aV:p->Par b Φ):Par (cond (!decide p) a b) Φ :=
 bC (λh=>au (of_decide_eq_false (by simpa using h))) (λh=>aV (of_decide_eq_true (by simpa using h)))
theorem ap {l m:List β}{f:List β->Option α}(hk:l.length+m.length<=lim->Par (f (l++m)) Φ):Par ((ea l m).bind f) Φ:=by
 unfold ea;split
 ·rename_i h; exact hk h
 ·exact no
theorem cat {s u:ByteArray}{f:ByteArray->Option α}(hk:Par (f (s++u)) Φ):Par ((er s u).bind f) Φ:=by
 unfold er;split
 ·exact hk
 ·exact no
theorem loop {f:S->Option (S ⊕ R)}{eB:S}{dS:R->Prop}(Inv:S->Prop) (aI:Inv eB) (av:∀ s,Inv s->Par (f s) (iI Inv dS)):Par (cc f eB) dS:=by
 have key:∀ n s,Inv s->Par (iter f n s) dS:=by
  intro n
  induction n with
  | zero=>intro s _ a e; cases e
  | succ n aJ =>
   intro s a' a e;simp only [iter] at e;cases J:f s with
   | none=>rw [J] at e; cases e
   | some x =>
    have cX:=av s a' x J;rw [J] at e;cases x with
    | inl cY=>exact aJ cY cX a e
    | inr r=>cases e; exact cX
 exact key fuel eB aI
theorem iX {x:Option α}(h:Tot x Φ) (aR:Par x dS):Tot x λa=>Φ a/\dS a:=by
 obtain ⟨a,aQ,p0⟩:=h;exact ⟨a,aQ,p0,aR a aQ⟩
theorem of {x:Option α}(h:Tot x Φ):Par x Φ:=λa e=>h.eq e
theorem scan {f:Int->Option (Int ⊕ (Unit ⊕ R))}(l:List β) (ah:l.length<=100000000000000000) (P:β->Prop) (Q:R->Prop)
  (av:∀ (s:Int) (y:β),0<=s->s<l.length->idx l s=some y->y∈l->Par (f s) (iI (λcY=>cY=s+1/\P y) (iI (λ_=>False) Q)))
  (he:∀ s:Int,¬ s<l.length->f s=some (.inr (.inl ()))):Par (cc f 0) (iI (λ_=>∀ y∈l,P y) Q):=by
 refine loop (λs=>0<=s/\s<=l.length/\∀ (j:Nat) (y:β),(j:Int)<s->l[j]?=some y->P y) ⟨by omega,by omega,λj y h=>by omega⟩ λs a'=>?_;obtain ⟨aI,h1,af⟩:=a';by_cases aK:s<l.length
 ·have oT:s.toNat<l.length:=by omega
  have hi:idx l s=some l[s.toNat]:=by simp [idx,aI,oT]
  refine (av s _ aI aK hi (List.getElem_mem oT)).use λx J=>?_;rcases x with cY | ⟨⟨⟩⟩ | r
  ·obtain ⟨rfl,cX⟩:=J;refine ⟨by omega,by omega,λj y ag ai=>?_⟩;by_cases y7:(j:Int)<s
   ·exact af j y y7 ai
   ·have:j=s.toNat:=by omega
    subst this;rw [List.getElem?_eq_getElem oT] at ai;cases ai; exact cX
  ·exact J.elim
  ·exact J
 ·rw [he s aK];refine al λy ai=>?_;obtain ⟨j,ag,rfl⟩:=List.mem_iff_getElem.1 ai;exact af j _ (by omega) (List.getElem?_eq_getElem ag)
end Par
end Go.Own
namespace Go.Own
open Go
variable {α β S R:Type}
namespace Tot
theorem upto {f:S->Option (S ⊕ R)}{eB:S}{dS:R->Prop}(i:S->Int) (n:Nat) (Inv:Nat->S->Prop) (hi:i eB=0) (aA:n<=100000000000000000) (aI:Inv 0 eB)
  (av:∀ (k:Nat) (s:S),k<=n->i s=(k:Int)->Inv k s->Tot (f s) (iI (λcY=>k<n/\i cY=((k+1:Nat):Int)/\Inv (k+1) cY) dS)):Tot (cc f eB) dS:=by
 refine count i n (λs=>∃ k:Nat,k<=n/\i s=(k:Int)/\Inv k s) ⟨0,Nat.zero_le _,hi,aI⟩ (by rw [hi]; omega) λs ⟨k,hk,he,a'⟩=>(av k s hk he a').use λx J=>?_;rcases x with cY | r
 ·obtain ⟨h1,af,aF⟩:=J;exact ⟨⟨k+1,by omega,af,aF⟩,by omega,by omega⟩
 ·exact J
end Tot
namespace Par
theorem upto {f:S->Option (S ⊕ R)}{eB:S}{dS:R->Prop}(i:S->Int) (n:Nat) (Inv:Nat->S->Prop) (hi:i eB=0) (aI:Inv 0 eB)
  (av:∀ (k:Nat) (s:S),k<=n->i s=(k:Int)->Inv k s->Par (f s) (iI (λcY=>k<n/\i cY=((k+1:Nat):Int)/\Inv (k+1) cY) dS)):Par (cc f eB) dS:=by
 refine loop (λs=>∃ k:Nat,k<=n/\i s=(k:Int)/\Inv k s) ⟨0,Nat.zero_le _,hi,aI⟩ λs ⟨k,hk,he,a'⟩=>(av k s hk he a').use λx J=>?_;rcases x with cY | r
 ·obtain ⟨h1,af,aF⟩:=J;exact ⟨k+1,by omega,af,aF⟩
 ·exact J
end Par
theorem ek (k:Nat) (h:k<=1000000000000000000):aS ((k:Int)+1)=((k+1:Nat):Int):=by rw [cP]; omega
end Go.Own
