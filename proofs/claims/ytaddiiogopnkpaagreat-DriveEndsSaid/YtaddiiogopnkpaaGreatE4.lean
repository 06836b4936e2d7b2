/- Parts of the proof that the last text states. -/
import Derived.ChangeAt
import Derived.ChangeOld
import Derived.ChangeSame
import Derived.Deep.Slices
import Derived.ReadAgain
import Derived.RowKit3
import Derived.WideShapes
import Derived.Test.YtaddiiogopnkpaaGreatE3
set_option linter.unusedSectionVars false
namespace Go.Own
open Go
variable [cE]
variable {α β:Type}
def ky (s:ByteArray) (m:Int):Option Int:=if 0<=m/\m<s.size then some (lI s m) else none
def wZ (s:ByteArray) (m n:Int):Option ByteArray:=if 0<=m/\m<=n/\n<=s.size then some (BG s m n) else none
def wU (s u:ByteArray):Option ByteArray:=if s.size+u.size<=4611686018427387904 then some (s++u) else none
def rG (m n:Int):Option Int:=if n=0 then none else some (m.tmod n)
def ph (l:List α) (m n:Int):Option (List α):=if 0<=m/\m<=n/\n<=l.length then some ((l.drop m.toNat).take (n - m).toNat) else none
def l':ab->Bool
 | .lit _ | .aQ | .bd .. | .cw _ | .cD .. | .ptr .. | .a6 .. | .sub .. | .gj .. | .imp ..=>true
 | _=>false
theorem Vr {d:Nat}{p:Place}{x:ab}(h:l' x=true):fW d p x=x:=by
 cases x <;> simp [l'] at h <;> cases d <;> rfl
theorem Vs {t:Nat}{x:ab}(h:l' x=true):pg t x=x:=by
 cases x <;> simp [l'] at h <;> rfl
theorem BS {d:Nat}{q:Nat->Place}{cs:List ab}(h:cs.all l'=true):(cs.mapIdx λi x=>fW d (q i) x)=cs:=by
 apply List.ext_getElem?;intro k;rw [List.getElem?_mapIdx];cases hk:cs[k]? with
 | none=>rfl
 | some x=>simp only [Option.map_some,Vr (List.all_eq_true.1 h x (List.mem_of_getElem? hk))]
section
variable {P:Program}{N:cN}{ops:Array Oper}{g:aL}{K:aL->Prop}{l:List Oper}{d:Nat}{ty t t2:TypeId}{a b c:Operand}{k j8:IntKind}{m n:Int}{s u:ByteArray}{p q e:Bool}
theorem Rd.f {t:Nat}{x:ab}(h:g t=some x) (aT:l' x=true):Own.bs g (.tmp t)=some x:=by simp only [Own.bs,h,Option.map_some,Vs aT]
theorem Rd.dm {t:Nat}{cs:List ab}(h:g t=some (.agg cs)) (aT:cs.all l'=true):Rd g (.tmp t) (.agg cs):=.agg h (BS aT)
theorem Rd.abl {t:Nat}{cs:List ab}(h:g t=some (.bS cs)) (aT:cs.all l'=true):Rd g (.tmp t) (.bS cs):=.bS h (BS aT)
namespace O
theorem aS {y:ab}(h:Rd g a y):bT P g (.move a) ty y:=.ew (.move h.bs)
theorem az {y:ab}(h:Rd g a y):bT P g (.assign a) ty y:=.ew (.assign h.bs)
theorem hN {y:ab}(aa:Rd g c (bg p)) (au:p=true) (h:Rd g a y):bT P g (.pick c a b) ty y:=by subst au; exact .ew (.ZO aa h)
theorem ml {y:ab}(aa:Rd g c (bg p)) (au:p=false) (h:Rd g b y):bT P g (.pick c a b) ty y:=by subst au; exact .ew (.ZN aa h)
theorem add (J:Rd g a (.lit (.int k m))) (ao:Rd g b (.lit (.int k n))):bT P g (.binOp .add t a b t2) ty (.lit (.int k (k.wrap (m+n)))):=.ew (.add J ao)
theorem sub (J:Rd g a (.lit (.int k m))) (ao:Rd g b (.lit (.int k n))):bT P g (.binOp .sub t a b t2) ty (.lit (.int k (k.wrap (m - n)))):=.ew (.aa2 J ao)
theorem rem {r:Int}(J:Rd g a (ae m)) (ao:Rd g b (ae n)) (h:rG m n=some r):bT P g (.binOp .rem t a b t2) ty (ae r):=by
 unfold rG at h
 split at h
 ·cases h
 ·cases h; exact .ew (.rem J ao (by assumption))
theorem lss (J:Rd g a (.lit (.int k m))) (ao:Rd g b (.lit (.int k n))):bT P g (.binOp .lss t a b t2) ty (bg (decide (m<n))):=.ew (.lss J ao (by simp))
theorem leq (J:Rd g a (.lit (.int k m))) (ao:Rd g b (.lit (.int k n))):bT P g (.binOp .leq t a b t2) ty (bg (decide (m<=n))):=.ew (.leq J ao (by simp))
theorem gtr (J:Rd g a (.lit (.int k m))) (ao:Rd g b (.lit (.int k n))):bT P g (.binOp .gtr t a b t2) ty (bg (decide (n<m))):=.ew (.gtr J ao (by simp))
theorem geq (J:Rd g a (.lit (.int k m))) (ao:Rd g b (.lit (.int k n))):bT P g (.binOp .geq t a b t2) ty (bg (decide (n<=m))):=.ew (.geq J ao (by simp))
theorem eql (J:Rd g a (.lit (.int k m))) (ao:Rd g b (.lit (.int k n))):bT P g (.binOp .eql t a b t2) ty (bg (decide (m=n))):=.ew (.eql J ao (by simp))
theorem neq (J:Rd g a (.lit (.int k m))) (ao:Rd g b (.lit (.int k n))):bT P g (.binOp .neq t a b t2) ty (bg (!decide (m=n))):=.ew (.neq J ao (by simp))
theorem sX (J:Rd g a (aZ s)) (ao:Rd g b (aZ u)):bT P g (.binOp .eql t a b t2) ty (bg (decide (s=u))):=.ew (.sX J ao (by simp))
theorem qD (J:Rd g a (aZ s)) (ao:Rd g b (aZ u)):bT P g (.binOp .neq t a b t2) ty (bg (!decide (s=u))):=.ew (.qD J ao (by simp))
theorem Vc (J:Rd g a (bg p)) (ao:Rd g b (bg q)) (ar:HN P t=true):bT P g (.binOp .eql t a b t2) ty (bg (p == q)):=.ew (.bin J.bs ao.bs rfl λw=>aao (To ar) w)
theorem neg (J:Rd g a (.lit (.int k m))):bT P g (.unOp .neg t a) ty (.lit (.int k (k.wrap (-m)))):=.ew (.un J.bs rfl λw=>by simp [Op.unary,Op.intArith])
theorem not (J:Rd g a (bg p)):bT P g (.unOp .not t a) ty (bg (!p)):=.ew (.not J)
theorem Ig (J:Rd g a (.lit (.int k m))) (aw:ur P t k=true) (aO:ur P t2 j8=true):bT P g (.convert t t2 a) ty (.lit (.int j8 (j8.wrap m))):=.ew (.UJ J aw aO)
theorem cat {r:ByteArray}(J:Rd g a (aZ s)) (ao:Rd g b (aZ u)) (h:wU s u=some r):bT P g (.binOp .add t a b t2) ty (aZ r):=by
 unfold wU at h
 split at h
 ·cases h; exact .ew (.cat J ao (by omega))
 ·cases h
theorem z1 (J:Rd g a (aZ s)) (ar:sI P t=true):bT P g (.call { callee:=.builtin .len,args:=#[a],argTypes:=#[t] }) ty (ae s.size):=.ew (.z1 J ar)
theorem oy {r:Int}(J:Rd g a (aZ s)) (ao:Rd g b (.lit (.int k m))) (ar:sI P t=true) (h:ky s m=some r):bT P g (.index t a b) ty (rZ r):=by
 unfold ky at h
 split at h
 ·cases h; exact .ew (.Th J ao ar (by assumption))
 ·cases h
theorem GR {r:ByteArray}{td:IntKind}(J:Rd g a (aZ s)) (ah:Rd g b (.lit (.int k m))) (bP:Rd g c (.lit (.int td n))) (ar:sI P t=true) (h:wZ s m n=some r):bT P g (.slice t a (some b) (some c) none) ty (aZ r):=by
 unfold wZ at h
 split at h
 ·cases h; exact .ew (.Lz J ah bP ar (by assumption))
 ·cases h
theorem mT {z bR n:Nat}{cs:List ab}{e:TypeId}(J:Rd g a (.bd z n cs)) (ar:fk P t e bR=true):bT P g (.call { callee:=.builtin .len,args:=#[a],argTypes:=#[t] }) ty (ae n):=.ew (.FY J.bs ar)
theorem o' {en:bN α}{L:List α}{y:α}{e:TypeId}(J:Rd g a (.bd en.z L.length (bA en L))) (ao:Rd g b (.lit (.int k m))) (ar:fk P t e en.z=true) (h:idx L m=some y):bT P g (.indexAddr t a b) ty (.cw (en.cells y++bA en (L.drop (m.toNat+1)))):=by
 rw [<- Lm en h];obtain ⟨aK,h1,_⟩:=mi h;obtain ⟨j,rfl⟩:=Int.eq_ofNat_of_zero_le aK;exact .ew (.FL J.bs ao.bs ar (by omega))
theorem aaM {en:bN α}{L r:List α}{e:TypeId}(J:Rd g a (.bd en.z L.length (bA en L))) (bP:Rd g c (.lit (.int k n))) (ar:fk P t e en.z=true) (h:ph L 0 n=some r):bT P g (.slice t a none (some c) none) ty (aj en r):=by
 unfold ph at h
 split at h
 ·rename_i aa;obtain ⟨_,h1,af⟩:=aa;cases h;obtain ⟨j,rfl⟩:=Int.eq_ofNat_of_zero_le h1;have:=df.Ea (P:=P) (ty:=ty) (t:=t) (l:=0) (h:=j) (lo:=none) (hi:=some c) J.bs rfl ⟨_,bP.bs⟩ ar (by omega) (by omega);rw [D3,D4] at this;have b9:(((L.drop 0).take (j - 0)).length)=j - 0:=by rw [List.length_take,List.length_drop]; omega
  have b3:((j:Int) - 0).toNat=j - 0:=by omega
  rw [b3];unfold aj;have eP:(0:Int).toNat=0:=rfl;rw [eP,b9];exact .ew this
 ·cases h
theorem aaN {en:bN α}{L r:List α}{e:TypeId}(J:Rd g a (.bd en.z L.length (bA en L))) (ah:Rd g b (.lit (.int k m))) (ar:fk P t e en.z=true) (h:ph L m L.length=some r):bT P g (.slice t a (some b) none none) ty (aj en r):=by
 unfold ph at h
 split at h
 ·rename_i aa;obtain ⟨aK,h1,af⟩:=aa;cases h;obtain ⟨i,rfl⟩:=Int.eq_ofNat_of_zero_le aK;have:=df.Ea (P:=P) (ty:=ty) (t:=t) (l:=i) (h:=L.length) (lo:=some b) (hi:=none) J.bs ⟨_,ah.bs⟩ rfl ar (by omega) (by omega);rw [D3,D4] at this;have b9:(((L.drop i).take (L.length - i)).length)=L.length - i:=by rw [List.length_take,List.length_drop]; omega
  have b3:((L.length:Int) - (i:Int)).toNat=L.length - i:=by omega
  rw [Int.toNat_natCast,b3];unfold aj;rw [b9];exact .ew this
 ·cases h
theorem BO {cy f off:Nat}{cs:List ab}(J:Rd g a (.cw cs)) (aT:iR P cy f off t=true):bT P g (.fieldAddr cy a f) ty (.cw (cs.drop off)):=.ew (.E_ J.bs aT)
theorem C7 {x:ab}{cs:List ab}(J:Rd g a (.cw cs)) (ar:j0 P t=true) (aa:cs.head?=some x):bT P g (.load t a) ty x:=by
 cases cs with
 | nil=>cases aa
 | cons y cs=>cases aa; exact .ew (.F1 J.bs ar)
theorem mS {z:Nat}{cs cs':List ab}(J:Rd g a (.cw cs)) (ar:h3 P t z=true) (aa:cs.take z=cs') (aX:cs'.length=z):bT P g (.load t a) ty (.agg cs'):=by
 subst aa;exact .ew (.F2 J.bs ar (by rw [List.length_take] at aX; omega))
theorem Dd {cs:List ab}(J:Rd g a (.cw cs)):bT P g (.nilCheck a) ty (.cw cs):=.ew (.qE J.bs)
theorem cP {p:Place}{k:Nat}(J:Rd g a (.ptr p k)):bT P g (.nilCheck a) ty (.ptr p k):=.ew (.Ga J.bs)
theorem ex {p i:Nat}{cs:List ab}{x y:ab}(J:g p=some (.bS cs)) (ao:cs[i]?=some x) (hr:fW 1 (Place.push ⟨p,[]⟩ i) x=y):bT P g (.extract (.tmp p) i) ty y :=
 .ew (.E8 (cs:=cs.mapIdx λi x=>fW 1 (Place.push ⟨p,[]⟩ i) x) (by simp [bs,J,pg,fW]) (by simp [ao,hr]))
theorem box {e:TypeId}{y:ab}{cs:List ab}(J:Rd g a y) (aa:jZ y=some cs):bT P g (.box e a) ty (.obj cs):=.rB (.box J.bs aa)
theorem ns {cy f off k r:Nat}{cs:List ab}(aw:g r=some (.obj cs)) (J:Rd g a (.ptr ⟨r,[]⟩ k)) (aT:iR P cy f off t=true) (aN:Nat.blt (k+off) cs.length=true):bT P g (.fieldAddr cy a f) ty (.ptr ⟨r,[]⟩ (k+off)) :=
 .ew (.BQ J.bs aT ⟨.obj cs,by simp [bG,aw,ab.at],0,0,cs,.inr rfl,by simpa using aN⟩)
theorem qC {k r:Nat}{cs:List ab}{x y:ab}(aw:g r=some (.obj cs)) (J:Rd g a (.ptr ⟨r,[]⟩ k)) (ar:j0 P t=true) (aa:cs[k]?=some x) (ao:fW 0 ⟨r,[k]⟩ x=y):bT P g (.load t a) ty y:=by
 subst ao;exact .ew (.C9 (p:=⟨r,[]⟩) J.bs ar (by simp [bG,aw,ab.at,Place.push,ab.kids,aa]))
theorem dJ {k r z:Nat}{cs cs':List ab}(aw:g r=some (.obj cs)) (J:Rd g a (.ptr ⟨r,[]⟩ k)) (ar:h3 P t z=true) (hk:Nat.ble (k+z) cs.length=true) (aa:(((cs.drop k).take z).mapIdx λi x=>fW 0 ⟨r,[k+i]⟩ x)=cs'):bT P g (.load t a) ty (.agg cs'):=by
 subst aa;exact .ew (.z6 (p:=⟨r,[]⟩) (n:=0) (z:=0) J.bs ar (by simp [bG,aw,ab.at]) (.inr rfl) (Nat.le_of_ble_eq_true hk))
end O
theorem q3.b8 {x:Operand}{y:ab}{xs:List Operand}{ys:List ab}(h:Rd g x y) [aB:b6 y] (ar:q3 g xs ys):q3 g (x::xs) (y::ys):=.cons h aB.bk ar
theorem cd.go {xs:List Operand}{fM:Array TypeId}{f:FuncId}{ys:List ab}{outs:List (Option ab)}{res:ab}(J:q3 g xs ys) (ha:bO P f ys outs res) (aT:hx P f=true) (aW:uz outs=true) [hr:b6 res] :
  cd P g (.call { callee:=.value (.func f),args:=xs.toArray,argTypes:=fM }) res:=.U' ha aT J aW hr.bk
end
def xY:Nat->List ab->List (Nat × ab)
 | _,[]=>[]
 | i,x::l=>(i,x)::xY (i+1) l
theorem NP:∀ (l:List ab) (i t:Nat),get (xY i l) t=if i<=t then l[t - i]? else none
 | [],i,t=>by simp [xY,get]
 | x::l,i,t=>by
  simp only [xY,get];by_cases h:t=i
  ·subst h; simp
  ·rw [if_neg h,NP l (i+1) t];by_cases h1:i+1<=t
   ·rw [if_pos h1,if_pos (by omega)];have:t - i=(t - (i+1))+1:=by omega
    rw [this,List.getElem?_cons_succ]
   ·rw [if_neg h1,if_neg (by omega)]
theorem S5 (args:List ab):sT args=get (xY 0 args):=funext λt=>by rw [NP]; simp [sT]
theorem bO.go {P:Program}{f:FuncId}{fn:Func}{c:Code}{args:List ab}{outs:List (Option ab)}{res:ab}{N:cN}(aT:P.funcs[f]?=some fn) (au:fn.body=some c) (bp:fn.ntmps=N.size) (aI:Nat.ble args.length N.size=true) (hlen:outs.length=args.length)
  (hw:W P N c (get (xY 0 args)) (Fin P N fn.results.toList args.length outs res)):bO P f args outs res :=
 .fin aT au bp aI hlen (by rw [S5]; exact hw)
end Go.Own
namespace Go.Own
open Go
variable [cE]
section
variable {P:Program}{N:cN}{Φ qT:Exit->aL->Prop}{Ψ:aL->Prop}{G G1:List (Nat × ab)}{A B c:Code}{id k:Nat}{e:Exit}{S R:Type}
inductive ia:aL->List (Nat × ab)->Prop
 | hX {G:List (Nat × ab)}:ia (get G) G
 | e5 {g g1:aL}{G:List (Nat × ab)}(h:np g g1) (au:ia g1 G):ia g G
theorem ia.trans {g:aL}{G G1:List (Nat × ab)}(h:ia g G) (h1:ia (get G) G1):ia g G1:=by
 induction h with
 | hX=>exact h1
 | e5 h _ aM=>exact .e5 h (aM h1)
inductive Bb (P:Program) (N:cN):aL->Exit->(Exit->aL->Prop)->Prop
 | hX {g:aL}{e:Exit}{Φ:Exit->aL->Prop}(h:Φ e g):Bb P N g e Φ
 | e5 {g g1:aL}{e:Exit}{Φ:Exit->aL->Prop}(hw:np g g1) (h:Bb P N g1 e Φ):Bb P N g e Φ
theorem W.outs {g:aL}(h:W P N c g Φ) (qB:∀ e g',Φ e g'->Bb P N g' e qT):W P N c g qT:=by
 intro a w I Fs Q bh bp eu;refine h bh bp λe g' b' w' aq aB=>?_;have sb:=qB e g' aq;clear aq qB;revert aB
 induction sb with
 | hX h=>exact λaB=>eu _ _ _ _ h aB
 | e5 hw _ aM =>
  intro aB;refine aM eu ?_;obtain ⟨h1,af,I',bV,dM,bU⟩:=aB;obtain ⟨jc,h7,hA⟩:=dM.e5 hw;exact ⟨h1,af,I',jc,h7,bU.dK,bU.more,bU.new,λc ⟨t,aa⟩=>bU.own c ⟨t,hA t c aa⟩⟩
def ax (e:Exit) (Φ:Exit->aL->Prop) (G:List (Nat × ab)):Prop:=∀ g,ia g G->Φ e g
theorem W.be {g:aL}(h:W P N c (get G) Φ) (au:ia g G):W P N c g Φ:=by
 induction au with
 | hX=>exact h
 | e5 hw _ aM=>exact (aM h).weaken hw
theorem pz.be {g:aL}(h:pz P N c (get G) Φ) (au:ia g G):pz P N c g Φ:=by
 induction au with
 | hX=>exact h
 | e5 hw _ aM=>exact (aM h).weaken hw
theorem ax.bI (h:W P N B (get G) Φ):ax .normal (pk (λg1=>W P N B g1 Φ) qT) G:=λ_ au=>abe (h.be au)
theorem ax.fe (h:ax (.exit k) qT G):ax (.exit k) (pk Ψ qT) G:=λg au=>abd (h g au)
theorem ax.gy (h:ax .ret qT G):ax .ret (pk Ψ qT) G:=λg au=>abf (h g au)
theorem ax.ca (h:ax .normal Φ G):ax .normal (mj id Φ) G:=λg au=>YM (h g au)
theorem ax.fr (h:ax .normal Φ G):ax (.exit id) (mj id Φ) G:=λg au=>YK (h g au)
theorem ax.E0 (hk:Nat.beq k id=false) (h:ax (.exit k) Φ G):ax (.exit k) (mj id Φ) G:=λg au=>YL hk (h g au)
theorem ax.lH (h:ax .ret Φ G):ax .ret (mj id Φ) G:=λg au=>YN (h g au)
theorem W.fm (h:ax (.exit k) Φ G):W P N (.exit k) (get G) Φ:=W.exit (h _ .hX)
theorem W.cM (h:ax .normal Φ G):W P N .skip (get G) Φ:=W.skip (h _ .hX)
theorem W.rt (h:ax .ret Φ G):W P N .ret (get G) Φ:=W.ret (h _ .hX)
theorem W.rx {id:Nat}{l:List Oper}(G1:List (Nat × ab)) (h:aE P N l.toArray l (get G) λg'=>np g' (get G1)) (hk:ax .normal Φ G1):W P N (.region id l.toArray false) (get G) Φ :=
 W.D1 (λi hi=>by obtain ⟨g',h1,af⟩:=h i hi; exact ⟨g',h1,hk g' (.e5 af .hX)⟩)
theorem W.c5 {G1:List (Nat × ab)}(h:Trim true (get G) (get G1) G1) (hw:W P N c (get G1) Φ):W P N c (get G) Φ:=hw.weaken h.e5
theorem W.st {G:List (Nat × ab)}(G1:List (Nat × ab)) (h:W P N c (get G1) Φ) (e:G1=G:=by rfl):W P N c (get G) Φ:=by subst e; exact h
theorem W.ca (h:W P N c (get G) (mj id Φ)):W P N (.block id c) (get G) Φ:=W.block h
theorem W.dB (G1:List (Nat × ab)) (h:W P N c (get G) λe g=>e=.normal/\ia g G1) (hk:ax .normal Φ G1):W P N c (get G) Φ :=
 h.mono λe g ⟨he,au⟩=>by subst he; exact hk g au
theorem ax.dB (h:Trim true (get G) (get G1) G1):ax .normal (λe g=>e=.normal/\ia g G1) G:=λ_ au=>⟨rfl,au.trans (.e5 h.e5 .hX)⟩
def lg (G:S->List (Nat × ab)) (Ψ:R->Exit->aL->Prop):S ⊕ R->Exit->aL->Prop
 | .inl s,e,g=>e=.normal/\ia g (G s)
 | .inr r,e,g=>e≠.normal/\Ψ r e g
theorem pz.it {f:S->Option (S ⊕ R)}{G:S->List (Nat × ab)}{Ψ:R->Exit->aL->Prop}(au:∀ s o,f s=some o->W P N c (get (G s)) (lg G Ψ o)) :
  ∀ (n:Nat) (s:S) (r:R),Own.iter f n s=some r->pz P N c (get (G s)) (Ψ r)
 | 0,_,_,h=>by simp [Own.iter] at h
 | n+1,s,r,h=>by
  simp only [Own.iter] at h;cases aT:f s with
  | none=>rw [aT] at h; cases h
  | some o =>
   rw [aT] at h;refine .step ((au s o aT).mono λe g' hr=>?_);cases o with
   | inl cy =>
    obtain ⟨rfl,hw⟩:=hr;exact (pz.it au n cy r h).be hw
   | inr c' =>
    cases h;obtain ⟨aB,hw⟩:=hr;cases e with
    | normal=>exact absurd rfl aB
    | _=>exact hw
theorem W.e3 {f:S->Option (S ⊕ R)}{s:S}{r:R}(G:S->List (Nat × ab)) (Ψ:R->Exit->aL->Prop) (h:cf f s=some r) (au:∀ s o,f s=some o->W P N c (get (G s)) (lg G Ψ o)) (hk:∀ e g,Ψ r e g->Φ e g):W P N (.loop c) (get (G s)) Φ :=
 (W.loop (pz.it au fuel s r h)).mono hk
theorem W.z7 {f:S->Option (S ⊕ R)}{s:S}{r:R}(G:S->List (Nat × ab)) (id:Nat) (mA:R->List (Nat × ab)) (h:cf f s=some r) (au:∀ s o,f s=some o->W P N c (get (G s)) (lg G (λr e g=>e=.exit id/\ia g (mA r)) o)) (hk:ax (.exit id) Φ (mA r)):W P N (.loop c) (get (G s)) Φ :=
 .e3 G _ h au λe g ⟨he,aP⟩=>by subst he; exact hk g aP
theorem W.PD {gu:Type}{f:S->Option (S ⊕ (R ⊕ gu))}{s:S}{r:R ⊕ gu}(G:S->List (Nat × ab)) (id:Nat) (mA:R->List (Nat × ab)) (jx:gu->List (Nat × ab)) (h:cf f s=some r)
  (au:∀ s o,f s=some o->W P N c (get (G s)) (lg G (λ(r:R ⊕ gu) e g=>match r with | .inl r=>e=.exit id/\ia g (mA r) | .inr r=>e=.ret/\ia g (jx r)) o))
  (J:∀ x,r=.inl x->ax (.exit id) Φ (mA x)) (hr:∀ x,r=.inr x->ax .ret Φ (jx x)):W P N (.loop c) (get (G s)) Φ:=by
 refine .e3 G _ h au λe g h=>?_;cases r with
 | inl r=>obtain ⟨rfl,aP⟩:=h; exact J r rfl g aP
 | inr r=>obtain ⟨rfl,aP⟩:=h; exact hr r rfl g aP
theorem ax.go {s:S}{F:S->List (Nat × ab)}{Ψ:R->Exit->aL->Prop}(h:Trim true (get G) (get (F s)) (F s)):ax .normal (lg F Ψ (.inl s)) G:=λ_ au=>⟨rfl,au.trans (.e5 h.e5 .hX)⟩
theorem ax.aR {r:R}{F:S->List (Nat × ab)}{mA:R->List (Nat × ab)}(h:Trim true (get G) (get (mA r)) (mA r)):ax (.exit id) (lg F (λr e g=>e=.exit id/\ia g (mA r)) (.inr r)) G:=λ_ au=>⟨by simp,rfl,au.trans (.e5 h.e5 .hX)⟩
theorem ax.x2 {gu:Type}{r:R}{F:S->List (Nat × ab)}{mA:R->List (Nat × ab)}{jx:gu->List (Nat × ab)}(h:Trim true (get G) (get (mA r)) (mA r)) :
  ax (.exit id) (lg F (λ(r:R ⊕ gu) e g=>match r with | .inl r=>e=.exit id/\ia g (mA r) | .inr r=>e=.ret/\ia g (jx r)) (.inr (.inl r))) G:=λ_ au=>⟨by simp,rfl,au.trans (.e5 h.e5 .hX)⟩
theorem ax.hE {gu:Type}{r:gu}{F:S->List (Nat × ab)}{mA:R->List (Nat × ab)}{jx:gu->List (Nat × ab)}(h:Trim true (get G) (get (jx r)) (jx r)) :
  ax .ret (lg F (λ(r:R ⊕ gu) e g=>match r with | .inl r=>e=.exit id/\ia g (mA r) | .inr r=>e=.ret/\ia g (jx r)) (.inr (.inr r))) G:=λ_ au=>⟨by simp,rfl,au.trans (.e5 h.e5 .hX)⟩
def p4 (P:Program) (N:cN) (rs:List ResultVar) (n:Nat) (outs:List (Option ab)) (res:ab) (e:Exit) (g:aL):Prop:=∃ G,ia g G/\Fin P N rs n outs res e (get G)
theorem W.fin {rs:List ResultVar}{n:Nat}{outs:List (Option ab)}{res:ab}{g:aL}(h:W P N c g (p4 P N rs n outs res)):W P N c g (Fin P N rs n outs res):=by
 have key:∀ e g,p4 P N rs n outs res e g->Bb P N g e (Fin P N rs n outs res):=by
  rintro e g ⟨G,au,aT⟩
  induction au with
  | hX=>exact .hX aT
  | e5 hw _ aM=>exact .e5 hw (aM aT)
 exact W.outs h key
theorem ax.fin {rs:List ResultVar}{n:Nat}{outs:List (Option ab)}{res:ab}(h:Fin P N rs n outs res e (get G)):ax e (p4 P N rs n outs res) G:=λ_ au=>⟨G,au,h⟩
end
section
variable {P:Program}{N:cN}{ops:Array Oper}{bj:List (List Nat)}{g0:aL}{K:aL->Prop}{l:List Oper}{acc:Acc}{d i:Nat}{op:Op}{ty:TypeId}{pos:String}{after:Array Edge}{x:ab}{gd:Option (Nat × Bool)}
abbrev kK (bj:List (List Nat)) (g0:aL) (j:Nat) (acc:Acc):aL:=dr g0 (λm=>(bj.getD j []).contains m) acc
def bC (P:Program) (N:cN) (ops:Array Oper) (bj:List (List Nat)) (g0:aL) (i:Nat) (acc:Acc) (l:List Oper) (K:aL->Prop):Prop:=∀ dA j,ni P N ops bj g0 i dA->iD P N ops bj g0 i dA j acc->ops.toList.drop j=l->∃ g',sP P N ops bj i dA g0 g'/\K g'
theorem BK {j bX:Nat}{o:Oper}(h:ops.toList.drop j=o::l) (ag:Nat.beq ops.size (bX+l.length+1)=true):j=bX:=by
 grind [List.length_cons,Nat.eq_of_beq_eq_true]
theorem SC (aB:acc.all (λe=>!Nat.beq e.2.1 d)=true):∀ e∈acc,e.2.1≠d:=by
 intro e he h;have:=List.all_eq_true.1 aB e he
 simp_all
theorem bC.st (bX:Nat) {r:Option ab}{o:Oper}(aO:o.dst=some d) (aw:qa P (kK bj g0 bX acc) ops o r) (ag:Nat.beq ops.size (bX+l.length+1)=true) (aT:g0 d=none) (aB:acc.all (λe=>!Nat.beq e.2.1 d)=true) (bp:N.ok d=true)
  (hk:bC P N ops bj g0 i ((bX,d,r)::acc) l K):bC P N ops bj g0 i acc (o::l) K:=by
 intro dA j bQ lR mc;have:=BK mc ag;subst this;obtain ⟨h1,af⟩:=drop_cons mc;exact hk dA (j+1) bQ (.step lR h1 aO aT (SC aB) bp aw) af
theorem bC.v (bX:Nat) (aq:bT P (kK bj g0 bX acc) op ty x) (ag:Nat.beq ops.size (bX+l.length+1)=true) (aT:g0 d=none) (aB:acc.all (λe=>!Nat.beq e.2.1 d)=true) (bp:N.ok d=true) (aP:dV (kK bj g0 bX acc) ops gd)
  (hk:bC P N ops bj g0 i ((bX,d,some x)::acc) l K):bC P N ops bj g0 i acc (⟨some d,op,ty,pos,after,gd⟩::l) K :=
 .st bX (r:=some x) rfl (.inl ⟨aP.wanted,.inl aq⟩) ag aT aB bp hk
theorem bC.c (bX:Nat) (aq:cd P (kK bj g0 bX acc) op x) (ag:Nat.beq ops.size (bX+l.length+1)=true) (aT:g0 d=none) (aB:acc.all (λe=>!Nat.beq e.2.1 d)=true) (bp:N.ok d=true) (aP:dV (kK bj g0 bX acc) ops gd)
  (hk:bC P N ops bj g0 i ((bX,d,some x)::acc) l K):bC P N ops bj g0 i acc (⟨some d,op,ty,pos,after,gd⟩::l) K :=
 .st bX (r:=some x) rfl (.inl ⟨aP.wanted,.inr aq⟩) ag aT aB bp hk
theorem bC.ps (bX:Nat) {vP t':Nat}{b c:Bool}(h:(ops[vP]?).bind (·.dst)=some t') (aP:kK bj g0 bX acc t'=some (bg c)) (au:c=!b) (ag:Nat.beq ops.size (bX+l.length+1)=true) (aT:g0 d=none) (aB:acc.all (λe=>!Nat.beq e.2.1 d)=true) (bp:N.ok d=true)
  (hk:bC P N ops bj g0 i ((bX,d,some (.bS []))::acc) l K):bC P N ops bj g0 i acc (⟨some d,op,ty,pos,after,some (vP,b)⟩::l) K :=
 .st bX (r:=some (.bS [])) rfl (.inr (.inl ⟨⟨t',h,.inl ⟨c,aP,by subst au; cases b <;> rfl⟩⟩,rfl⟩)) ag aT aB bp hk
theorem bC.pu (bX:Nat) {vP t':Nat}{b:Bool}(h:(ops[vP]?).bind (·.dst)=some t') (aP:kK bj g0 bX acc t'=some (.bS [])) (ag:Nat.beq ops.size (bX+l.length+1)=true) (aT:g0 d=none) (aB:acc.all (λe=>!Nat.beq e.2.1 d)=true) (bp:N.ok d=true)
  (hk:bC P N ops bj g0 i ((bX,d,some (.bS []))::acc) l K):bC P N ops bj g0 i acc (⟨some d,op,ty,pos,after,some (vP,b)⟩::l) K :=
 .st bX (r:=some (.bS [])) rfl (.inr (.inl ⟨⟨t',h,.inr ⟨aP,rfl⟩⟩,rfl⟩)) ag aT aB bp hk
def n' (G:List (Nat × ab)):Bool:=G.all λp=>match p.2 with | .bL ..=>false | _=>true
theorem xW {G:List (Nat × ab)}(h:n' G=true):∀ t z q n m new,get G t≠some (.bL z q n m new):=by
 induction G with
 | nil=>intro t z q n m new J; cases J
 | cons p G aM =>
  grind [n',get]
def xU:List Place->Bool
 | []=>true
 | p::l=>l.all (λq=>!(Nat.beq p.root q.root&&decide (p.path=q.path)))&&xU l
omit [cE] in
theorem KW:∀ {l:List Place},xU l=true->l.Nodup
 | [],_=>List.nodup_nil
 | p::l,h=>by
  simp only [xU,Bool.and_eq_true,List.all_eq_true] at h;refine List.nodup_cons.2 ⟨λhm=>?_,KW h.2⟩;have:=h.1 p hm;simp at this
theorem bC.fin {G G1:List (Nat × ab)}(aX:xU (acc.filterMap k7)=true) (fL:n' G=true) (hi:Nat.ble i ops.size=true) (h:Trim true (dr (get G) (λ_=>true) acc) (get G1) G1):bC P N ops bj (get G) i acc [] λg'=>np g' (get G1):=by
 intro dA j bQ lR mc;have ag:j=ops.size:=by
  have h1:ops.size<=j:=by
   have:=congrArg List.length mc;rw [List.length_drop,List.length_nil,Array.length_toList] at this;omega
  have aD:j<=ops.size:=by
   cases lR with
   | nil=>exact Nat.le_of_ble_eq_true hi
   | step _ aW=>have:=(Array.getElem?_eq_some_iff.1 aW).1; omega
  omega
 subst ag;exact ⟨_,.fin lR (KW aX) (xW fL),h.e5⟩
theorem sP.Tk {g g1 g':aL}{i j:Nat}{dA:Acc}{o:Oper}(bQ:ni P N ops bj g i dA) (aw:iD P N ops bj g i dA j acc) (gN:(acc.filterMap k7).Nodup) (fL:∀ t z q n m new,g t≠some (.bL z q n m new)) (aW:ops[j]?=some o) (hw:iE (dr g (λ_=>true) acc) ops o true)
  (he:bc P N (dr g (λ_=>true) acc) o g1) (aI:(List.range j).all (λk=>(bj.getD j []).contains k)=true) (au:(List.range ops.size).all (λk=>decide (k<=j)||(bj.getD k []).contains j)=true) (hr:sP P N ops bj (j+1) [] g1 g'):sP P N ops bj i dA g g':=by
 have dI:∀ e∈acc,(bj.getD j []).contains e.1=true:=λe h=>List.all_eq_true.1 aI e.1 (List.mem_range.2 ((aw.le bQ).2 e h));have e:dr g (λm=>(bj.getD j []).contains m) acc=dr g (λ_=>true) acc:=funext λt=>Eh λe h _=>dI e h;have fi:[]=acc.filter λe=>!(bj.getD j []).contains e.1:=by
  grind [List.filter_eq_nil_iff]
 exact .Bs (rs:=sC []) aw gN fL aW (by rw [e]; exact hw) (by rw [e]; exact he.iv.v) (λp aq=>by simp [sC] at aq) fi (by simp) (by simp) (by simp) au hr
theorem W.rd {id:Nat}{l:List Oper}{G:List (Nat × ab)}{Φ:Exit->aL->Prop}(bj:List (List Nat)) (G1:List (Nat × ab)) (hm:P.follows .mixedOrders=true) (dI:qd l.toArray bj=true)
  (h:bC P N l.toArray bj (get G) 0 [] l λg'=>np g' (get G1)) (hk:ax .normal Φ G1):W P N (.region id l.toArray true) (get G) Φ:=by
 obtain ⟨g',h1,af⟩:=h [] 0 .nil .nil (by simp);exact (lB.draw hm dI h1).w (hk g' (.e5 af .hX))
end
end Go.Own
namespace Go.Own
open Go
variable [cE]
variable {α:Type}
section
variable {P:Program}{N:cN}{ops:Array Oper}{g g2:aL}{K:aL->Prop}{l:List Oper}{d r:Nat}{ty t t2:TypeId}{pos:String}{after:Array Edge}{a b c:Operand}{k j8:IntKind}{m n:Int}{s u:ByteArray}
namespace O
theorem dv {e:TypeId}{z:Value}{cs:List ab}(aX:(P.info? e).bind (·.zero)=some z) (h1:z.cells.toList.all Value.oneCell'=true) (aa:z.cells.toList.map kq=cs):bT P g (.alloc e) ty (.obj cs):=by
 subst aa; exact .rB (.alloc aX (by rw [<- Array.all_toList]; exact h1))
theorem dS {t:TypeId}{parts:Array (Nat × Operand)}{pl:List (Nat × Nat)}{cW:Value}{ps:List (Nat × List ab)}{cs:List ab}(ar:jR P t pl=true) (aX:(P.info? t).bind (·.zero)=some cW) (h1:cW.cells.toList.all Value.oneCell'=true)
  (aq:rC g parts.toList=some ps) (aa:vf (λi=>pl[i]?) (cW.cells.toList.map kq) ps=some cs):bT P g (.build t parts) ty (.agg cs):=.Ak (.build ar aX (by rw [<- Array.all_toList]; exact h1) aq aa)
end O
inductive p' (g g2:aL):ab->Prop
 | n {x:ab}(h:cC x):p' g g2 x
 | p {r k:Nat}{cs cs2:List ab}(h:g r=some (.obj cs)) (hk:k<cs.length) (af:g2 r=some (.obj cs2)) (fy:k<cs2.length):p' g g2 (.ptr ⟨r,[]⟩ k)
 | r {z n N Mi q:Nat}{cs cs2:List ab}(h:g q=some (.own z N cs)) (aB:n<=N) (af:g2 q=some (.own z Mi cs2)) (rh:n<=Mi):p' g g2 (.a6 z ⟨q,[]⟩ n)
theorem uK {r k:Nat}{cs:List ab}(h:g r=some (.obj cs)) (hk:k<cs.length):gA g (.ptr ⟨r,[]⟩ k):=⟨.obj cs,by simp [bG,h,ab.at],0,0,cs,.inr rfl,hk⟩
theorem AX {z n N q:Nat}{cs:List ab}(h:g q=some (.own z N cs)) (aB:n<=N):gA g (.a6 z ⟨q,[]⟩ n):=.inl ⟨N,cs,by simp [bG,h,ab.at],aB⟩
theorem p'.bY {x:ab}(h:p' g g2 x):cS g2 x:=by
 cases h with
 | n h=>exact .bk h
 | p _ _ af fy=>exact .ref rfl (uK af fy)
 | r _ _ af rh=>exact .ref rfl (AX af rh)
theorem p'.wi {x:ab}{AW k0 m0:Nat}(h:p' g g2 x):jA (λr=>gA g r/\Clear ⟨AW,[]⟩ k0 m0 r/\gA g2 r) x:=by
 cases h with
 | n h=>exact .bk h
 | p h hk af fy =>
  refine .ref rfl ⟨uK h hk,?_,uK af fy⟩;intro q a8 _ j c' e
  grind [AY]
 | r h hk af fy =>
  refine .ref rfl ⟨AX h hk,?_,AX af fy⟩;intro q a8 _ j c' e
  grind [AY]
theorem p'.fE {x:ab}(h:p' g g2 x):∀ z p n m new,x≠.bL z p n m new:=by
 rintro z p n m new rfl;cases h with
 | n h=>cases h
inductive lh (g g2:aL) (r:Nat) (cs2:List ab):List (Nat × ab)->Prop
 | nil:lh g g2 r cs2 []
 | n {s:Nat}{x:ab}{l:List (Nat × ab)}(cO:Nat.beq s r=false) (h:g s=some x) [aB:b6 x] (t:lh g g2 r cs2 l):lh g g2 r cs2 ((s,x)::l)
 | p {s q k:Nat}{l:List (Nat × ab)}{cs kA:List ab}(cO:Nat.beq s r=false) (h:g s=some (.ptr ⟨q,[]⟩ k)) (h1:g q=some (.obj cs)) (hk:Nat.blt k cs.length=true) (af:g2 q=some (.obj kA)) (fy:Nat.blt k kA.length=true) (t:lh g g2 r cs2 l):lh g g2 r cs2 ((s,.ptr ⟨q,[]⟩ k)::l)
 | w {α:Type}{s q:Nat}{en:bN α}{L:List α}{l:List (Nat × ab)}(cO:Nat.beq s r=false) (h:g s=some (.a6 en.z ⟨q,[]⟩ L.length)) (h1:g q=some (aC en L)) (af:g2 q=some (aC en L)) (t:lh g g2 r cs2 l):lh g g2 r cs2 ((s,.a6 en.z ⟨q,[]⟩ L.length)::l)
 | b {l:List (Nat × ab)}{x:ab}(e:x=.obj cs2) [aB:dk cs2] (t:lh g g2 r cs2 l):lh g g2 r cs2 ((r,x)::l)
theorem lh.spec {cs2:List ab}{l:List (Nat × ab)}(h:lh g g2 r cs2 l):∀ t x,get l t=some x->(t≠r/\g t=some x/\p' g g2 x)\/(t=r/\x=.obj cs2/\cC x):=by
 induction h with
 | nil=>intro t x J; cases J
 | @n s x l cO h aB _ aM =>
  intro t y ao; simp only [get] at ao
  split at ao
  ·rename_i e; subst e; cases ao; exact .inl ⟨Nat.ne_of_beq_eq_false cO,h,.n aB.bk⟩
  ·exact aM t y ao
 | @p s q k l cs kA cO h h1 hk af fy _ aM =>
  intro t y ao; simp only [get] at ao
  split at ao
  ·rename_i e; subst e; cases ao; exact .inl ⟨Nat.ne_of_beq_eq_false cO,h,.p h1 (by simpa using hk) af (by simpa using fy)⟩
  ·exact aM t y ao
 | @w α s q en L l cO h h1 af _ aM =>
  intro t y ao; simp only [get] at ao
  split at ao
  ·rename_i e; subst e; cases ao; exact .inl ⟨Nat.ne_of_beq_eq_false cO,h,.r h1 (Nat.le_refl _) af (Nat.le_refl _)⟩
  ·exact aM t y ao
 | @b l x e aB _ aM =>
  intro t y ao; simp only [get] at ao
  split at ao
  ·rename_i b1; subst b1; cases ao; subst e; exact .inr ⟨rfl,rfl,.obj aB.bk⟩
  ·exact aM t y ao
theorem bc.box {o:Oper}{k0:Nat}{cs cs' cs2:List ab}{y:ab}{G2:List (Nat × ab)}(aW:o.op=.store t a b) (aO:o.dst=none) (aw:g r=some (.obj cs)) (aI:Rd g a (.ptr ⟨r,[]⟩ k0)) (au:Rd g b y) (aB:cC y) (aa:o1 y=some cs') (aX:hq P t cs'.length=true)
  (hk:k0+cs'.length<=cs.length) (aK:0<cs'.length) (he:eX cs k0 cs'=cs2) [eH:dk cs] (hr:get G2 r≠none) (cY:lh g (get G2) r cs2 G2):bc P N g o (get G2):=by
 subst he;have j3:g r≠none:=by rw [aw]; simp
 refine .store aW aO aI.bs au.bs (.bk (by simpa using aB)) .refl aa aX (p:=⟨r,[]⟩) (nd:=.obj cs) (z:=0) (n:=0) (by simp [bG,aw,ab.at]) (.inr rfl) hk aK (λt x J=>?_) (λt x J y ao=>?_) (λt z q n m new J=>?_) hr
 ·rcases cY.spec t x J with ⟨h1,af,_⟩ | ⟨h1,af,_⟩
  all_goals grind [cn,ab.setAt,ab.eX]
 ·rcases cY.spec t x J with ⟨h1,af,aD⟩ | ⟨h1,af,aD⟩
  ·rw [af] at ao;cases ao;exact aD.wi
  ·subst h1;rw [aw] at ao;cases ao;exact .bk (.obj eH.bk)
 ·rcases cY.spec t _ J with ⟨_,_,aD⟩ | ⟨_,af,_⟩
  ·exact aD.fE _ _ _ _ _ rfl
  grind
theorem Trim.q {HM:Bool}{GR q k0:Nat}{cs:List ab}{PA:List (Nat × ab)}(h:g GR=some (.ptr ⟨q,[]⟩ k0)) (af:g2 q=some (.obj cs)) (hk:Nat.blt k0 cs.length=true) (mr:Trim HM g g2 PA):Trim HM g g2 ((GR,.ptr ⟨q,[]⟩ k0)::PA) :=
 .r h (.ref rfl (uK af (by simpa using hk))) (by simp) mr
theorem aE.ji {o:Oper}{G2:List (Nat × ab)}(aP:o.guard=none) (he:bc P N g o (get G2)) (hk:aE P N ops l (get G2) K):aE P N ops (o::l) g K:=by
 intro i hi;obtain ⟨h1,af⟩:=drop_cons hi;obtain ⟨g',hr,cZ⟩:=hk (i+1) af;refine ⟨g',.iv h1 ?_ he hr,cZ⟩
 grind [iE]
theorem aE.j_ {k0:Nat}{cs cs' cs2:List ab}{y:ab}{G2:List (Nat × ab)}(aw:g r=some (.obj cs)) (aI:Rd g a (.ptr ⟨r,[]⟩ k0)) (au:Rd g b y) [aB:b6 y] (aa:o1 y=some cs') (aX:hq P t cs'.length=true)
  (hk:Nat.ble (k0+cs'.length) cs.length=true) (aK:Nat.blt 0 cs'.length=true) (he:eX cs k0 cs'=cs2) [eH:dk cs] (hr:(get G2 r).isSome=true) (cY:lh g (get G2) r cs2 G2) (JI:aE P N ops l (get G2) K):aE P N ops (⟨none,.store t a b,ty,pos,after,none⟩::l) g K :=
 .ji rfl (.box rfl rfl aw aI au aB.bk aa aX (Nat.le_of_ble_eq_true hk) (by simpa using aK) he (by intro e; rw [e] at hr; cases hr) cY) JI
variable {bj:List (List Nat)}{acc:Acc}{i:Nat}
end
end Go.Own
namespace Go.Own
open Go
variable [cE]
variable {α β:Type}
def oP (m:Int) (z:α):Option (List α):=if 0<=m/\m<=lim then some (List.replicate m.toNat z) else none
def cT (l m:List α):Option (List α):=if l.length+m.length<=lim then some (l++m) else none
class Flat (e:bN α):Prop where hJ:∀ a,(e.cells a).all l'=true
instance:Flat ai:=⟨λ_=>rfl⟩
theorem aaj (e:bN α) [h:Flat e] (l:List α):(bA e l).all l'=true:=by
 refine List.all_eq_true.2 λx J=>?_;obtain ⟨a,_,aI⟩:=List.mem_flatMap.1 J;exact List.all_eq_true.1 (h.hJ a) x aI
theorem pe (e:bN α) (l m:List α):(.own e.z (l.length+m.length) (bA e l++bA e m):ab)=aC e (l++m):=by
 grind [QJ]
theorem wk (e:bN α) (l:List α):(bA e l).take (l.length * e.z)=bA e l:=by grind [oR]
theorem QL:∀ L:List Int,bA r5 L=L.map λb=>.lit (.int .u8 b)
 | []=>rfl
 | x::L=>by
  have:bA r5 (x::L)=rZ x::bA r5 L:=rfl;rw [this,List.map_cons,QL L]
section
variable {P:Program}{N:cN}{ops:Array Oper}{g g1 g2:aL}{K:aL->Prop}{l:List Oper}{d r:Nat}{ty t t2:TypeId}{pos:String}{after:Array Edge}{gd:Option (Nat × Bool)}{a b c:Operand}{k j8:IntKind}{m n:Int}{s u:ByteArray}{p q:Place}
namespace O
theorem c8 {e eW:Nat}{parts:Array (Nat × Operand)}{ys:List ab}(en:bN α) (L:List α) (ar:fk P t e en.z=true) (J:hc g (parts.toList.map (·.2))=some ys) (aa:o0 ys=some (bA en L)) (aX:ys.all (λy=>match jZ y with | some c=>Nat.beq c.length en.z | none=>false)=true)
  (aq:parts.toList=(parts.toList.map (·.2)).mapIdx (λi x=>(i,x))) (aB:(parts.toList.map (·.2)).length=eW) (ah:L.length=eW) (hzero:i_ P e en.z=true) (au:Nat.ble (eW * en.z) 16777216=true) (fj:Nat.ble eW 16777216=true):bT P g (.buildSlice t eW parts) ty (aC en L):=by
 subst aB;have:=oq.buildSlice (P:=P) (ty:=ty) ar aq J (λy ao=>by
  grind [Nat.eq_of_beq_eq_true]) aa (Nat.le_of_ble_eq_true au) (Nat.le_of_ble_eq_true fj) (.inr (RS hzero))
 unfold aC;rw [ah];exact .rB this
theorem lu {z bR n:Nat}{e:TypeId}(J:Rd g a (.a6 z p n)) (ar:fk P t e bR=true):bT P g (.call { callee:=.builtin .len,args:=#[a],argTypes:=#[t] }) ty (ae n):=.ew (.FX J.bs ar)
theorem gH {en:bN α}{L:List α}{y:α}{e:TypeId}(aq:bG g p=some (aC en L)) (J:Rd g a (.a6 en.z p L.length)) (hi:Rd g b (.lit (.int k m))) (ar:fk P t e en.z=true) (h:idx L m=some y) (aX:Nat.blt 0 en.z=true):bT P g (.indexAddr t a b) ty (.ptr p (m.toNat * en.z+0)):=by
 obtain ⟨aK,h1,_⟩:=mi h;obtain ⟨j,rfl⟩:=Int.eq_ofNat_of_zero_le aK;have Pa:0<en.z:=by simpa using aX
 have ag:j<L.length:=by omega
 refine .ew (.FK J.bs hi.bs ar ag ⟨_,aq,_,_,_,.inl rfl,?_⟩)
 simp_all [oR]
theorem aae {en:bN α}{L:List α}{y:α}{o:Nat}(h:idx L m=some y) (aW:o<en.z):m.toNat * en.z+o<(bA en L).length:=by
 obtain ⟨aK,h1,_⟩:=mi h;rw [oR];have af:m.toNat+1<=L.length:=by omega
 calc m.toNat * en.z+o<m.toNat * en.z+en.z:=by omega
  _=(m.toNat+1) * en.z:=by rw [Nat.add_mul]; omega
  _<=L.length * en.z:=Nat.mul_le_mul_right _ af
theorem kB {en:bN α}{L:List α}{y:α}{cy f off o fR:Nat}(aq:bG g p=some (aC en L)) (J:Rd g a (.ptr p (m.toNat * en.z+o))) (aT:iR P cy f off t=true) (h:idx L m=some y) (aW:o+off=fR) (aN:Nat.blt fR en.z=true):bT P g (.fieldAddr cy a f) ty (.ptr p (m.toNat * en.z+fR)):=by
 subst aW;rw [<- Nat.add_assoc];refine .ew (.BQ J.bs aT ⟨_,aq,_,_,_,.inl rfl,?_⟩)
 simp_all [Nat.add_assoc,aae]
theorem u9 {en:bN α}{L:List α}{y:α}{o:Nat}{x:ab}(aq:bG g p=some (aC en L)) (h:idx L m=some y) (aa:(en.cells y)[o]?=some x):bG g (p.push (m.toNat * en.z+o))=some x:=by
 rw [tL,aq];exact Ll en h aa
theorem jM {en:bN α}{L:List α}{y:α}{o:Nat}{x x':ab}(aq:bG g p=some (aC en L)) (J:Rd g a (.ptr p (m.toNat * en.z+o))) (ar:j0 P t=true) (h:idx L m=some y) (aa:(en.cells y)[o]?=some x) (hr:fW 0 (p.push (m.toNat * en.z+o)) x=x'):bT P g (.load t a) ty x':=by
 subst hr;exact .ew (.C9 J.bs ar (u9 aq h aa))
theorem YW {en:bN α}{L:List α}{y:α}{o z:Nat}{cs':List ab}(aq:bG g p=some (aC en L)) (J:Rd g a (.ptr p (m.toNat * en.z+o))) (ar:h3 P t z=true) (h:idx L m=some y) (aX:Nat.ble (o+z) en.z=true)
  (aa:(((en.cells y).drop o).take z).mapIdx (λi x=>fW 0 (p.push (m.toNat * en.z+o+i)) x)=cs'):bT P g (.load t a) ty (.agg cs'):=by
 have Pa:=Nat.le_of_ble_eq_true aX;have mc:((bA en L).drop (m.toNat * en.z+o)).take z=((en.cells y).drop o).take z:=by
  rw [<- List.drop_drop,Lm en h,List.drop_append_of_le_length (by rw [en.len]; omega),List.take_append_of_le_length (by rw [List.length_drop,en.len]; omega)]
 subst aa;rw [<- mc];refine .ew (.z6 J.bs ar aq (.inl rfl) ?_);obtain ⟨aK,h1,_⟩:=mi h;rw [oR];have af:m.toNat+1<=L.length:=by omega
 calc m.toNat * en.z+o+z<=m.toNat * en.z+en.z:=by omega
  _=(m.toNat+1) * en.z:=by rw [Nat.add_mul]; omega
  _<=L.length * en.z:=Nat.mul_le_mul_right _ af
end O
class rV (g:aL):Prop where fE:∀ t z q n m new,g t≠some (.bL z q n m new)
class p5 (x:ab):Prop where fE:∀ z q n m new,x≠.bL z q n m new
instance {x:ab} [h:b6 x]:p5 x:=⟨by rintro z q n m new rfl; cases h.bk⟩
instance {p:Place}{k:Nat}:p5 (.ptr p k):=⟨by simp⟩
instance {p:Place}{z n:Nat}:p5 (.a6 z p n):=⟨by simp⟩
instance {cs:List ab}:p5 (.agg cs):=⟨by simp⟩
instance {cs:List ab}:p5 (.obj cs):=⟨by simp⟩
instance {g:aL}{d:Nat}{x:ab} [h:rV g] [J:p5 x]:rV (cR g d x):=⟨λt z q n m new e=>by
 unfold cR at e
 split at e
 ·cases e; exact J.fE _ _ _ _ _ rfl
 ·exact h.fE _ _ _ _ _ _ e⟩
instance:rV (get []):=⟨λ_ _ _ _ _ _ e=>by cases e⟩
instance {t:Nat}{x:ab}{G:List (Nat × ab)} [J:p5 x] [h:rV (get G)]:rV (get ((t,x)::G)):=⟨λs z q n m new e=>by
 simp only [get] at e
 split at e
 ·cases e; exact J.fE _ _ _ _ _ rfl
 ·exact h.fE _ _ _ _ _ _ e⟩
class EF (acc:Acc):Prop where fE:∀ e∈acc,∀ z q n m new,e.2.2≠some (.bL z q n m new)
instance:EF []:=⟨by simp⟩
instance {j d:Nat}{x:ab}{acc:Acc} [J:p5 x] [h:EF acc]:EF ((j,d,some x)::acc):=⟨λe he z q n m new bP=>by
 rcases List.mem_cons.1 he with rfl | he
 ·exact J.fE z q n m new (Option.some.inj bP)
 ·exact h.fE e he z q n m new bP⟩
instance {G:List (Nat × ab)}{A:Nat->Bool}{acc:Acc} [aP:rV (get G)] [h:EF acc]:rV (dr (get G) A acc):=⟨λt z q n m new e=>by
 rcases uV e with ⟨b1,he,_,_,af⟩ | ⟨_,af⟩
 ·exact h.fE b1 he _ _ _ _ _ af
 ·exact aP.fE _ _ _ _ _ _ af⟩
theorem u6 {L M:List α}{r:List α}{b:Nat}(h:cT L M=some r) (au:Nat.ble b 128=true):L.length+M.length<=4611686018427387904/\(L.length+M.length) * b<=140737488355328/\r=L++M:=by
 unfold cT at h
 split at h
 ·rename_i ah;have j2:=Nat.le_of_ble_eq_true au;have Co:lim=1099511627776:=rfl;refine ⟨by omega,?_,(Option.some.inj h).symm⟩
  calc (L.length+M.length) * b<=1099511627776 * 128:=Nat.mul_le_mul ah j2
   _=140737488355328:=by decide
 ·cases h
inductive nm (g:aL) (en:bN α):ab->List α->Prop
 | i {M:List α}:nm g en (.bd en.z M.length (bA en M)) M
 | n:nm g en .aQ []
 | o {q:Place}{M:List α}(a8:bG g q=some (aC en M)) (aT:(bA en M).all l'=true):nm g en (.a6 en.z q M.length) M
 | of {y:ab}{M:List α}(h:Src g y en.z M.length (bA en M)):nm g en y M
theorem nm.src {en:bN α}{y:ab}{M:List α}(h:nm g en y M):Src g y en.z M.length (bA en M):=by
 cases h with
 | i=>exact .bd
 | n=>exact .aQ
 | of h=>exact h
 | o a8 aT =>
  have:=Src.a6 (g:=g) (m:=M.length) a8 (Nat.le_refl _)
  simp_all [wk,BS]
theorem nm.flat (en:bN α) [Flat en] {q:Place}{M:List α}(a8:bG g q=some (aC en M)):nm g en (.a6 en.z q M.length) M:=.o a8 (aaj en M)
namespace O
theorem ap {en:bN α}{L M r:List α}{y:ab}{e fP:Nat}(aw:Rd g a (.a6 en.z p L.length)) (aq:bG g p=some (aC en L)) (J:Rd g b y) (hm:nm g en y M) (ar:h4 P t e en.z fP=true) (au:Nat.ble fP 128=true) (h:cT L M=some r) [eH:rV g] :
  bT P g (.call { callee:=.builtin .append,args:=#[a,b],argTypes:=#[t,t] }) ty (.bL en.z p L.length M.length (bA en M)):=by
 obtain ⟨h1,af,_⟩:=u6 h au;exact .lX (.grow aw.bs (.inl ⟨_,aq⟩) (λt bR cr m' cL e=>eH.fE _ _ _ _ _ _ e) J.bs hm.src ar h1 af)
theorem SZ {en:bN α}{M r:List α}{y:ab}{e fP:Nat}(aw:Rd g a .aQ) (J:Rd g b y) (hm:nm g en y M) (ar:h4 P t e en.z fP=true) (au:Nat.ble fP 128=true) (h:cT [] M=some r) :
  bT P g (.call { callee:=.builtin .append,args:=#[a,b],argTypes:=#[t,t] }) ty (aC en M):=by
 obtain ⟨h1,af,_⟩:=u6 h au;simp only [List.length_nil,Nat.zero_add] at h1 af;exact .lX (.nil aw.bs J.bs hm.src ar h1 af)
end O
inductive nn (ex:List Nat) (g g2:aL):List (Nat × ab)->Prop
 | nil:nn ex g g2 []
 | n {s:Nat}{x:ab}{l:List (Nat × ab)}(cO:ex.elem s=false) (h:g s=some x) [aB:b6 x] (t:nn ex g g2 l):nn ex g g2 ((s,x)::l)
 | p {s q k:Nat}{l:List (Nat × ab)}{kA:List ab}(cO:ex.elem s=false) (h:g s=some (.ptr ⟨q,[]⟩ k)) (af:g2 q=some (.obj kA)) (fy:Nat.blt k kA.length=true) (t:nn ex g g2 l):nn ex g g2 ((s,.ptr ⟨q,[]⟩ k)::l)
 | w {α:Type}{s q:Nat}{en:bN α}{L:List α}{l:List (Nat × ab)}(cO:ex.elem s=false) (h:g s=some (.a6 en.z ⟨q,[]⟩ L.length)) (af:g2 q=some (aC en L)) (t:nn ex g g2 l):nn ex g g2 ((s,.a6 en.z ⟨q,[]⟩ L.length)::l)
theorem nn.spec {ex:List Nat}{l:List (Nat × ab)}(h:nn ex g g2 l):∀ t x,get l t=some x->ex.elem t=false/\g t=some x/\cS g2 x/\∀ z p n m new,x≠.bL z p n m new:=by
 induction h with
 | nil=>intro t x J; cases J
 | @n s x l cO h aB _ aM =>
  intro t y ao; simp only [get] at ao
  split at ao
  ·rename_i e; subst e; cases ao; exact ⟨cO,h,.bk aB.bk,by rintro z p n m new rfl; cases aB.bk⟩
  ·exact aM t y ao
 | @p s q k l kA cO h af fy _ aM =>
  intro t y ao; simp only [get] at ao
  split at ao
  ·rename_i e; subst e; cases ao; exact ⟨cO,h,.ref rfl (uK af (by simpa using fy)),by simp⟩
  ·exact aM t y ao
 | @w α s q en L l cO h af _ aM =>
  intro t y ao; simp only [get] at ao
  split at ao
  ·rename_i e; subst e; cases ao; exact ⟨cO,h,.ref rfl (.inl ⟨_,_,(by simp [bG,af,ab.at]:bG g2 ⟨q,[]⟩=some (aC en L)),Nat.le_refl _⟩),by simp⟩
  ·exact aM t y ao
theorem nn.keep {ex:List Nat}{G2:List (Nat × ab)}(h:nn ex g (get G2) G2) (aP:∀ t,ex.elem t=false->g1 t=g t):il g1 (get G2) :=
 ⟨λt x J=>by obtain ⟨h1,af,_⟩:=h.spec t x J; rw [aP t h1]; exact af,λt x J=>(h.spec t x J).2.2.1,λt z q n m new J=>(h.spec t _ J).2.2.2 _ _ _ _ _ rfl⟩
theorem Take.row {en:bN α}{L:List α}(aq:bG g p=some (aC en L)):Take g [.a6 en.z p L.length] [aC en L] (cn g p .dead):=by
 have h1:Take (cn g p .dead) ((bA en L).take (L.length * en.z)) (bA en L) (cn g p .dead):=by
  rw [wk]; exact .bk (oc en L)
 exact .a6 aq (Nat.le_refl _) h1 (.bk (by simp))
theorem Take.aag {en:bN α}{L M:List α}{s:Nat}(aw:g s=some (.bL en.z q L.length M.length (bA en M))) (aq:bG g q=some (aC en L)) (a8:q.root≠s):Take g [.a6 en.z ⟨s,[]⟩ (L.length+M.length)] [aC en (L++M)] (cn (cn g ⟨s,[]⟩ .dead) q .dead):=by
 rw [<- pe];exact .bL aw aq a8 (.bk λx J=>(List.mem_append.1 J).elim (oc en L x) (oc en M x)) (.bk (by simp))
theorem Take.aah {en:bN α}{L M M2:List α}{s s2:Nat}(aw:g s=some (.bL en.z ⟨s2,[]⟩ (L.length+M2.length) M.length (bA en M))) (j4:g s2=some (.bL en.z q L.length M2.length (bA en M2))) (aq:bG g q=some (aC en L)) (a8:q.root≠s) (rk:q.root≠s2) (CG:s≠s2) :
  Take g [.a6 en.z ⟨s,[]⟩ (L.length+M2.length+M.length)] [aC en (L++M2++M)] (cn (cn (cn g ⟨s,[]⟩ .dead) ⟨s2,[]⟩ .dead) q .dead):=by
 have:=Take.Al (g:=g) (xs:=[]) (xs':=[]) aw j4 rfl aq a8 rk CG (.bk (xs:=bA en L++bA en M2++bA en M) λx J=>by
  grind [oc]) (.bk (by simp))
 grind [QJ]
theorem uO {t:Nat}{y:ab}(h:t≠p.root):cn g p y t=g t:=by
 grind [cn]
theorem zv {ex:List Nat}{t s:Nat}(h:ex.elem t=false) (aw:ex.elem s=true):t≠s:=by
 grind
theorem bc.EO {o:Oper}{en:bN α}{L:List α}{x:Operand}{G2:List (Nat × ab)}(aW:o.op=.assign x) (aO:o.dst=some d) (J:Rd g x (.a6 en.z p L.length)) (aq:bG g p=some (aC en L)) (cY:nn [p.root] g (get G2) G2) (aP:get G2 d=none) (bp:N.ok d=true):bc P N g o (cR (get G2) d (aC en L)) :=
 .assign aW aO J.bs (.row aq) .refl (cY.keep λt ar=>uO (zv ar (by simp))) aP bp
theorem bc.Mu {o:Oper}{en:bN α}{L M:List α}{s:Nat}{x:Operand}{G2:List (Nat × ab)}(aW:o.op=.assign x) (aO:o.dst=some d) (J:Rd g x (.a6 en.z ⟨s,[]⟩ (L.length+M.length))) (aw:g s=some (.bL en.z q L.length M.length (bA en M))) (aq:bG g q=some (aC en L)) (a8:Nat.beq q.root s=false)
  (cY:nn [s,q.root] g (get G2) G2) (aP:get G2 d=none) (bp:N.ok d=true):bc P N g o (cR (get G2) d (aC en (L++M))) :=
 .assign aW aO J.bs (.aag aw aq (Nat.ne_of_beq_eq_false a8)) .refl (cY.keep λt ar=>by rw [uO (zv ar (by simp)),uO (zv ar (by simp))]) aP bp
theorem bc.SB {o:Oper}{en:bN α}{L M M2:List α}{s s2:Nat}{x:Operand}{G2:List (Nat × ab)}(aW:o.op=.assign x) (aO:o.dst=some d) (J:Rd g x (.a6 en.z ⟨s,[]⟩ (L.length+M2.length+M.length))) (aw:g s=some (.bL en.z ⟨s2,[]⟩ (L.length+M2.length) M.length (bA en M)))
  (j4:g s2=some (.bL en.z q L.length M2.length (bA en M2))) (aq:bG g q=some (aC en L)) (a8:Nat.beq q.root s=false) (rk:Nat.beq q.root s2=false) (CG:Nat.beq s s2=false)
  (cY:nn [s,s2,q.root] g (get G2) G2) (aP:get G2 d=none) (bp:N.ok d=true):bc P N g o (cR (get G2) d (aC en (L++M2++M))) :=
 .assign aW aO J.bs (.aah aw j4 aq (Nat.ne_of_beq_eq_false a8) (Nat.ne_of_beq_eq_false rk) (Nat.ne_of_beq_eq_false CG)) .refl (cY.keep λt ar=>by rw [uO (zv ar (by simp)),uO (zv ar (by simp)),uO (zv ar (by simp))]) aP bp
theorem aE.q_ {o:Oper}{x:ab}{G2:List (Nat × ab)}(aP:o.guard=none) (he:bc P N g o (cR (get G2) d x)) (hk:aE P N ops l (cR (get G2) d x) K):aE P N ops (o::l) g K:=by
 intro i hi;obtain ⟨h1,af⟩:=drop_cons hi;obtain ⟨g',hr,cZ⟩:=hk (i+1) af;refine ⟨g',.iv h1 ?_ he hr,cZ⟩
 grind [iE]
theorem r6 {x:ab}{G:List (Nat × ab)}:cR (get G) d x=get ((d,x)::G):=by
 grind [cR,get]
variable {bj:List (List Nat)}{acc:Acc}{i:Nat}
end
section
variable {P:Program}{N:cN}{ops:Array Oper}{g g' g1 g2:aL}{K:aL->Prop}{l:List Oper}{d r:Nat}{ty t t2:TypeId}{pos:String}{after:Array Edge}{a b c:Operand}{p q:Place}{e:Exit}
inductive nM (s:Nat):aL->Nat->List ab->List ab->aL->Prop
 | nil {g:aL}{i:Nat}:nM s g i [] [] g
 | f {g g':aL}{i:Nat}{x:ab}{ys xs:List ab}(aT:l' x=true) [aB:b6 x] (ar:nM s g (i+1) ys xs g'):nM s g i (x::ys) (x::xs) g'
 | o {α:Type}{g g':aL}{i:Nat}{en:bN α}{L:List α}{ys xs:List ab}(aq:bG g ⟨s,[i]⟩=some (aC en L)) (ar:nM s (cn g ⟨s,[i]⟩ .dead) (i+1) ys xs g'):nM s g i (.a6 en.z ⟨s,[i]⟩ L.length::ys) (aC en L::xs) g'
theorem nM.take {s i:Nat}{ys xs:List ab}(h:nM s g i ys xs g'):Take g ys xs g':=by
 induction h with
 | nil=>exact .bk (by simp)
 | @f g g' i x ys xs aT aB _ aM=>exact .cons aB.bk aM
 | @o α g g' i en L ys xs aq _ aM =>
  refine .a6 aq (Nat.le_refl _) ?_ aM;rw [wk]; exact .bk (oc en L)
inductive kb (P:Program):aL->List ResultVar->List ab->List ab->aL->Prop
 | nil {g:aL}:kb P g [] [] [] g
 | f {g g':aL}{t:Nat}{x:ab}{rs:List ResultVar}{ys xs:List ab}(h:g t=some x) (aT:l' x=true) [aB:b6 x] (ar:kb P g rs ys xs g'):kb P g (.tmp t::rs) (x::ys) (x::xs) g'
 | o {α:Type}{g g':aL}{t:Nat}{en:bN α}{L:List α}{rs:List ResultVar}{ys xs:List ab}(h:g t=some (aC en L)) (ar:kb P (cn g ⟨t,[]⟩ .dead) rs ys xs g'):kb P g (.tmp t::rs) (.a6 en.z ⟨t,[]⟩ L.length::ys) (aC en L::xs) g'
 | c {g g' w3:aL}{t z:Nat}{ty:TypeId}{cs ys0:List ab}{rs:List ResultVar}{ys xs:List ab}(h:g t=some (.obj cs)) (ar:h3 P ty z=true) (aX:cs.length=z) (aK:Nat.blt 0 z=true) (ao:(cs.mapIdx λi x=>fW 0 ⟨t,[i]⟩ x)=ys0) (hk:nM t g 0 ys0 cs w3) (hr:kb P w3 rs ys xs g'):kb P g (.cell t ty::rs) (.agg ys0::ys) (.agg cs::xs) g'
def yP (g0 g:aL):Prop:=∀ t x,g t=some x->(l' x=true\/(∃ z n cs,x=.own z n cs))->g0 t=some x
theorem yP.set {g0:aL}{t:Nat}{pp:List Nat}(h:yP g0 g) (aW:pp=[]\/∃ cs,g t=some (.obj cs)):yP g0 (cn g ⟨t,pp⟩ .dead):=by
 intro s x J aT;unfold cn at J
 split at J
 ·rename_i aw;simp only at aw J;subst aw;exfalso;cases aP:g s with
  | none=>rw [aP] at J; cases J
  | some y =>
   rw [aP] at J;simp only [Option.map_some,Option.some.injEq] at J;rcases aW with rfl | ⟨cs,aa⟩
   ·simp only [ab.setAt] at J;subst J;rcases aT with aT | ⟨_,_,_,aT⟩ <;> cases aT
   ·rw [aP] at aa;cases aa;have:∃ cs',x=.obj cs':=by
     subst J;cases pp with
     | nil=>simp only [ab.setAt] at aT; rcases aT with aT | ⟨_,_,_,aT⟩ <;> cases aT
     | cons k pp =>
      simp only [ab.setAt,ab.kids];split
      ·exact ⟨_,rfl⟩
      ·exact ⟨_,rfl⟩
    obtain ⟨cs',rfl⟩:=this;rcases aT with aT | ⟨_,_,_,aT⟩ <;> cases aT
 ·exact h s x J aT
theorem nM.UU {g0:aL}{s i:Nat}{ys xs:List ab}(h:nM s g i ys xs g'):(∃ cs,g s=some (.obj cs))->yP g0 g->yP g0 g':=by
 induction h with
 | nil=>exact λ_ h=>h
 | f _ _ aM=>exact aM
 | @o α g g' i en L ys xs aq _ aM =>
  intro aW aO;refine aM ?_ (aO.set (.inr aW));obtain ⟨cs,aa⟩:=aW;unfold cn;simp only [if_pos,aa,Option.map_some,ab.setAt,ab.kids];split
  ·exact ⟨_,rfl⟩
  ·exact ⟨_,rfl⟩
theorem nM.out {s i:Nat}{ys xs:List ab}(h:nM s g i ys xs g'):∀ t,t≠s->g' t=g t:=by
 induction h with
 | nil=>exact λ_ _=>rfl
 | f _ _ aM=>exact aM
 | o _ _ aM=>exact λt ar=>by rw [aM t ar,uO ar]
theorem kb.take {rs:List ResultVar}{ys xs:List ab}(h:kb P g rs ys xs g'):Take g ys xs g':=by
 induction h with
 | nil=>exact .bk (by simp)
 | @f g g' t x rs ys xs h aT aB _ aM=>exact .cons aB.bk aM
 | @o α g g' t en L rs ys xs h _ aM =>
  have aq:bG g ⟨t,[]⟩=some (aC en L):=by simp [bG,h,ab.at]
  refine .a6 aq (Nat.le_refl _) ?_ aM;rw [wk]; exact .bk (oc en L)
 | @c g g' w3 t z ty cs ys0 rs ys xs h ar aX aK ao hk _ aM=>exact .agg hk.take aM
theorem kb.vs {rs:List ResultVar}{ys xs:List ab}(h:kb P g rs ys xs g'):∀ g0:aL,yP g0 g->(∀ t ty,ResultVar.cell t ty∈rs->∀ cs,g t=some (.obj cs)->g0 t=some (.obj cs))->(rs.filterMap fun | .cell t _=>some t | _=>none).Nodup->tF P g0 rs ys:=by
 induction h with
 | nil=>exact λ_ _ _ _=>.nil
 | @f g g' t x rs ys xs h aT aB _ aM =>
  intro g0 aO au eA;exact .cons (.tmp (Rd.f (aO t x h (.inl aT)) aT)) (aM g0 aO (λt ty hm=>au t ty (List.mem_cons_of_mem _ hm)) (by simpa using eA))
 | @o α g g' t en L rs ys xs h _ aM =>
  intro g0 aO au eA;refine .cons (.tmp ?_) (aM g0 (aO.set (.inl rfl)) (λs ty hm cs aa=>?_) (by simpa using eA))
  ·have:=aO t _ h (.inr ⟨_,_,_,rfl⟩);simp [Own.bs,this,pg,fW]
  ·by_cases aw:s=t
   ·subst aw; simp [cn,h,ab.setAt] at aa
   ·rw [uO aw] at aa; exact au s ty (List.mem_cons_of_mem _ hm) cs aa
 | @c g g' w3 t z ty cs ys0 rs ys xs h ar aX aK ao hk _ aM =>
  intro g0 aO au eA;have h1:=au t ty (by simp) cs h;simp only [List.filterMap_cons,List.nodup_cons] at eA;refine .cons ?_ (aM g0 (hk.UU ⟨cs,h⟩ aO) (λs yz hm cs' aa=>?_) eA.2)
  ·have Pa:0<z:=by simpa using aK
   have J:Own.bs g0 (.tmp t)=some (.ptr ⟨t,[]⟩ 0):=by
    cases cs with
    | nil=>simp at aX; omega
    | cons c cs=>simp [Own.bs,h1,pg,fW]
   have:=df.z6 (P:=P) (ty:=ty) (p:=⟨t,[]⟩) (n:=0) (z:=0) J ar (by simp only [bG,h1,ab.at]) (.inr rfl) (show 0+z<=cs.length by omega);have hg:((cs.drop 0).take z).mapIdx (λi x=>fW 0 (Place.push ⟨t,[]⟩ (0+i)) x)=ys0:=by
    rw [List.drop_zero,List.take_of_length_le (by omega),<- ao];congr 1;funext i x;simp [Place.push]
   rw [hg] at this;exact .cell this
  ·have bU:s≠t:=by
    rintro rfl;exact eA.1 (List.mem_filterMap.2 ⟨.cell s yz,hm,rfl⟩)
   have:=hk.out s bU;rw [this] at aa;exact au s yz (List.mem_cons_of_mem _ hm) cs' aa
inductive q4 (g:aL) (pins:List Nat):Nat->List (Option ab)->Prop
 | nil {i:Nat}:q4 g pins i []
 | no {i:Nat}{os:List (Option ab)}(t:q4 g pins (i+1) os):q4 g pins i (none::os)
 | al {i:Nat}{x:ab}{os:List (Option ab)}(h:g i=some x) [aB:b6 x] (aq:pins.elem i=true) (t:q4 g pins (i+1) os):q4 g pins i (some x::os)
theorem q4.spec {pins:List Nat}{i:Nat}{os:List (Option ab)}(h:q4 g pins i os):∀ k x,os[k]?=some (some x)->g (i+k)=some x/\cC x/\i+k∈pins:=by
 induction h with
 | nil=>intro k x hk; simp at hk
 | no _ aM =>
  intro k x hk;cases k with
  | zero=>simp at hk
  | succ k=>have:=aM k x (by simpa using hk); rw [Nat.add_assoc,Nat.add_comm 1 k] at this; exact this
 | @al i y os h aB aq _ aM =>
  intro k x hk;cases k with
  | zero=>simp at hk; subst hk; exact ⟨h,aB.bk,by simpa using aq⟩
  | succ k=>have:=aM k x (by simpa using hk); rw [Nat.add_assoc,Nat.add_comm 1 k] at this; exact this
theorem Fin.ro {rs:List ResultVar}{ys xs:List ab}{res:ab}{outs:List (Option ab)}{n:Nat}(h:kb P g rs ys xs g') (he:pX xs=res) (eA:(rs.filterMap fun | .cell t _=>some t | _=>none).Nodup) (aW:q4 g' N.pins 0 outs) (ah:outs.length=n) (J:e=.normal\/e=.ret):Fin P N rs n outs res e g :=
 ⟨J,⟨ys,xs,g',h.vs g (λ_ _ h _=>h) (λ_ _ _ _ h=>h) eA,h.take,he.symm,λk x hk=>by have:=aW.spec k x hk; rw [Nat.zero_add] at this; exact this⟩,ah⟩
class jY (x y:ab):Prop where v:∀ g,View g x y
class f_ (xs ys:List ab):Prop where
 l:ys.length=xs.length
 v:∀ (g:aL) (k:Nat) (x y:ab),xs[k]?=some x->ys[k]?=some y->View g x y
class im (e b1:bN α):Prop where
 z:e.z=b1.z
 v:∀ a,f_ (e.cells a) (b1.cells a)
instance {v:Value}:jY (.lit v) (.lit v):=⟨λ_=>.self .lit (by simp) (by simp) (by simp) (by simp) (by simp)⟩
instance {z n:Nat}{cs:List ab} [h:dk cs]:jY (.bd z n cs) (.bd z n cs):=⟨λ_=>.self (.bd h.bk) (by simp) (by simp) (by simp) (by simp) (by simp)⟩
instance {e:bN α}:jY .aQ (aj e []):=⟨λ_=>.qE⟩
instance:f_ [] []:=⟨rfl,by simp⟩
instance {x y:ab}{xs ys:List ab} [h:jY x y] [aJ:f_ xs ys]:f_ (x::xs) (y::ys):=⟨by simp [aJ.l],λg k a b aI au=>by
 cases k with
 | zero=>simp at aI au; subst aI au; exact h.v g
 | succ k=>exact aJ.v g k a b (by simpa using aI) (by simpa using au)⟩
theorem Ej (e b1:bN α) [h:im e b1]:∀ L:List α,(bA b1 L).length=(bA e L).length/\∀ (g:aL) (k:Nat) (x y:ab),(bA e L)[k]?=some x->(bA b1 L)[k]?=some y->View g x y
 | []=>⟨rfl,by simp [bA]⟩
 | a::L=>by
  obtain ⟨h1,af⟩:=Ej e b1 L;have Va:∀ e:bN α,bA e (a::L)=e.cells a++bA e L:=λe=>by simp [bA]
  refine ⟨by rw [oR,oR,h.z],λg k x y J ao=>?_⟩;rw [Va] at J ao;by_cases hk:k<e.z
  ·rw [List.getElem?_append_left (by rw [e.len]; exact hk)] at J;rw [List.getElem?_append_left (by rw [b1.len,<- h.z]; exact hk)] at ao;exact (h.v a).v g k x y J ao
  ·rw [List.getElem?_append_right (by rw [e.len]; omega),e.len] at J;rw [List.getElem?_append_right (by rw [b1.len,<- h.z]; omega),b1.len,<- h.z] at ao;exact af g _ x y J ao
instance {e b1:bN α}{L:List α} [h:im e b1]:jY (aC e L) (aj b1 L):=⟨λg=>by
 have:=Ej e b1 L;show View g (.own e.z L.length (bA e L)) (.bd b1.z L.length (bA b1 L));rw [<- h.z];exact .own this.1 (this.2 g)⟩
instance:im ai ai:=⟨rfl,λa=>(inferInstance:f_ [ae a] [ae a])⟩
instance:im r5 r5:=⟨rfl,λa=>(inferInstance:f_ [rZ a] [rZ a])⟩
instance:im e1 e1:=⟨rfl,λa=>(inferInstance:f_ [bg a] [bg a])⟩
instance:im nU nU:=⟨rfl,λa=>(inferInstance:f_ [aZ a] [aZ a])⟩
instance {e:bN α}:im (bF e) (bF e):=⟨rfl,λa=>(inferInstance:f_ [aj e a] [aj e a])⟩
theorem View.row {e b1:bN α}{L:List α} [h:im e b1] (aq:bG g p=some (aC e L)):View g (.a6 e.z p L.length) (aj b1 L):=by
 have:=Ej e b1 L;show View g _ (.bd b1.z L.length (bA b1 L));rw [<- h.z];refine .a6 aq (Nat.le_refl _) (by rw [wk]; exact this.1) (λk x y J ao=>?_);rw [wk] at J;exact this.2 g k x y J ao
inductive oZ (g:aL):List ab->List ab->Prop
 | nil:oZ g [] []
 | s {x y:ab}{xs ys:List ab} [h:jY x y] (t:oZ g xs ys):oZ g (x::xs) (y::ys)
 | c {x y:ab}{xs ys:List ab}(h:View g x y) (t:oZ g xs ys):oZ g (x::xs) (y::ys)
theorem oZ.len {xs ys:List ab}(h:oZ g xs ys):ys.length=xs.length:=by
 induction h with
 | nil=>rfl
 | s _ aM=>simp [aM]
 | c _ _ aM=>simp [aM]
theorem oZ.get {xs ys:List ab}(h:oZ g xs ys):∀ (k:Nat) (x y:ab),xs[k]?=some x->ys[k]?=some y->View g x y:=by
 induction h with
 | nil=>intro k x y J; simp at J
 | @s x y xs ys h _ aM =>
  intro k a b aI au;cases k with
  | zero=>simp at aI au; subst aI au; exact h.v g
  | succ k=>exact aM k a b (by simpa using aI) (by simpa using au)
 | @c x y xs ys h _ aM =>
  intro k a b aI au;cases k with
  | zero=>simp at aI au; subst aI au; exact h
  | succ k=>exact aM k a b (by simpa using aI) (by simpa using au)
theorem View.nP {xs ys:List ab}(h:oZ g xs ys):View g (.agg xs) (.agg ys):=.agg h.len h.get
class p6 (x:ab):Prop where lW:jV x
class q2 (cs:List ab):Prop where lW:∀ x∈cs,jV x
class Bi (e:bN α):Prop where lW:∀ a,q2 (e.cells a)
instance {v:Value}:p6 (.lit v):=⟨.lit⟩
instance:q2 []:=⟨by simp⟩
instance {x:ab}{xs:List ab} [h:p6 x] [aJ:q2 xs]:q2 (x::xs):=⟨λy ao=>by
 rcases List.mem_cons.1 ao with rfl | ao
 ·exact h.lW
 ·exact aJ.lW y ao⟩
instance {e:bN α}{L:List α} [h:Bi e]:q2 (bA e L):=⟨λx J=>by
 obtain ⟨a,_,aI⟩:=List.mem_flatMap.1 J;exact (h.lW a).lW x aI⟩
instance {z n:Nat}{cs:List ab} [h:q2 cs]:p6 (.own z n cs):=⟨.own h.lW⟩
instance {cs:List ab} [h:q2 cs]:p6 (.agg cs):=⟨.agg h.lW⟩
instance {cs:List ab} [h:q2 cs]:p6 (.bS cs):=⟨.bS h.lW⟩
instance {e:bN α}{a:α} [h:Bi e]:q2 (e.cells a):=h.lW a
instance:Bi ai:=⟨λa=>(inferInstance:q2 [ae a])⟩
theorem PX {outs:List (Option ab)}{args:List ab}(aW:uz outs=true) (ah:outs.length=args.length):outs=args.map λ_=>none:=by
 apply List.ext_getElem?;intro k;rw [List.getElem?_map];cases ao:args[k]? with
 | none=>rw [List.getElem?_eq_none (by rw [ah]; exact List.getElem?_eq_none_iff.1 ao)]; rfl
 | some y =>
  have hk:k<outs.length:=by rw [ah]; exact (List.getElem?_eq_some_iff.1 ao).1
  have h1:=List.getElem?_eq_getElem hk;rw [h1];cases af:outs[k] with
  | none=>rfl
  | some x=>rw [af] at h1; exact absurd h1 (PY aW k x)
theorem cd.vw {xs:List Operand}{fM:Array TypeId}{f:FuncId}{ys args:List ab}{outs:List (Option ab)}{res:ab}(J:hc g xs=some ys) (hv:oZ g ys args) (ha:bO P f args outs res) (aT:hx P f=true) (aW:uz outs=true) [hr:p6 res] :
  cd P g (.call { callee:=.value (.func f),args:=xs.toArray,argTypes:=fM }) res:=by
 have e:=PX aW ha.1;refine .FZ (first:=[]) (caps:=[]) (ys:=ys) (args:=args) rfl (by simpa using J) aT (by simpa using hv.len) (λk x y J ao=>hv.get k x y (by simpa using J) ao) ?_ hr.lW;rw [<- e]; exact ha
end
section
variable {P:Program}{N:cN}{ops:Array Oper}{g g' g1 g2:aL}{K:aL->Prop}{l:List Oper}{d r:Nat}{op:Op}{ty t t2:TypeId}{pos:String}{after:Array Edge}{gd:Option (Nat × Bool)}{a b c:Operand}{p q:Place}{x y:ab}
variable {bj:List (List Nat)}{g0:aL}{acc:Acc}{i:Nat}
instance {cs cs':List ab} [h:f_ cs cs']:jY (.agg cs) (.agg cs'):=⟨λg=>.agg h.l (h.v g)⟩
theorem aE.e4 (aq:bT P g op ty y) [aB:b6 y] [hv:jY y x] (bp:N.ok d=true) (aT:g d=none) (aP:dV g ops gd) (hk:aE P N ops l (cR g d x) K):aE P N ops (⟨some d,op,ty,pos,after,gd⟩::l) g K :=
 .Ed rfl bp aT (r:=some x) (.inr (.inr ⟨aP.wanted,y,.inl aq,aB.bk,hv.v _⟩)) hk
theorem bC.e4 (bX:Nat) (aq:bT P (kK bj g0 bX acc) op ty y) [aB:b6 y] [hv:jY y x] (ag:Nat.beq ops.size (bX+l.length+1)=true) (aT:g0 d=none) (mf:acc.all (λe=>!Nat.beq e.2.1 d)=true) (bp:N.ok d=true) (aP:dV (kK bj g0 bX acc) ops gd)
  (hk:bC P N ops bj g0 i ((bX,d,some x)::acc) l K):bC P N ops bj g0 i acc (⟨some d,op,ty,pos,after,gd⟩::l) K :=
 .st bX (r:=some x) rfl (.inr (.inr ⟨aP.wanted,y,.inl aq,aB.bk,hv.v _⟩)) ag aT mf bp hk
inductive ow (ex:List Nat) (g g2:aL):List (Nat × ab)->Prop
 | nil:ow ex g g2 []
 | n {s:Nat}{x:ab}{l:List (Nat × ab)}(cO:ex.elem s=false) (h:g s=some x) [aB:b6 x] (t:ow ex g g2 l):ow ex g g2 ((s,x)::l)
 | p {s q k:Nat}{l:List (Nat × ab)}{kA:List ab}(cO:ex.elem s=false) (h:g s=some (.ptr ⟨q,[]⟩ k)) (af:g2 q=some (.obj kA)) (fy:Nat.blt k kA.length=true) (t:ow ex g g2 l):ow ex g g2 ((s,.ptr ⟨q,[]⟩ k)::l)
 | z {s:Nat}{x y:ab}{l:List (Nat × ab)}(he:ex.elem s=true) (h:g s=some y) [aB:b6 y] (hv:gQ y x) [J:p5 x] (t:ow ex g g2 l):ow ex g g2 ((s,x)::l)
theorem ow.spec {ex:List Nat}{l:List (Nat × ab)}(h:ow ex g g2 l):∀ t x,get l t=some x->((ex.elem t=false/\g t=some x/\cS g2 x)\/(ex.elem t=true/\∃ y,g t=some y/\cC y/\gQ y x))/\∀ z p n m new,x≠.bL z p n m new:=by
 induction h with
 | nil=>intro t x J; cases J
 | @n s x l cO h aB _ aM =>
  intro t y ao; simp only [get] at ao
  split at ao
  ·rename_i e; subst e; cases ao; exact ⟨.inl ⟨cO,h,.bk aB.bk⟩,by rintro z p n m new rfl; cases aB.bk⟩
  ·exact aM t y ao
 | @p s q k l kA cO h af fy _ aM =>
  intro t y ao; simp only [get] at ao
  split at ao
  ·rename_i e; subst e; cases ao; exact ⟨.inl ⟨cO,h,.ref rfl (uK af (by simpa using fy))⟩,by simp⟩
  ·exact aM t y ao
 | @z s x y l he h aB hv J _ aM =>
  intro t y' ao; simp only [get] at ao
  split at ao
  ·rename_i e; subst e; cases ao; exact ⟨.inr ⟨he,y,h,aB.bk,hv⟩,J.fE⟩
  ·exact aM t y' ao
theorem ow.vg {ex:List Nat}{G2:List (Nat × ab)}(h:ow ex g (get G2) G2):Hp (λt=>ex.elem t) g (get G2):=by
 refine ⟨λt x J ar=>?_,λt x J ar=>?_,λt z q n m new J=>(h.spec t _ J).2 _ _ _ _ _ rfl⟩
 ·rcases (h.spec t x J).1 with ⟨_,h1,af⟩ | ⟨h1,_⟩
  ·grind
  grind
 ·rcases (h.spec t x J).1 with ⟨h1,_⟩ | ⟨_,af⟩
  ·grind
  grind
theorem W.dL {bM:Code}{G G1:List (Nat × ab)}{Φ:Exit->aL->Prop}(ex:List Nat) (h:ow ex (get G) (get G1) G1) (hw:W P N bM (get G1) Φ):W P N bM (get G) Φ:=by
 intro Q a w I Fs bh bp eu;obtain ⟨I',bV,dM,bU⟩:=bh.vg h.vg;exact hw dM bp λe g' b' w' he aB=>eu e g' b' w' he (ka.trans rfl ib.refl bU aB)
theorem Take.pre {xs xs':List ab}:∀ {ps:List ab},(∀ x∈ps,cC x)->Take g xs xs' g'->Take g (ps++xs) (ps++xs') g'
 | [],_,h=>h
 | x::ps,aB,h=>.cons (aB x (by simp)) (Take.pre (ps:=ps) (λy ao=>aB y (List.mem_cons_of_mem _ ao)) h)
inductive eN:aL->List ab->List ab->aL->Prop
 | nil {g:aL}:eN g [] [] g
 | js {g:aL}{xs:List ab} [aB:dk xs]:eN g xs xs g
 | f {g g':aL}{x:ab}{xs xs':List ab} [aB:b6 x] (t:eN g xs xs' g'):eN g (x::xs) (x::xs') g'
 | r {α:Type}{g g':aL}{p:Place}{en:bN α}{L:List α}{xs xs':List ab}(aq:bG g p=some (aC en L)) (t:eN (cn g p .dead) xs xs' g'):eN g (.a6 en.z p L.length::xs) (aC en L::xs') g'
 | l {g g1 g':aL}{p:Place}{z n:Nat}{cs cs' xs xs':List ab}(aq:bG g p=some (.own z n cs)) (ah:cs.length=n * z) (h1:eN (cn g p .dead) cs cs' g1) (t:eN g1 xs xs' g'):eN g (.a6 z p n::xs) (.own z n cs'::xs') g'
 | jt {α:Type}{g g1 g':aL}{q:Place}{s m:Nat}{en:bN α}{L:List α}{new cL xs xs':List ab}(aw:g s=some (.bL en.z q L.length m new)) (aq:bG g q=some (aC en L)) (a8:Nat.beq q.root s=false) (h1:eN (cn (cn g ⟨s,[]⟩ .dead) q .dead) new cL g1) (t:eN g1 xs xs' g') :
   eN g (.a6 en.z ⟨s,[]⟩ (L.length+m)::xs) (.own en.z (L.length+m) (bA en L++cL)::xs') g'
 | nP {g g1 g':aL}{cs cs' xs xs':List ab}(h1:eN g cs cs' g1) (t:eN g1 xs xs' g'):eN g (.agg cs::xs) (.agg cs'::xs') g'
 | m {g g':aL}{p:Place}{q:Array MapEntry->Nat->Prop}{xs xs':List ab}(aq:bG g p=some (.mp q)) (t:eN (cn g p .dead) xs xs' g'):eN g (.gj p::xs) (.mp q::xs') g'
 | b {g g1 g':aL}{p:Place}{cs cs' xs xs':List ab}(aq:bG g p=some (.obj cs)) (h1:eN (cn g p .dead) cs cs' g1) (t:eN g1 xs xs' g'):eN g (.ptr p 0::xs) (.obj cs'::xs') g'
 | of {g g':aL}{x x':ab}(h:Take g [x] [x'] g'):eN g [x] [x'] g'
theorem eN.take {xs xs':List ab}(h:eN g xs xs' g'):Take g xs xs' g':=by
 induction h with
 | m aq _ aM=>exact .mp aq (.bk (by simp)) aM
 | of h=>exact h
 | nil=>exact .bk (by simp)
 | @js g xs aB=>exact .bk aB.bk
 | @f g g' x xs xs' aB _ aM=>exact .cons aB.bk aM
 | @r α g g' p en L xs xs' aq _ aM =>
  refine .a6 aq (Nat.le_refl _) ?_ aM;rw [wk];exact .bk (oc en L)
 | @l g g1 g' p z n cs cs' xs xs' aq ah _ _ gh fQ =>
  refine .a6 aq (Nat.le_refl _) ?_ fQ
  grind
 | @jt α g g1 g' q s m en L new cL xs xs' aw aq a8 _ _ gh fQ=>exact .bL aw aq (Nat.ne_of_beq_eq_false a8) (.pre (oc en L) gh) fQ
 | @nP g g1 g' cs cs' xs xs' _ _ gh fQ=>exact .agg gh fQ
 | @b g g1 g' p cs cs' xs xs' aq _ _ gh fQ=>exact .obj aq gh fQ
inductive fG:List ab->List ab->Prop
 | nil:fG [] []
 | hX {xs:List ab}:fG xs xs
 | f {x:ab}{xs ys:List ab}(t:fG xs ys):fG (x::xs) (x::ys)
 | o {z:Nat}{xs ys:List ab}(t:fG xs ys):fG (.aQ::xs) (.own z 0 []::ys)
 | z {x y:ab}{xs ys:List ab} [aB:b6 x] [hv:jY x y] (t:fG xs ys):fG (x::xs) (y::ys)
 | g {x y:ab}{xs ys:List ab}(h:gQ x y) (t:fG xs ys):fG (x::xs) (y::ys)
theorem fG.len {xs ys:List ab}(h:fG xs ys):ys.length=xs.length:=by
 induction h with
 | nil=>rfl
 | hX=>rfl
 | f _ aM=>simp [aM]
 | o _ aM=>simp [aM]
 | z _ aM=>simp [aM]
 | g _ _ aM=>simp [aM]
theorem fG.get {xs ys:List ab}(h:fG xs ys):∀ (k:Nat) (x y:ab),xs[k]?=some x->ys[k]?=some y->gQ x y:=by
 induction h with
 | nil=>intro k x y J; simp at J
 | hX=>intro k x y J ao; rw [J] at ao; cases ao; exact .refl
 | @f x xs ys _ aM =>
  intro k a b aI au;cases k with
  | zero=>simp at aI au; subst aI au; exact .refl
  | succ k=>exact aM k a b (by simpa using aI) (by simpa using au)
 | @o z xs ys _ aM =>
  intro k a b aI au;cases k with
  | zero=>simp at aI au; subst aI au; exact .Dc
  | succ k=>exact aM k a b (by simpa using aI) (by simpa using au)
 | @z x y xs ys aB hv _ aM =>
  intro k a b aI au;cases k with
  | zero=>simp at aI au; subst aI au; exact .o_ aB.bk (hv.v _)
  | succ k=>exact aM k a b (by simpa using aI) (by simpa using au)
 | @g x y xs ys h _ aM =>
  grind
theorem fG.pre {xs ys:List ab}(h:fG xs ys):∀ ps:List ab,fG (ps++xs) (ps++ys)
 | []=>h
 | _::ps=>.f (fG.pre h ps)
theorem fG.own {z n:Nat}{xs ys:List ab}(h:fG xs ys):gQ (.own z n xs) (.own z n ys):=.own h.len h.get
theorem fG.obj {xs ys:List ab}(h:fG xs ys):gQ (.obj xs) (.obj ys):=.obj h.len h.get
theorem fG.agg {xs ys:List ab}(h:fG xs ys):gQ (.agg xs) (.agg ys):=.agg h.len h.get
theorem gQ.kt [aB:b6 x] [hv:jY x y]:gQ x y:=.o_ aB.bk (hv.v _)
theorem bc.Bm {o:Oper}{x:Operand}{y bB y':ab}{G2:List (Nat × ab)}(aW:o.op=.assign x) (aO:o.dst=some d) (J:Rd g x y) (ar:eN g [y] [bB] g1) (aX:gQ bB y') (cY:Trim false g1 (get G2) G2) (aP:get G2 d=none) (bp:N.ok d=true):bc P N g o (cR (get G2) d y') :=
 .assign aW aO J.bs ar.take aX cY.keep aP bp
theorem bc.MD {o:Oper}{x:Operand}{en:bN α}{L M R:List α}{s m:Nat}{new cL:List ab}{G2:List (Nat × ab)}(aW:o.op=.assign x) (aO:o.dst=some d) (J:Rd g x (.a6 en.z ⟨s,[]⟩ (L.length+m))) (aw:g s=some (.bL en.z q L.length m new)) (aq:bG g q=some (aC en L)) (a8:Nat.beq q.root s=false)
  (h1:eN (cn (cn g ⟨s,[]⟩ .dead) q .dead) new cL g1) (aX:fG cL (bA en M)) (hm:M.length=m) (hr:L++M=R) (cY:Trim false g1 (get G2) G2) (aP:get G2 d=none) (bp:N.ok d=true):bc P N g o (cR (get G2) d (aC en R)):=by
 subst hm hr;have ar:=eN.jt (xs:=[]) (xs':=[]) aw aq a8 h1 .nil;rw [<- pe];exact .assign aW aO J.bs ar.take (aX.pre _).own cY.keep aP bp
theorem bc.tr {o:Oper}{k0:Nat}{cs1 cs' cs2:List ab}{y bB y':ab}{G2:List (Nat × ab)}(aW:o.op=.store t a b) (aO:o.dst=none) (aI:Rd g a (.ptr ⟨r,[]⟩ k0)) (au:Rd g b y) (ar:eN g [y] [bB] g1) (o6:gQ bB y') (aa:o1 y'=some cs') (aX:hq P t cs'.length=true)
  (aw:g1 r=some (.obj cs1)) (hk:Nat.ble (k0+cs'.length) cs1.length=true) (aK:Nat.blt 0 cs'.length=true) (he:eX cs1 k0 cs'=cs2) [eH:dk cs1] (hr:(get G2 r).isSome=true) (cY:lh g1 (get G2) r cs2 G2):bc P N g o (get G2):=by
 subst he;refine .store aW aO aI.bs au.bs ar.take o6 aa aX (p:=⟨r,[]⟩) (nd:=.obj cs1) (z:=0) (n:=0) (by simp [bG,aw,ab.at]) (.inr rfl) (Nat.le_of_ble_eq_true hk) (by simpa using aK) (λt x J=>?_) (λt x J y ao=>?_) (λt z q n m new J=>?_) (by intro e; rw [e] at hr; cases hr)
 ·rcases cY.spec t x J with ⟨h1,af,_⟩ | ⟨h1,af,_⟩
  all_goals grind [cn,ab.setAt,ab.eX]
 ·rcases cY.spec t x J with ⟨h1,af,aD⟩ | ⟨h1,af,aD⟩
  ·rw [af] at ao;cases ao;exact aD.wi
  ·subst h1;rw [aw] at ao;cases ao;exact .bk (.obj eH.bk)
 ·rcases cY.spec t _ J with ⟨_,_,aD⟩ | ⟨_,af,_⟩
  ·exact aD.fE _ _ _ _ _ rfl
  grind
theorem bc.GZ {o:Oper}{k0 s m:Nat}{en:bN α}{L M R:List α}{new cL:List ab}{cs1 cs2:List ab}{G2:List (Nat × ab)}(aW:o.op=.store t a b) (aO:o.dst=none) (aI:Rd g a (.ptr ⟨r,[]⟩ k0)) (au:Rd g b (.a6 en.z ⟨s,[]⟩ (L.length+m))) (qt:g s=some (.bL en.z q L.length m new)) (aq:bG g q=some (aC en L)) (a8:Nat.beq q.root s=false)
  (h1:eN (cn (cn g ⟨s,[]⟩ .dead) q .dead) new cL g1) (o6:fG cL (bA en M)) (hm:M.length=m) (aY:L++M=R) (aX:hq P t 1=true)
  (aw:g1 r=some (.obj cs1)) (hk:Nat.ble (k0+1) cs1.length=true) (he:eX cs1 k0 [aC en R]=cs2) [eH:dk cs1] (hr:(get G2 r).isSome=true) (cY:lh g1 (get G2) r cs2 G2):bc P N g o (get G2):=by
 subst hm aY;have ar:=eN.jt (xs:=[]) (xs':=[]) qt aq a8 h1 .nil;refine .tr (y':=aC en (L++M)) aW aO aI au ar ?_ rfl aX aw hk rfl he hr cY;rw [<- pe]; exact (o6.pre _).own
inductive oj (r:Nat) (cs:List ab) (k0:Nat):Nat->List ab->List ab->Prop
 | nil {i:Nat}:oj r cs k0 i [] []
 | b {i:Nat}{xs ys:List ab}(hi:Nat.beq i k0=true) (t:oj r cs k0 (i+1) xs ys):oj r cs k0 i (.ptr ⟨r,[]⟩ 0::xs) (.obj cs::ys)
 | n {i:Nat}{x:ab}{xs ys:List ab}(hi:Nat.beq i k0=false) [aB:b6 x] (t:oj r cs k0 (i+1) xs ys):oj r cs k0 i (x::xs) (x::ys)
theorem oj.len {cs:List ab}{k0 i:Nat}{xs ys:List ab}(h:oj r cs k0 i xs ys):ys.length=xs.length:=by
 induction h with
 | nil=>rfl
 | b _ _ aM=>simp [aM]
 | n _ _ aM=>simp [aM]
theorem oj.Zc {cs:List ab}{k0 i:Nat}{xs ys:List ab}(h:oj r cs k0 i xs ys) (hi:k0<i):xs=ys/\∀ x∈xs,cC x:=by
 induction h with
 | nil=>exact ⟨rfl,by simp⟩
 | @b i _ _ h _ _=>have:=Nat.eq_of_beq_eq_true h; omega
 | @n i x xs ys _ aB _ aM =>
  obtain ⟨h1,af⟩:=aM (by omega);exact ⟨by rw [h1],sz aB.bk af⟩
theorem oj.take {cs:List ab}{k0 i:Nat}{xs ys:List ab}(h:oj r cs k0 i xs ys) (aw:g r=some (.obj cs)) (aB:∀ x∈cs,cC x):i<=k0->k0<i+xs.length->Take g xs ys (cn g ⟨r,[]⟩ .dead):=by
 induction h with
 | nil=>intro h1 af; simp at af; omega
 | @b i xs ys hi t _ =>
  intro h1 af;have:=Nat.eq_of_beq_eq_true hi;obtain ⟨e,oG⟩:=t.Zc (by omega);subst e;exact .obj (by simp [bG,aw,ab.at]) (.bk aB) (.bk oG)
 | @n i x xs ys hi J _ aM =>
  intro h1 af;have:=Nat.ne_of_beq_eq_false hi;simp only [List.length_cons] at af;exact .cons J.bk (aM (by omega) (by omega))
theorem oj.S' {cs:List ab}{k0 i:Nat}{xs ys:List ab}(h:oj r cs k0 i xs ys):i<=k0->k0<i+xs.length->xs[k0 - i]?=some (.ptr ⟨r,[]⟩ 0):=by
 induction h with
 | nil=>intro h1 af; simp at af; omega
 | @b i xs ys hi _ _=>intro _ _; have:=Nat.eq_of_beq_eq_true hi; subst this; simp
 | @n i x xs ys hi _ _ aM =>
  grind [Nat.ne_of_beq_eq_false]
def vT (n k0:Nat) (x:ab):List (Option ab):=(List.range n).map λi=>if i=k0 then some x else none
inductive yL (g:aL) (d r:Nat) (n:Nat) (G4:List (Nat × ab)):List (Nat × ab)->Prop
 | nil:yL g d r n G4 []
 | c {s k:Nat}{l:List (Nat × ab)}(h:g s=some (.ptr ⟨r,[]⟩ k)) (hk:Nat.blt k n=true) (aO:Nat.beq s d=false) (bm:get G4 s=none) (t:yL g d r n G4 l):yL g d r n G4 ((s,.ptr ⟨r,[]⟩ k)::l)
theorem Fb {A B:List (Nat × ab)}{t:Nat}:get (A++B) t=match get A t with | some x=>some x | none=>get B t:=by
 induction A with
 | nil=>rfl
 | cons p A aM =>
  grind [get]
theorem yL.spec {n:Nat}{G4 A:List (Nat × ab)}(h:yL g d r n G4 A):∀ t x,get A t=some x->get G4 t=none/\t≠d/\g t=some x/\∃ k,x=.ptr ⟨r,[]⟩ k/\k<n:=by
 induction h with
 | nil=>intro t x J; cases J
 | @c s k l h hk aO bm _ aM =>
  intro t x J;simp only [get] at J
  split at J
  ·rename_i e;subst e;cases J
   simp_all [Nat.ne_of_beq_eq_false]
  grind
theorem kQ.jN {o:Oper}{xs:List Operand}{fM:Array TypeId}{f:FuncId}{ys args:List ab}{res:ab}{cs cs':List ab}{k0:Nat}{G2 A:List (Nat × ab)}(aW:o.op=.call { callee:=.value (.func f),args:=xs.toArray,argTypes:=fM }) (aO:o.dst=some d) (J:Own.hc g xs=some ys)
  (aw:g r=some (.obj cs)) [eH:dk cs] (aI:oj r cs k0 0 ys args) (nx:Nat.blt k0 ys.length=true) (ha:bO P f args (vT args.length k0 (.obj cs')) res) (aT:hx P f=true) [hr:b6 res] [Fw:dk cs']
  (cY:Trim false (cn g ⟨r,[]⟩ .dead) (get ((r,.dead)::G2)) G2) (aP:get G2 d=none) (ui:Nat.beq r d=false) (BZ:Trim false (get ((r,.obj cs')::G2)) (get ((r,.obj cs')::G2)) G2) (dI:yL g d r cs'.length ((r,.obj cs')::G2) A) (bp:N.ok d=true) :
  kQ P N g o d (get (A++(d,res)::(r,.obj cs')::G2)):=by
 have ae6:k0<ys.length:=by simpa using nx
 have CB:r≠d:=Nat.ne_of_beq_eq_false ui;have vo:args.length=ys.length:=aI.len;have rj:(vT args.length k0 (.obj cs'))[k0]?=some (some (.obj cs')):=by
  unfold vT;rw [List.getElem?_map,List.getElem?_range (by omega)];simp
 have XI:∀ (k:Nat) (x:ab),(vT args.length k0 (.obj cs'))[k]?=some (some x)->x=.obj cs':=by
  intro k x h;unfold vT at h;rw [List.getElem?_map] at h;cases hk:(List.range args.length)[k]? with
  | none=>rw [hk] at h; cases h
  | some j =>
   rw [hk] at h;simp only [Option.map_some,Option.some.injEq] at h
   split at h
   ·exact (Option.some.inj h).symm
   ·cases h
 have Ii:get ((r,ab.dead)::G2) r=some .dead:=by simp [get]
 have C2:il (cn g ⟨r,[]⟩ .dead) (get ((r,.dead)::G2)):=by
  refine ⟨λt x h=>?_,λt x h=>?_,λt z q n m new h=>?_⟩
  all_goals
   simp only [get] at h
   split at h
  ·rename_i e; subst e; cases h; simp [cn,aw,ab.setAt]
  ·obtain ⟨⟨y,h1,_,aD⟩,_⟩:=cY.spec t x h; rw [<- aD rfl]; exact h1
  ·cases h; exact .bk .dead
  ·exact (cY.spec t x h).2.1
  ·cases h
  ·exact (cY.spec t _ h).2.2 _ _ _ _ _ rfl
 have put:qI (get ((r,.dead)::G2)) [(⟨r,[]⟩,.obj cs')]=get ((r,.obj cs')::G2):=by
  funext t;simp only [qI,cn,get];by_cases h:t=r
  ·simp [h,ab.setAt]
  ·simp [h]
 have C3:il (get ((r,.obj cs')::G2)) (get ((r,.obj cs')::G2)):=by
  refine ⟨λt x h=>h,λt x h=>?_,λt z q n m new h=>?_⟩
  all_goals
   simp only [get] at h
   split at h
  ·cases h; exact .bk (.obj Fw.bk)
  ·exact (BZ.spec t x h).2.1
  ·cases h
  ·exact (BZ.spec t _ h).2.2 _ _ _ _ _ rfl
 refine Ba.ok (first:=[]) (caps:=[]) (ys:=ys) (tk:=λ_=>true) (vw:=false) (outs:=vT args.length k0 (.obj cs')) (g1:=cn g ⟨r,[]⟩ .dead) (g2:=get ((r,.dead)::G2)) (g4:=get ((r,.obj cs')::G2)) (l:=[(⟨r,[]⟩,.obj cs')]) (ks:=λ_=>k0) (xs0:=ys) (xs1:=args) (args:=args) (res:=res) aW aO rfl (by simpa using J)
  ⟨aT,by simp,by simpa using vo,λk x h=>.inl (by simpa using h),aI.take aw eH.bk (Nat.zero_le _) (by omega),C2,λk x y _ ao=>by simpa using ao,ha,by simpa using hr.bk,λk x h=>by rw [XI k x h]; simpa using cC.obj Fw.bk,λj p x ag=>?_,by simp,λi j hi ag _=>by simp at hi ag; omega,by rw [put]; exact C3⟩ ?_ bp ?_
 ·cases j with
  | succ j=>simp at ag
  | zero =>
   simp only [List.getElem?_cons_zero,Option.some.injEq,Prod.mk.injEq] at ag;obtain ⟨rfl,rfl⟩:=ag;refine ⟨rj,by simp [bG,Ii,ab.at],.inr ⟨cs,?_,by simp [bG,aw,ab.at]⟩,λ_ h=>by cases h⟩;have:=aI.S' (Nat.zero_le _) (by omega);simpa using this
 ·simp only [get,if_neg (Ne.symm CB)]; exact aP
 ·refine ⟨λt x h=>?_,λt x h=>?_⟩
  ·rw [r6] at h;rw [Fb];cases r8:get A t with
   | none=>exact h
   | some y =>
    obtain ⟨h1,af,_⟩:=dI.spec t y r8;simp only [get,if_neg af] at h;simp only [get] at h1;rw [h1] at h; cases h
  ·rw [r6];rw [Fb] at h;cases r8:get A t with
   | none=>rw [r8] at h; exact .inl h
   | some y =>
    rw [r8] at h;cases h;obtain ⟨h1,af,aD,k,rfl,hk⟩:=dI.spec t x r8;refine .inr ⟨?_,af,aD,r,k,cs',rfl,CB,?_,hk⟩
    ·simp only [get,if_neg af]; exact h1
    ·simp only [get,if_neg CB,if_true]
end
instance {cs:List ab}{n:Nat}{x:ab} [h:dk cs] [J:b6 x]:dk (cs.set n x):=⟨λy ao=>by
 rcases List.mem_or_eq_of_mem_set ao with aJ | aJ
 ·exact h.bk y aJ
 ·rw [aJ]; exact J.bk⟩
instance {x y:ab} [h:b6 y]:b6 (x.setAt [] y):=⟨by simpa [ab.setAt] using h.bk⟩
def uI (m n:Int):Option Int:=if n=0 then none else some (IntKind.u64.wrap (m.tdiv n))
def uL (m n:Int):Option Int:=if n=0 then none else some (m.tmod n)
inductive ke:List ab->List ab->Prop
 | nil:ke [] []
 | f {x:ab}{xs ys:List ab}(t:ke xs ys):ke (x::xs) (x::ys)
 | o {z:Nat}{xs ys:List ab}(t:ke xs ys):ke (.aQ::xs) (.own z 0 []::ys)
 | i {z:Nat}{xs ys:List ab}(t:ke xs ys):ke (.aQ::xs) (.bd z 0 []::ys)
theorem ke.len {xs ys:List ab}(h:ke xs ys):ys.length=xs.length:=by
 induction h with
 | nil=>rfl
 | f _ aM=>simp [aM]
 | o _ aM=>simp [aM]
 | i _ aM=>simp [aM]
theorem ke.get {xs ys:List ab}(h:ke xs ys):∀ (k:Nat) (x y:ab),xs[k]?=some x->ys[k]?=some y->nN x y:=by
 induction h with
 | nil=>intro k x y J; simp at J
 | f _ aM =>
  intro k a b aI au;cases k with
  | zero=>simp at aI au; subst aI au; exact .refl
  | succ k=>exact aM k a b (by simpa using aI) (by simpa using au)
 | o _ aM =>
  intro k a b aI au;cases k with
  | zero=>simp at aI au; subst aI au; exact .pV
  | succ k=>exact aM k a b (by simpa using aI) (by simpa using au)
 | i _ aM =>
  intro k a b aI au;cases k with
  | zero=>simp at aI au; subst aI au; exact .pU
  | succ k=>exact aM k a b (by simpa using aI) (by simpa using au)
theorem ke.obj {xs ys:List ab}(h:ke xs ys):nN (.obj xs) (.obj ys):=.obj h.len h.get
section
variable {P:Program}{N:cN}{ops:Array Oper}{g g' g1 g2:aL}{K:aL->Prop}{l:List Oper}{d r:Nat}{op:Op}{ty t t2:TypeId}{pos:String}{after:Array Edge}{gd:Option (Nat × Bool)}{a b c:Operand}{p q:Place}{x y:ab}{k:IntKind}{m n:Int}
variable {bj:List (List Nat)}{g0:aL}{acc:Acc}{i:Nat}
def sy:List Nat->Bool
 | []=>true
 | x::l=>l.all (λy=>!Nat.beq x y)&&sy l
theorem F7:∀ {l:List Place},sy (l.map Place.root)=true->l.Nodup
 | [],_=>List.nodup_nil
 | p::l,h=>by
  simp only [List.map_cons,sy,Bool.and_eq_true,List.all_eq_true] at h;refine List.nodup_cons.2 ⟨λhm=>?_,F7 h.2⟩;have:=h.1 p.root (List.mem_map.2 ⟨p,hm,rfl⟩);simp at this
theorem bC.zi (bX:Nat) {G G2:List (Nat × ab)}{o:Oper}(he:bc P N (dr (get G) (λ_=>true) acc) o (get G2)) (aP:o.guard=none) (gN:sy ((acc.filterMap k7).map Place.root)=true) (fL:n' G=true) (ag:Nat.beq ops.size (bX+l.length+1)=true)
  (aI:(List.range bX).all (λk=>(bj.getD bX []).contains k)=true) (au:(List.range ops.size).all (λk=>Nat.ble k bX||(bj.getD k []).contains bX)=true) (hk:bC P N ops bj (get G2) (bX+1) [] l K):bC P N ops bj (get G) i acc (o::l) K:=by
 intro dA j bQ lR mc;have:=BK mc ag;subst this;obtain ⟨h1,af⟩:=drop_cons mc;obtain ⟨g',hr,cZ⟩:=hk [] (j+1) .nil .nil af;refine ⟨g',.Tk bQ lR (F7 gN) (xW fL) h1 ?_ he aI ?_ hr,cZ⟩
 ·grind [iE]
 simp_all
theorem bC.bv (bX:Nat) {G G2:List (Nat × ab)}{o:Oper}{x:ab}(he:bc P N (dr (get G) (λ_=>true) acc) o (cR (get G2) d x)) (aP:o.guard=none) (gN:sy ((acc.filterMap k7).map Place.root)=true) (fL:n' G=true) (ag:Nat.beq ops.size (bX+l.length+1)=true)
  (aI:(List.range bX).all (λk=>(bj.getD bX []).contains k)=true) (au:(List.range ops.size).all (λk=>Nat.ble k bX||(bj.getD k []).contains bX)=true) (hk:bC P N ops bj (get ((d,x)::G2)) (bX+1) [] l K):bC P N ops bj (get G) i acc (o::l) K :=
 .zi bX (r6 ▸ he) aP gN fL ag aI au hk
class Ht (s:Nat) (g:aL):Prop where fE:∀ t,t≠s->∀ z q n m new,g t≠some (.bL z q n m new)
class y5 (s:Nat) (acc:Acc):Prop where fE:∀ e∈acc,e.2.1≠s->∀ z q n m new,e.2.2≠some (.bL z q n m new)
instance {s:Nat}:y5 s []:=⟨by simp⟩
instance {s j d:Nat}{x:ab}{acc:Acc} [J:p5 x] [h:y5 s acc]:y5 s ((j,d,some x)::acc):=⟨λe he aw z q n m new bP=>by
 rcases List.mem_cons.1 he with rfl | he
 ·exact J.fE z q n m new (Option.some.inj bP)
 ·exact h.fE e he aw z q n m new bP⟩
instance {s j:Nat}{x:Option ab}{acc:Acc} [h:y5 s acc]:y5 s ((j,s,x)::acc):=⟨λe he aw z q n m new bP=>by
 rcases List.mem_cons.1 he with rfl | he
 ·exact absurd rfl aw
 ·exact h.fE e he aw z q n m new bP⟩
instance {s:Nat}{G:List (Nat × ab)}{A:Nat->Bool}{acc:Acc} [aP:rV (get G)] [h:y5 s acc]:Ht s (dr (get G) A acc):=⟨λt ar z q n m new e=>by
 rcases uV e with ⟨b1,he,h1,_,af⟩ | ⟨_,af⟩
 ·exact h.fE b1 he (by rw [h1]; exact ar) _ _ _ _ _ af
 ·exact aP.fE _ _ _ _ _ _ af⟩
namespace O
theorem uI {r:Int}(J:Rd g a (.lit (.int .u64 m))) (ao:Rd g b (.lit (.int .u64 n))) (h:Own.uI m n=some r):bT P g (.binOp .quo t a b t2) ty (.lit (.int .u64 r)):=by
 unfold Own.uI at h
 split at h
 ·cases h
 ·cases h; exact .ew (.quo J ao (by assumption))
theorem uL {r:Int}(J:Rd g a (.lit (.int .u64 m))) (ao:Rd g b (.lit (.int .u64 n))) (h:Own.uL m n=some r):bT P g (.binOp .rem t a b t2) ty (.lit (.int .u64 r)):=by
 unfold Own.uL at h
 split at h
 ·cases h
 ·cases h; exact .ew (.rem J ao (by assumption))
theorem UN {L:List Int}(J:Rd g a (.bd r5.z L.length (bA r5 L))) (ar:zm P t t2=true):bT P g (.convert t t2 a) ty (aZ (strOfNums L)):=by
 have h:=J.bs;rw [QL] at h;exact .ew (.E6 h ar)
theorem va {e eW:Nat}{parts:Array (Nat × Operand)}{ys cs:List ab}{z:Nat}(ar:fk P t e z=true) (J:hc g (parts.toList.map (·.2))=some ys) (aa:o0 ys=some cs) (aX:ys.all (λy=>match jZ y with | some c=>Nat.beq c.length z | none=>false)=true)
  (aq:parts.toList=(parts.toList.map (·.2)).mapIdx (λi x=>(i,x))) (aB:(parts.toList.map (·.2)).length=eW) (hzero:i_ P e z=true) (au:Nat.ble (eW * z) 16777216=true) (fj:Nat.ble eW 16777216=true):bT P g (.buildSlice t eW parts) ty (.own z eW cs):=by
 subst aB;exact .rB (.buildSlice ar aq J (λy ao=>by
  grind [Nat.eq_of_beq_eq_true]) aa (Nat.le_of_ble_eq_true au) (Nat.le_of_ble_eq_true fj) (.inr (RS hzero)))
theorem Rg {z m:Nat}{cs:List ab}(a8:bG g q=some (.own z m cs)) (ah:cs.length=m * z) (aT:cs.all l'=true):Src g (.a6 z q m) z m cs:=by
 have:=Src.a6 (g:=g) (m:=m) a8 (Nat.le_refl _)
 simp_all [List.take_of_length_le,BS]
theorem HH {en:bN α}{L M r:List α}{e fP m:Nat}{cs:List ab}(aw:Rd g a (.a6 en.z p L.length)) (aq:bG g p=some (aC en L)) (J:Rd g b (.a6 en.z q m)) (a8:bG g q=some (.own en.z m cs)) (ah:cs.length=m * en.z) (aT:cs.all l'=true) (hm:M.length=m) (ar:h4 P t e en.z fP=true) (au:Nat.ble fP 128=true) (h:cT L M=some r) [eH:rV g] :
  bT P g (.call { callee:=.builtin .append,args:=#[a,b],argTypes:=#[t,t] }) ty (.bL en.z p L.length m cs):=by
 subst hm;obtain ⟨h1,af,_⟩:=u6 h au;exact .lX (.grow aw.bs (.inl ⟨_,aq⟩) (λt bR cr m' cL e=>eH.fE _ _ _ _ _ _ e) J.bs (Rg a8 ah aT) ar h1 af)
theorem EU {en:bN α}{L M M2 r:List α}{y:ab}{e fP s:Nat}(aw:Rd g a (.a6 en.z ⟨s,[]⟩ (L.length+M.length))) (qt:g s=some (.bL en.z q L.length M.length (bA en M))) (aq:bG g q=some (aC en L)) (J:Rd g b y) (hm:nm g en y M2) (ar:h4 P t e en.z fP=true) (au:Nat.ble fP 128=true) (h:cT (L++M) M2=some r) [eH:Ht s g] :
  bT P g (.call { callee:=.builtin .append,args:=#[a,b],argTypes:=#[t,t] }) ty (.bL en.z ⟨s,[]⟩ (L.length+M.length) M2.length (bA en M2)):=by
 obtain ⟨h1,af,_⟩:=u6 h au;rw [List.length_append] at h1 af;refine .lX (.grow aw.bs (.inr ⟨rfl,q,L.length,M.length,bA en M,_,qt,rfl,aq⟩) (λt bR cr m' cL e=>?_) J.bs hm.src ar h1 af);by_cases X3:t=s
 ·grind [bG,ab.at]
 ·exact eH.fE t X3 _ _ _ _ _ e
theorem PN {en:bN α}{z0:α}{r:List α}{e fP:Nat}{cW:Value}(ar:fk P t e en.z=true) (J:Rd g a (.lit (.int k m))) (ao:Rd g b (.lit (.int .i64 m))) (hzero:(P.info? e).bind (·.zero)=some cW) (h1:cW.cells.toList.all Value.oneCell'=true) (hK:(en.cells z0).length=cW.cells.size) (W6:∀ (k:Nat) (u:Value) (x:ab),cW.cells[k]?=some u->(en.cells z0)[k]?=some x->x=kq u\/(kq u=.aQ/\∃ bR,x=.bd bR 0 [])) (h:oP m z0=some r) (iT:(P.info? e).map (·.bytes)=some fP) (au:Nat.ble fP 128=true) :
  bT P g (.makeSlice t a b) ty (aC en r):=by
 unfold oP at h
 split at h
 ·rename_i hm;have Co:lim=1099511627776:=rfl;have j2:=Nat.le_of_ble_eq_true au;obtain ⟨j,rfl⟩:=Int.eq_ofNat_of_zero_le hm.1;cases h;have ag:j<=1099511627776:=by omega
  have fz:cW.cells.size=en.z:=by rw [<- hK,en.len]
  have:=oq.makeSlice (P:=P) (ty:=ty) ar J.bs ao.bs hzero (by rw [<- Array.all_toList]; exact h1) fz iT (by
   calc j * fP<=1099511627776 * 128:=Nat.mul_le_mul ag j2
    _=140737488355328:=by decide) (by omega) hK W6
  have b9:(List.replicate j (en.cells z0)).flatten=bA en (List.replicate j z0):=by simp [bA,List.flatMap_def]
  unfold aC;rw [Int.toNat_natCast,List.length_replicate,<- b9];exact .rB this
 ·cases h
theorem mk {en:bN α}{z0:α}{r:List α}{e fP:Nat}{cW:Value}(ar:fk P t e en.z=true) (J:Rd g a (.lit (.int k m))) (ao:Rd g b (.lit (.int .i64 m))) (hzero:(P.info? e).bind (·.zero)=some cW) (h1:cW.cells.toList.all Value.oneCell'=true) (aa:cW.cells.toList.map kq=en.cells z0) (h:oP m z0=some r) (iT:(P.info? e).map (·.bytes)=some fP) (au:Nat.ble fP 128=true) :
  bT P g (.makeSlice t a b) ty (aC en r):=by
 grind [PN]
theorem Y6 {e:bN β}{r:List (List β)}{m:Int}{k:IntKind}{a b:Operand}{t ty:TypeId}{w1 fP:Nat}{cW:Value}(ar:fk P t w1 (bF e).z=true) (J:Rd g a (.lit (.int k m))) (ao:Rd g b (.lit (.int .i64 m))) (hzero:(P.info? w1).bind (·.zero)=some cW) (h1:cW.cells.toList.all Value.oneCell'=true) (aa:cW.cells.toList.map kq=[.aQ]) (h:oP m ([]:List β)=some r) (iT:(P.info? w1).map (·.bytes)=some fP) (au:Nat.ble fP 128=true) :
  bT P g (.makeSlice t a b) ty (aC (bF e) r):=by
 refine PN ar J ao hzero h1 ?_ (λk u x hu J=>.inr ?_) h iT au
 ·grind [List.length_map,bF]
 ·have ah:=congrArg List.length aa;rw [List.length_map] at ah;have hk:k=0:=by
   grind
  subst hk;have hU:cW.cells.toList[0]?=some u:=by simpa using hu
  have af:=congrArg (λl=>l[0]?) aa;simp only [List.getElem?_map,hU,Option.map_some] at af;have af:=Option.some.inj af;refine ⟨af,e.z,?_⟩;have J:([aj e []]:List ab)[0]?=some x:=J;have:x=aj e []:=(Option.some.inj J).symm;rw [this];rfl
theorem PM (J:Rd g a (ae m)) (ao:Rd g b (ae n)):bT P g (.call { callee:=.builtin .min,args:=#[a,b],argTypes:=#[t,t2] }) ty (ae (min m n)):=.ew (.lits (vs:=[.int .i64 m,.int .i64 n]) (by simp [J.bs,ao.bs]) rfl λw cs=>by
 have:(if n<m then n else m)=min m n:=by omega
 simp [builtin,Builtin.min_,Builtin.min2,this])
theorem F4 (J:Rd g a (ae m)) (ao:Rd g b (ae n)):bT P g (.call { callee:=.builtin .max,args:=#[a,b],argTypes:=#[t,t2] }) ty (ae (max m n)):=.ew (.lits (vs:=[.int .i64 m,.int .i64 n]) (by simp [J.bs,ao.bs]) rfl λw cs=>by
 have:(if m<n then n else m)=max m n:=by omega
 simp [builtin,Builtin.max_,Builtin.max2,this])
end O
theorem Lk (en:bN α) {L:List α}{y y2:α}{o:Nat}{cs':List ab}(h:idx L m=some y) (he:eX (en.cells y) o cs'=en.cells y2) (hlen:o+cs'.length<=en.z):eX (bA en L) (m.toNat * en.z+o) cs'=bA en (L.set m.toNat y2):=by
 obtain ⟨aK,h1,af⟩:=mi h;have aN:m.toNat<L.length:=(List.getElem?_eq_some_iff.1 af).1;have ao:L[m.toNat]=y:=(List.getElem?_eq_some_iff.1 af).2;have b9:bA en L=bA en (L.take m.toNat)++(en.cells y++bA en (L.drop (m.toNat+1))):=by
  grind [bA,List.take_append_drop,List.drop_eq_getElem_cons]
 have b3:bA en (L.set m.toNat y2)=bA en (L.take m.toNat)++(en.cells y2++bA en (L.drop (m.toNat+1))):=by
  grind [List.set_eq_take_append_cons_drop,bA]
 have ah:(bA en (L.take m.toNat)).length=m.toNat * en.z:=by rw [oR,List.length_take]; congr 1; omega
 rw [b9,b3,<- he];unfold eX;generalize bA en (L.take m.toNat)=A at *;generalize bA en (L.drop (m.toNat+1))=B at *;rw [<- ah];have FH:=en.len y;rw [List.take_append,List.take_of_length_le (by omega),show A.length+o - A.length=o by omega,List.take_append_of_le_length (by omega)];rw [List.drop_append,List.drop_eq_nil_of_le (by omega),show A.length+o+cs'.length - A.length=o+cs'.length by omega,List.drop_append_of_le_length (by omega)];simp
theorem Ix {en:bN α}{L:List α}{i:Int}{off:Nat}{y:α}(h:idx L i=some y) (aW:Nat.blt off en.z=true):i.toNat * en.z+off<(bA en L).length:=by
 obtain ⟨DX,mm,_⟩:=mi h;have mg:off<en.z:=by simpa using aW
 rw [oR];have af:i.toNat+1<=L.length:=by omega
 calc i.toNat * en.z+off<i.toNat * en.z+en.z:=by omega
  _=(i.toNat+1) * en.z:=by rw [Nat.add_mul]; omega
  _<=L.length * en.z:=Nat.mul_le_mul_right _ af
theorem oM {L:List α}{i:Int}{y y2:α}(h:idx L i=some y):idx (L.set i.toNat y2) i=some y2:=by
 grind [idx]
inductive pt (g g2:aL):ab->Prop
 | mk {α:Type}{en:bN α}{L Mf:List α}{r j off:Nat}{i:Int}{y y2:α}(h1:bG g ⟨r,[j]⟩=some (aC en L)) (hi:idx L i=some y) (af:bG g2 ⟨r,[j]⟩=some (aC en Mf)) (Ck:idx Mf i=some y2) (aW:Nat.blt off en.z=true):pt g g2 (.ptr ⟨r,[j]⟩ (i.toNat * en.z+off))
theorem pt.P8 {x:ab}(h:pt g g2 x):gA g x:=by
 cases h with
 | mk h1 hi af Ck aW=>exact ⟨_,h1,_,_,_,.inl rfl,Ix hi aW⟩
theorem pt.Gf {x:ab}(h:pt g g2 x):gA g2 x:=by
 cases h with
 | mk h1 hi af Ck aW=>exact ⟨_,af,_,_,_,.inl rfl,Ix Ck aW⟩
theorem pt.bY {x:ab}(h:pt g g2 x):cS g2 x:=by
 have:=h.Gf;cases h with
 | mk=>exact .ref rfl this
theorem pt.fE {x:ab}(h:pt g g2 x):∀ z p n m new,x≠.bL z p n m new:=by
 cases h with
 | mk=>simp
theorem pt.clear {x:ab}{k0 m0:Nat}(h:pt g g2 x) (aq:p.path≠[]):Clear p k0 m0 x:=by
 cases h with
 | mk =>
  intro q a8 _ j c' e;simp only [AY,Option.some.injEq] at a8;subst a8;cases Fz:p.path with
  | nil=>exact absurd Fz aq
  | cons a b=>rw [Fz] at e; simp at e
inductive kT (g g2:aL) (r:Nat) (x2:ab):List (Nat × ab)->Prop
 | nil:kT g g2 r x2 []
 | n {s:Nat}{x:ab}{l:List (Nat × ab)}(cO:Nat.beq s r=false) (h:g s=some x) [aB:b6 x] (t:kT g g2 r x2 l):kT g g2 r x2 ((s,x)::l)
 | p {s q k:Nat}{l:List (Nat × ab)}{cs kA:List ab}(cO:Nat.beq s r=false) (h:g s=some (.ptr ⟨q,[]⟩ k)) (h1:g q=some (.obj cs)) (hk:Nat.blt k cs.length=true) (af:g2 q=some (.obj kA)) (fy:Nat.blt k kA.length=true) (t:kT g g2 r x2 l):kT g g2 r x2 ((s,.ptr ⟨q,[]⟩ k)::l)
 | e {s:Nat}{x:ab}{c2:List ab}{l:List (Nat × ab)}(cO:Nat.beq s r=false) (h:g s=some x) (he:pt g g2 x) (gF:x2=.obj c2) (t:kT g g2 r x2 l):kT g g2 r x2 ((s,x)::l)
 | w {α:Type}{s q:Nat}{en:bN α}{L:List α}{l:List (Nat × ab)}(cO:Nat.beq s r=false) (h:g s=some (.a6 en.z ⟨q,[]⟩ L.length)) (h1:g q=some (aC en L)) (af:g2 q=some (aC en L)) (t:kT g g2 r x2 l):kT g g2 r x2 ((s,.a6 en.z ⟨q,[]⟩ L.length)::l)
 | b {l:List (Nat × ab)}{x:ab}(e:x=x2) [aB:b6 x2] (t:kT g g2 r x2 l):kT g g2 r x2 ((r,x)::l)
theorem kT.spec {x2:ab}{l:List (Nat × ab)}(h:kT g g2 r x2 l):∀ t x,get l t=some x->(t≠r/\g t=some x/\(p' g g2 x\/pt g g2 x/\∃ c2,x2=.obj c2))\/(t=r/\x=x2/\cC x):=by
 induction h with
 | nil=>intro t x J; cases J
 | @n s x l cO h aB _ aM =>
  intro t y ao;simp only [get] at ao
  split at ao
  ·rename_i e;subst e;cases ao;exact .inl ⟨Nat.ne_of_beq_eq_false cO,h,.inl (.n aB.bk)⟩
  grind
 | @p s q k l cs kA cO h h1 hk af fy _ aM =>
  intro t y ao;simp only [get] at ao
  split at ao
  ·rename_i e;subst e;cases ao;exact .inl ⟨Nat.ne_of_beq_eq_false cO,h,.inl (.p h1 (by simpa using hk) af (by simpa using fy))⟩
  grind
 | @e s x c2 l cO h he gF _ aM =>
  grind [get,Nat.ne_of_beq_eq_false]
 | @w α s q en L l cO h h1 af _ aM =>
  intro t y ao;simp only [get] at ao
  split at ao
  ·rename_i e;subst e;cases ao;exact .inl ⟨Nat.ne_of_beq_eq_false cO,h,.inl (.r h1 (Nat.le_refl _) af (Nat.le_refl _))⟩
  grind
 | @b l x e aB _ aM =>
  intro t y ao;simp only [get] at ao
  split at ao
  ·rename_i b1;subst b1;cases ao;subst e;exact .inr ⟨rfl,rfl,aB.bk⟩
  grind
theorem p'.QF {x:ab}{k0 m0:Nat}(h:p' g g2 x):jA (λr=>gA g r/\Clear p k0 m0 r/\gA g2 r) x:=by
 cases h with
 | n h=>exact .bk h
 | p h hk af fy =>
  refine .ref rfl ⟨uK h hk,?_,uK af fy⟩;intro q a8 _ j c' e;simp only [AY,Option.some.injEq] at a8;subst a8;simp at e
 | r h hk af fy =>
  refine .ref rfl ⟨AX h hk,?_,AX af fy⟩;intro q a8 _ j c' e;simp only [AY,Option.some.injEq] at a8;subst a8;simp at e
theorem bc.uS {fR:Oper}{en:bN α}{L:List α}{iM y2:α}{o:Nat}{cs':List ab}{x2:ab}{G2:List (Nat × ab)}(aW:fR.op=.store t a b) (aO:fR.dst=none) (aI:Rd g a (.ptr p (m.toNat * en.z+o))) (au:Rd g b y) (aq:bG g p=some (aC en L)) (h:idx L m=some iM) (aX:hq P t cs'.length=true)
  (aa:o1 y=some cs') (he:eX (en.cells iM) o cs'=en.cells y2) (hlen:Nat.ble (o+cs'.length) en.z=true) (aK:Nat.blt 0 cs'.length=true) (gF:cn g p (aC en (L.set m.toNat y2)) p.root=some x2) (hr:(get G2 p.root).isSome=true) [aB:b6 y] {y0:ab}(rr:g p.root=some y0) [eH:b6 y0] (cY:kT g (get G2) p.root x2 G2):bc P N g fR (get G2):=by
 have Cn:=Nat.le_of_ble_eq_true hlen;have iV:=Lk en h he Cn;have OC:(L.set m.toNat y2).length=L.length:=List.length_set;refine .store aW aO aI.bs au.bs (.bk (by simpa using aB.bk)) .refl aa aX (p:=p) (nd:=aC en L) (z:=en.z) (n:=L.length) (cs:=bA en L) aq (.inl rfl) ?_ (by simpa using aK) (λt x J=>?_) (λt x J y ao=>?_) (λt z q n m new J=>?_) (by intro e; rw [e] at hr; cases hr)
 ·obtain ⟨DX,mm,_⟩:=mi h;rw [oR];have af:m.toNat+1<=L.length:=by omega
  calc m.toNat * en.z+o+cs'.length<=m.toNat * en.z+en.z:=by omega
   _=(m.toNat+1) * en.z:=by rw [Nat.add_mul]; omega
   _<=L.length * en.z:=Nat.mul_le_mul_right _ af
 ·have eA:(aC en L).eX (m.toNat * en.z+o) cs'=aC en (L.set m.toNat y2):=by
   show ab.own en.z L.length (eX (bA en L) (m.toNat * en.z+o) cs')=_
   grind
  rw [eA];rcases cY.spec t x J with ⟨h1,af,_⟩ | ⟨h1,af,_⟩
  ·grind [wo]
  grind
 ·rcases cY.spec t x J with ⟨h1,af,aD⟩ | ⟨h1,af,aD⟩
  ·rw [af] at ao;cases ao;rcases aD with aD | ⟨aD,c2,rfl⟩
   ·exact aD.QF
   ·refine jA.ref (by cases aD; rfl) ⟨aD.P8,aD.clear ?_,aD.Gf⟩
    grind [cn,ab.setAt]
  ·subst h1;rw [rr] at ao;cases ao;exact .bk eH.bk
 ·rcases cY.spec t _ J with ⟨_,_,aD | ⟨aD,_⟩⟩ | ⟨_,_,aD⟩
  ·exact aD.fE _ _ _ _ _ rfl
  ·exact aD.fE _ _ _ _ _ rfl
  ·cases aD
end
end Go.Own
namespace Go.Own
open Go
variable [cE]
theorem Tm (a b:ByteArray):(a == b)=decide (a=b):=by
 obtain ⟨a⟩:=a;obtain ⟨b⟩:=b;have:(({ data:=a }:ByteArray) == { data:=b })=(a == b):=rfl;rw [this,Bool.eq_iff_iff];simp
inductive ot where
 | b | s | i (k:IntKind)
 deriving DecidableEq
def mo:Value->Option ot
 | .bool _=>some .b
 | .string _=>some .s
 | .int k _=>some (.i k)
 | _=>none
def BM (P:Program) (rc:TypeId->List ot->Bool):List Field->Nat->List ot->Bool
 | [],_,dO=>dO.isEmpty
 | f :: fs, o, dO => f.name != "_" && f.offset == o && (match P.info? f.type with
   | some i=>i.size<=dO.length&&rc f.type (dO.take i.size)&&BM P rc fs (o+i.size) (dO.drop i.size)
   | none=>false)
def tV (P:Program):Nat->TypeId->List ot->Bool
 | 0,_,_=>false
 | d+1,t,dO=>match P.underlying t with
  | some .bool=>dO == [.b]&&j0 P t
  | some (.int k)=>dO == [.i k]&&j0 P t
  | some .string=>dO == [.s]&&j0 P t
  | some (.struct fs)=>h3 P t dO.length&&!P.stoodInHeld t&&BM P (tV P d) fs.toList 0 dO
  | _=>false
def Ns:Value->Value->Bool
 | .bool a,.bool b=>a == b
 | .int _ a,.int _ b=>decide (a=b)
 | .string a,.string b=>decide (a=b)
 | _,_=>false
def lK:List Value->List Value->Bool
 | a::az,b::c8=>Ns a b&&lK az c8
 | _,_=>true
theorem Nt:∀ (az c8 cs jE:List Value),az.length=c8.length->lK (az++cs) (c8++jE)=(lK az c8&&lK cs jE)
 | [],[],cs,jE,_=>by simp [lK]
 | [],_::_,_,_,h=>by simp at h
 | _::_,[],_,_,h=>by simp at h
 | a::az,b::c8,cs,jE,h=>by
  simp only [List.cons_append,lK,Nt az c8 cs jE (by simpa using h),Bool.and_assoc]
def pack (P:Program) (t:TypeId) (vs:List Value):Value :=
 match P.underlying t,vs with
 | some (.struct _),_=>.agg vs.toArray
 | _,v::_=>v
 | _,[]=>.agg #[]
theorem QR {P:Program}{w:World}{t:TypeId}{d:Nat}{dO:List ot}(h:tV P (d+1) t dO=true) {cs:List Value}{o:Nat}{vs:List Value}(hv:(cs.drop o).take dO.length=vs) (ah:vs.length=dO.length) :
  (part t cs.toArray o).run P w=.ok (pack P t vs) w:=by
 unfold tV at h
 split at h
 case h_4 fs hu =>
  simp only [Bool.and_eq_true] at h;obtain ⟨h1,af⟩:=ER (w:=w) h.1.1;simp [part,h1,af,pack,hu,<- hv,List.take_drop]
 case h_5=>cases h
 all_goals
  rename_i hu;simp only [Bool.and_eq_true,beq_iff_eq] at h;obtain ⟨rfl,aa⟩:=h;obtain ⟨h1,af⟩:=H_ (w:=w) aa;obtain ⟨v,rfl⟩:∃ v,vs=[v]:=by
   rcases vs with _ | ⟨v,_ | _⟩ <;> simp at ah;exact ⟨v,rfl⟩
  have:cs[o]?=some v:=by
   have:=congrArg List.head? hv;simpa [List.head?_take] using this
  simp [part,h1,pack,hu,this]
theorem Lo {P:Program}(w:World):∀ (d:Nat) (t:TypeId) (dO:List ot),tV P d t dO=true->∀ (D:Nat),d<=D->∀ (az c8:List Value),az.map mo=dO.map some->c8.map mo=dO.map some ->
  (Op.equalIn D t (pack P t az) (pack P t c8)).run P w=.ok (lK az c8) w
 | 0,_,_,h,_,_,_,_,_,_=>by simp [tV] at h
 | d+1,t,dO,h,D,jm,az,c8,aI,au=>by
  obtain ⟨D,rfl⟩:∃ E,D=E+1:=⟨D - 1,by omega⟩;have aK:=h;unfold tV at h
  split at h
  case h_5=>cases h
  case h_4 fs hu =>
   simp only [Bool.and_eq_true,Bool.not_eq_true'] at h;obtain ⟨⟨h1,af⟩,aD⟩:=h;have key:∀ (fs:List Field) (o:Nat) (dO:List ot) (nQ nR:List Value),BM P (tV P d) fs o dO=true->az.drop o=nQ->c8.drop o=nR->nQ.map mo=dO.map some->nR.map mo=dO.map some ->
     (forIn (m:=Sem) (β:=Option Bool × Unit) fs (none,()) λf _ =>
      if f.name = "_" then pure (.yield (none, ()))
      else do
       let x <- part f.type az.toArray f.offset
       let y <- part f.type c8.toArray f.offset
       let c <- Op.equalIn D f.type x y
       if c=false then pure (.done (some false,())) else pure (.yield (none,()))).run P w=.ok (if lK nQ nR then (none,()) else (some false,())) w:=by
    intro fs
    induction fs with
    | nil =>
     intro o dO nQ nR aP _ _ aI au;have aw:dO=[]:=by simpa [BM] using aP
     subst aw;have h1:nQ=[]:=by simpa using aI
     have af:nR=[]:=by simpa using au
     subst h1 af;simp [lK]
    | cons f fs aM =>
     intro o dO nQ nR aP Oi Oj aI au;unfold BM at aP;cases hi:P.info? f.type with
     | none=>simp [hi] at aP
     | some i =>
      simp only [hi,Bool.and_eq_true,bne_iff_ne,beq_iff_eq,decide_eq_true_eq] at aP;obtain ⟨⟨aB,rfl⟩,⟨hle,he⟩,Cj⟩:=aP;obtain ⟨e,rfl⟩:∃ e,d=e+1:=by
       cases d with
       | zero=>simp [tV] at he
       | succ e=>exact ⟨e,rfl⟩
      have xQ:nQ.length=dO.length:=by simpa using congrArg List.length aI
      have afp:nR.length=dO.length:=by simpa using congrArg List.length au
      have aba:(nQ.take i.size).map mo=(dO.take i.size).map some:=by rw [List.map_take,List.map_take,aI]
      have hP:(nR.take i.size).map mo=(dO.take i.size).map some:=by rw [List.map_take,List.map_take,au]
      have UP:(nQ.drop i.size).map mo=(dO.drop i.size).map some:=by rw [List.map_drop,List.map_drop,aI]
      have UQ:(nR.drop i.size).map mo=(dO.drop i.size).map some:=by rw [List.map_drop,List.map_drop,au]
      have lt:(dO.take i.size).length=i.size:=by simp; omega
      have lX:=QR (w:=w) he (cs:=az) (o:=f.offset) (vs:=nQ.take i.size) (by rw [Oi,lt]) (by simp; omega);have Gj:=QR (w:=w) he (cs:=c8) (o:=f.offset) (vs:=nR.take i.size) (by rw [Oj,lt]) (by simp; omega);have Iu:=Lo w (e+1) f.type _ he D (by omega) _ _ aba hP;have aM:=aM (f.offset+i.size) (dO.drop i.size) (nQ.drop i.size) (nR.drop i.size) Cj (by rw [<- Oi,List.drop_drop]) (by rw [<- Oj,List.drop_drop]) UP UQ;have sp:lK nQ nR=(lK (nQ.take i.size) (nR.take i.size)&&lK (nQ.drop i.size) (nR.drop i.size)):=by
       have:=Nt (nQ.take i.size) (nR.take i.size) (nQ.drop i.size) (nR.drop i.size) (by simp; omega)
       rwa [List.take_append_drop,List.take_append_drop] at this
      rw [List.forIn_cons];cases aa:lK (nQ.take i.size) (nR.take i.size) with
      | false=>simp [aB,lX,Gj,Iu,aa,sp]
      | true =>
       simp only [aa] at Iu;simp [aB,lX,Gj,Iu,aa,sp];simpa using aM
   have hk:=key fs.toList 0 dO az c8 aD rfl rfl aI au;unfold Op.equalIn;simp [pack,hu,run_underlying hu,af];rw [<- Array.forIn_toList,hk];cases lK az c8 <;> simp
  all_goals
   rename_i hu;simp only [Bool.and_eq_true,beq_iff_eq] at h;obtain ⟨rfl,aa⟩:=h;obtain ⟨a,rfl⟩:∃ v,az=[v]:=by
    rcases az with _ | ⟨v,_ | _⟩ <;> simp at aI;exact ⟨v,rfl⟩
   obtain ⟨b,rfl⟩:∃ v,c8=[v]:=by
    rcases c8 with _ | ⟨v,_ | _⟩ <;> simp at au;exact ⟨v,rfl⟩
   cases a <;> simp [mo] at aI <;> cases b <;> simp [mo] at au;simp [Op.equalIn,pack,hu,run_underlying hu,lK,Ns,aI,au,Tm] <;> rfl
def ve (P:Program) (t:TypeId) (dO:List ot):Bool :=
 tV P 100 t dO&&(match P.underlying t with | some (.struct _)=>true | _=>false)&&!P.eqGuardType P.depth t
section
variable {P:Program}{g:aL}{t t2:TypeId}{ty:TypeId}{a b:Operand}
theorem aan {az c8:List Value}{dO:List ot}(aI:az.map mo=dO.map some) (au:c8.map mo=dO.map some) (ar:ve P t dO=true) (w:World) :
  (do eqGuard .eql t a b (.agg az.toArray) (.agg c8.toArray); binOp .eql t (.agg az.toArray) (.agg c8.toArray):Sem Value).run P w=.ok (.bool (lK az c8)) w:=by
 simp only [ve,Bool.and_eq_true,Bool.not_eq_true'] at ar;obtain ⟨⟨h1,af⟩,aD⟩:=ar;have h:=Lo w 100 t dO h1 Op.maxDepth (by decide) az c8 aI au
 split at af
 ·rename_i fs hu;simp only [pack,hu] at h;simp [eqGuard,binOp,aD,Op.equal,h]
 ·cases af
theorem aap {az c8:List Value}{dO:List ot}(aI:az.map mo=dO.map some) (au:c8.map mo=dO.map some) (ar:ve P t dO=true) (w:World) :
  (do eqGuard .neq t a b (.agg az.toArray) (.agg c8.toArray); binOp .neq t (.agg az.toArray) (.agg c8.toArray):Sem Value).run P w=.ok (.bool (!lK az c8)) w:=by
 simp only [ve,Bool.and_eq_true,Bool.not_eq_true'] at ar;obtain ⟨⟨h1,af⟩,aD⟩:=ar;have h:=Lo w 100 t dO h1 Op.maxDepth (by decide) az c8 aI au
 split at af
 ·rename_i fs hu;simp only [pack,hu] at h;simp [eqGuard,binOp,aD,Op.equal,h]
 ·cases af
namespace O
theorem Ve {nJ pn:List Value}{dO:List ot}(J:Rd g a (.agg (nJ.map .lit))) (ao:Rd g b (.agg (pn.map .lit))) (aI:nJ.map mo=dO.map some) (au:pn.map mo=dO.map some) (ar:ve P t dO=true) :
  bT P g (.binOp .eql t a b t2) ty (bg (lK nJ pn)):=.ew (.Bt J.bs ao.bs rfl λw=>aan aI au ar w)
theorem Y' {nJ pn:List Value}{dO:List ot}(J:Rd g a (.agg (nJ.map .lit))) (ao:Rd g b (.agg (pn.map .lit))) (aI:nJ.map mo=dO.map some) (au:pn.map mo=dO.map some) (ar:ve P t dO=true) :
  bT P g (.binOp .neq t a b t2) ty (bg (!lK nJ pn)):=.ew (.Bt J.bs ao.bs rfl λw=>aap aI au ar w)
end O
end
section
variable {P:Program}{N:cN}{g g2:aL}{d r k0:Nat}{α:Type}
theorem View.kI {p:Place}{cs cs':List ab}(aq:bG g p=some (.obj cs)) (hk:Nat.blt 0 cs.length=true) [h:f_ cs cs']:View g (.ptr p 0) (.cw cs') :=
 .ptr aq (z:=0) (n:=0) (.inr rfl) (by simpa using hk) (by simpa using h.l) λk x y J ao=>h.v g k x y (by simpa using J) ao
theorem cS.el {en:bN α}{L:List α}{j off:Nat}{i:Int}{y:α}(af:bG g2 ⟨r,[j]⟩=some (aC en L)) (hi:idx L i=some y) (aW:Nat.blt off en.z=true):cS g2 (.ptr ⟨r,[j]⟩ (i.toNat * en.z+off)) :=
 (pt.mk (g:=g2) af hi af hi aW).bY
theorem jP {p:Place}{k:Nat}:∀ z q n m new,ab.ptr p k≠.bL z q n m new:=by simp
inductive yK (g:aL) (d r k0:Nat) (G4:List (Nat × ab)):List (Nat × ab)->Prop
 | nil:yK g d r k0 G4 []
 | c {α:Type}{en:bN α}{L:List α}{s off:Nat}{i:Int}{y:α}{l:List (Nat × ab)}(h:g s=some (.ptr ⟨r,[k0]⟩ (i.toNat * en.z+off))) (aq:bG (get G4) ⟨r,[k0]⟩=some (aC en L)) (hi:idx L i=some y) (aW:Nat.blt off en.z=true) (aO:Nat.beq s d=false) (bm:get G4 s=none) (t:yK g d r k0 G4 l):yK g d r k0 G4 ((s,.ptr ⟨r,[k0]⟩ (i.toNat * en.z+off))::l)
theorem yK.spec {G4 l:List (Nat × ab)}(h:yK g d r k0 G4 l):∀ t x,get l t=some x->get G4 t=none/\t≠d/\g t=some x/\∃ m z n cs,x=.ptr ⟨r,[k0]⟩ m/\bG (get G4) ⟨r,[k0]⟩=some (.own z n cs)/\m<cs.length:=by
 induction h with
 | nil=>intro t x J; cases J
 | @c α en L s off i y l h aq hi aW aO bm _ aM =>
  intro t x J; simp only [get] at J
  split at J
  ·rename_i e; subst e; cases J; exact ⟨bm,Nat.ne_of_beq_eq_false aO,h,_,_,_,_,rfl,aq,Ix hi aW⟩
  ·exact aM t x J
theorem kT.keep {g':aL}{x2:ab}{G2:List (Nat × ab)}(cY:kT g (get G2) r x2 G2) (h1:∀ t,t≠r->g' t=g t) (af:g' r=some x2):il g' (get G2):=by
 refine ⟨λt x J=>?_,λt x J=>?_,λt z q n m new J=>?_⟩
 ·rcases cY.spec t x J with ⟨a,b,_⟩ | ⟨rfl,rfl,_⟩
  ·grind
  grind
 ·rcases cY.spec t x J with ⟨_,_,aD | ⟨aD,_⟩⟩ | ⟨_,_,aD⟩
  ·exact aD.bY
  ·exact aD.bY
  ·exact .bk aD
 ·rcases cY.spec t _ J with ⟨_,_,aD | ⟨aD,_⟩⟩ | ⟨_,_,aD⟩
  ·exact aD.fE _ _ _ _ _ rfl
  ·exact aD.fE _ _ _ _ _ rfl
  ·cases aD
theorem Q2 {cs:List ab}{y x:ab}(h:g r=some (.obj cs)) (hk:cs[k0]?=some x):cn g ⟨r,[k0]⟩ y r=some (.obj (cs.set k0 y)):=by
 grind [cn,ab.setAt,ab.kids,ab.sG]
theorem bc.dK {o:Oper}{y:ab}{cs cs5:List ab}{G1 G4:Value->List (Nat × ab)}{c4:Value->List ab}{G5 A:List (Nat × ab)}(aO:o.dst=some d) (bp:N.ok d=true) (hr:g r=some (.obj cs)) (ao:cs[k0]?=some y) [xF:b6 y]
  (h1:∀ v,kT g (get (G1 v)) r (.obj (cs.set k0 (.lit v))) (G1 v)) (aa:∀ v,kQ P N (get (G1 v)) o d (get (G4 v))) (NV:∀ v,get (G4 v) r=some (.obj (c4 v))) (NU:∀ v,(c4 v)[k0]?=some (.lit v)) (VK:∀ v,(c4 v).set k0 y=cs5)
  (b7:∀ v,kT (get (G4 v)) (get G5) r (.obj cs5) G5) (VP:bG (get G5) ⟨r,[k0]⟩=some y) (dI:yK g d r k0 G5 A) (ln:∀ i,y≠.self i:=by exact λ_ h=>by cases h):bc P N g o (get (A++G5)):=by
 refine .call aO bp (kQ.Vu hr ao xF.bk ln λv hv=>⟨get (G1 v),get (G4 v),get G5,?_,aa v,?_,?_,VP,?_⟩)
 ·exact (h1 v).keep (λt ar=>wo ar) (Q2 hr ao)
 ·have:=NV v;simp only [bG,this,ab.at,ab.kids,NU v]
 ·refine (b7 v).keep (λt ar=>wo ar) ?_;rw [Q2 (NV v) (NU v),VK v]
 ·refine ⟨λt x h=>?_,λt x h=>?_⟩
  ·rw [Fb];cases r8:get A t with
   | none=>exact h
   | some z =>
    obtain ⟨mm,_⟩:=dI.spec t z r8;rw [mm] at h; cases h
  ·rw [Fb] at h;cases r8:get A t with
   | none=>rw [r8] at h; exact .inl h
   | some z =>
    rw [r8] at h;cases h;exact .inr (dI.spec t x r8)
end
section
variable {P:Program}{N:cN}{ops:Array Oper}{g g1 lL:aL}{K:aL->Prop}{l:List Oper}{d r:Nat}{t:TypeId}{a b:Operand}{x y:ab}
variable {bj:List (List Nat)}{acc:Acc}{i:Nat}
theorem gO {a b:Nat}(h:Nat.blt a b=true):a<b:=by simpa using h
def Db:Option Nat->Nat->Bool
 | none,_=>true
 | some a,d=>!Nat.beq a d
theorem KX {o:Option Nat}{d:Nat}(h:Db o d=true):o≠some d:=by
 rintro rfl;simp [Db] at h
inductive tH (P:Program) (N:cN) (ops:Array Oper) (bj:List (List Nat)) (rs:Place->Prop) (lL g1:aL) (o:Oper) (U:Acc):Acc->Prop
 | nil:tH P N ops bj rs lL g1 o U []
 | c {k d:Nat}{x:ab}{fR:Oper}{V:Acc}(bU:wG rs lL g1 o x) (h1:g1 d=none) (cO:Db o.dst d=true) (aW:ops[k]?=some fR) (xt:fR.dst=some d) (bp:N.ok d=true) (hw:iE (dr g1 (λm=>(bj.getD k []).contains m) U) ops fR true)
   (aw:bT P (dr g1 (λm=>(bj.getD k []).contains m) U) fR.op fR.type x) (t:tH P N ops bj rs lL g1 o U V):tH P N ops bj rs lL g1 o U ((k,d,some x)::V)
 | ci {k d:Nat}{x y:ab}{fR:Oper}{V:Acc}(bU:wG rs lL g1 o x) (h1:g1 d=none) (cO:Db o.dst d=true) (aW:ops[k]?=some fR) (xt:fR.dst=some d) (bp:N.ok d=true) (hw:iE (dr g1 (λm=>(bj.getD k []).contains m) U) ops fR true)
   (aw:bT P (dr g1 (λm=>(bj.getD k []).contains m) U) fR.op fR.type y) [aB:b6 y] [hv:jY y x] (t:tH P N ops bj rs lL g1 o U V):tH P N ops bj rs lL g1 o U ((k,d,some x)::V)
theorem tH.spec {o:Oper}{U V:Acc}{rs:Place->Prop}(h:tH P N ops bj rs lL g1 o U V):∀ e∈V,(∃ x,e.2.2=some x/\wG rs lL g1 o x)/\(g1 e.2.1=none/\o.dst≠some e.2.1)/\∃ fR,ops[e.1]?=some fR/\fR.dst=some e.2.1/\N.ok e.2.1=true/\qa P (dr g1 (λm=>(bj.getD e.1 []).contains m) U) ops fR e.2.2:=by
 induction h with
 | nil=>intro e he; cases he
 | c bU h1 cO aW xt bp hw aw _ aM =>
  intro e he;rcases List.mem_cons.1 he with rfl | he
  ·exact ⟨⟨_,rfl,bU⟩,⟨h1,KX cO⟩,_,aW,xt,bp,.inl ⟨hw,.inl aw⟩⟩
  ·exact aM e he
 | @ci k d x y fR V bU h1 cO aW xt bp hw aw aB hv _ aM =>
  intro e he;rcases List.mem_cons.1 he with rfl | he
  ·exact ⟨⟨_,rfl,bU⟩,⟨h1,KX cO⟩,_,aW,xt,bp,.inr (.inr ⟨hw,y,.inl aw,aB.bk,hv.v _⟩)⟩
  ·exact aM e he
theorem bC.dS (bX:Nat) {G G2:List (Nat × ab)}{U:Acc}{o:Oper}{rs:List Nat}(he:nf P N (sC rs) (dr (get G) (λm=>(bj.getD bX []).contains m) acc) o (get G2)) (lp:rs.all (λr=>(get G r).isSome)=true) (aP:o.guard=none) (gN:sy ((acc.filterMap k7).map Place.root)=true) (fL:n' G=true) (ag:Nat.beq ops.size (bX+l.length+1)=true)
  (fi:acc.filter (λe=>!(bj.getD bX []).contains e.1)=U) (oK:tH P N ops bj (sC rs) (dr (get G) (λm=>(bj.getD bX []).contains m) acc) (get G2) o U U)
  (au:(List.range ops.size).all (λk=>Nat.ble k bX||(bj.getD k []).contains bX)=true) (hk:bC P N ops bj (get G2) (bX+1) U l K):bC P N ops bj (get G) i acc (o::l) K:=by
 intro dA j bQ lR mc;have:=BK mc ag;subst this;obtain ⟨h1,af⟩:=drop_cons mc;have mM:∀ e∈U,e∈acc:=λe he=>by rw [<- fi] at he; exact (List.mem_filter.1 he).1
 have B1:ni P N ops bj (get G2) (j+1) U:=⟨λe he=>by have:=(lR.le bQ).2 e (mM e he); omega,λe he=>(oK.spec e he).2.1.1,by rw [<- fi]; exact (List.filter_sublist.map _).nodup (lR.nodup bQ),λe he b1 h8 h=>lR.uniq bQ (mM e he) (mM b1 h8) h,λe he=>(oK.spec e he).2.2⟩;obtain ⟨g',hr,cZ⟩:=hk U (j+1) B1 .nil af;refine ⟨g',.Bs lR (F7 gN) (xW fL) h1 ?_ he (λr hr e=>by have:=List.all_eq_true.1 lp r.root hr; rw [e] at this; cases this) fi.symm (λe h=>(oK.spec e h).1) (λe h=>(oK.spec e h).2.1) (λe h=>(oK.spec e h).2.2) ?_ hr,cZ⟩
 ·unfold iE; rw [aP]
 ·refine List.all_eq_true.2 λk hk=>?_;have:=List.all_eq_true.1 au k hk;simp only [Bool.or_eq_true,decide_eq_true_eq,Nat.ble_eq] at this ⊢;exact this
theorem bC.MW (bX:Nat) {G G2:List (Nat × ab)}{U:Acc}{o:Oper}{ps:List Place}(he:nf P N (λp=>p∈ps) (dr (get G) (λm=>(bj.getD bX []).contains m) acc) o (get G2)) (lp:ps.all (λr=>(get G r.root).isSome)=true) (aP:o.guard=none) (gN:sy ((acc.filterMap k7).map Place.root)=true) (fL:n' G=true) (ag:Nat.beq ops.size (bX+l.length+1)=true)
  (fi:acc.filter (λe=>!(bj.getD bX []).contains e.1)=U) (oK:tH P N ops bj (λp=>p∈ps) (dr (get G) (λm=>(bj.getD bX []).contains m) acc) (get G2) o U U)
  (au:(List.range ops.size).all (λk=>Nat.ble k bX||(bj.getD k []).contains bX)=true) (hk:bC P N ops bj (get G2) (bX+1) U l K):bC P N ops bj (get G) i acc (o::l) K:=by
 intro dA j bQ lR mc;have:=BK mc ag;subst this;obtain ⟨h1,af⟩:=drop_cons mc;have mM:∀ e∈U,e∈acc:=λe he=>by rw [<- fi] at he; exact (List.mem_filter.1 he).1
 have B1:ni P N ops bj (get G2) (j+1) U:=⟨λe he=>by have:=(lR.le bQ).2 e (mM e he); omega,λe he=>(oK.spec e he).2.1.1,by rw [<- fi]; exact (List.filter_sublist.map _).nodup (lR.nodup bQ),λe he b1 h8 h=>lR.uniq bQ (mM e he) (mM b1 h8) h,λe he=>(oK.spec e he).2.2⟩;obtain ⟨g',hr,cZ⟩:=hk U (j+1) B1 .nil af;refine ⟨g',.Bs lR (F7 gN) (xW fL) h1 ?_ he (λr hr e=>by have:=List.all_eq_true.1 lp r hr; rw [e] at this; cases this) fi.symm (λe h=>(oK.spec e h).1) (λe h=>(oK.spec e h).2.1) (λe h=>(oK.spec e h).2.2) ?_ hr,cZ⟩
 ·unfold iE; rw [aP]
 ·refine List.all_eq_true.2 λk hk=>?_;have:=List.all_eq_true.1 au k hk;simp only [Bool.or_eq_true,decide_eq_true_eq,Nat.ble_eq] at this ⊢;exact this
theorem nf.box {o:Oper}{r:Nat}{x:ab}{G1 G2:List (Nat × ab)}(he:bc P N (get G1) o (get G2)) (hr:g r=some x) [J:b6 x] (hk:Trim false g (get G1) G1) (aK:get G1 r=none) (h1:get G2 r=none) (aO:Db o.dst r=true):nf P N (sC [r]) g o (get ((r,x)::G2)):=by
 rw [<- r6];exact he.iv.frame hr J.bk hk.keep aK h1 (KX aO)
theorem bc.j_ {o:Oper}{k0:Nat}{cs cs' cs2:List ab}{G2:List (Nat × ab)}(aW:o.op=.store t a b) (aO:o.dst=none) (aw:g r=some (.obj cs)) (aI:Rd g a (.ptr ⟨r,[]⟩ k0)) (au:Rd g b y) [aB:b6 y] (aa:o1 y=some cs') (aX:hq P t cs'.length=true)
  (hk:Nat.ble (k0+cs'.length) cs.length=true) (aK:Nat.blt 0 cs'.length=true) (he:eX cs k0 cs'=cs2) [eH:dk cs] (hr:(get G2 r).isSome=true) (cY:lh g (get G2) r cs2 G2):bc P N g o (get G2) :=
 .box aW aO aw aI au aB.bk aa aX (Nat.le_of_ble_eq_true hk) (by simpa using aK) he (by intro e; rw [e] at hr; cases hr) cY
end
section
variable {α:Type}
theorem f_.app {xs ys xs' Eo:List ab}(h:f_ xs ys) (aJ:f_ xs' Eo):f_ (xs++xs') (ys++Eo):=⟨by simp [h.l,aJ.l],λg k a b aI au=>by
 by_cases hk:k<xs.length
 ·rw [List.getElem?_append_left hk] at aI;rw [List.getElem?_append_left (by rw [h.l]; exact hk)] at au;exact h.v g k a b aI au
 ·rw [List.getElem?_append_right (by omega)] at aI;rw [List.getElem?_append_right (by rw [h.l]; omega),h.l] at au;exact aJ.v g _ a b aI au⟩
instance {e b1:bN α}{L:List α} [h:im e b1]:f_ (bA e L) (bA b1 L):=⟨(Ej e b1 L).1,(Ej e b1 L).2⟩
theorem jY.wj {en:bN α}{L:List α}{n:Nat}{cs cs':List ab}(h:bA en L=cs') (ah:L.length=n) [hv:f_ cs cs']:jY (.own en.z n cs) (aj en L):=⟨λg=>by
 subst h ah;exact .own hv.l (hv.v g)⟩
theorem jY.jt {en tU:bN α}{L M:List α}{m:Nat}{new cL:List ab} [h:im en tU] (aB:bA tU M=cL) (hm:M.length=m) [aJ:f_ new cL]:jY (.own en.z (L.length+m) (bA en L++new)) (aj tU (L++M)):=⟨λg=>by
 subst aB hm;have hv:=f_.app (inferInstance:f_ (bA en L) (bA tU L)) aJ;show View g (.own en.z (L.length+M.length) (bA en L++new)) (.bd tU.z (L++M).length (bA tU (L++M)));have e:bA tU (L++M)=bA tU L++bA tU M:=by simp [bA]
 rw [e,List.length_append,<- h.z];exact .own hv.l (hv.v g)⟩
end
section
variable {α:Type}{g g2:aL}{p q:Place}{P:Program}{a b:Operand}{t:TypeId}{ty:TypeId}
theorem cS.a6 {en:bN α}{L:List α}(h:bG g2 p=some (aC en L)):cS g2 (.a6 en.z p L.length):=.ref rfl (.inl ⟨_,_,h,Nat.le_refl _⟩)
theorem iz {z n:Nat}:∀ bR q cr m new,ab.a6 z p n≠.bL bR q cr m new:=by simp
namespace O
theorem SY {en:bN α}{L M r:List α}{e fP m:Nat}{cs:List ab}(aw:Rd g a (.a6 en.z p L.length)) (aq:bG g p=some (aC en L)) (J:Rd g b (.a6 en.z q m)) (a8:bG g q=some (.own en.z m cs)) (ah:cs.length=m * en.z) (aT:cs.all l'=true) (hm:M.length=m) (ar:h4 P t e en.z fP=true) (au:Nat.ble fP 128=true) (h:cT L M=some r)
  (eH:∀ t z n m new,g t≠some (.bL z p n m new)):bT P g (.call { callee:=.builtin .append,args:=#[a,b],argTypes:=#[t,t] }) ty (.bL en.z p L.length m cs):=by
 subst hm;obtain ⟨h1,af,_⟩:=u6 h au;exact .lX (.grow aw.bs (.inl ⟨_,aq⟩) (λt bR cr m' cL e=>eH _ _ _ _ _ e) J.bs (Rg a8 ah aT) ar h1 af)
end O
end
end Go.Own
namespace Go.Own
open Go Go.RowKit Go.ChangeShapes Go.WideShapes Go.Deep
variable [cE]
variable {α β L6:Type}{P:Program}
abbrev tE (w:World) (y:ab) (u:Value):Prop:=R w (λb=>b<w.heap.size) (λ_ _=>False) y u (λ_=>False)
def nk (w:World) (ys:List ab) (cs:List Value):Prop :=
 ys.length=cs.length/\∀ (k:Nat) (y:ab) (u:Value),ys[k]?=some y->cs[k]?=some u->u.oneCell'=true/\tE w y u
theorem nk.nil {w:World}:nk w [] []:=⟨rfl,λ_ _ _ h=>by simp at h⟩
theorem nk.one {w:World}{y:ab}{u:Value}(h1:u.oneCell'=true) (h:tE w y u):nk w [y] [u] :=
 ⟨rfl,λk y' sK ao hu=>by
  cases k with
  | zero=>simp at ao hu; subst ao hu; exact ⟨h1,h⟩
  | succ k=>simp at ao⟩
theorem nk.app {w:World}{ys yE:List ab}{cs jE:List Value}(h:nk w ys cs) (af:nk w yE jE):nk w (ys++yE) (cs++jE):=by
 refine ⟨by simp [h.1,af.1],λk y u ao hu=>?_⟩;by_cases hk:k<ys.length
 ·rw [List.getElem?_append_left hk] at ao;rw [List.getElem?_append_left (h.1 ▸ hk)] at hu;exact h.2 k y u ao hu
 ·rw [List.getElem?_append_right (by omega)] at ao;rw [List.getElem?_append_right (by have:=h.1; omega),<- h.1] at hu;exact af.2 _ y u ao hu
structure kP (P:Program) (e:bN α) (t:TypeId) (ok:α->Prop):Prop where
 z:P.cellsOf t=e.z
 go:∀ {H:Type}{enc:TypeId × Value->H}{w:World}{n:Nat}{cs:List Value}{x:DataW H × List MemPlace},
  DataW.trod enc P w 0 (λ_=>true) true n t cs=some x->∃ a,ok a/\nk w (e.cells a) cs
theorem kP.int {e:bN Int}{t:TypeId}{k:IntKind}(ar:P.underlying t=some (.int k)) (aX:P.cellsOf t=e.z) (he:∀ n,e.cells n=[.lit (.int k n)]) :
  kP P e t (λn=>(Lit.int k n).wf=true):=by
 refine ⟨aX,λh=>?_⟩;obtain ⟨n,rfl,_,hw⟩:=DataW.trod_int ar h;exact ⟨n,hw,he n ▸ nk.one rfl (.lit rfl λ_ h=>h)⟩
theorem kP.bool {e:bN Bool}{t:TypeId}(ar:P.underlying t=some .bool) (aX:P.cellsOf t=e.z) (he:∀ n,e.cells n=[.lit (.bool n)]) :
  kP P e t (λ_=>True):=by
 refine ⟨aX,λh=>?_⟩;obtain ⟨n,rfl,_⟩:=DataW.trod_bool ar h;exact ⟨n,trivial,he n ▸ nk.one rfl (.lit rfl λ_ h=>h)⟩
theorem QM (e:bN α) (aX:0<e.z):∀ (l:List α) (k:Nat) (y:ab),(bA e l)[k]?=some y->∃ a,l[k / e.z]?=some a/\(e.cells a)[k % e.z]?=some y
 | [],k,y,h=>by simp [bA] at h
 | a::l,k,y,h=>by
  have he:bA e (a::l)=e.cells a++bA e l:=by simp [bA]
  rw [he] at h;by_cases hk:k<e.z
  ·rw [List.getElem?_append_left (by rw [e.len]; exact hk)] at h;exact ⟨a,by simp [Nat.div_eq_of_lt hk],by rw [Nat.mod_eq_of_lt hk]; exact h⟩
  ·rw [List.getElem?_append_right (by rw [e.len]; omega),e.len] at h;obtain ⟨b,h1,af⟩:=QM e aX l (k - e.z) y h;have aO:k / e.z=(k - e.z) / e.z+1:=by rw [Nat.div_eq_sub_div aX (by omega)]
   refine ⟨b,by rw [aO]; simpa using h1,?_⟩;rw [Nat.mod_eq_sub_mod (by omega)]; exact af
theorem kP.slice {e:bN α}{t A2:TypeId}{ok:α->Prop}(h:kP P e A2 ok) (ar:P.underlying t=some (.slice A2)) (aX:P.cellsOf t=1) (pO:0<e.z) :
  kP P (bF e) t (λl=>l.length<=maxLen/\∀ x∈l,ok x):=by
 classical
 refine ⟨aX,λ{H enc w n cs x} hr=>?_⟩;rcases open_slice ar hr with ⟨rfl,rfl⟩ | ⟨a,len,cap,m,cr,D,p9,rfl,au,ah,hm,JQ,rfl,J⟩
 ·exact ⟨[],⟨by simp,by simp⟩,nk.one rfl (.gG λ_ h=>h)⟩
 ·have vz:m=cap:=by simpa using JQ
  subst vz;have hex:∀ i,i<len->∃ q:α × List Value,ok q.1/\nk w (e.cells q.1) q.2/\w.cells? 0 (a.add (i * P.cellsOf A2)) (P.cellsOf A2)=some q.2:=λi hi=>by
   obtain ⟨cs',h1,af⟩:=J i (by omega);obtain ⟨b,gM,fj⟩:=h.go af;exact ⟨(b,cs'),gM,fj,h1⟩
  by_cases aK:len=0
  ·subst aK;exact ⟨[],⟨by simp,by simp⟩,nk.one rfl (.gG λ_ h=>h)⟩
  ·obtain ⟨DX,_⟩:=hex 0 (by omega)
   haveI:Inhabited (α × List Value):=⟨DX⟩
   obtain ⟨f,aT⟩:=choose_lt hex;have hlen:((List.range len).map λi=>(f i).1).length=len:=by simp
   have mL:∀ (i:Nat) (b:α),((List.range len).map λi=>(f i).1)[i]?=some b->i<len/\b=(f i).1:=λi b hi=>by
    have aN:=(List.getElem?_eq_some_iff.1 hi).1;simp at aN;simp [aN] at hi;exact ⟨aN,hi.symm⟩
   have iV:a.spot=none/\a.block<w.heap.size:=by
    obtain ⟨_,_,aD⟩:=aT 0 (by omega);obtain ⟨_,JK,b7⟩:=World.cells?_some aD;have dp:=b7 0 (by rw [h.z]; exact pO);simp only [Nat.zero_mul,Addr.add,if_true] at dp;have:0<(f 0).2.length:=by rw [JK,h.z]; exact pO
    rw [List.getElem?_eq_getElem this] at dp;unfold World.cell? at dp
    split at dp
    ·rename_i bP;refine ⟨?_,(Array.getElem?_eq_some_iff.1 bP).1⟩;cases aw:a.spot with
     | none=>rfl
     | some s=>simp [aw] at dp
    ·cases dp
   have key:∀ (k:Nat) (y:ab),(bA e ((List.range len).map λi=>(f i).1))[k]?=some y->∃ u,w.cell? ⟨a.block,a.off+k,none⟩=some u/\u.oneCell'=true/\tE w y u:=λk y hk=>by
    obtain ⟨b,gM,fj⟩:=QM e pO _ k y hk;obtain ⟨hi,rfl⟩:=mL _ _ gM;obtain ⟨_,af,aD⟩:=aT _ hi;obtain ⟨_,JK,b7⟩:=World.cells?_some aD;have OH:k % e.z<e.z:=Nat.mod_lt _ pO;have dp:=b7 (k % e.z) (by rw [h.z]; exact OH);rw [Deep.add_add,h.z] at dp;have fy:k / e.z * e.z+k % e.z=k:=by rw [Nat.mul_comm]; exact Nat.div_add_mod k e.z
    rw [fy] at dp;have aN:k % e.z<(f (k / e.z)).2.length:=by rw [JK,h.z]; exact OH
    rw [List.getElem?_eq_getElem aN] at dp;have aI:a.add k=⟨a.block,a.off+k,none⟩:=by
     unfold Addr.add;split
     ·rename_i VD; subst VD; cases a; simp at iV ⊢; exact iV.1
     ·rfl
    rw [aI] at dp;exact ⟨_,dp,af.2 _ _ _ fj (List.getElem?_eq_getElem aN)⟩
   refine ⟨(List.range len).map λi=>(f i).1,⟨by rw [hlen]; omega,λy ao=>?_⟩,nk.one rfl ?_⟩
   ·obtain ⟨i,hi,rfl⟩:=List.mem_map.1 ao;exact (aT i (List.mem_range.1 hi)).1
   ·show tE w (.bd e.z _ _) _;rw [hlen];refine .bd (us:=λk=>(w.cell? ⟨a.block,a.off+k,none⟩).getD .nilFunc) (λ_ h=>h) ah iV.2 iV.1 (by rw [oR,hlen]) (λk y hk=>?_) (λk y hk=>?_) (λk y hk=>?_)
    ·obtain ⟨u,h1,af,aD⟩:=key k y hk;simp only [h1,Option.getD_some]; exact af
    ·obtain ⟨u,h1,af,aD⟩:=key k y hk;simp only [h1,Option.getD_some]
    ·obtain ⟨u,h1,af,aD⟩:=key k y hk;simp only [h1,Option.getD_some]; exact aD
def BR (P:Program):Nat->List Field->List TypeId->Bool
 | _,[],[]=>true
 | off,f::fs,t::ts=>decide (f.type=t)&&decide (f.offset=off)&&BR P (off+P.cellsOf t) fs ts
 | _,_,_=>false
def Ee (P:Program) (t:TypeId) (ts:List TypeId):Bool :=
 match P.underlying t with
 | some (.struct fs)=>BR P 0 fs.toList ts&&decide (P.cellsOf t=(ts.map P.cellsOf).sum)
 | _=>false
structure yH (P:Program) (cells:β->List ab) (ts:List TypeId) (ok:β->Prop):Prop where
 go:∀ {H:Type}{enc:TypeId × Value->H}{w:World}{n:Nat}{cs:List Value}{fs:List Field}{off:Nat},BR P off fs ts=true->cs.length=off+(ts.map P.cellsOf).sum ->
  (∀ (i:Nat) (f:Field),fs[i]?=some f->∃ x,DataW.trod enc P w 0 (λ_=>true) true n f.type ((cs.drop f.offset).take (P.cellsOf f.type))=some x) ->
  ∃ b,ok b/\nk w (cells b) (cs.drop off)
theorem yH.nil:yH P (λ_:Unit=>[]) [] (λ_=>True) :=
 ⟨λ{H enc w n cs fs off} _ ah _=>⟨(),trivial,by rw [List.drop_eq_nil_of_le (by simp at ah; omega)]; exact nk.nil⟩⟩
theorem yH.cons {e:bN α}{t:TypeId}{ts:List TypeId}{ok:α->Prop}{cells:β->List ab}{P_:β->Prop}(h:kP P e t ok) (ah:yH P cells ts P_) :
  yH P (λp:α × β=>e.cells p.1++cells p.2) (t::ts) (λp=>ok p.1/\P_ p.2):=by
 refine ⟨λ{H enc w n cs fs off} eV hlen hr=>?_⟩;cases fs with
 | nil=>simp [BR] at eV
 | cons f fs =>
  simp only [BR,Bool.and_eq_true,decide_eq_true_eq] at eV;obtain ⟨⟨rfl,rfl⟩,eV⟩:=eV;obtain ⟨x,J⟩:=hr 0 f rfl;obtain ⟨a,aI,aY⟩:=h.go J;obtain ⟨b,au,Wl⟩:=ah.go (off:=f.offset+P.cellsOf f.type) (cs:=cs) eV (by rw [hlen]; simp [Nat.add_assoc]) (λi dE vu=>hr (i+1) dE (by simpa using vu));refine ⟨(a,b),⟨aI,au⟩,?_⟩;have:cs.drop f.offset=(cs.drop f.offset).take (P.cellsOf f.type)++cs.drop (f.offset+P.cellsOf f.type):=by
   rw [<- List.drop_drop]; exact (List.take_append_drop _ _).symm
  rw [this];exact aY.app Wl
theorem kP.struct {e:bN L6}{t:TypeId}{ts:List TypeId}{cells:β->List ab}{ok:β->Prop}(h:yH P cells ts ok) (mk:β->L6) (un:L6->β) (OZ:∀ b,un (mk b)=b) (aa:∀ b,e.cells (mk b)=cells b) (ar:Ee P t ts=true) (aX:P.cellsOf t=e.z) :
  kP P e t (λs=>ok (un s)):=by
 refine ⟨aX,λ{H enc w n cs x} hr=>?_⟩;unfold Ee at ar
 split at ar
 ·rename_i fs hu;simp only [Bool.and_eq_true,decide_eq_true_eq] at ar;obtain ⟨xs,cr,rfl,rfl,ah,CT,J⟩:=DataW.trod_struct hu hr;obtain ⟨b,au,aY⟩:=h.go (w:=w) (off:=0) (cs:=cs) (fs:=fs.toList) (n:=cr) (enc:=enc) ar.1 (by rw [ah,ar.2]; simp) (λi f aT=>by
   have vu:fs[i]?=some f:=by simpa using aT
   have hi:i<xs.length:=by rw [CT]; exact (Array.getElem?_eq_some_iff.1 vu).1
   exact ⟨xs[i],by rw [J i f vu,List.getElem?_eq_getElem hi]⟩)
  exact ⟨mk b,by rw [OZ]; exact au,by rw [aa]; simpa using aY⟩
 ·cases ar
inductive yI (w:World):ab->Value->Prop
 | mk {y:ab}{v:Value}(h:tE w y v):yI w y v
theorem kP.one {e:bN α}{t:TypeId}{ok:α->Prop}{g:α->ab}(h:kP P e t ok) (he:∀ a,e.cells a=[g a]) {H:Type}{enc:TypeId × Value->H}{w:World}{v:Value}{d:DataW H}{p:List MemPlace}(hv:v.cells.toList=[v])
  (ar:DataW.Trod enc P w 0 (λ_=>true) true t v d p):∃ a,ok a/\yI w (g a) v:=by
 obtain ⟨n,aB⟩:=ar;obtain ⟨a,aI,aY⟩:=h.go aB;refine ⟨a,aI,.mk ?_⟩;rw [hv,he] at aY;exact (aY.2 0 _ _ rfl rfl).2
theorem kP.P' {e:bN α}{t A2:TypeId}{ok:List α->Prop}(h:kP P (bF e) t ok) (hu:P.underlying t=some (.slice A2)) {H:Type}{enc:TypeId × Value->H}{w:World}{v:Value}{d:DataW H}{p:List MemPlace}{base:Nat}(hv:Value.okWide P w .any base t v)
  (ar:DataW.Trod enc P w 0 (λ_=>true) true t v d p):∃ a,ok a/\yI w (aj e a) v:=by
 obtain ⟨a,l,c,rfl⟩:=okWide_slice hu hv;exact h.one (λ_=>rfl) rfl ar
theorem kP.Zn {e:bN Int}{t:TypeId}{k:IntKind}{ok:Int->Prop}{g:Int->ab}(h:kP P e t ok) (he:∀ a,e.cells a=[g a]) (hu:P.underlying t=some (.int k)) {H:Type}{enc:TypeId × Value->H}{w:World}{v:Value}{d:DataW H}{p:List MemPlace}{base:Nat}(hv:Value.okWide P w .any base t v)
  (ar:DataW.Trod enc P w 0 (λ_=>true) true t v d p):∃ a,ok a/\yI w (g a) v:=by
 obtain ⟨n,rfl⟩:=okWide_int hu hv;exact h.one he rfl ar
theorem kP.Zm {e:bN α}{t:TypeId}{ok:α->Prop}{ts:List TypeId}(h:kP P e t ok) (eV:Ee P t ts=true) {H:Type}{enc:TypeId × Value->H}{w:World}{v:Value}{d:DataW H}{p:List MemPlace}{base:Nat}(hv:Value.okWide P w .any base t v)
  (ar:DataW.Trod enc P w 0 (λ_=>true) true t v d p):∃ a,ok a/\yI w (.agg (e.cells a)) v:=by
 have hu:∃ fs,P.underlying t=some (.struct fs):=by
  unfold Ee at eV
  split at eV
  ·exact ⟨_,by assumption⟩
  ·cases eV
 obtain ⟨fs,hu⟩:=hu;obtain ⟨cs,rfl,eS⟩:=okWide_struct hu hv;obtain ⟨n,aB⟩:=ar;obtain ⟨a,aI,aY⟩:=h.go aB;refine ⟨a,aI,.mk ?_⟩;have h6:nk w (e.cells a) cs.toList:=aY;refine .agg (Fs:=λ_ _=>False) (by simpa using h6.1) (λk u hu=>?_) (λk x u J hu=>(h6.2 k x u J (by simpa using hu)).2) (λ_ _ _ _ _ h=>h.elim) (λc=>⟨λh=>h.elim,λ⟨_,_,h⟩=>h⟩);have hk:k<(e.cells a).length:=by rw [h6.1]; simpa using (Array.getElem?_eq_some_iff.1 hu).1
 exact (h6.2 k _ u (List.getElem?_eq_getElem hk) (by simpa using hu)).1
inductive uY (w:World):List ab->List Value->Prop
 | nil:uY w [] []
 | cons {y:ab}{v:Value}{ys:List ab}{vs:List Value}(h:yI w y v) (aw:uY w ys vs):uY w (y::ys) (v::vs)
theorem uY.get {w:World}{ys:List ab}{vs:List Value}(h:uY w ys vs):ys.length=vs.length/\∀ (k:Nat) (y:ab),ys[k]?=some y->∃ v,vs[k]?=some v/\tE w y v:=by
 induction h with
 | nil=>exact ⟨rfl,λk y h=>by simp at h⟩
 | cons h _ aM =>
  refine ⟨by simp [aM.1],λk y ao=>?_⟩;cases k with
  | zero =>
   simp at ao; subst ao;obtain ⟨h⟩:=h;exact ⟨_,rfl,h⟩
  | succ k=>simpa using aM.2 k y (by simpa using ao)
theorem uY.aaZ {w:World}{ys:List ab}{vs:List Value}(h:uY w ys vs) (aq:ys.all (λy=>match y with | .bL ..=>false | _=>true)=true) (jq:cE.q w λb=>b<w.heap.size) :
  cA w (λb=>b<w.heap.size) vs.toArray (sT ys) (λ_=>cj):=by
 refine ⟨λt x J=>?_,λ_ _ _ h=>h,λ_ _ _ h=>h.elim,λ_ _ h=>h.elim,λ_ h=>h,λt t' z p n m new bR cr m' cL h1 _=>?_,jq⟩
 ·obtain ⟨v,hv,aY⟩:=h.get.2 t x J;exact ⟨v,by simpa using hv,.tree (aY.frame (λ_ _=>rfl) (λ_ h=>h) (λ_ _ h=>h.elim) (λ_ _=>rfl))⟩
 ·have:=List.all_eq_true.1 aq _ (List.mem_of_getElem? h1);cases this
structure Me (w w':World):Prop where
 kept:∀ may:MemPlace->Prop,w.keptBut w' may
 dL:∀ a,a.block<w.heap.size->w'.frozen? a=w.frozen? a
theorem bO.abF {f:FuncId}{ys:List ab}{vs:List Value}{outs:List (Option ab)}{r:Value}(aa:bO P f ys outs (.lit r)) (w:World) (h:uY w ys vs) (aq:ys.all (λy=>match y with | .bL ..=>false | _=>true)=true) (jq:cE.q w λb=>b<w.heap.size) :
  Calls P f vs.toArray w λe w'=>e=.returned r/\Me w w'/\∀ i:Nat,i<w.heap.size->w'.heap[i]?=w.heap[i]?:=by
 have:=aa.2 w _ vs _ h.get.1.symm (h.aaZ aq jq);refine this.mono ?_;rintro e w' ⟨v,I',bV,rfl,bh,bU⟩;obtain ⟨u,hu,aY⟩:=bh.rel outs.length (.lit r) (by simp [kH]);have ah:outs.length=vs.length:=by rw [aa.1]; exact h.get.1
 have FE:u=v:=by
  rw [ah] at hu;simpa using hu.symm
 subst FE;have hv:=(aY.gp (by simp)).hB.1;subst hv;have au:∀ i:Nat,i<w.heap.size->w'.heap[i]?=w.heap[i]?:=λi hi=>bU.dK.block i hi λ⟨_,h⟩=>h;have hk:World.keptBut w w' (λ_=>False):=⟨bU.dK.os,bU.dK.output,λi hi=>by
  rw [au i hi];exact (World.keptBut_refl w (λ_=>False)).2.2 i hi⟩
 exact ⟨rfl,⟨λmay=>World.keptBut_mono (λ_ f=>f.elim) hk,λa aI=>bU.dK.dL a aI λ⟨_,h⟩=>h⟩,au⟩
theorem Rv {H:Type}{enc:TypeId × Value->H}{w w':World}{base:Nat}{sp:Nat->Bool}{held:Bool}(au:∀ i:Nat,i<w.heap.size->w'.heap[i]?=w.heap[i]?) :
  ∀ {ts:List TypeId}{vs:List Value}{jE:List (DataW H)}{ps:List MemPlace},DataW.TrodAll enc P w base sp held ts vs jE ps->DataW.TrodAll enc P w' base sp held ts vs jE ps
 | [],[],[],_,h=>h
 | _::_,_::_,_::_,_,⟨p,q,⟨n,aB⟩,af,e⟩=>by
  refine ⟨p,q,⟨n,DataW.trod_carry n _ _ _ aB λx J=>?_⟩,Rv au af,e⟩;have aN:=DataW.trod_lt n _ _ _ aB x J;cases x with
  | cell b off =>
   show w'.cell? _=w.cell? _;exact World.cell?_of_block (au b aN)
  | map b=>exact au b aN
theorem S6 {H:Type}{enc:TypeId × Value->H}{w w':World}(ah:laidOutB P=true) (hm:mapsRowed P=true)
  (aX:((List.range P.types.size).all λt=>match P.underlying t with | some (.slice e)=>decide (0<P.cellsOf e) | _=>true)=true)
  (au:∀ i:Nat,i<w.heap.size->w'.heap[i]?=w.heap[i]?) {ts:List TypeId}{vs:List Value}{jE:List (DataW H)}{ps:List MemPlace}(ar:ts.all (λt=>decide (t<P.types.size))=true)
  (h:DataW.TrodAll enc P w 0 (λ_=>true) true ts vs jE ps) {sp:Nat->Bool}(iV:∀ p∈ps,sp p.block=true):DataW.TrodAll enc P w' 0 sp true ts vs jE ps :=
 (Rv au h).respare (kids_rows ah hm) (slices_full_of P aX) (λt h=>of_decide_eq_true (List.all_eq_true.1 ar t h)) iV
end Go.Own
namespace Go.Own
open Go
variable [cE]
section
variable {α β:Type}{P:Program}{N:cN}{g g1:aL}{p:Place}{m:Int}{a b:Operand}{t:TypeId}
theorem ab.MM:∀ (l:List Nat) {x nd:ab}{k:Nat}{c:ab},x.at l=some nd->nd.kids[k]?=some c->x.at (l++[k])=some c
 | [],x,nd,k,c,h,hk=>by
  simp only [ab.at,Option.some.injEq] at h;subst h;simp [ab.at,hk]
 | j::l,x,nd,k,c,h,hk=>by
  simp only [ab.at] at h;cases ag:x.kids[j]? with
  | none=>rw [ag] at h; cases h
  | some y =>
   rw [ag] at h;simp only [List.cons_append,ab.at,ag];exact ab.MM l h hk
theorem ab.Q0:∀ (l:List Nat) {x nd:ab}{k:Nat}{c:ab}(y:ab),x.at l=some nd->nd.kids[k]?=some c->x.setAt (l++[k]) y=x.setAt l (nd.sG k y)
 | [],x,nd,k,c,y,h,hk=>by
  simp only [ab.at,Option.some.injEq] at h;subst h;simp [ab.setAt,hk]
 | j::l,x,nd,k,c,y,h,hk=>by
  simp only [ab.at] at h;cases ag:x.kids[j]? with
  | none=>rw [ag] at h; cases h
  | some z =>
   rw [ag] at h;simp only [List.cons_append,ab.setAt,ag];rw [ab.Q0 l y h hk]
theorem Nq {en:bN α}{L:List α}{iM:α}{o:Nat}{c:ab}(h:idx L m=some iM) (aa:(en.cells iM)[o]?=some c):(aC en L).kids[m.toNat * en.z+o]?=some c:=Ll en h aa
theorem u9 {en:bN α}{L:List α}{iM:α}{r o:Nat}{path:List Nat}{c:ab}(aq:bG g ⟨r,path⟩=some (aC en L)) (h:idx L m=some iM) (aa:(en.cells iM)[o]?=some c):bG g ⟨r,path++[m.toNat * en.z+o]⟩=some c:=by
 unfold bG at aq ⊢;simp only at aq ⊢;cases J:g r with
 | none=>rw [J] at aq; cases aq
 | some x =>
  rw [J] at aq;exact ab.MM path aq (Nq h aa)
theorem aaF {en:bN α}{L:List α}{iM:α}{r o:Nat}{path:List Nat}{c:ab}(y:ab) (aq:bG g ⟨r,path⟩=some (aC en L)) (h:idx L m=some iM) (aa:(en.cells iM)[o]?=some c) :
  cn g ⟨r,path++[m.toNat * en.z+o]⟩ y=cn g ⟨r,path⟩ (.own en.z L.length ((bA en L).set (m.toNat * en.z+o) y)):=by
 funext s;unfold cn;simp only;split
 ·rename_i e;subst e;unfold bG at aq;simp only at aq;cases J:g s with
  | none=>rfl
  | some x =>
   rw [J] at aq;simp only [Option.map_some,Option.some.injEq];rw [ab.Q0 path y aq (Nq h aa)];rfl
 ·rfl
theorem aaX (l:List ab) (k:Nat) (x c:ab):eX (l.set k x) k [c]=eX l k [c]:=by
 unfold eX;simp only [List.length_singleton];rw [List.take_set,List.drop_set];rw [List.set_eq_of_length_le (by simp; omega)];simp
theorem bc.Ec {fR:Oper}{en:bN α}{en2:bN β}{L:List α}{iM y2:α}{q1 M R:List β}{o s KV:Nat}{new cL:List ab}{x2 y0:ab}{G2:List (Nat × ab)}
  (aW:fR.op=.store t a b) (aO:fR.dst=none) (aI:Rd g a (.ptr p (m.toNat * en.z+o))) (au:Rd g b (.a6 en2.z ⟨s,[]⟩ (q1.length+KV)))
  (qt:g s=some (.bL en2.z ⟨p.root,p.path++[m.toNat * en.z+o]⟩ q1.length KV new)) (aq:bG g p=some (aC en L)) (h:idx L m=some iM) (mJ:(en.cells iM)[o]?=some (aC en2 q1)) (a8:Nat.beq p.root s=false)
  (h1:eN (cn (cn g ⟨s,[]⟩ .dead) p (.own en.z L.length ((bA en L).set (m.toNat * en.z+o) .dead))) new cL g1)
  (o6:fG cL (bA en2 M)) (hm:M.length=KV) (aY:q1++M=R) (aX:hq P t 1=true)
  (vC:bG g1 p=some (.own en.z L.length ((bA en L).set (m.toNat * en.z+o) .dead)))
  (he:eX (en.cells iM) o [aC en2 R]=en.cells y2) (hlen:Nat.ble (o+1) en.z=true)
  (gF:cn g1 p (aC en (L.set m.toNat y2)) p.root=some x2) (hr:(get G2 p.root).isSome=true) (rr:g1 p.root=some y0) [eH:b6 y0] (cY:kT g1 (get G2) p.root x2 G2):bc P N g fR (get G2):=by
 subst hm aY;have Cn:=Nat.le_of_ble_eq_true hlen;have iV:=Lk en (cs':=[aC en2 (q1++M)]) h he (by simpa using Cn);have OC:(L.set m.toNat y2).length=L.length:=List.length_set;have FB:=Nat.ne_of_beq_eq_false a8;have Cb:bG g ⟨p.root,p.path++[m.toNat * en.z+o]⟩=some (aC en2 q1):=u9 (g:=g) (r:=p.root) (path:=p.path) aq h mJ;have XJ:bG (cn g ⟨s,[]⟩ .dead) p=some (aC en L):=by
  unfold bG at aq ⊢;rw [wo (p:=⟨s,[]⟩) (λe=>FB e)]; exact aq
 have ar:eN g [.a6 en2.z ⟨s,[]⟩ (q1.length+M.length)] [.own en2.z (q1.length+M.length) (bA en2 q1++cL)] g1:=by
  refine .jt qt Cb a8 ?_ .nil;rw [aaF .dead (r:=p.root) (path:=p.path) XJ h mJ];exact h1
 have hk:m.toNat * en.z+o+1<=L.length * en.z:=by
  obtain ⟨DX,mm,_⟩:=mi h;have af:m.toNat+1<=L.length:=by omega
  calc m.toNat * en.z+o+1<=m.toNat * en.z+en.z:=by omega
   _=(m.toNat+1) * en.z:=by rw [Nat.add_mul]; omega
   _<=L.length * en.z:=Nat.mul_le_mul_right _ af
 refine .store aW aO aI.bs au.bs ar.take (y':=aC en2 (q1++M)) ?_ rfl aX (p:=p) (nd:=.own en.z L.length ((bA en L).set (m.toNat * en.z+o) .dead)) (z:=en.z) (n:=L.length) (cs:=(bA en L).set (m.toNat * en.z+o) .dead) vC (.inl rfl) ?_ (by simp) (λt x J=>?_) (λt x J y ao=>?_) (λt z q n m new J=>?_) (by intro e; rw [e] at hr; cases hr)
 ·rw [<- pe]; exact (o6.pre _).own
 ·simp only [List.length_singleton,List.length_set,oR]; exact hk
 ·have eA:(ab.own en.z L.length ((bA en L).set (m.toNat * en.z+o) .dead)).eX (m.toNat * en.z+o) [aC en2 (q1++M)]=aC en (L.set m.toNat y2):=by
   show ab.own en.z L.length (eX ((bA en L).set (m.toNat * en.z+o) .dead) (m.toNat * en.z+o) [aC en2 (q1++M)])=_;unfold aC at iV ⊢;rw [aaX,iV,OC]
  rw [eA];rcases cY.spec t x J with ⟨h1,af,_⟩ | ⟨h1,af,_⟩
  ·rw [wo h1]; exact af
  ·subst h1 af; exact gF
 ·rcases cY.spec t x J with ⟨h1,af,aD⟩ | ⟨h1,af,aD⟩
  ·rw [af] at ao; cases ao;rcases aD with aD | ⟨aD,c2,rfl⟩
   ·exact aD.QF
   ·refine jA.ref (by cases aD; rfl) ⟨aD.P8,aD.clear ?_,aD.Gf⟩;intro e;obtain ⟨gx,pp⟩:=p;simp only at e;subst e;simp only [cn,if_true,rr,Option.map_some,ab.setAt,Option.some.injEq] at gF;cases gF
  ·subst h1; rw [rr] at ao; cases ao; exact .bk eH.bk
 ·rcases cY.spec t _ J with ⟨_,_,aD | ⟨aD,_⟩⟩ | ⟨_,_,aD⟩
  ·exact aD.fE _ _ _ _ _ rfl
  ·exact aD.fE _ _ _ _ _ rfl
  ·cases aD
end
end Go.Own
/- Short forms for printed walks. -/
namespace Go.Own
open Go
variable [cE]
section
variable {P:Program}{N:cN}{ops:Array Oper}{bj:List (List Nat)}{g g0:aL}{K:aL->Prop}{l:List Oper}{acc:Acc}{d i:Nat}{op:Op}{ty:TypeId}{pos:String}{after:Array Edge}{x:ab}
theorem ak (aq:bT P g op ty x) (hk:aE P N ops l (cR g d x) K) (bp:N.ok d=true:=by rfl) (aT:g d=none:=by rfl):aE P N ops (⟨some d,op,ty,pos,after,none⟩::l) g K:=.v aq bp aT .none hk
theorem e0 (aq:cd P g op x) (hk:aE P N ops l (cR g d x) K) (bp:N.ok d=true:=by rfl) (aT:g d=none:=by rfl):aE P N ops (⟨some d,op,ty,pos,after,none⟩::l) g K:=.c aq bp aT .none hk
theorem ay (bX:Nat) (aq:bT P (kK bj g0 bX acc) op ty x) (hk:bC P N ops bj g0 i ((bX,d,some x)::acc) l K) (ag:Nat.beq ops.size (bX+l.length+1)=true:=by rfl) (aT:g0 d=none:=by rfl) (aB:acc.all (λe=>!Nat.beq e.2.1 d)=true:=by rfl) (bp:N.ok d=true:=by rfl) :
  bC P N ops bj g0 i acc (⟨some d,op,ty,pos,after,none⟩::l) K:=.v bX aq ag aT aB bp .none hk
theorem jb (bX:Nat) (aq:cd P (kK bj g0 bX acc) op x) (hk:bC P N ops bj g0 i ((bX,d,some x)::acc) l K) (ag:Nat.beq ops.size (bX+l.length+1)=true:=by rfl) (aT:g0 d=none:=by rfl) (aB:acc.all (λe=>!Nat.beq e.2.1 d)=true:=by rfl) (bp:N.ok d=true:=by rfl) :
  bC P N ops bj g0 i acc (⟨some d,op,ty,pos,after,none⟩::l) K:=.c bX aq ag aT aB bp .none hk
end
instance {z n:Nat}{cs:List ab}:p5 (.own z n cs):=⟨by simp⟩
def aF (a n:Nat) (l:List Nat):List Nat:=List.range' a n++l
section
variable {α:Type}{P:Program}{N:cN}{g:aL}{d r:Nat}{ty:TypeId}
instance {fn:Fn}{cs:List ab} [h:dk cs]:b6 (.cD fn [] cs):=⟨.cD (by simp) h.bk⟩
theorem O.KT {fn:Fn}{caps:List Operand}{b:List ab}(au:Own.hc g caps=some b):bT P g (.makeFunc fn #[] caps.toArray) ty (.cD fn [] b):=.Ak (.makeFunc rfl (by simpa using au))
theorem View.cl {fn:Fn}{cs cs':List ab}(h:oZ g cs cs'):View g (.cD fn [] cs) (.cD fn [] cs'):=.cD h.len h.get
theorem cd.gc {c:Operand}{xs:List Operand}{fM:Array TypeId}{f:FuncId}{ys caps:List ab}{outs:List (Option ab)}{res:ab}(aa:Rd g c (.cD (.func f) [] caps)) (J:q3 g xs ys) (ha:bO P f (ys++caps) outs res) (aT:hx P f=true) (aW:uz outs=true) [pJ:dk caps] [hr:b6 res] :
  cd P g (.call { callee:=.value c,args:=xs.toArray,argTypes:=fM }) res:=by
 have e:=PX aW ha.1;refine .plain (first:=[]) (caps:=caps) (ys:=ys) aa.bs (by simpa using J.spec.1) aT (λy ao=>?_) ?_ hr.bk
 ·rw [List.nil_append] at ao;rcases List.mem_append.1 ao with h | h
  ·exact J.spec.2 y h
  ·exact pJ.bk y h
 ·rw [List.nil_append,<- e]; exact ha
theorem kQ.jr {o:Oper}{xs:List Operand}{fM:Array TypeId}{f:FuncId}{ys args:List ab}{res:ab}{en:bN α}{L L':List α}{G2:List (Nat × ab)}(aW:o.op=.call { callee:=.value (.func f),args:=xs.toArray,argTypes:=fM }) (aO:o.dst=some d) (J:Own.hc g xs=some (.a6 en.z ⟨r,[]⟩ L.length::ys))
  (aw:g r=some (aC en L)) (hv:oZ (get ((r,.dead)::G2)) ys args) (ha:bO P f (aC en L::args) (some (aC en L')::args.map λ_=>none) res) (aT:hx P f=true) [hr:p6 res] [lQ:p6 (aC en L')]
  (cY:Trim false (cn g ⟨r,[]⟩ .dead) (get ((r,.dead)::G2)) G2) (aP:get G2 d=none) (ui:Nat.beq r d=false) (BZ:Trim false (get ((r,aC en L')::G2)) (get ((r,aC en L')::G2)) G2) (bp:N.ok d=true) :
  kQ P N g o d (get ((d,res)::(r,aC en L')::G2)):=by
 have CB:r≠d:=Nat.ne_of_beq_eq_false ui;have Ii:get ((r,ab.dead)::G2) r=some .dead:=by simp [get]
 have oG:∀ x∈bA en L,cC x:=by
  intro x J;obtain ⟨a,_,aI⟩:=List.mem_flatMap.1 J;exact en.bk a x aI
 have fA:(bA en L).take (L.length * en.z)=bA en L:=List.take_of_length_le (by rw [oR]; exact Nat.le_refl _);have C2:il (cn g ⟨r,[]⟩ .dead) (get ((r,.dead)::G2)):=by
  refine ⟨λt x h=>?_,λt x h=>?_,λt z q n m new h=>?_⟩
  all_goals
   simp only [get] at h
   split at h
  ·rename_i e; subst e; cases h; simp [cn,aw,ab.setAt]
  ·obtain ⟨⟨y,h1,_,aD⟩,_⟩:=cY.spec t x h; rw [<- aD rfl]; exact h1
  ·cases h; exact .bk .dead
  ·exact (cY.spec t x h).2.1
  ·cases h
  ·exact (cY.spec t _ h).2.2 _ _ _ _ _ rfl
 have put:qI (get ((r,.dead)::G2)) [(⟨r,[]⟩,aC en L')]=get ((r,aC en L')::G2):=by
  funext t;simp only [qI,cn,get];by_cases h:t=r
  ·simp [h,ab.setAt]
  ·simp [h]
 have C3:il (get ((r,aC en L')::G2)) (get ((r,aC en L')::G2)):=by
  refine ⟨λt x h=>h,λt x h=>?_,λt z q n m new h=>?_⟩
  all_goals
   simp only [get] at h
   split at h
  ·cases h; exact .bk lQ.lW.bk
  ·exact (BZ.spec t x h).2.1
  ·cases h
  ·exact (BZ.spec t _ h).2.2 _ _ _ _ _ rfl
 have ah:=hv.len;have tR:get ((d,res)::(r,aC en L')::G2)=cR (get ((r,aC en L')::G2)) d res:=by
  funext t;rw [r6]
 rw [tR];refine Ba.ok (first:=[]) (caps:=[]) (ys:=.a6 en.z ⟨r,[]⟩ L.length::ys) (tk:=λk=>k == 0) (vw:=true) (outs:=some (aC en L')::args.map λ_=>none) (g1:=cn g ⟨r,[]⟩ .dead) (g2:=get ((r,.dead)::G2)) (g4:=get ((r,aC en L')::G2)) (l:=[(⟨r,[]⟩,aC en L')]) (ks:=λ_=>0) (xs0:=.a6 en.z ⟨r,[]⟩ L.length::ys.map λ_=>.dead) (xs1:=aC en L::ys.map λ_=>.dead) (args:=aC en L::args) (res:=res) aW aO rfl (by simpa using J)
  ⟨aT,by simp,by simpa using ah,λk x h=>?_,?_,C2,λk x y J ao=>?_,ha,by simpa using hr.lW,λk x h=>?_,λj p x ag=>?_,by simp,λi j hi ag _=>by simp at hi ag; omega,by rw [put]; exact C3⟩ ?_ bp yJ.refl
 ·simp only [List.nil_append,List.append_nil] at h;cases k with
  | zero=>exact .inl h
  | succ k =>
   refine .inr ?_;simp only [List.getElem?_cons_succ] at h ⊢;rw [List.getElem?_map,h]; rfl
 ·have h1:Take (cn g ⟨r,[]⟩ .dead) ((bA en L).take (L.length * en.z)) (bA en L) (cn g ⟨r,[]⟩ .dead):=by rw [fA]; exact .bk oG
  refine .a6 (N:=L.length) (by simp [bG,aw,ab.at]) (Nat.le_refl _) h1 (.bk λx J=>?_);obtain ⟨_,_,rfl⟩:=List.mem_map.1 J;exact .dead
 ·simp only [List.nil_append,List.append_nil] at J;cases k with
  | zero=>simpa using ao
  | succ k =>
   simp only [List.getElem?_cons_succ] at J ao;exact ⟨rfl,hv.get k x y J ao⟩
 ·cases k with
  | zero=>simp only [List.getElem?_cons_zero,Option.some.injEq] at h; subst h; exact lQ.lW
  | succ k =>
   simp only [List.getElem?_cons_succ,List.getElem?_map] at h;cases aI:args[k]? <;> rw [aI] at h <;> cases h
 ·cases j with
  | succ j=>simp at ag
  | zero =>
   simp only [List.getElem?_cons_zero,Option.some.injEq,Prod.mk.injEq] at ag;obtain ⟨rfl,rfl⟩:=ag;exact ⟨rfl,by simp [bG,Ii,ab.at],.inl ⟨en.z,L.length,bA en L,rfl,by simp [bG,aw,ab.at]⟩,λ_ h=>by cases h⟩
 ·simp only [get,if_neg (Ne.symm CB)]; exact aP
end
end Go.Own
