/- Parts of the proof that the last text states. -/
import Derived.ChangeAt
import Derived.ChangeOld
import Derived.ChangeSame
import Derived.Deep.Slices
import Derived.ReadAgain
import Derived.RowKit3
import Derived.WideShapes
import Derived.Test.YtcfiphoaldlmiaaGreatDoorE3
namespace Go.Own
open Go
set_option linter.unusedSectionVars false
variable [cw]
structure bz (α:Type) where
 z:Nat
 cells:α->List ab
 len:∀ a,(cells a).length=z
 bd:∀ a,∀ x∈cells a,cE x
variable {α β S R:Type}
def bw (e:bz α) (l:List α):List ab:=l.flatMap e.cells
abbrev ar (e:bz α) (l:List α):ab:=.own e.z l.length (bw e l)
abbrev ay (e:bz α) (l:List α):ab:=.bc e.z l.length (bw e l)
abbrev ae (n:Int):ab:=.lit (.int .i64 n)
abbrev lY (n:Int):ab:=.lit (.int .u8 n)
abbrev bg (b:Bool):ab:=.lit (.bool b)
abbrev ao (s:ByteArray):ab:=.lit (.string s)
abbrev aR (n:Int):Int:=IntKind.i64.wrap n
abbrev tZ (n:Int):Int:=IntKind.u8.wrap n
theorem nn (e:bz α) (l:List α):(bw e l).length=l.length * e.z:=by
 induction l with
 | nil=>simp [bw]
 | cons a l aK =>
  have:bw e (a::l)=e.cells a++bw e l:=by simp [bw]
  rw [this,List.length_append,e.len,aK,List.length_cons,Nat.add_mul]; omega
theorem o4 (e:bz α) (l:List α):∀ x∈bw e l,cE x:=by
 intro x j;obtain ⟨a,_,h⟩:=List.mem_flatMap.1 j;exact e.bd a x h
theorem FL (e:bz α) (l m:List α):bw e (l++m)=bw e l++bw e m:=by simp [bw]
theorem zO (e:bz α):∀ (l:List α) (i:Nat),(bw e l).drop (i * e.z)=bw e (l.drop i)
 | l,0=>by simp
 | [],i+1=>by simp [bw]
 | a::l,i+1=>by
  have h:bw e (a::l)=e.cells a++bw e l:=by simp [bw]
  rw [h,List.drop_append,e.len,List.drop_eq_nil_of_le (by rw [e.len,Nat.add_mul]; omega)];have:(i+1) * e.z - e.z=i * e.z:=by rw [Nat.add_mul]; omega
  rw [this,List.nil_append,zO e l i]; rfl
theorem xC (e:bz α):∀ (l:List α) (i:Nat),(bw e l).take (i * e.z)=bw e (l.take i)
 | l,0=>by simp [bw]
 | [],i+1=>by simp [bw]
 | a::l,i+1=>by
  have h:bw e (a::l)=e.cells a++bw e l:=by simp [bw]
  rw [h,List.take_append,e.len,List.take_of_length_le (by rw [e.len,Nat.add_mul]; omega)];have:(i+1) * e.z - e.z=i * e.z:=by rw [Nat.add_mul]; omega
  rw [this,xC e l i]; simp [bw]
def idx (l:List α) (i:Int):Option α:=if 0<=i then l[i.toNat]? else none
theorem qu {l:List α}{i:Int}{y:α}(h:idx l i=some y):0<=i/\i<l.length/\l[i.toNat]?=some y:=by
 grind [idx]
theorem KB (e:bz α) {l:List α}{i:Int}{y:α}(h:idx l i=some y):(bw e l).drop (i.toNat * e.z)=e.cells y++bw e (l.drop (i.toNat+1)):=by
 obtain ⟨aH,h1,af⟩:=qu h
 grind [zO,List.drop_eq_getElem_cons,bw]
theorem PK (e:bz α) {l:List α}{i:Int}{y:α}(h:idx l i=some y) {k:Nat}{x:ab}(hk:(e.cells y)[k]?=some x):(bw e l)[i.toNat * e.z+k]?=some x:=by
 have aN:=(List.getElem?_eq_some_iff.1 hk).1;rw [<- List.getElem?_drop,KB e h,List.getElem?_append_left aN]; exact hk
abbrev lim:Nat:=1099511627776
def fuel:Nat:=1000000000000000000
def iter (f:S->Option (S ⊕ R)):Nat->S->Option R
 | 0,_=>none
 | n+1,s=>match f s with
  | none=>none
  | some (.inl cG)=>iter f n cG
  | some (.inr r)=>some r
def b0 (f:S->Option (S ⊕ R)) (s:S):Option R:=iter f fuel s
theorem qg {o:Option α}{f:α->Option β}{r:β}(h:o.bind f=some r):∃ y,o=some y/\f y=some r:=Option.bind_eq_some_iff.1 h
theorem SH {b:Bool}{x y o:α}(au:b=true) (h:cond b x y=o):x=o:=by
 grind
theorem SG {b:Bool}{x y o:α}(au:b=false) (h:cond b x y=o):y=o:=by
 grind
theorem ic {b:Bool}{x y o:α}(h:cond b x y=o):(b=true/\x=o)\/(b=false/\y=o):=by
 grind
theorem sm {a b:α}(h:some a=some b):a=b:=by grind
class b9 (x:ab):Prop where bd:cE x
class df (cs:List ab):Prop where bd:∀ x∈cs,cE x
instance {v:Value}:b9 (.lit v):=⟨.lit⟩
instance:b9 .bf:=⟨.bf⟩
instance:b9 .dead:=⟨.dead⟩
instance {k:Nat × Nat}:b9 (.self k):=⟨.self⟩
instance {t:Nat}{us:List Value}:b9 (.dv t us):=⟨.dv⟩
instance {z n:Nat}{cs:List ab} [h:df cs]:b9 (.bc z n cs):=⟨.bc h.bd⟩
instance {z n:Nat}{cs:List ab} [h:df cs]:b9 (.own z n cs):=⟨.own h.bd⟩
instance {cs:List ab} [h:df cs]:b9 (.obj cs):=⟨.obj h.bd⟩
instance {cs:List ab} [h:df cs]:b9 (.agg cs):=⟨.agg h.bd⟩
instance {cs:List ab} [h:df cs]:b9 (.bN cs):=⟨.bN h.bd⟩
instance {cs:List ab} [h:df cs]:b9 (.cJ cs):=⟨.cJ h.bd⟩
instance {f:Fn}{a b:List ab} [h:df a] [aL:df b]:b9 (.c7 f a b):=⟨.c7 h.bd aL.bd⟩
instance:df []:=⟨by simp⟩
instance {x:ab}{cs:List ab} [h:b9 x] [aL:df cs]:df (x::cs):=⟨oY h.bd aL.bd⟩
instance {e:bz α}{l:List α}:df (bw e l):=⟨o4 e l⟩
instance {e:bz α}{a:α}:df (e.cells a):=⟨e.bd a⟩
instance {a b:List ab} [h:df a] [aL:df b]:df (a++b):=⟨λx j=>(List.mem_append.1 j).elim (h.bd x) (aL.bd x)⟩
instance {a:List ab}{n:Nat} [h:df a]:df (a.drop n):=⟨λx j=>h.bd x (List.mem_of_mem_drop j)⟩
instance {a:List ab}{n:Nat} [h:df a]:df (a.take n):=⟨λx j=>h.bd x (List.mem_of_mem_take j)⟩
instance {v:Value}{n:Nat}:df (List.replicate n (.lit v)):=⟨λx j=>by rw [(List.mem_replicate.1 j).2]; exact .lit⟩
abbrev bz.one (f:α->ab) (h:∀ a,cE (f a)):bz α:=⟨1,λa=>[f a],λ_=>rfl,λa x j=>by rw [List.mem_singleton.1 j]; exact h a⟩
def aY:bz Int:=.one (λn=>ae n) λ_=>.lit
def pw:bz Int:=.one (λn=>lY n) λ_=>.lit
def cr:bz Bool:=.one (λb=>bg b) λ_=>.lit
def cQ:bz ByteArray:=.one (λs=>ao s) λ_=>.lit
def fw (e:bz α):bz (List α):=.one (λl=>ar e l) λl=>.own (o4 e l)
def b6 (e:bz α):bz (List α):=.one (λl=>ay e l) λl=>.bc (o4 e l)
inductive Trim (b:Bool) (g g2:aG):List (Nat × ab)->Prop
 | nil:Trim b g g2 []
 | n {s:Nat}{x:ab}{l:List (Nat × ab)}(h:g s=some x) [az:b9 x] (t:Trim b g g2 l):Trim b g g2 ((s,x)::l)
 | r {s:Nat}{x:ab}{l:List (Nat × ab)}(h:g s=some x) (az:eo g2 x) (av:∀ z p n m new,x≠.bC z p n m new) (t:Trim b g g2 l):Trim b g g2 ((s,x)::l)
 | e {s:Nat}{x y:ab}{l:List (Nat × ab)}(h:g s=some y) (he:y=x) [az:b9 x] (t:Trim b g g2 l):Trim b g g2 ((s,x)::l)
 | w {s:Nat}{x y:ab}{l:List (Nat × ab)}(au:b=true) (h:g s=some y) (hw:mL y x) [az:b9 x] (t:Trim b g g2 l):Trim b g g2 ((s,x)::l)
theorem Trim.spec {b:Bool}{g g2:aG}{l:List (Nat × ab)}(h:Trim b g g2 l):∀ t x,get l t=some x->(∃ y,g t=some y/\mL y x/\(b=false->y=x))/\eo g2 x/\∀ z p n m new,x≠.bC z p n m new:=by
 have fg:∀ {x:ab},cE x->∀ z p n m new,x≠.bC z p n m new:=by rintro x h z p n m new rfl; cases h
 induction h with
 | nil=>intro t x j; cases j
 | @n _ _ _ h az _ aK =>
  intro t x j; simp only [get] at j
  split at j
  ·rename_i e; subst e; cases j; exact ⟨⟨_,h,.refl,λ_=>rfl⟩,.bd az.bd,fg az.bd⟩
  ·exact aK t x j
 | r h az av _ aK =>
  intro t x j; simp only [get] at j
  split at j
  ·rename_i e; subst e; cases j; exact ⟨⟨_,h,.refl,λ_=>rfl⟩,az,av⟩
  ·exact aK t x j
 | @e _ _ _ _ h he az _ aK =>
  intro t x j; simp only [get] at j
  split at j
  ·rename_i e; subst e he; cases j; exact ⟨⟨_,h,.refl,λ_=>rfl⟩,.bd az.bd,fg az.bd⟩
  ·exact aK t x j
 | @w _ _ _ _ au h hw az _ aK =>
  intro t x j; simp only [get] at j
  split at j
  ·rename_i e; subst e; cases j; exact ⟨⟨_,h,hw,λh=>by rw [au] at h; cases h⟩,.bd az.bd,fg az.bd⟩
  ·exact aK t x j
theorem Trim.ey {b:Bool}{g:aG}{l:List (Nat × ab)}(h:Trim b g (get l) l):jR g (get l) :=
 ⟨λt x j=>by obtain ⟨⟨y,h1,af,_⟩,_⟩:=h.spec t x j; exact ⟨y,h1,af⟩,λt x j=>(h.spec t x j).2.1,λt z q n m new j=>(h.spec t _ j).2.2 _ _ _ _ _ rfl⟩
theorem Trim.keep {g:aG}{l:List (Nat × ab)}(h:Trim false g (get l) l):gF g (get l) :=
 ⟨λt x j=>by obtain ⟨⟨y,h1,_,aJ⟩,_⟩:=h.spec t x j; rw [<- aJ rfl]; exact h1,λt x j=>(h.spec t x j).2.1,λt z q n m new j=>(h.spec t _ j).2.2 _ _ _ _ _ rfl⟩
section
variable {P:Program}{N:cN}{ops:Array Oper}{g:aG}{K:aG->Prop}{l:List Oper}{d:Nat}{op:Op}{ty:TypeId}{pos:String}{after:Array Edge}{x:ab}{gd:Option (Nat × Bool)}
def hF (P:Program) (N:cN) (c:Code) (G G1:List (Nat × ab)):Prop:=W P N c (get G) λe g'=>e=.normal/\jR g' (get G1)
theorem W.bQ {A B:Code}{G G1:List (Nat × ab)}{Φ:Exit->aG->Prop}(h1:hF P N A G G1) (af:W P N B (get G1) Φ):W P N (.seq A B) (get G) Φ:=by
 refine W.seq (W.out h1 λe g' h=>⟨get G1,h.2,?_⟩);obtain ⟨rfl,_⟩:=h;exact af
theorem W.bV {A B:Code}{G:List (Nat × ab)}{Φ:Exit->aG->Prop}(h:W P N A (get G) (oz (λg1=>W P N B g1 Φ) Φ)):W P N (.seq A B) (get G) Φ:=W.seq h
theorem hF.rg {id:Nat}{l:List Oper}{G G1:List (Nat × ab)}(h:aC P N l.toArray l (get G) λg'=>jR g' (get G1)):hF P N (.region id l.toArray false) G G1 :=
 W.zN (λi hi=>by obtain ⟨g',h1,af⟩:=h i hi; exact ⟨g',h1,rfl,af⟩)
theorem aC.fin {G1:List (Nat × ab)}(h:Trim true g (get G1) G1):aC P N ops [] g λg'=>jR g' (get G1):=.nil h.ey
theorem aC.C6 {G1:List (Nat × ab)}(h:Trim false g (get G1) G1) (hk:aC P N ops l (get G1) K):aC P N ops l g K:=.forget h.keep hk
theorem aC.v (av:b5 P g op ty x) (a8:N.ok d=true) (aU:g d=none) (aI:fW g ops gd) (hk:aC P N ops l (cH g d x) K):aC P N ops (⟨some d,op,ty,pos,after,gd⟩::l) g K:=.Z2 av a8 aU aI hk
theorem aC.c (av:c3 P g op x) (a8:N.ok d=true) (aU:g d=none) (aI:fW g ops gd) (hk:aC P N ops l (cH g d x) K):aC P N ops (⟨some d,op,ty,pos,after,gd⟩::l) g K:=.call av a8 aU aI hk
theorem fW.o_ {aa t:Nat}{b c:Bool}(h:(ops[aa]?).bind (·.dst)=some t) (aI:g t=some (.lit (.bool c))) (au:c=b):fW g ops (some (aa,b)):=by subst au; exact .yes h aI
theorem aC.ps {aa t':Nat}{b c:Bool}(h:(ops[aa]?).bind (·.dst)=some t') (aI:g t'=some (.lit (.bool c))) (au:c=!b) (a8:N.ok d=true) (aU:g d=none) (hk:aC P N ops l (cH g d (.bN [])) K):aC P N ops (⟨some d,op,ty,pos,after,some (aa,b)⟩::l) g K:=by
 subst au; exact .zW rfl a8 aU (r:=some (.bN [])) (.inr (.inl ⟨⟨t',h,.inl ⟨_,aI,by cases b <;> rfl⟩⟩,rfl⟩)) hk
theorem aC.pu {aa t':Nat}{b:Bool}(h:(ops[aa]?).bind (·.dst)=some t') (aI:g t'=some (.bN [])) (a8:N.ok d=true) (aU:g d=none) (hk:aC P N ops l (cH g d (.bN [])) K):aC P N ops (⟨some d,op,ty,pos,after,some (aa,b)⟩::l) g K :=
 .zW rfl a8 aU (r:=some (.bN [])) (.inr (.inl ⟨⟨t',h,.inr ⟨aI,rfl⟩⟩,rfl⟩)) hk
theorem hF.skip {G G1:List (Nat × ab)}(h:Trim true (get G) (get G1) G1):hF P N .skip G G1:=W.skip ⟨rfl,h.ey⟩
theorem hF.ic {t:Nat}{A B:Code}{b:Bool}{G G1:List (Nat × ab)}(J:get G t=some (bg b)) (dn:b=true->hF P N A G G1) (aE:b=false->hF P N B G G1):hF P N (.cond (.tmp t) A B) G G1:=W.Mz (.lit J) dn aE
theorem W.ic {t:Nat}{A B:Code}{b:Bool}{G:List (Nat × ab)}{Φ:Exit->aG->Prop}(J:get G t=some (bg b)) (dn:b=true->W P N A (get G) Φ) (aE:b=false->W P N B (get G) Φ):W P N (.cond (.tmp t) A B) (get G) Φ:=W.Mz (.lit J) dn aE
theorem hF.bQ {A B:Code}{G G1 G2:List (Nat × ab)}(h1:hF P N A G G1) (af:hF P N B G1 G2):hF P N (.seq A B) G G2:=W.bQ h1 af
theorem hF.fD {id:Nat}{c:Code}{G G1:List (Nat × ab)}(h:W P N c (get G) λe g'=>(e=.normal\/e=.exit id)/\jR g' (get G1)):hF P N (.block id c) G G1:=by
 refine W.block (h.mono ?_);rintro e g' ⟨rfl | rfl,h⟩
 ·exact ⟨rfl,h⟩
 ·show if id=id then _ else _
  grind
end
end Go.Own
namespace Go.Own
open Go
set_option linter.unusedSectionVars false
variable [cw]
variable {α β:Type}
def iP (s:ByteArray) (m:Int):Option Int:=if 0<=m/\m<s.size then some (jv s m) else none
def pr (s:ByteArray) (m n:Int):Option ByteArray:=if 0<=m/\m<=n/\n<=s.size then some (q2 s m n) else none
def cj (s u:ByteArray):Option ByteArray:=if s.size+u.size<=4611686018427387904 then some (s++u) else none
def zJ (m n:Int):Option Int:=if n=0 then none else some (aR (m.tdiv n))
def qD (m n:Int):Option Int:=if n=0 then none else some (m.tmod n)
def lN (l:List α) (m n:Int):Option (List α):=if 0<=m/\m<=n/\n<=l.length then some ((l.drop m.toNat).take (n - m).toNat) else none
def lB:ab->Bool
 | .lit _ | .bf | .bc .. | .cJ _ | .c7 .. | .ptr .. | .bn .. | .sub .. | .ha .. | .imp ..=>true
 | _=>false
theorem TW {d:Nat}{p:Place}{x:ab}(h:lB x=true):fA d p x=x:=by
 cases x <;> simp [lB] at h <;> cases d <;> rfl
theorem TX {t:Nat}{x:ab}(h:lB x=true):ou t x=x:=by
 cases x <;> simp [lB] at h <;> rfl
theorem AV {d:Nat}{q:Nat->Place}{cs:List ab}(h:cs.all lB=true):(cs.mapIdx λi x=>fA d (q i) x)=cs:=by
 apply List.ext_getElem?;intro k;rw [List.getElem?_mapIdx];cases hk:cs[k]? with
 | none=>rfl
 | some x=>simp only [Option.map_some,TW (List.all_eq_true.1 h x (List.mem_of_getElem? hk))]
section
variable {P:Program}{N:cN}{ops:Array Oper}{g:aG}{K:aG->Prop}{l:List Oper}{d:Nat}{ty t t2:TypeId}{a b c:Operand}{k kc:IntKind}{m n:Int}{s u:ByteArray}{p q e:Bool}
theorem Rd.f {t:Nat}{x:ab}(h:g t=some x) (aU:lB x=true):Own.bj g (.tmp t)=some x:=by simp only [Own.bj,h,Option.map_some,TX aU]
theorem Rd.e4 {t:Nat}{cs:List ab}(h:g t=some (.agg cs)) (aU:cs.all lB=true):Rd g (.tmp t) (.agg cs):=.agg h (AV aU)
theorem Rd.KU {t:Nat}{cs:List ab}(h:g t=some (.bN cs)) (aU:cs.all lB=true):Rd g (.tmp t) (.bN cs):=.bN h (AV aU)
namespace O
theorem a1 {y:ab}(h:Rd g a y):b5 P g (.move a) ty y:=.ek (.move h.bj)
theorem dK {y:ab}(h:Rd g a y):b5 P g (.assign a) ty y:=.ek (.assign h.bj)
theorem lJ {y:ab}(J:Rd g c (bg p)) (au:p=true) (h:Rd g a y):b5 P g (.pick c a b) ty y:=by subst au; exact .ek (.YA J h)
theorem nm {y:ab}(J:Rd g c (bg p)) (au:p=false) (h:Rd g b y):b5 P g (.pick c a b) ty y:=by subst au; exact .ek (.Yz J h)
theorem add (j:Rd g a (.lit (.int k m))) (ai:Rd g b (.lit (.int k n))):b5 P g (.binOp .add t a b t2) ty (.lit (.int k (k.wrap (m+n)))):=.ek (.add j ai)
theorem sub (j:Rd g a (.lit (.int k m))) (ai:Rd g b (.lit (.int k n))):b5 P g (.binOp .sub t a b t2) ty (.lit (.int k (k.wrap (m - n)))):=.ek (.Zv j ai)
theorem mul (j:Rd g a (.lit (.int k m))) (ai:Rd g b (.lit (.int k n))):b5 P g (.binOp .mul t a b t2) ty (.lit (.int k (k.wrap (m * n)))):=.ek (.mul j ai)
theorem quo {r:Int}(j:Rd g a (ae m)) (ai:Rd g b (ae n)) (h:zJ m n=some r):b5 P g (.binOp .quo t a b t2) ty (ae r):=by
 unfold zJ at h
 split at h
 ·cases h
 ·cases h; exact .ek (.quo j ai (by assumption))
theorem rem {r:Int}(j:Rd g a (ae m)) (ai:Rd g b (ae n)) (h:qD m n=some r):b5 P g (.binOp .rem t a b t2) ty (ae r):=by
 unfold qD at h
 split at h
 ·cases h
 ·cases h; exact .ek (.rem j ai (by assumption))
theorem lss (j:Rd g a (.lit (.int k m))) (ai:Rd g b (.lit (.int k n))):b5 P g (.binOp .lss t a b t2) ty (bg (decide (m<n))):=.ek (.lss j ai (by simp))
theorem leq (j:Rd g a (.lit (.int k m))) (ai:Rd g b (.lit (.int k n))):b5 P g (.binOp .leq t a b t2) ty (bg (decide (m<=n))):=.ek (.leq j ai (by simp))
theorem gtr (j:Rd g a (.lit (.int k m))) (ai:Rd g b (.lit (.int k n))):b5 P g (.binOp .gtr t a b t2) ty (bg (decide (n<m))):=.ek (.gtr j ai (by simp))
theorem geq (j:Rd g a (.lit (.int k m))) (ai:Rd g b (.lit (.int k n))):b5 P g (.binOp .geq t a b t2) ty (bg (decide (n<=m))):=.ek (.geq j ai (by simp))
theorem eql (j:Rd g a (.lit (.int k m))) (ai:Rd g b (.lit (.int k n))):b5 P g (.binOp .eql t a b t2) ty (bg (decide (m=n))):=.ek (.eql j ai (by simp))
theorem neq (j:Rd g a (.lit (.int k m))) (ai:Rd g b (.lit (.int k n))):b5 P g (.binOp .neq t a b t2) ty (bg (!decide (m=n))):=.ek (.neq j ai (by simp))
theorem px (j:Rd g a (ao s)) (ai:Rd g b (ao u)):b5 P g (.binOp .eql t a b t2) ty (bg (decide (s=u))):=.ek (.px j ai (by simp))
theorem nN (j:Rd g a (ao s)) (ai:Rd g b (ao u)):b5 P g (.binOp .neq t a b t2) ty (bg (!decide (s=u))):=.ek (.nN j ai (by simp))
theorem Ee (j:Rd g a (bg p)) (ai:Rd g b (bg q)) (ak:G0 P t=true):b5 P g (.binOp .eql t a b t2) ty (bg (p == q)):=.ek (.bin j.bj ai.bj rfl λw=>Y1 (Sc ak) w)
theorem neg (j:Rd g a (.lit (.int k m))):b5 P g (.unOp .neg t a) ty (.lit (.int k (k.wrap (-m)))):=.ek (.un j.bj rfl λw=>by simp [Op.unary,Op.intArith])
theorem not (j:Rd g a (bg p)):b5 P g (.unOp .not t a) ty (bg (!p)):=.ek (.not j)
theorem uy (j:Rd g a (.lit (.int k m))) (ax:rA P t k=true) (aO:rA P t2 kc=true):b5 P g (.convert t t2 a) ty (.lit (.int kc (kc.wrap m))):=.ek (.Tc j ax aO)
theorem cat {r:ByteArray}(j:Rd g a (ao s)) (ai:Rd g b (ao u)) (h:cj s u=some r):b5 P g (.binOp .add t a b t2) ty (ao r):=by
 unfold cj at h
 split at h
 ·cases h; exact .ek (.cat j ai (by omega))
 ·cases h
theorem qx (j:Rd g a (ao s)) (ak:nQ P t=true):b5 P g (.call { callee:=.builtin .len,args:=#[a],argTypes:=#[t] }) ty (ae s.size):=.ek (.qx j ak)
theorem at' {r:Int}(j:Rd g a (ao s)) (ai:Rd g b (.lit (.int k m))) (ak:nQ P t=true) (h:iP s m=some r):b5 P g (.index t a b) ty (lY r):=by
 unfold iP at h
 split at h
 ·cases h; exact .ek (.R0 j ai ak (by assumption))
 ·cases h
theorem sO {r:ByteArray}{gm:IntKind}(j:Rd g a (ao s)) (ah:Rd g b (.lit (.int k m))) (bE:Rd g c (.lit (.int gm n))) (ak:nQ P t=true) (h:pr s m n=some r):b5 P g (.slice t a (some b) (some c) none) ty (ao r):=by
 unfold pr at h
 split at h
 ·cases h; exact .ek (.KM j ah bE ak (by assumption))
 ·cases h
theorem FQ {r:ByteArray}(j:Rd g a (ao s)) (bE:Rd g c (.lit (.int k n))) (ak:nQ P t=true) (h:pr s 0 n=some r):b5 P g (.slice t a none (some c) none) ty (ao r):=by
 unfold pr at h
 split at h
 ·rename_i J; cases h; exact .ek (.Zg j bE ak ⟨J.2.1,J.2.2⟩)
 ·cases h
theorem FR {r:ByteArray}(j:Rd g a (ao s)) (ah:Rd g b (.lit (.int k m))) (ak:nQ P t=true) (h:pr s m s.size=some r):b5 P g (.slice t a (some b) none none) ty (ao r):=by
 unfold pr at h
 split at h
 ·rename_i J; cases h; exact .ek (.Zh j ah ak ⟨J.1,J.2.1⟩)
 ·cases h
theorem tK {z br n:Nat}{cs:List ab}{e:TypeId}(j:Rd g a (.bc z n cs)) (ak:e2 P t e br=true):b5 P g (.call { callee:=.builtin .len,args:=#[a],argTypes:=#[t] }) ty (ae n):=.ek (.Ce j.bj ak)
theorem qv {en:bz α}{L:List α}{y:α}{e:TypeId}(j:Rd g a (.bc en.z L.length (bw en L))) (ai:Rd g b (.lit (.int k m))) (ak:e2 P t e en.z=true) (h:idx L m=some y):b5 P g (.indexAddr t a b) ty (.cJ (en.cells y++bw en (L.drop (m.toNat+1)))):=by
 rw [<- KB en h];obtain ⟨aH,h1,_⟩:=qu h;obtain ⟨aa,rfl⟩:=Int.eq_ofNat_of_zero_le aH;exact .ek (.EZ j.bj ai.bj ak (by omega))
theorem Ze {en:bz α}{L r:List α}{e:TypeId}{gm:IntKind}(j:Rd g a (.bc en.z L.length (bw en L))) (ah:Rd g b (.lit (.int k m))) (bE:Rd g c (.lit (.int gm n))) (ak:e2 P t e en.z=true) (h:lN L m n=some r):b5 P g (.slice t a (some b) (some c) none) ty (ay en r):=by
 unfold lN at h
 split at h
 ·rename_i J;obtain ⟨aH,h1,af⟩:=J;cases h;obtain ⟨i,rfl⟩:=Int.eq_ofNat_of_zero_le aH;obtain ⟨aa,rfl⟩:=Int.eq_ofNat_of_zero_le (show 0<=n by omega);have:=cS.zT (P:=P) (ty:=ty) (t:=t) (l:=i) (h:=aa) (lo:=some b) (hi:=some c) j.bj ⟨_,ah.bj⟩ ⟨_,bE.bj⟩ ak (by omega) (by omega);rw [zO,xC] at this;have bO:(((L.drop i).take (aa - i)).length)=aa - i:=by rw [List.length_take,List.length_drop]; omega
  have b7:((aa:Int) - (i:Int)).toNat=aa - i:=by omega
  rw [Int.toNat_natCast,b7];unfold ay;rw [bO];exact .ek this
 ·cases h
theorem Zf {en:bz α}{L r:List α}{e:TypeId}(j:Rd g a (.bc en.z L.length (bw en L))) (bE:Rd g c (.lit (.int k n))) (ak:e2 P t e en.z=true) (h:lN L 0 n=some r):b5 P g (.slice t a none (some c) none) ty (ay en r):=by
 unfold lN at h
 split at h
 ·rename_i J;obtain ⟨_,h1,af⟩:=J;cases h;obtain ⟨aa,rfl⟩:=Int.eq_ofNat_of_zero_le h1;have:=cS.zT (P:=P) (ty:=ty) (t:=t) (l:=0) (h:=aa) (lo:=none) (hi:=some c) j.bj rfl ⟨_,bE.bj⟩ ak (by omega) (by omega);rw [zO,xC] at this;have bO:(((L.drop 0).take (aa - 0)).length)=aa - 0:=by rw [List.length_take,List.length_drop]; omega
  have b7:((aa:Int) - 0).toNat=aa - 0:=by omega
  rw [b7];unfold ay;have e1:(0:Int).toNat=0:=rfl;rw [e1,bO];exact .ek this
 ·cases h
theorem Qi {en:bz α}{L r:List α}{e:TypeId}(j:Rd g a (.bc en.z L.length (bw en L))) (ah:Rd g b (.lit (.int k m))) (ak:e2 P t e en.z=true) (h:lN L m L.length=some r):b5 P g (.slice t a (some b) none none) ty (ay en r):=by
 unfold lN at h
 split at h
 ·rename_i J;obtain ⟨aH,h1,af⟩:=J;cases h;obtain ⟨i,rfl⟩:=Int.eq_ofNat_of_zero_le aH;have:=cS.zT (P:=P) (ty:=ty) (t:=t) (l:=i) (h:=L.length) (lo:=some b) (hi:=none) j.bj ⟨_,ah.bj⟩ rfl ak (by omega) (by omega);rw [zO,xC] at this;have bO:(((L.drop i).take (L.length - i)).length)=L.length - i:=by rw [List.length_take,List.length_drop]; omega
  have b7:((L.length:Int) - (i:Int)).toNat=L.length - i:=by omega
  rw [Int.toNat_natCast,b7];unfold ay;rw [bO];exact .ek this
 ·cases h
theorem AR {cG f off:Nat}{cs:List ab}(j:Rd g a (.cJ cs)) (aU:iy P cG f off t=true):b5 P g (.fieldAddr cG a f) ty (.cJ (cs.drop off)):=.ek (.Ek j.bj aU)
theorem Cc {x:ab}{cs:List ab}(j:Rd g a (.cJ cs)) (ak:jw P t=true) (J:cs.head?=some x):b5 P g (.load t a) ty x:=by
 cases cs with
 | nil=>cases J
 | cons y cs=>cases J; exact .ek (.E' j.bj ak)
theorem oo {z:Nat}{cs cs':List ab}(j:Rd g a (.cJ cs)) (ak:ia P t z=true) (J:cs.take z=cs') (aS:cs'.length=z):b5 P g (.load t a) ty (.agg cs'):=by
 subst J;exact .ek (.Fa j.bj ak (by rw [List.length_take] at aS; omega))
theorem xb {cs:List ab}(j:Rd g a (.cJ cs)):b5 P g (.nilCheck a) ty (.cJ cs):=.ek (.pW j.bj)
theorem dV {p:Place}{k:Nat}(j:Rd g a (.ptr p k)):b5 P g (.nilCheck a) ty (.ptr p k):=.ek (.Fl j.bj)
theorem fd {cG f off:Nat}{cs:List ab}{x:ab}(j:Rd g a (.agg cs)) (aU:iy P cG f off t=true) (ak:jw P t=true) (ai:cs[off]?=some x):b5 P g (.field cG a f) ty x:=.ek (.Ej j.bj aU ak ai)
theorem ex {p i:Nat}{cs:List ab}{x y:ab}(j:g p=some (.bN cs)) (ai:cs[i]?=some x) (aj:fA 1 (Place.push ⟨p,[]⟩ i) x=y):b5 P g (.extract (.tmp p) i) ty y :=
 .ek (.Eg (cs:=cs.mapIdx λi x=>fA 1 (Place.push ⟨p,[]⟩ i) x) (by simp [bj,j,ou,fA]) (by simp [ai,aj]))
theorem box {e:TypeId}{y:ab}{cs:List ab}(j:Rd g a y) (J:h0 y=some cs):b5 P g (.box e a) ty (.obj cs):=.o0 (.box j.bj J)
theorem mR {cG f off k r:Nat}{cs:List ab}(ax:g r=some (.obj cs)) (j:Rd g a (.ptr ⟨r,[]⟩ k)) (aU:iy P cG f off t=true) (aN:Nat.blt (k+off) cs.length=true):b5 P g (.fieldAddr cG a f) ty (.ptr ⟨r,[]⟩ (k+off)) :=
 .ek (.AT j.bj aU ⟨.obj cs,by simp [bu,ax,ab.at],0,0,cs,.inr rfl,by simpa using aN⟩)
theorem y7 {k r:Nat}{cs:List ab}{x y:ab}(ax:g r=some (.obj cs)) (j:Rd g a (.ptr ⟨r,[]⟩ k)) (ak:jw P t=true) (J:cs[k]?=some x) (ai:fA 0 ⟨r,[k]⟩ x=y):b5 P g (.load t a) ty y:=by
 subst ai;exact .ek (.Ch (p:=⟨r,[]⟩) j.bj ak (by simp [bu,ax,ab.at,Place.push,ab.kids,J]))
theorem fQ {k r z:Nat}{cs cs':List ab}(ax:g r=some (.obj cs)) (j:Rd g a (.ptr ⟨r,[]⟩ k)) (ak:ia P t z=true) (hk:Nat.ble (k+z) cs.length=true) (J:(((cs.drop k).take z).mapIdx λi x=>fA 0 ⟨r,[k+i]⟩ x)=cs'):b5 P g (.load t a) ty (.agg cs'):=by
 subst J;exact .ek (.w9 (p:=⟨r,[]⟩) (n:=0) (z:=0) j.bj ak (by simp [bu,ax,ab.at]) (.inr rfl) (Nat.le_of_ble_eq_true hk))
end O
theorem qT.c6 {x:Operand}{y:ab}{xs:List Operand}{ys:List ab}(h:Rd g x y) [az:b9 y] (ak:qT g xs ys):qT g (x::xs) (y::ys):=.cons h az.bd ak
theorem c3.go {xs:List Operand}{fI:Array TypeId}{f:FuncId}{ys:List ab}{outs:List (Option ab)}{res:ab}(j:qT g xs ys) (gp:bH P f ys outs res) (aU:gR P f=true) (aM:sD outs=true) [aj:b9 res] :
  c3 P g (.call { callee:=.value (.func f),args:=xs.toArray,argTypes:=fI }) res:=.TA gp aU j aM aj.bd
inductive uq (P:Program) (g:aG):List ResultVar->List ab->Prop
 | nil:uq P g [] []
 | f {t:Nat}{x:ab}{rs:List ResultVar}{xs:List ab}(h:g t=some x) (aU:lB x=true) [az:b9 x] (ak:uq P g rs xs):uq P g (.tmp t::rs) (x::xs)
 | c {a:Nat}{t:TypeId}{z:Nat}{cs:List ab}{rs:List ResultVar}{xs:List ab}(h:g a=some (.obj cs)) (ak:ia P t z=true) (aS:cs.length=z) (aU:(0<z&&cs.all lB)=true) [az:df cs] (aj:uq P g rs xs):uq P g (.cell a t::rs) (.agg cs::xs)
theorem uq.spec {rs:List ResultVar}{xs:List ab}(h:uq P g rs xs):qU P g rs xs/\∀ x∈xs,cE x:=by
 induction h with
 | nil=>exact ⟨.nil,by simp⟩
 | @f t x rs xs h aU az _ aK=>exact ⟨.cons (.tmp (Rd.f h aU)) aK.1,oY az.bd aK.2⟩
 | @c a t z cs rs xs h ak aS aU az _ aK =>
  simp only [Bool.and_eq_true,decide_eq_true_eq] at aU;refine ⟨.cons ?_ aK.1,oY (.agg az.bd) aK.2⟩;have j:Own.bj g (.tmp a)=some (.ptr ⟨a,[]⟩ 0):=by
   cases cs with
   | nil=>simp at aS; omega
   | cons c cs=>simp [Own.bj,h,ou,fA]
  have:=cS.w9 (P:=P) (ty:=t) (p:=⟨a,[]⟩) (n:=0) (z:=0) j ak (by simp only [bu,h,ab.at]) (.inr rfl) (show 0+z<=cs.length by omega);have fN:((cs.drop 0).take z).mapIdx (λi x=>fA 0 (Place.push ⟨a,[]⟩ (0+i)) x)=cs:=by
   rw [List.drop_zero,List.take_of_length_le (by omega)];exact AV aU.2
  rw [fN] at this;exact .cell this
theorem Fin.rt {rs:List ResultVar}{xs:List ab}{res:ab}{outs:List (Option ab)}{n:Nat}(h:uq P g rs xs) (he:ov xs=res) (aM:sD outs=true) (ah:outs.length=n):Fin P N rs n outs res .ret g :=
 ⟨.inr rfl,⟨xs,xs,g,h.spec.1,.bd h.spec.2,he.symm,λk x hk=>absurd hk (Fo aM k x)⟩,ah⟩
end
def xf:Nat->List ab->List (Nat × ab)
 | _,[]=>[]
 | i,x::l=>(i,x)::xf (i+1) l
theorem Na:∀ (l:List ab) (i t:Nat),get (xf i l) t=if i<=t then l[t - i]? else none
 | [],i,t=>by simp [xf,get]
 | x::l,i,t=>by
  simp only [xf,get];by_cases h:t=i
  ·subst h; simp
  ·rw [if_neg h,Na l (i+1) t];by_cases h1:i+1<=t
   ·rw [if_pos h1,if_pos (by omega)];have:t - i=(t - (i+1))+1:=by omega
    rw [this,List.getElem?_cons_succ]
   ·rw [if_neg h1,if_neg (by omega)]
theorem RN (args:List ab):oK args=get (xf 0 args):=funext λt=>by rw [Na]; simp [oK]
theorem bH.go {P:Program}{f:FuncId}{fn:Func}{c:Code}{args:List ab}{outs:List (Option ab)}{res:ab}{N:cN}(aU:P.funcs[f]?=some fn) (au:fn.body=some c) (a8:fn.ntmps=N.size) (aQ:Nat.ble args.length N.size=true) (hlen:outs.length=args.length)
  (hw:W P N c (get (xf 0 args)) (Fin P N fn.results.toList args.length outs res)):bH P f args outs res :=
 .fin aU au a8 aQ hlen (by rw [RN]; exact hw)
end Go.Own
namespace Go.Own
open Go
set_option linter.unusedSectionVars false
variable [cw]
section
variable {P:Program}{N:cN}{Φ nU:Exit->aG->Prop}{dZ:aG->Prop}{G G1:List (Nat × ab)}{A B c:Code}{id k:Nat}{e:Exit}{S R:Type}
theorem hF.da (h:Trim true (get G) (get G1) G1):hF P N .skip G G1:=.skip h
inductive hN:aG->List (Nat × ab)->Prop
 | hz {G:List (Nat × ab)}:hN (get G) G
 | ey {g g1:aG}{G:List (Nat × ab)}(h:jR g g1) (au:hN g1 G):hN g G
theorem hN.trans {g:aG}{G G1:List (Nat × ab)}(h:hN g G) (h1:hN (get G) G1):hN g G1:=by
 induction h with
 | hz=>exact h1
 | ey h _ aK=>exact .ey h (aK h1)
inductive Ag (P:Program) (N:cN):aG->Exit->(Exit->aG->Prop)->Prop
 | hz {g:aG}{e:Exit}{Φ:Exit->aG->Prop}(h:Φ e g):Ag P N g e Φ
 | ey {g g1:aG}{e:Exit}{Φ:Exit->aG->Prop}(hw:jR g g1) (h:Ag P N g1 e Φ):Ag P N g e Φ
theorem W.outs {g:aG}(h:W P N c g Φ) (nb:∀ e g',Φ e g'->Ag P N g' e nU):W P N c g nU:=by
 intro a w I Fs Q a_ a8 dD;refine h a_ a8 λe g' b3 w' av az=>?_;have tv:=nb e g' av;clear av nb;revert az
 induction tv with
 | hz h=>exact λaz=>dD _ _ _ _ h az
 | ey hw _ aK =>
  intro az;refine aK dD ?_;obtain ⟨h1,af,I',bY,dU,bM⟩:=az;obtain ⟨jr,hJ,fz⟩:=dU.ey hw;exact ⟨h1,af,I',jr,hJ,bM.ei,bM.more,bM.new,λc ⟨t,J⟩=>bM.own c ⟨t,fz t c J⟩⟩
def aD (e:Exit) (Φ:Exit->aG->Prop) (G:List (Nat × ab)):Prop:=∀ g,hN g G->Φ e g
theorem W.be {g:aG}(h:W P N c (get G) Φ) (au:hN g G):W P N c g Φ:=by
 induction au with
 | hz=>exact h
 | ey hw _ aK=>exact (aK h).weaken hw
theorem oH.be {g:aG}(h:oH P N c (get G) Φ) (au:hN g G):oH P N c g Φ:=by
 induction au with
 | hz=>exact h
 | ey hw _ aK=>exact (aK h).weaken hw
theorem aD.bQ (h:W P N B (get G) Φ):aD .normal (oz (λg1=>W P N B g1 Φ) nU) G:=λ_ au=>ZM (h.be au)
theorem aD.fH (h:aD (.exit k) nU G):aD (.exit k) (oz dZ nU) G:=λg au=>ZL (h g au)
theorem aD.oy (h:aD .ret nU G):aD .ret (oz dZ nU) G:=λg au=>ZN (h g au)
theorem aD.cq (h:aD .normal Φ G):aD .normal (lI id Φ) G:=λg au=>Xr (h g au)
theorem aD.fC (h:aD .normal Φ G):aD (.exit id) (lI id Φ) G:=λg au=>Xp (h g au)
theorem aD.GZ (hk:Nat.beq k id=false) (h:aD (.exit k) Φ G):aD (.exit k) (lI id Φ) G:=λg au=>Xq hk (h g au)
theorem aD.s_ (h:aD .ret Φ G):aD .ret (lI id Φ) G:=λg au=>Xs (h g au)
theorem W.fJ (h:aD (.exit k) Φ G):W P N (.exit k) (get G) Φ:=W.exit (h _ .hz)
theorem W.da (h:aD .normal Φ G):W P N .skip (get G) Φ:=W.skip (h _ .hz)
theorem W.rt (h:aD .ret Φ G):W P N .ret (get G) Φ:=W.ret (h _ .hz)
theorem W.rx {id:Nat}{l:List Oper}(G1:List (Nat × ab)) (h:aC P N l.toArray l (get G) λg'=>jR g' (get G1)) (hk:aD .normal Φ G1):W P N (.region id l.toArray false) (get G) Φ :=
 W.zN (λi hi=>by obtain ⟨g',h1,af⟩:=h i hi; exact ⟨g',h1,hk g' (.ey af .hz)⟩)
theorem W.dr {G1:List (Nat × ab)}(h:Trim true (get G) (get G1) G1) (hw:W P N c (get G1) Φ):W P N c (get G) Φ:=hw.weaken h.ey
theorem W.st {G:List (Nat × ab)}(G1:List (Nat × ab)) (h:W P N c (get G1) Φ) (e:G1=G:=by rfl):W P N c (get G) Φ:=by subst e; exact h
theorem W.cq (h:W P N c (get G) (lI id Φ)):W P N (.block id c) (get G) Φ:=W.block h
theorem W.ds (G1:List (Nat × ab)) (h:W P N c (get G) λe g=>e=.normal/\hN g G1) (hk:aD .normal Φ G1):W P N c (get G) Φ :=
 h.mono λe g ⟨he,au⟩=>by subst he; exact hk g au
theorem aD.ds (h:Trim true (get G) (get G1) G1):aD .normal (λe g=>e=.normal/\hN g G1) G:=λ_ au=>⟨rfl,au.trans (.ey h.ey .hz)⟩
def kL (G:S->List (Nat × ab)) (dZ:R->Exit->aG->Prop):S ⊕ R->Exit->aG->Prop
 | .inl s,e,g=>e=.normal/\hN g (G s)
 | .inr r,e,g=>e≠.normal/\dZ r e g
theorem oH.it {f:S->Option (S ⊕ R)}{G:S->List (Nat × ab)}{dZ:R->Exit->aG->Prop}(au:∀ s o,f s=some o->W P N c (get (G s)) (kL G dZ o)) :
  ∀ (n:Nat) (s:S) (r:R),Own.iter f n s=some r->oH P N c (get (G s)) (dZ r)
 | 0,_,_,h=>by simp [Own.iter] at h
 | n+1,s,r,h=>by
  simp only [Own.iter] at h;cases aU:f s with
  | none=>rw [aU] at h; cases h
  | some o =>
   rw [aU] at h;refine .step ((au s o aU).mono λe g' aj=>?_);cases o with
   | inl cG =>
    obtain ⟨rfl,hw⟩:=aj;exact (oH.it au n cG r h).be hw
   | inr dk =>
    cases h;obtain ⟨az,hw⟩:=aj;cases e with
    | normal=>exact absurd rfl az
    | _=>exact hw
theorem W.eK {f:S->Option (S ⊕ R)}{s:S}{r:R}(G:S->List (Nat × ab)) (dZ:R->Exit->aG->Prop) (h:b0 f s=some r) (au:∀ s o,f s=some o->W P N c (get (G s)) (kL G dZ o)) (hk:∀ e g,dZ r e g->Φ e g):W P N (.loop c) (get (G s)) Φ :=
 (W.loop (oH.it au fuel s r h)).mono hk
theorem W.Fb {f:S->Option (S ⊕ R)}{s:S}{r:R}(G:S->List (Nat × ab)) (id:Nat) (lS:R->List (Nat × ab)) (h:b0 f s=some r) (au:∀ s o,f s=some o->W P N c (get (G s)) (kL G (λr e g=>e=.exit id/\hN g (lS r)) o)) (hk:aD (.exit id) Φ (lS r)):W P N (.loop c) (get (G s)) Φ :=
 .eK G _ h au λe g ⟨he,aI⟩=>by subst he; exact hk g aI
theorem W.O1 {gw:Type}{f:S->Option (S ⊕ (R ⊕ gw))}{s:S}{r:R ⊕ gw}(G:S->List (Nat × ab)) (id:Nat) (lS:R->List (Nat × ab)) (hC:gw->List (Nat × ab)) (h:b0 f s=some r)
  (au:∀ s o,f s=some o->W P N c (get (G s)) (kL G (λ(r:R ⊕ gw) e g=>match r with | .inl r=>e=.exit id/\hN g (lS r) | .inr r=>e=.ret/\hN g (hC r)) o))
  (j:∀ x,r=.inl x->aD (.exit id) Φ (lS x)) (aj:∀ x,r=.inr x->aD .ret Φ (hC x)):W P N (.loop c) (get (G s)) Φ:=by
 refine .eK G _ h au λe g h=>?_;cases r with
 | inl r=>obtain ⟨rfl,aI⟩:=h; exact j r rfl g aI
 | inr r=>obtain ⟨rfl,aI⟩:=h; exact aj r rfl g aI
theorem aD.go {s:S}{F:S->List (Nat × ab)}{dZ:R->Exit->aG->Prop}(h:Trim true (get G) (get (F s)) (F s)):aD .normal (kL F dZ (.inl s)) G:=λ_ au=>⟨rfl,au.trans (.ey h.ey .hz)⟩
theorem aD.aX {r:R}{F:S->List (Nat × ab)}{lS:R->List (Nat × ab)}(h:Trim true (get G) (get (lS r)) (lS r)):aD (.exit id) (kL F (λr e g=>e=.exit id/\hN g (lS r)) (.inr r)) G:=λ_ au=>⟨by simp,rfl,au.trans (.ey h.ey .hz)⟩
theorem aD.x2 {gw:Type}{r:R}{F:S->List (Nat × ab)}{lS:R->List (Nat × ab)}{hC:gw->List (Nat × ab)}(h:Trim true (get G) (get (lS r)) (lS r)) :
  aD (.exit id) (kL F (λ(r:R ⊕ gw) e g=>match r with | .inl r=>e=.exit id/\hN g (lS r) | .inr r=>e=.ret/\hN g (hC r)) (.inr (.inl r))) G:=λ_ au=>⟨by simp,rfl,au.trans (.ey h.ey .hz)⟩
theorem aD.jJ {gw:Type}{r:gw}{F:S->List (Nat × ab)}{lS:R->List (Nat × ab)}{hC:gw->List (Nat × ab)}(h:Trim true (get G) (get (hC r)) (hC r)) :
  aD .ret (kL F (λ(r:R ⊕ gw) e g=>match r with | .inl r=>e=.exit id/\hN g (lS r) | .inr r=>e=.ret/\hN g (hC r)) (.inr (.inr r))) G:=λ_ au=>⟨by simp,rfl,au.trans (.ey h.ey .hz)⟩
def pd (P:Program) (N:cN) (rs:List ResultVar) (n:Nat) (outs:List (Option ab)) (res:ab) (e:Exit) (g:aG):Prop:=∃ G,hN g G/\Fin P N rs n outs res e (get G)
theorem W.fin {rs:List ResultVar}{n:Nat}{outs:List (Option ab)}{res:ab}{g:aG}(h:W P N c g (pd P N rs n outs res)):W P N c g (Fin P N rs n outs res):=by
 have key:∀ e g,pd P N rs n outs res e g->Ag P N g e (Fin P N rs n outs res):=by
  rintro e g ⟨G,au,aU⟩
  induction au with
  | hz=>exact .hz aU
  | ey hw _ aK=>exact .ey hw (aK aU)
 exact W.outs h key
theorem aD.fin {rs:List ResultVar}{n:Nat}{outs:List (Option ab)}{res:ab}(h:Fin P N rs n outs res e (get G)):aD e (pd P N rs n outs res) G:=λ_ au=>⟨G,au,h⟩
end
end Go.Own
namespace Go.Own
open Go
set_option linter.unusedSectionVars false
variable [cw]
section
variable {P:Program}{N:cN}{ops:Array Oper}{a':List (List Nat)}{g0:aG}{K:aG->Prop}{l:List Oper}{acc:Acc}{d i:Nat}{op:Op}{ty:TypeId}{pos:String}{after:Array Edge}{x:ab}{gd:Option (Nat × Bool)}
abbrev jq (a':List (List Nat)) (g0:aG) (aa:Nat) (acc:Acc):aG:=c9 g0 (λm=>(a'.getD aa []).contains m) acc
def b1 (P:Program) (N:cN) (ops:Array Oper) (a':List (List Nat)) (g0:aG) (i:Nat) (acc:Acc) (l:List Oper) (K:aG->Prop):Prop:=∀ dM aa,mJ P N ops a' g0 i dM->h_ P N ops a' g0 i dM aa acc->ops.toList.drop aa=l->∃ g',rY P N ops a' i dM g0 g'/\K g'
theorem AN {aa bL:Nat}{o:Oper}(h:ops.toList.drop aa=o::l) (ag:Nat.beq ops.size (bL+l.length+1)=true):aa=bL:=by
 grind [List.length_cons,Nat.eq_of_beq_eq_true]
theorem Ru (az:acc.all (λe=>!Nat.beq e.2.1 d)=true):∀ e∈acc,e.2.1≠d:=by
 intro e he h;have:=List.all_eq_true.1 az e he
 simp_all
theorem b1.st (bL:Nat) {r:Option ab}{o:Oper}(aO:o.dst=some d) (ax:pg P (jq a' g0 bL acc) ops o r) (ag:Nat.beq ops.size (bL+l.length+1)=true) (aU:g0 d=none) (az:acc.all (λe=>!Nat.beq e.2.1 d)=true) (a8:N.ok d=true)
  (hk:b1 P N ops a' g0 i ((bL,d,r)::acc) l K):b1 P N ops a' g0 i acc (o::l) K:=by
 intro dM aa cV mx lE;have:=AN lE ag;subst this;obtain ⟨h1,af⟩:=drop_cons lE;exact hk dM (aa+1) cV (.step mx h1 aO aU (Ru az) a8 ax) af
theorem b1.v (bL:Nat) (av:b5 P (jq a' g0 bL acc) op ty x) (ag:Nat.beq ops.size (bL+l.length+1)=true) (aU:g0 d=none) (az:acc.all (λe=>!Nat.beq e.2.1 d)=true) (a8:N.ok d=true) (aI:fW (jq a' g0 bL acc) ops gd)
  (hk:b1 P N ops a' g0 i ((bL,d,some x)::acc) l K):b1 P N ops a' g0 i acc (⟨some d,op,ty,pos,after,gd⟩::l) K :=
 .st bL (r:=some x) rfl (.inl ⟨aI.wanted,.inl av⟩) ag aU az a8 hk
theorem b1.c (bL:Nat) (av:c3 P (jq a' g0 bL acc) op x) (ag:Nat.beq ops.size (bL+l.length+1)=true) (aU:g0 d=none) (az:acc.all (λe=>!Nat.beq e.2.1 d)=true) (a8:N.ok d=true) (aI:fW (jq a' g0 bL acc) ops gd)
  (hk:b1 P N ops a' g0 i ((bL,d,some x)::acc) l K):b1 P N ops a' g0 i acc (⟨some d,op,ty,pos,after,gd⟩::l) K :=
 .st bL (r:=some x) rfl (.inl ⟨aI.wanted,.inr av⟩) ag aU az a8 hk
theorem b1.ps (bL:Nat) {ve t':Nat}{b c:Bool}(h:(ops[ve]?).bind (·.dst)=some t') (aI:jq a' g0 bL acc t'=some (bg c)) (au:c=!b) (ag:Nat.beq ops.size (bL+l.length+1)=true) (aU:g0 d=none) (az:acc.all (λe=>!Nat.beq e.2.1 d)=true) (a8:N.ok d=true)
  (hk:b1 P N ops a' g0 i ((bL,d,some (.bN []))::acc) l K):b1 P N ops a' g0 i acc (⟨some d,op,ty,pos,after,some (ve,b)⟩::l) K :=
 .st bL (r:=some (.bN [])) rfl (.inr (.inl ⟨⟨t',h,.inl ⟨c,aI,by subst au; cases b <;> rfl⟩⟩,rfl⟩)) ag aU az a8 hk
theorem b1.pu (bL:Nat) {ve t':Nat}{b:Bool}(h:(ops[ve]?).bind (·.dst)=some t') (aI:jq a' g0 bL acc t'=some (.bN [])) (ag:Nat.beq ops.size (bL+l.length+1)=true) (aU:g0 d=none) (az:acc.all (λe=>!Nat.beq e.2.1 d)=true) (a8:N.ok d=true)
  (hk:b1 P N ops a' g0 i ((bL,d,some (.bN []))::acc) l K):b1 P N ops a' g0 i acc (⟨some d,op,ty,pos,after,some (ve,b)⟩::l) K :=
 .st bL (r:=some (.bN [])) rfl (.inr (.inl ⟨⟨t',h,.inr ⟨aI,rfl⟩⟩,rfl⟩)) ag aU az a8 hk
def mD (G:List (Nat × ab)):Bool:=G.all λp=>match p.2 with | .bC ..=>false | _=>true
theorem xd {G:List (Nat × ab)}(h:mD G=true):∀ t z q n m new,get G t≠some (.bC z q n m new):=by
 induction G with
 | nil=>intro t z q n m new j; cases j
 | cons p G aK =>
  grind [mD,get]
def w_:List Place->Bool
 | []=>true
 | p::l=>l.all (λq=>!(Nat.beq p.root q.root&&decide (p.path=q.path)))&&w_ l
omit [cw] in
theorem J7:∀ {l:List Place},w_ l=true->l.Nodup
 | [],_=>List.nodup_nil
 | p::l,h=>by
  simp only [w_,Bool.and_eq_true,List.all_eq_true] at h;refine List.nodup_cons.2 ⟨λhm=>?_,J7 h.2⟩;have:=h.1 p hm;simp at this
theorem b1.fin {G G1:List (Nat × ab)}(aS:w_ (acc.filterMap ke)=true) (fO:mD G=true) (hi:Nat.ble i ops.size=true) (h:Trim true (c9 (get G) (λ_=>true) acc) (get G1) G1):b1 P N ops a' (get G) i acc [] λg'=>jR g' (get G1):=by
 intro dM aa cV mx lE;have ag:aa=ops.size:=by
  have h1:ops.size<=aa:=by
   have:=congrArg List.length lE;rw [List.length_drop,List.length_nil,Array.length_toList] at this;omega
  have aJ:aa<=ops.size:=by
   cases mx with
   | nil=>exact Nat.le_of_ble_eq_true hi
   | step _ aM=>have:=(Array.getElem?_eq_some_iff.1 aM).1; omega
  omega
 subst ag;exact ⟨_,.fin mx (J7 aS) (xd fO),h.ey⟩
theorem rY.Md {g g1 g':aG}{i aa:Nat}{dM:Acc}{o:Oper}(cV:mJ P N ops a' g i dM) (ax:h_ P N ops a' g i dM aa acc) (gS:(acc.filterMap ke).Nodup) (fO:∀ t z q n m new,g t≠some (.bC z q n m new)) (aM:ops[aa]?=some o) (hw:h' (c9 g (λ_=>true) acc) ops o true)
  (he:bF P N (c9 g (λ_=>true) acc) o g1) (aQ:(List.range aa).all (λk=>(a'.getD aa []).contains k)=true) (au:(List.range ops.size).all (λk=>decide (k<=aa)||(a'.getD k []).contains aa)=true) (aj:rY P N ops a' (aa+1) [] g1 g'):rY P N ops a' i dM g g':=by
 have dm:∀ e∈acc,(a'.getD aa []).contains e.1=true:=λe h=>List.all_eq_true.1 aQ e.1 (List.mem_range.2 ((ax.le cV).2 e h));have e:c9 g (λm=>(a'.getD aa []).contains m) acc=c9 g (λ_=>true) acc:=funext λt=>Dl λe h _=>dm e h;have gg:[]=acc.filter λe=>!(a'.getD aa []).contains e.1:=by
  grind [List.filter_eq_nil_iff]
 exact .yp (rs:=rM []) ax gS fO aM (by rw [e]; exact hw) (by rw [e]; exact he.oM.v) (λp av=>by simp [rM] at av) gg (by simp) (by simp) (by simp) au aj
theorem W.rd {id:Nat}{l:List Oper}{G:List (Nat × ab)}{Φ:Exit->aG->Prop}(a':List (List Nat)) (G1:List (Nat × ab)) (hm:P.follows .mixedOrders=true) (dm:oI l.toArray a'=true)
  (h:b1 P N l.toArray a' (get G) 0 [] l λg'=>jR g' (get G1)) (hk:aD .normal Φ G1):W P N (.region id l.toArray true) (get G) Φ:=by
 obtain ⟨g',h1,af⟩:=h [] 0 .nil .nil (by simp);exact (fK.draw hm dm h1).w (hk g' (.ey af .hz))
end
end Go.Own
namespace Go.Own
open Go
set_option linter.unusedSectionVars false
variable [cw]
variable {α:Type}
section
variable {P:Program}{N:cN}{ops:Array Oper}{g g2:aG}{K:aG->Prop}{l:List Oper}{d r:Nat}{ty t t2:TypeId}{pos:String}{after:Array Edge}{a b c:Operand}{k kc:IntKind}{m n:Int}{s u:ByteArray}
namespace O
theorem hQ {e:TypeId}{z:Value}{cs:List ab}(aS:(P.info? e).bind (·.zero)=some z) (h1:z.cells.toList.all Value.oneCell'=true) (J:z.cells.toList.map j0=cs):b5 P g (.alloc e) ty (.obj cs):=by
 subst J; exact .o0 (.alloc aS (by rw [<- Array.all_toList]; exact h1))
theorem e' {t:TypeId}{parts:Array (Nat × Operand)}{pl:List (Nat × Nat)}{dh:Value}{ps:List (Nat × List ab)}{cs:List ab}(ak:kY P t pl=true) (aS:(P.info? t).bind (·.zero)=some dh) (h1:dh.cells.toList.all Value.oneCell'=true)
  (av:qz g parts.toList=some ps) (J:uB (λi=>pl[i]?) (dh.cells.toList.map j0) ps=some cs):b5 P g (.build t parts) ty (.agg cs):=.Cx (.build ak aS (by rw [<- Array.all_toList]; exact h1) av J)
end O
inductive pf (g g2:aG):ab->Prop
 | n {x:ab}(h:cE x):pf g g2 x
 | p {r k:Nat}{cs cs2:List ab}(h:g r=some (.obj cs)) (hk:k<cs.length) (af:g2 r=some (.obj cs2)) (fk:k<cs2.length):pf g g2 (.ptr ⟨r,[]⟩ k)
 | r {z n N Lz q:Nat}{cs cs2:List ab}(h:g q=some (.own z N cs)) (az:n<=N) (af:g2 q=some (.own z Lz cs2)) (n':n<=Lz):pf g g2 (.bn z ⟨q,[]⟩ n)
theorem vy {r k:Nat}{cs:List ab}(h:g r=some (.obj cs)) (hk:k<cs.length):gG g (.ptr ⟨r,[]⟩ k):=⟨.obj cs,by simp [bu,h,ab.at],0,0,cs,.inr rfl,hk⟩
theorem C7 {z n N q:Nat}{cs:List ab}(h:g q=some (.own z N cs)) (az:n<=N):gG g (.bn z ⟨q,[]⟩ n):=.inl ⟨N,cs,by simp [bu,h,ab.at],az⟩
theorem pf.bW {x:ab}(h:pf g g2 x):eo g2 x:=by
 cases h with
 | n h=>exact .bd h
 | p _ _ af fk=>exact .ref rfl (vy af fk)
 | r _ _ af n'=>exact .ref rfl (C7 af n')
theorem pf.C9 {x:ab}{zK k0 m0:Nat}(h:pf g g2 x):j7 (λr=>gG g r/\Clear ⟨zK,[]⟩ k0 m0 r/\gG g2 r) x:=by
 cases h with
 | n h=>exact .bd h
 | p h hk af fk =>
  refine .ref rfl ⟨vy h hk,?_,vy af fk⟩;intro q ba _ aa dk e
  grind [zM]
 | r h hk af fk =>
  refine .ref rfl ⟨C7 h hk,?_,C7 af fk⟩;intro q ba _ aa dk e
  grind [zM]
theorem pf.fg {x:ab}(h:pf g g2 x):∀ z p n m new,x≠.bC z p n m new:=by
 rintro z p n m new rfl;cases h with
 | n h=>cases h
inductive k5 (g g2:aG) (r:Nat) (cs2:List ab):List (Nat × ab)->Prop
 | nil:k5 g g2 r cs2 []
 | n {s:Nat}{x:ab}{l:List (Nat × ab)}(cU:Nat.beq s r=false) (h:g s=some x) [az:b9 x] (t:k5 g g2 r cs2 l):k5 g g2 r cs2 ((s,x)::l)
 | p {s q k:Nat}{l:List (Nat × ab)}{cs j9:List ab}(cU:Nat.beq s r=false) (h:g s=some (.ptr ⟨q,[]⟩ k)) (h1:g q=some (.obj cs)) (hk:Nat.blt k cs.length=true) (af:g2 q=some (.obj j9)) (fk:Nat.blt k j9.length=true) (t:k5 g g2 r cs2 l):k5 g g2 r cs2 ((s,.ptr ⟨q,[]⟩ k)::l)
 | w {α:Type}{s q:Nat}{en:bz α}{L:List α}{l:List (Nat × ab)}(cU:Nat.beq s r=false) (h:g s=some (.bn en.z ⟨q,[]⟩ L.length)) (h1:g q=some (ar en L)) (af:g2 q=some (ar en L)) (t:k5 g g2 r cs2 l):k5 g g2 r cs2 ((s,.bn en.z ⟨q,[]⟩ L.length)::l)
 | b {l:List (Nat × ab)}{x:ab}(e:x=.obj cs2) [az:df cs2] (t:k5 g g2 r cs2 l):k5 g g2 r cs2 ((r,x)::l)
theorem k5.spec {cs2:List ab}{l:List (Nat × ab)}(h:k5 g g2 r cs2 l):∀ t x,get l t=some x->(t≠r/\g t=some x/\pf g g2 x)\/(t=r/\x=.obj cs2/\cE x):=by
 induction h with
 | nil=>intro t x j; cases j
 | @n s x l cU h az _ aK =>
  intro t y ai; simp only [get] at ai
  split at ai
  ·rename_i e; subst e; cases ai; exact .inl ⟨Nat.ne_of_beq_eq_false cU,h,.n az.bd⟩
  ·exact aK t y ai
 | @p s q k l cs j9 cU h h1 hk af fk _ aK =>
  intro t y ai; simp only [get] at ai
  split at ai
  ·rename_i e; subst e; cases ai; exact .inl ⟨Nat.ne_of_beq_eq_false cU,h,.p h1 (by simpa using hk) af (by simpa using fk)⟩
  ·exact aK t y ai
 | @w α s q en L l cU h h1 af _ aK =>
  intro t y ai; simp only [get] at ai
  split at ai
  ·rename_i e; subst e; cases ai; exact .inl ⟨Nat.ne_of_beq_eq_false cU,h,.r h1 (Nat.le_refl _) af (Nat.le_refl _)⟩
  ·exact aK t y ai
 | @b l x e az _ aK =>
  intro t y ai; simp only [get] at ai
  split at ai
  ·rename_i bZ; subst bZ; cases ai; subst e; exact .inr ⟨rfl,rfl,.obj az.bd⟩
  ·exact aK t y ai
theorem bF.box {o:Oper}{k0:Nat}{cs cs' cs2:List ab}{y:ab}{G2:List (Nat × ab)}(aM:o.op=.store t a b) (aO:o.dst=none) (ax:g r=some (.obj cs)) (aQ:Rd g a (.ptr ⟨r,[]⟩ k0)) (au:Rd g b y) (az:cE y) (J:mQ y=some cs') (aS:hc P t cs'.length=true)
  (hk:k0+cs'.length<=cs.length) (aH:0<cs'.length) (he:ew cs k0 cs'=cs2) [eN:df cs] (aj:get G2 r≠none) (cT:k5 g (get G2) r cs2 G2):bF P N g o (get G2):=by
 subst he;have mw:g r≠none:=by rw [ax]; simp
 refine .store aM aO aQ.bj au.bj (.bd (by simpa using az)) .refl J aS (p:=⟨r,[]⟩) (nd:=.obj cs) (z:=0) (n:=0) (by simp [bu,ax,ab.at]) (.inr rfl) hk aH (λt x j=>?_) (λt x j y ai=>?_) (λt z q n m new j=>?_) aj
 ·rcases cT.spec t x j with ⟨h1,af,_⟩ | ⟨h1,af,_⟩
  all_goals grind [cc,ab.setAt,ab.ew]
 ·rcases cT.spec t x j with ⟨h1,af,aJ⟩ | ⟨h1,af,aJ⟩
  ·rw [af] at ai;cases ai;exact aJ.C9
  ·subst h1;rw [ax] at ai;cases ai;exact .bd (.obj eN.bd)
 ·rcases cT.spec t _ j with ⟨_,_,aJ⟩ | ⟨_,af,_⟩
  ·exact aJ.fg _ _ _ _ _ rfl
  grind
theorem Trim.q {GX:Bool}{sO q k0:Nat}{cs:List ab}{OR:List (Nat × ab)}(h:g sO=some (.ptr ⟨q,[]⟩ k0)) (af:g2 q=some (.obj cs)) (hk:Nat.blt k0 cs.length=true) (gA:Trim GX g g2 OR):Trim GX g g2 ((sO,.ptr ⟨q,[]⟩ k0)::OR) :=
 .r h (.ref rfl (vy af (by simpa using hk))) (by simp) gA
theorem aC.hR {o:Oper}{G2:List (Nat × ab)}(aI:o.guard=none) (he:bF P N g o (get G2)) (hk:aC P N ops l (get G2) K):aC P N ops (o::l) g K:=by
 intro i hi;obtain ⟨h1,af⟩:=drop_cons hi;obtain ⟨g',aj,dz⟩:=hk (i+1) af;refine ⟨g',.oM h1 ?_ he aj,dz⟩
 grind [h']
theorem aC.o6 {k0:Nat}{cs cs' cs2:List ab}{y:ab}{G2:List (Nat × ab)}(ax:g r=some (.obj cs)) (aQ:Rd g a (.ptr ⟨r,[]⟩ k0)) (au:Rd g b y) [az:b9 y] (J:mQ y=some cs') (aS:hc P t cs'.length=true)
  (hk:Nat.ble (k0+cs'.length) cs.length=true) (aH:Nat.blt 0 cs'.length=true) (he:ew cs k0 cs'=cs2) [eN:df cs] (aj:(get G2 r).isSome=true) (cT:k5 g (get G2) r cs2 G2) (Bt:aC P N ops l (get G2) K):aC P N ops (⟨none,.store t a b,ty,pos,after,none⟩::l) g K :=
 .hR rfl (.box rfl rfl ax aQ au az.bd J aS (Nat.le_of_ble_eq_true hk) (by simpa using aH) he (by intro e; rw [e] at aj; cases aj) cT) Bt
variable {a':List (List Nat)}{acc:Acc}{i:Nat}
theorem b1.yp (bL:Nat) {G G2:List (Nat × ab)}{o:Oper}(he:bF P N (c9 (get G) (λ_=>true) acc) o (get G2)) (aI:o.guard=none) (aS:acc.filterMap ke=[]) (fO:mD G=true) (ag:Nat.beq ops.size (bL+l.length+1)=true)
  (aQ:(List.range bL).all (λk=>(a'.getD bL []).contains k)=true) (au:(List.range ops.size).all (λk=>Nat.ble k bL||(a'.getD k []).contains bL)=true) (hk:b1 P N ops a' (get G2) (bL+1) [] l K):b1 P N ops a' (get G) i acc (o::l) K:=by
 intro dM aa cV mx lE;have:=AN lE ag;subst this;obtain ⟨h1,af⟩:=drop_cons lE;obtain ⟨g',aj,dz⟩:=hk [] (aa+1) .nil .nil af;refine ⟨g',.Md cV mx (by rw [aS]; exact List.nodup_nil) (xd fO) h1 ?_ he aQ ?_ aj,dz⟩
 ·grind [h']
 simp_all
theorem b1.o6 (bL:Nat) {G:List (Nat × ab)}{k0:Nat}{cs cs' cs2:List ab}{y:ab}{G2:List (Nat × ab)}(ag:Nat.beq ops.size (bL+l.length+1)=true) (oQ:(List.range bL).all (λk=>(a'.getD bL []).contains k)=true) (Ii:(List.range ops.size).all (λk=>Nat.ble k bL||(a'.getD k []).contains bL)=true) (B2:acc.filterMap ke=[]) (fO:mD G=true)
  (ax:c9 (get G) (λ_=>true) acc r=some (.obj cs)) (aQ:Rd (c9 (get G) (λ_=>true) acc) a (.ptr ⟨r,[]⟩ k0)) (au:Rd (c9 (get G) (λ_=>true) acc) b y) [az:b9 y] (J:mQ y=some cs') (aS:hc P t cs'.length=true)
  (hk:Nat.ble (k0+cs'.length) cs.length=true) (aH:Nat.blt 0 cs'.length=true) (he:ew cs k0 cs'=cs2) [eN:df cs] (aj:(get G2 r).isSome=true) (cT:k5 (c9 (get G) (λ_=>true) acc) (get G2) r cs2 G2) (Bt:b1 P N ops a' (get G2) (bL+1) [] l K):b1 P N ops a' (get G) i acc (⟨none,.store t a b,ty,pos,after,none⟩::l) K :=
 .yp bL (.box rfl rfl ax aQ au az.bd J aS (Nat.le_of_ble_eq_true hk) (by simpa using aH) he (by intro e; rw [e] at aj; cases aj) cT) rfl B2 fO ag oQ Ii Bt
end
end Go.Own
namespace Go.Own
open Go
set_option linter.unusedSectionVars false
variable [cw]
variable {α β:Type}
def nM (m:Int) (z:α):Option (List α):=if 0<=m/\m<=lim then some (List.replicate m.toNat z) else none
def dP (l m:List α):Option (List α):=if l.length+m.length<=lim then some (l++m) else none
class Flat (e:bz α):Prop where r8:∀ a,(e.cells a).all lB=true
instance:Flat aY:=⟨λ_=>rfl⟩
instance:Flat pw:=⟨λ_=>rfl⟩
instance:Flat cr:=⟨λ_=>rfl⟩
instance:Flat cQ:=⟨λ_=>rfl⟩
instance {e:bz α}:Flat (b6 e):=⟨λ_=>rfl⟩
theorem YV (e:bz α) [h:Flat e] (l:List α):(bw e l).all lB=true:=by
 refine List.all_eq_true.2 λx j=>?_;obtain ⟨a,_,aQ⟩:=List.mem_flatMap.1 j;exact List.all_eq_true.1 (h.r8 a) x aQ
theorem Fu (e:bz α) (l m:List α):(.own e.z (l.length+m.length) (bw e l++bw e m):ab)=ar e (l++m):=by
 grind [FL]
theorem xD (e:bz α) (l:List α):(bw e l).take (l.length * e.z)=bw e l:=by grind [nn]
theorem PL:∀ L:List Int,bw pw L=L.map λb=>.lit (.int .u8 b)
 | []=>rfl
 | x::L=>by
  have:bw pw (x::L)=lY x::bw pw L:=rfl;rw [this,List.map_cons,PL L]
section
variable {P:Program}{N:cN}{ops:Array Oper}{g g1 g2:aG}{K:aG->Prop}{l:List Oper}{d r:Nat}{ty t t2:TypeId}{pos:String}{after:Array Edge}{gd:Option (Nat × Bool)}{a b c:Operand}{k kc:IntKind}{m n:Int}{s u:ByteArray}{p q:Place}
namespace O
theorem bs {e c_:Nat}{parts:Array (Nat × Operand)}{ys:List ab}(en:bz α) (L:List α) (ak:e2 P t e en.z=true) (j:fZ g (parts.toList.map (·.2))=some ys) (J:l0 ys=some (bw en L)) (aS:ys.all (λy=>match h0 y with | some c=>Nat.beq c.length en.z | none=>false)=true)
  (av:parts.toList=(parts.toList.map (·.2)).mapIdx (λi x=>(i,x))) (az:(parts.toList.map (·.2)).length=c_) (ah:L.length=c_) (hzero:hY P e en.z=true) (au:Nat.ble (c_ * en.z) 16777216=true) (gh:Nat.ble c_ 16777216=true):b5 P g (.buildSlice t c_ parts) ty (ar en L):=by
 subst az;have:=nw.buildSlice (P:=P) (ty:=ty) ak av j (λy ai=>by
  grind [Nat.eq_of_beq_eq_true]) J (Nat.le_of_ble_eq_true au) (Nat.le_of_ble_eq_true gh) (.inr (Ld hzero))
 unfold ar;rw [ah];exact .o0 this
theorem l9 {z br n:Nat}{e:TypeId}(j:Rd g a (.bn z p n)) (ak:e2 P t e br=true):b5 P g (.call { callee:=.builtin .len,args:=#[a],argTypes:=#[t] }) ty (ae n):=.ek (.Cd j.bj ak)
theorem gU {en:bz α}{L:List α}{y:α}{e:TypeId}(av:bu g p=some (ar en L)) (j:Rd g a (.bn en.z p L.length)) (hi:Rd g b (.lit (.int k m))) (ak:e2 P t e en.z=true) (h:idx L m=some y) (aS:Nat.blt 0 en.z=true):b5 P g (.indexAddr t a b) ty (.ptr p (m.toNat * en.z+0)):=by
 obtain ⟨aH,h1,_⟩:=qu h;obtain ⟨aa,rfl⟩:=Int.eq_ofNat_of_zero_le aH;have Ox:0<en.z:=by simpa using aS
 have ag:aa<L.length:=by omega
 refine .ek (.EY j.bj hi.bj ak ag ⟨_,av,_,_,_,.inl rfl,?_⟩)
 simp_all [nn]
theorem YQ {en:bz α}{L:List α}{y:α}{o:Nat}(h:idx L m=some y) (aM:o<en.z):m.toNat * en.z+o<(bw en L).length:=by
 obtain ⟨aH,h1,_⟩:=qu h;rw [nn];have af:m.toNat+1<=L.length:=by omega
 calc m.toNat * en.z+o<m.toNat * en.z+en.z:=by omega
  _=(m.toNat+1) * en.z:=by rw [Nat.add_mul]; omega
  _<=L.length * en.z:=Nat.mul_le_mul_right _ af
theorem jU {en:bz α}{L:List α}{y:α}{cG f off o gW:Nat}(av:bu g p=some (ar en L)) (j:Rd g a (.ptr p (m.toNat * en.z+o))) (aU:iy P cG f off t=true) (h:idx L m=some y) (aM:o+off=gW) (aN:Nat.blt gW en.z=true):b5 P g (.fieldAddr cG a f) ty (.ptr p (m.toNat * en.z+gW)):=by
 subst aM;rw [<- Nat.add_assoc];refine .ek (.AT j.bj aU ⟨_,av,_,_,_,.inl rfl,?_⟩)
 simp_all [Nat.add_assoc,YQ]
theorem r4 {en:bz α}{L:List α}{y:α}{o:Nat}{x:ab}(av:bu g p=some (ar en L)) (h:idx L m=some y) (J:(en.cells y)[o]?=some x):bu g (p.push (m.toNat * en.z+o))=some x:=by
 rw [s8,av];exact PK en h J
theorem kd {en:bz α}{L:List α}{y:α}{o:Nat}{x x':ab}(av:bu g p=some (ar en L)) (j:Rd g a (.ptr p (m.toNat * en.z+o))) (ak:jw P t=true) (h:idx L m=some y) (J:(en.cells y)[o]?=some x) (aj:fA 0 (p.push (m.toNat * en.z+o)) x=x'):b5 P g (.load t a) ty x':=by
 subst aj;exact .ek (.Ch j.bj ak (r4 av h J))
theorem E8 {en:bz α}{L:List α}{y:α}{o z:Nat}{cs':List ab}(av:bu g p=some (ar en L)) (j:Rd g a (.ptr p (m.toNat * en.z+o))) (ak:ia P t z=true) (h:idx L m=some y) (aS:Nat.ble (o+z) en.z=true)
  (J:(((en.cells y).drop o).take z).mapIdx (λi x=>fA 0 (p.push (m.toNat * en.z+o+i)) x)=cs'):b5 P g (.load t a) ty (.agg cs'):=by
 have Ox:=Nat.le_of_ble_eq_true aS;have lE:((bw en L).drop (m.toNat * en.z+o)).take z=((en.cells y).drop o).take z:=by
  rw [<- List.drop_drop,KB en h,List.drop_append_of_le_length (by rw [en.len]; omega),List.take_append_of_le_length (by rw [List.length_drop,en.len]; omega)]
 subst J;rw [<- lE];refine .ek (.w9 j.bj ak av (.inl rfl) ?_);obtain ⟨aH,h1,_⟩:=qu h;rw [nn];have af:m.toNat+1<=L.length:=by omega
 calc m.toNat * en.z+o+z<=m.toNat * en.z+en.z:=by omega
  _=(m.toNat+1) * en.z:=by rw [Nat.add_mul]; omega
  _<=L.length * en.z:=Nat.mul_le_mul_right _ af
end O
class qc (g:aG):Prop where fg:∀ t z q n m new,g t≠some (.bC z q n m new)
class mI (x:ab):Prop where fg:∀ z q n m new,x≠.bC z q n m new
instance {x:ab} [h:b9 x]:mI x:=⟨by rintro z q n m new rfl; cases h.bd⟩
instance {p:Place}{k:Nat}:mI (.ptr p k):=⟨by simp⟩
instance {p:Place}{z n:Nat}:mI (.bn z p n):=⟨by simp⟩
instance {p:Place}{z lo n:Nat}:mI (.sub z p lo n):=⟨by simp⟩
instance {cs:List ab}:mI (.agg cs):=⟨by simp⟩
instance {cs:List ab}:mI (.bN cs):=⟨by simp⟩
instance {cs:List ab}:mI (.obj cs):=⟨by simp⟩
instance {g:aG}{d:Nat}{x:ab} [h:qc g] [j:mI x]:qc (cH g d x):=⟨λt z q n m new e=>by
 unfold cH at e
 split at e
 ·cases e; exact j.fg _ _ _ _ _ rfl
 ·exact h.fg _ _ _ _ _ _ e⟩
instance:qc (get []):=⟨λ_ _ _ _ _ _ e=>by cases e⟩
instance {t:Nat}{x:ab}{G:List (Nat × ab)} [j:mI x] [h:qc (get G)]:qc (get ((t,x)::G)):=⟨λs z q n m new e=>by
 simp only [get] at e
 split at e
 ·cases e; exact j.fg _ _ _ _ _ rfl
 ·exact h.fg _ _ _ _ _ _ e⟩
class DK (acc:Acc):Prop where fg:∀ e∈acc,∀ z q n m new,e.2.2≠some (.bC z q n m new)
instance:DK []:=⟨by simp⟩
instance {aa d:Nat}{x:ab}{acc:Acc} [j:mI x] [h:DK acc]:DK ((aa,d,some x)::acc):=⟨λe he z q n m new bE=>by
 rcases List.mem_cons.1 he with rfl | he
 ·exact j.fg z q n m new (Option.some.inj bE)
 ·exact h.fg e he z q n m new bE⟩
instance {G:List (Nat × ab)}{A:Nat->Bool}{acc:Acc} [aI:qc (get G)] [h:DK acc]:qc (c9 (get G) A acc):=⟨λt z q n m new e=>by
 rcases tY e with ⟨bZ,he,_,_,af⟩ | ⟨_,af⟩
 ·exact h.fg bZ he _ _ _ _ _ af
 ·exact aI.fg _ _ _ _ _ _ af⟩
theorem yj {L M:List α}{r:List α}{b:Nat}(h:dP L M=some r) (au:Nat.ble b 128=true):L.length+M.length<=4611686018427387904/\(L.length+M.length) * b<=140737488355328/\r=L++M:=by
 unfold dP at h
 split at h
 ·rename_i ah;have kt:=Nat.le_of_ble_eq_true au;have sk:lim=1099511627776:=rfl;refine ⟨by omega,?_,(Option.some.inj h).symm⟩
  calc (L.length+M.length) * b<=1099511627776 * 128:=Nat.mul_le_mul ah kt
   _=140737488355328:=by decide
 ·cases h
inductive nx (g:aG) (en:bz α):ab->List α->Prop
 | i {M:List α}:nx g en (.bc en.z M.length (bw en M)) M
 | n:nx g en .bf []
 | o {q:Place}{M:List α}(ba:bu g q=some (ar en M)) (aU:(bw en M).all lB=true):nx g en (.bn en.z q M.length) M
theorem nx.src {en:bz α}{y:ab}{M:List α}(h:nx g en y M):Src g y en.z M.length (bw en M):=by
 cases h with
 | i=>exact .bc
 | n=>exact .bf
 | o ba aU =>
  have:=Src.bn (g:=g) (m:=M.length) ba (Nat.le_refl _)
  simp_all [xD,AV]
theorem nx.flat (en:bz α) [Flat en] {q:Place}{M:List α}(ba:bu g q=some (ar en M)):nx g en (.bn en.z q M.length) M:=.o ba (YV en M)
namespace O
theorem ap {en:bz α}{L M r:List α}{y:ab}{e fq:Nat}(ax:Rd g a (.bn en.z p L.length)) (av:bu g p=some (ar en L)) (j:Rd g b y) (hm:nx g en y M) (ak:jt P t e en.z fq=true) (au:Nat.ble fq 128=true) (h:dP L M=some r) [eN:qc g] :
  b5 P g (.call { callee:=.builtin .append,args:=#[a,b],argTypes:=#[t,t] }) ty (.bC en.z p L.length M.length (bw en M)):=by
 obtain ⟨h1,af,_⟩:=yj h au;exact .lj (.grow ax.bj (.inl ⟨_,av⟩) (λt br ck bm cK e=>eN.fg _ _ _ _ _ _ e) j.bj hm.src ak h1 af)
theorem RI {en:bz α}{M r:List α}{y:ab}{e fq:Nat}(ax:Rd g a .bf) (j:Rd g b y) (hm:nx g en y M) (ak:jt P t e en.z fq=true) (au:Nat.ble fq 128=true) (h:dP [] M=some r) :
  b5 P g (.call { callee:=.builtin .append,args:=#[a,b],argTypes:=#[t,t] }) ty (ar en M):=by
 obtain ⟨h1,af,_⟩:=yj h au;simp only [List.length_nil,Nat.zero_add] at h1 af;exact .lj (.nil ax.bj j.bj hm.src ak h1 af)
end O
inductive mh (ex:List Nat) (g g2:aG):List (Nat × ab)->Prop
 | nil:mh ex g g2 []
 | n {s:Nat}{x:ab}{l:List (Nat × ab)}(cU:ex.elem s=false) (h:g s=some x) [az:b9 x] (t:mh ex g g2 l):mh ex g g2 ((s,x)::l)
 | p {s q k:Nat}{l:List (Nat × ab)}{j9:List ab}(cU:ex.elem s=false) (h:g s=some (.ptr ⟨q,[]⟩ k)) (af:g2 q=some (.obj j9)) (fk:Nat.blt k j9.length=true) (t:mh ex g g2 l):mh ex g g2 ((s,.ptr ⟨q,[]⟩ k)::l)
 | w {α:Type}{s q:Nat}{en:bz α}{L:List α}{l:List (Nat × ab)}(cU:ex.elem s=false) (h:g s=some (.bn en.z ⟨q,[]⟩ L.length)) (af:g2 q=some (ar en L)) (t:mh ex g g2 l):mh ex g g2 ((s,.bn en.z ⟨q,[]⟩ L.length)::l)
theorem mh.spec {ex:List Nat}{l:List (Nat × ab)}(h:mh ex g g2 l):∀ t x,get l t=some x->ex.elem t=false/\g t=some x/\eo g2 x/\∀ z p n m new,x≠.bC z p n m new:=by
 induction h with
 | nil=>intro t x j; cases j
 | @n s x l cU h az _ aK =>
  intro t y ai; simp only [get] at ai
  split at ai
  ·rename_i e; subst e; cases ai; exact ⟨cU,h,.bd az.bd,by rintro z p n m new rfl; cases az.bd⟩
  ·exact aK t y ai
 | @p s q k l j9 cU h af fk _ aK =>
  intro t y ai; simp only [get] at ai
  split at ai
  ·rename_i e; subst e; cases ai; exact ⟨cU,h,.ref rfl (vy af (by simpa using fk)),by simp⟩
  ·exact aK t y ai
 | @w α s q en L l cU h af _ aK =>
  intro t y ai; simp only [get] at ai
  split at ai
  ·rename_i e; subst e; cases ai; exact ⟨cU,h,.ref rfl (.inl ⟨_,_,(by simp [bu,af,ab.at]:bu g2 ⟨q,[]⟩=some (ar en L)),Nat.le_refl _⟩),by simp⟩
  ·exact aK t y ai
theorem mh.keep {ex:List Nat}{G2:List (Nat × ab)}(h:mh ex g (get G2) G2) (aI:∀ t,ex.elem t=false->g1 t=g t):gF g1 (get G2) :=
 ⟨λt x j=>by obtain ⟨h1,af,_⟩:=h.spec t x j; rw [aI t h1]; exact af,λt x j=>(h.spec t x j).2.2.1,λt z q n m new j=>(h.spec t _ j).2.2.2 _ _ _ _ _ rfl⟩
theorem Take.row {en:bz α}{L:List α}(av:bu g p=some (ar en L)):Take g [.bn en.z p L.length] [ar en L] (cc g p .dead):=by
 have h1:Take (cc g p .dead) ((bw en L).take (L.length * en.z)) (bw en L) (cc g p .dead):=by
  rw [xD]; exact .bd (o4 en L)
 exact .bn av (Nat.le_refl _) h1 (.bd (by simp))
theorem Take.YS {en:bz α}{L M:List α}{s:Nat}(ax:g s=some (.bC en.z q L.length M.length (bw en M))) (av:bu g q=some (ar en L)) (ba:q.root≠s):Take g [.bn en.z ⟨s,[]⟩ (L.length+M.length)] [ar en (L++M)] (cc (cc g ⟨s,[]⟩ .dead) q .dead):=by
 rw [<- Fu];exact .bC ax av ba (.bd λx j=>(List.mem_append.1 j).elim (o4 en L x) (o4 en M x)) (.bd (by simp))
theorem Take.YT {en:bz α}{L M M2:List α}{s s2:Nat}(ax:g s=some (.bC en.z ⟨s2,[]⟩ (L.length+M2.length) M.length (bw en M))) (la:g s2=some (.bC en.z q L.length M2.length (bw en M2))) (av:bu g q=some (ar en L)) (ba:q.root≠s) (qo:q.root≠s2) (BI:s≠s2) :
  Take g [.bn en.z ⟨s,[]⟩ (L.length+M2.length+M.length)] [ar en (L++M2++M)] (cc (cc (cc g ⟨s,[]⟩ .dead) ⟨s2,[]⟩ .dead) q .dead):=by
 have:=Take.zf (g:=g) (xs:=[]) (xs':=[]) ax la rfl av ba qo BI (.bd (xs:=bw en L++bw en M2++bw en M) λx j=>by
  grind [o4]) (.bd (by simp))
 grind [FL]
theorem vB {t:Nat}{y:ab}(h:t≠p.root):cc g p y t=g t:=by
 grind [cc]
theorem yy {ex:List Nat}{t s:Nat}(h:ex.elem t=false) (ax:ex.elem s=true):t≠s:=by
 grind
theorem bF.GM {o:Oper}{en:bz α}{L:List α}{x:Operand}{G2:List (Nat × ab)}(aM:o.op=.assign x) (aO:o.dst=some d) (j:Rd g x (.bn en.z p L.length)) (av:bu g p=some (ar en L)) (cT:mh [p.root] g (get G2) G2) (aI:get G2 d=none) (a8:N.ok d=true):bF P N g o (cH (get G2) d (ar en L)) :=
 .assign aM aO j.bj (.row av) .refl (cT.keep λt ak=>vB (yy ak (by simp))) aI a8
theorem bF.GL {o:Oper}{en:bz α}{L M:List α}{s:Nat}{x:Operand}{G2:List (Nat × ab)}(aM:o.op=.assign x) (aO:o.dst=some d) (j:Rd g x (.bn en.z ⟨s,[]⟩ (L.length+M.length))) (ax:g s=some (.bC en.z q L.length M.length (bw en M))) (av:bu g q=some (ar en L)) (ba:Nat.beq q.root s=false)
  (cT:mh [s,q.root] g (get G2) G2) (aI:get G2 d=none) (a8:N.ok d=true):bF P N g o (cH (get G2) d (ar en (L++M))) :=
 .assign aM aO j.bj (.YS ax av (Nat.ne_of_beq_eq_false ba)) .refl (cT.keep λt ak=>by rw [vB (yy ak (by simp)),vB (yy ak (by simp))]) aI a8
theorem bF.Rn {o:Oper}{en:bz α}{L M M2:List α}{s s2:Nat}{x:Operand}{G2:List (Nat × ab)}(aM:o.op=.assign x) (aO:o.dst=some d) (j:Rd g x (.bn en.z ⟨s,[]⟩ (L.length+M2.length+M.length))) (ax:g s=some (.bC en.z ⟨s2,[]⟩ (L.length+M2.length) M.length (bw en M)))
  (la:g s2=some (.bC en.z q L.length M2.length (bw en M2))) (av:bu g q=some (ar en L)) (ba:Nat.beq q.root s=false) (qo:Nat.beq q.root s2=false) (BI:Nat.beq s s2=false)
  (cT:mh [s,s2,q.root] g (get G2) G2) (aI:get G2 d=none) (a8:N.ok d=true):bF P N g o (cH (get G2) d (ar en (L++M2++M))) :=
 .assign aM aO j.bj (.YT ax la av (Nat.ne_of_beq_eq_false ba) (Nat.ne_of_beq_eq_false qo) (Nat.ne_of_beq_eq_false BI)) .refl (cT.keep λt ak=>by rw [vB (yy ak (by simp)),vB (yy ak (by simp)),vB (yy ak (by simp))]) aI a8
theorem aC.qi {o:Oper}{x:ab}{G2:List (Nat × ab)}(aI:o.guard=none) (he:bF P N g o (cH (get G2) d x)) (hk:aC P N ops l (cH (get G2) d x) K):aC P N ops (o::l) g K:=by
 intro i hi;obtain ⟨h1,af⟩:=drop_cons hi;obtain ⟨g',aj,dz⟩:=hk (i+1) af;refine ⟨g',.oM h1 ?_ he aj,dz⟩
 grind [h']
theorem q7 {x:ab}{G:List (Nat × ab)}:cH (get G) d x=get ((d,x)::G):=by
 grind [cH,get]
variable {a':List (List Nat)}{acc:Acc}{i:Nat}
inductive Ap (P:Program):aG->List ResultVar->List ab->List ab->aG->Prop
 | nil {g:aG}:Ap P g [] [] [] g
 | f {g g':aG}{t:Nat}{x:ab}{rs:List ResultVar}{ys xs:List ab}(h:g t=some x) (aU:lB x=true) [az:b9 x] (ak:Ap P g rs ys xs g'):Ap P g (.tmp t::rs) (x::ys) (x::xs) g'
 | o {g g':aG}{t:Nat}{en:bz α}{L:List α}{rs:List ResultVar}{ys xs:List ab}(h:g t=some (ar en L)) (ak:Ap P (cc g ⟨t,[]⟩ .dead) rs ys xs g'):Ap P g (.tmp t::rs) (.bn en.z ⟨t,[]⟩ L.length::ys) (ar en L::xs) g'
end
end Go.Own
namespace Go.Own
open Go
set_option linter.unusedSectionVars false
variable [cw]
variable {α β:Type}
section
variable {P:Program}{N:cN}{ops:Array Oper}{g g' g1 g2:aG}{K:aG->Prop}{l:List Oper}{d r:Nat}{ty t t2:TypeId}{pos:String}{after:Array Edge}{a b c:Operand}{p q:Place}{e:Exit}
inductive mK (s:Nat):aG->Nat->List ab->List ab->aG->Prop
 | nil {g:aG}{i:Nat}:mK s g i [] [] g
 | f {g g':aG}{i:Nat}{x:ab}{ys xs:List ab}(aU:lB x=true) [az:b9 x] (ak:mK s g (i+1) ys xs g'):mK s g i (x::ys) (x::xs) g'
 | o {α:Type}{g g':aG}{i:Nat}{en:bz α}{L:List α}{ys xs:List ab}(av:bu g ⟨s,[i]⟩=some (ar en L)) (ak:mK s (cc g ⟨s,[i]⟩ .dead) (i+1) ys xs g'):mK s g i (.bn en.z ⟨s,[i]⟩ L.length::ys) (ar en L::xs) g'
theorem mK.take {s i:Nat}{ys xs:List ab}(h:mK s g i ys xs g'):Take g ys xs g':=by
 induction h with
 | nil=>exact .bd (by simp)
 | @f g g' i x ys xs aU az _ aK=>exact .cons az.bd aK
 | @o α g g' i en L ys xs av _ aK =>
  refine .bn av (Nat.le_refl _) ?_ aK;rw [xD]; exact .bd (o4 en L)
inductive jO (P:Program):aG->List ResultVar->List ab->List ab->aG->Prop
 | nil {g:aG}:jO P g [] [] [] g
 | f {g g':aG}{t:Nat}{x:ab}{rs:List ResultVar}{ys xs:List ab}(h:g t=some x) (aU:lB x=true) [az:b9 x] (ak:jO P g rs ys xs g'):jO P g (.tmp t::rs) (x::ys) (x::xs) g'
 | o {α:Type}{g g':aG}{t:Nat}{en:bz α}{L:List α}{rs:List ResultVar}{ys xs:List ab}(h:g t=some (ar en L)) (ak:jO P (cc g ⟨t,[]⟩ .dead) rs ys xs g'):jO P g (.tmp t::rs) (.bn en.z ⟨t,[]⟩ L.length::ys) (ar en L::xs) g'
 | c {g g' wk:aG}{t z:Nat}{ty:TypeId}{cs ys0:List ab}{rs:List ResultVar}{ys xs:List ab}(h:g t=some (.obj cs)) (ak:ia P ty z=true) (aS:cs.length=z) (aH:Nat.blt 0 z=true) (ai:(cs.mapIdx λi x=>fA 0 ⟨t,[i]⟩ x)=ys0) (hk:mK t g 0 ys0 cs wk) (aj:jO P wk rs ys xs g'):jO P g (.cell t ty::rs) (.agg ys0::ys) (.agg cs::xs) g'
def xZ (g0 g:aG):Prop:=∀ t x,g t=some x->(lB x=true\/(∃ z n cs,x=.own z n cs))->g0 t=some x
theorem xZ.set {g0:aG}{t:Nat}{pp:List Nat}(h:xZ g0 g) (aM:pp=[]\/∃ cs,g t=some (.obj cs)):xZ g0 (cc g ⟨t,pp⟩ .dead):=by
 intro s x j aU;unfold cc at j
 split at j
 ·rename_i ax;simp only at ax j;subst ax;exfalso;cases aI:g s with
  | none=>rw [aI] at j; cases j
  | some y =>
   rw [aI] at j;simp only [Option.map_some,Option.some.injEq] at j;rcases aM with rfl | ⟨cs,J⟩
   ·simp only [ab.setAt] at j;subst j;rcases aU with aU | ⟨_,_,_,aU⟩ <;> cases aU
   ·rw [aI] at J;cases J;have:∃ cs',x=.obj cs':=by
     subst j;cases pp with
     | nil=>simp only [ab.setAt] at aU; rcases aU with aU | ⟨_,_,_,aU⟩ <;> cases aU
     | cons k pp =>
      simp only [ab.setAt,ab.kids];split
      ·exact ⟨_,rfl⟩
      ·exact ⟨_,rfl⟩
    obtain ⟨cs',rfl⟩:=this;rcases aU with aU | ⟨_,_,_,aU⟩ <;> cases aU
 ·exact h s x j aU
theorem mK.dies {g0:aG}{s i:Nat}{ys xs:List ab}(h:mK s g i ys xs g'):(∃ cs,g s=some (.obj cs))->xZ g0 g->xZ g0 g':=by
 induction h with
 | nil=>exact λ_ h=>h
 | f _ _ aK=>exact aK
 | @o α g g' i en L ys xs av _ aK =>
  intro aM aO;refine aK ?_ (aO.set (.inr aM));obtain ⟨cs,J⟩:=aM;unfold cc;simp only [if_pos,J,Option.map_some,ab.setAt,ab.kids];split
  ·exact ⟨_,rfl⟩
  ·exact ⟨_,rfl⟩
theorem mK.out {s i:Nat}{ys xs:List ab}(h:mK s g i ys xs g'):∀ t,t≠s->g' t=g t:=by
 induction h with
 | nil=>exact λ_ _=>rfl
 | f _ _ aK=>exact aK
 | o _ _ aK=>exact λt ak=>by rw [aK t ak,vB ak]
theorem jO.take {rs:List ResultVar}{ys xs:List ab}(h:jO P g rs ys xs g'):Take g ys xs g':=by
 induction h with
 | nil=>exact .bd (by simp)
 | @f g g' t x rs ys xs h aU az _ aK=>exact .cons az.bd aK
 | @o α g g' t en L rs ys xs h _ aK =>
  have av:bu g ⟨t,[]⟩=some (ar en L):=by simp [bu,h,ab.at]
  refine .bn av (Nat.le_refl _) ?_ aK;rw [xD]; exact .bd (o4 en L)
 | @c g g' wk t z ty cs ys0 rs ys xs h ak aS aH ai hk _ aK=>exact .agg hk.take aK
theorem jO.vs {rs:List ResultVar}{ys xs:List ab}(h:jO P g rs ys xs g'):∀ g0:aG,xZ g0 g->(∀ t ty,ResultVar.cell t ty∈rs->∀ cs,g t=some (.obj cs)->g0 t=some (.obj cs))->(rs.filterMap fun | .cell t _=>some t | _=>none).Nodup->qU P g0 rs ys:=by
 induction h with
 | nil=>exact λ_ _ _ _=>.nil
 | @f g g' t x rs ys xs h aU az _ aK =>
  intro g0 aO au ft;exact .cons (.tmp (Rd.f (aO t x h (.inl aU)) aU)) (aK g0 aO (λt ty hm=>au t ty (List.mem_cons_of_mem _ hm)) (by simpa using ft))
 | @o α g g' t en L rs ys xs h _ aK =>
  intro g0 aO au ft;refine .cons (.tmp ?_) (aK g0 (aO.set (.inl rfl)) (λs ty hm cs J=>?_) (by simpa using ft))
  ·have:=aO t _ h (.inr ⟨_,_,_,rfl⟩);simp [Own.bj,this,ou,fA]
  ·by_cases ax:s=t
   ·subst ax; simp [cc,h,ab.setAt] at J
   ·rw [vB ax] at J; exact au s ty (List.mem_cons_of_mem _ hm) cs J
 | @c g g' wk t z ty cs ys0 rs ys xs h ak aS aH ai hk _ aK =>
  intro g0 aO au ft;have h1:=au t ty (by simp) cs h;simp only [List.filterMap_cons,List.nodup_cons] at ft;refine .cons ?_ (aK g0 (hk.dies ⟨cs,h⟩ aO) (λs xM hm cs' J=>?_) ft.2)
  ·have Ox:0<z:=by simpa using aH
   have j:Own.bj g0 (.tmp t)=some (.ptr ⟨t,[]⟩ 0):=by
    cases cs with
    | nil=>simp at aS; omega
    | cons c cs=>simp [Own.bj,h1,ou,fA]
   have:=cS.w9 (P:=P) (ty:=ty) (p:=⟨t,[]⟩) (n:=0) (z:=0) j ak (by simp only [bu,h1,ab.at]) (.inr rfl) (show 0+z<=cs.length by omega);have fN:((cs.drop 0).take z).mapIdx (λi x=>fA 0 (Place.push ⟨t,[]⟩ (0+i)) x)=ys0:=by
    rw [List.drop_zero,List.take_of_length_le (by omega),<- ai];congr 1;funext i x;simp [Place.push]
   rw [fN] at this;exact .cell this
  ·have bM:s≠t:=by
    rintro rfl;exact ft.1 (List.mem_filterMap.2 ⟨.cell s xM,hm,rfl⟩)
   have:=hk.out s bM;rw [this] at J;exact au s xM (List.mem_cons_of_mem _ hm) cs' J
inductive qd (g:aG) (pins:List Nat):Nat->List (Option ab)->Prop
 | nil {i:Nat}:qd g pins i []
 | no {i:Nat}{os:List (Option ab)}(t:qd g pins (i+1) os):qd g pins i (none::os)
 | al {i:Nat}{x:ab}{os:List (Option ab)}(h:g i=some x) [az:b9 x] (av:pins.elem i=true) (t:qd g pins (i+1) os):qd g pins i (some x::os)
theorem qd.spec {pins:List Nat}{i:Nat}{os:List (Option ab)}(h:qd g pins i os):∀ k x,os[k]?=some (some x)->g (i+k)=some x/\cE x/\i+k∈pins:=by
 induction h with
 | nil=>intro k x hk; simp at hk
 | no _ aK =>
  intro k x hk;cases k with
  | zero=>simp at hk
  | succ k=>have:=aK k x (by simpa using hk); rw [Nat.add_assoc,Nat.add_comm 1 k] at this; exact this
 | @al i y os h az av _ aK =>
  intro k x hk;cases k with
  | zero=>simp at hk; subst hk; exact ⟨h,az.bd,by simpa using av⟩
  | succ k=>have:=aK k x (by simpa using hk); rw [Nat.add_assoc,Nat.add_comm 1 k] at this; exact this
theorem Fin.ro {rs:List ResultVar}{ys xs:List ab}{res:ab}{outs:List (Option ab)}{n:Nat}(h:jO P g rs ys xs g') (he:ov xs=res) (ft:(rs.filterMap fun | .cell t _=>some t | _=>none).Nodup) (aM:qd g' N.pins 0 outs) (ah:outs.length=n) (j:e=.normal\/e=.ret):Fin P N rs n outs res e g :=
 ⟨j,⟨ys,xs,g',h.vs g (λ_ _ h _=>h) (λ_ _ _ _ h=>h) ft,h.take,he.symm,λk x hk=>by have:=aM.spec k x hk; rw [Nat.zero_add] at this; exact this⟩,ah⟩
class iw (x y:ab):Prop where v:∀ g,View g x y
class du (xs ys:List ab):Prop where
 l:ys.length=xs.length
 v:∀ (g:aG) (k:Nat) (x y:ab),xs[k]?=some x->ys[k]?=some y->View g x y
class gQ (e bZ:bz α):Prop where
 z:e.z=bZ.z
 v:∀ a,du (e.cells a) (bZ.cells a)
instance {v:Value}:iw (.lit v) (.lit v):=⟨λ_=>.self .lit (by simp) (by simp) (by simp) (by simp) (by simp)⟩
instance:iw .bf .bf:=⟨λ_=>.self .bf (by simp) (by simp) (by simp) (by simp) (by simp)⟩
instance {z n:Nat}{cs:List ab} [h:df cs]:iw (.bc z n cs) (.bc z n cs):=⟨λ_=>.self (.bc h.bd) (by simp) (by simp) (by simp) (by simp) (by simp)⟩
instance {cs:List ab} [h:df cs]:iw (.cJ cs) (.cJ cs):=⟨λ_=>.self (.cJ h.bd) (by simp) (by simp) (by simp) (by simp) (by simp)⟩
instance {e:bz α}:iw .bf (ay e []):=⟨λ_=>.pW⟩
instance:du [] []:=⟨rfl,by simp⟩
instance {x y:ab}{xs ys:List ab} [h:iw x y] [aL:du xs ys]:du (x::xs) (y::ys):=⟨by simp [aL.l],λg k a b aQ au=>by
 cases k with
 | zero=>simp at aQ au; subst aQ au; exact h.v g
 | succ k=>exact aL.v g k a b (by simpa using aQ) (by simpa using au)⟩
theorem Dn (e bZ:bz α) [h:gQ e bZ]:∀ L:List α,(bw bZ L).length=(bw e L).length/\∀ (g:aG) (k:Nat) (x y:ab),(bw e L)[k]?=some x->(bw bZ L)[k]?=some y->View g x y
 | []=>⟨rfl,by simp [bw]⟩
 | a::L=>by
  obtain ⟨h1,af⟩:=Dn e bZ L;have TB:∀ e:bz α,bw e (a::L)=e.cells a++bw e L:=λe=>by simp [bw]
  refine ⟨by rw [nn,nn,h.z],λg k x y j ai=>?_⟩;rw [TB] at j ai;by_cases hk:k<e.z
  ·rw [List.getElem?_append_left (by rw [e.len]; exact hk)] at j;rw [List.getElem?_append_left (by rw [bZ.len,<- h.z]; exact hk)] at ai;exact (h.v a).v g k x y j ai
  ·rw [List.getElem?_append_right (by rw [e.len]; omega),e.len] at j;rw [List.getElem?_append_right (by rw [bZ.len,<- h.z]; omega),bZ.len,<- h.z] at ai;exact af g _ x y j ai
instance {e bZ:bz α}{L:List α} [h:gQ e bZ]:iw (ar e L) (ay bZ L):=⟨λg=>by
 have:=Dn e bZ L;show View g (.own e.z L.length (bw e L)) (.bc bZ.z L.length (bw bZ L));rw [<- h.z];exact .own this.1 (this.2 g)⟩
instance:gQ aY aY:=⟨rfl,λa=>(inferInstance:du [ae a] [ae a])⟩
instance:gQ pw pw:=⟨rfl,λa=>(inferInstance:du [lY a] [lY a])⟩
instance:gQ cr cr:=⟨rfl,λa=>(inferInstance:du [bg a] [bg a])⟩
instance:gQ cQ cQ:=⟨rfl,λa=>(inferInstance:du [ao a] [ao a])⟩
instance {e bZ:bz α} [h:gQ e bZ]:gQ (fw e) (b6 bZ):=⟨rfl,λa=>(inferInstance:du [ar e a] [ay bZ a])⟩
instance {e:bz α}:gQ (b6 e) (b6 e):=⟨rfl,λa=>(inferInstance:du [ay e a] [ay e a])⟩
theorem View.row {e bZ:bz α}{L:List α} [h:gQ e bZ] (av:bu g p=some (ar e L)):View g (.bn e.z p L.length) (ay bZ L):=by
 have:=Dn e bZ L;show View g _ (.bc bZ.z L.length (bw bZ L));rw [<- h.z];refine .bn av (Nat.le_refl _) (by rw [xD]; exact this.1) (λk x y j ai=>?_);rw [xD] at j;exact this.2 g k x y j ai
inductive n1 (g:aG):List ab->List ab->Prop
 | nil:n1 g [] []
 | s {x y:ab}{xs ys:List ab} [h:iw x y] (t:n1 g xs ys):n1 g (x::xs) (y::ys)
 | c {x y:ab}{xs ys:List ab}(h:View g x y) (t:n1 g xs ys):n1 g (x::xs) (y::ys)
theorem n1.len {xs ys:List ab}(h:n1 g xs ys):ys.length=xs.length:=by
 induction h with
 | nil=>rfl
 | s _ aK=>simp [aK]
 | c _ _ aK=>simp [aK]
theorem n1.get {xs ys:List ab}(h:n1 g xs ys):∀ (k:Nat) (x y:ab),xs[k]?=some x->ys[k]?=some y->View g x y:=by
 induction h with
 | nil=>intro k x y j; simp at j
 | @s x y xs ys h _ aK =>
  intro k a b aQ au;cases k with
  | zero=>simp at aQ au; subst aQ au; exact h.v g
  | succ k=>exact aK k a b (by simpa using aQ) (by simpa using au)
 | @c x y xs ys h _ aK =>
  intro k a b aQ au;cases k with
  | zero=>simp at aQ au; subst aQ au; exact h
  | succ k=>exact aK k a b (by simpa using aQ) (by simpa using au)
theorem View.mM {xs ys:List ab}(h:n1 g xs ys):View g (.agg xs) (.agg ys):=.agg h.len h.get
class nY (x:ab):Prop where kW:jN x
class js (cs:List ab):Prop where kW:∀ x∈cs,jN x
class lU (e:bz α):Prop where kW:∀ a,js (e.cells a)
instance {v:Value}:nY (.lit v):=⟨.lit⟩
instance:nY .bf:=⟨.bf⟩
instance {k:Nat × Nat}:nY (.self k):=⟨.self⟩
instance {t:Nat}{us:List Value}:nY (.dv t us):=⟨.dv⟩
instance:js []:=⟨by simp⟩
instance {x:ab}{xs:List ab} [h:nY x] [aL:js xs]:js (x::xs):=⟨λy ai=>by
 rcases List.mem_cons.1 ai with rfl | ai
 ·exact h.kW
 ·exact aL.kW y ai⟩
instance {e:bz α}{L:List α} [h:lU e]:js (bw e L):=⟨λx j=>by
 obtain ⟨a,_,aQ⟩:=List.mem_flatMap.1 j;exact (h.kW a).kW x aQ⟩
instance {z n:Nat}{cs:List ab} [h:js cs]:nY (.own z n cs):=⟨.own h.kW⟩
instance {cs:List ab} [h:js cs]:nY (.obj cs):=⟨.obj h.kW⟩
instance {cs:List ab} [h:js cs]:nY (.agg cs):=⟨.agg h.kW⟩
instance {cs:List ab} [h:js cs]:nY (.bN cs):=⟨.bN h.kW⟩
instance {e:bz α}{a:α} [h:lU e]:js (e.cells a):=h.kW a
instance:lU aY:=⟨λa=>(inferInstance:js [ae a])⟩
instance:lU pw:=⟨λa=>(inferInstance:js [lY a])⟩
instance:lU cr:=⟨λa=>(inferInstance:js [bg a])⟩
instance:lU cQ:=⟨λa=>(inferInstance:js [ao a])⟩
instance {e:bz α} [h:lU e]:lU (fw e):=⟨λa=>(inferInstance:js [ar e a])⟩
theorem X1 {outs:List (Option ab)}{args:List ab}(aM:sD outs=true) (ah:outs.length=args.length):outs=args.map λ_=>none:=by
 apply List.ext_getElem?;intro k;rw [List.getElem?_map];cases ai:args[k]? with
 | none=>rw [List.getElem?_eq_none (by rw [ah]; exact List.getElem?_eq_none_iff.1 ai)]; rfl
 | some y =>
  have hk:k<outs.length:=by rw [ah]; exact (List.getElem?_eq_some_iff.1 ai).1
  have h1:=List.getElem?_eq_getElem hk;rw [h1];cases af:outs[k] with
  | none=>rfl
  | some x=>rw [af] at h1; exact absurd h1 (Fo aM k x)
theorem c3.vw {xs:List Operand}{fI:Array TypeId}{f:FuncId}{ys args:List ab}{outs:List (Option ab)}{res:ab}(j:fZ g xs=some ys) (hv:n1 g ys args) (gp:bH P f args outs res) (aU:gR P f=true) (aM:sD outs=true) [aj:nY res] :
  c3 P g (.call { callee:=.value (.func f),args:=xs.toArray,argTypes:=fI }) res:=by
 have e:=X1 aM gp.1;refine .E9 (first:=[]) (caps:=[]) (ys:=ys) (args:=args) rfl (by simpa using j) aU (by simpa using hv.len) (λk x y j ai=>hv.get k x y (by simpa using j) ai) ?_ aj.kW;rw [<- e]; exact gp
end
end Go.Own
namespace Go.Own
open Go
set_option linter.unusedSectionVars false
variable [cw]
variable {α β:Type}
section
variable {P:Program}{N:cN}{ops:Array Oper}{g g' g1 g2:aG}{K:aG->Prop}{l:List Oper}{d r:Nat}{op:Op}{ty t t2:TypeId}{pos:String}{after:Array Edge}{gd:Option (Nat × Bool)}{a b c:Operand}{p q:Place}{x y:ab}
variable {a':List (List Nat)}{g0:aG}{acc:Acc}{i:Nat}
instance {cs cs':List ab} [h:du cs cs']:iw (.obj cs) (.cJ cs'):=⟨λg=>.obj h.l (h.v g)⟩
instance {cs cs':List ab} [h:du cs cs']:iw (.agg cs) (.agg cs'):=⟨λg=>.agg h.l (h.v g)⟩
instance {z n:Nat}{cs cs':List ab} [h:du cs cs']:iw (.own z n cs) (.bc z n cs'):=⟨λg=>.own h.l (h.v g)⟩
theorem aC.hA (av:b5 P g op ty y) [az:b9 y] [hv:iw y x] (a8:N.ok d=true) (aU:g d=none) (aI:fW g ops gd) (hk:aC P N ops l (cH g d x) K):aC P N ops (⟨some d,op,ty,pos,after,gd⟩::l) g K :=
 .zW rfl a8 aU (r:=some x) (.inr (.inr ⟨aI.wanted,y,.inl av,az.bd,hv.v _⟩)) hk
theorem b1.hA (bL:Nat) (av:b5 P (jq a' g0 bL acc) op ty y) [az:b9 y] [hv:iw y x] (ag:Nat.beq ops.size (bL+l.length+1)=true) (aU:g0 d=none) (l6:acc.all (λe=>!Nat.beq e.2.1 d)=true) (a8:N.ok d=true) (aI:fW (jq a' g0 bL acc) ops gd)
  (hk:b1 P N ops a' g0 i ((bL,d,some x)::acc) l K):b1 P N ops a' g0 i acc (⟨some d,op,ty,pos,after,gd⟩::l) K :=
 .st bL (r:=some x) rfl (.inr (.inr ⟨aI.wanted,y,.inl av,az.bd,hv.v _⟩)) ag aU l6 a8 hk
inductive nz (ex:List Nat) (g g2:aG):List (Nat × ab)->Prop
 | nil:nz ex g g2 []
 | n {s:Nat}{x:ab}{l:List (Nat × ab)}(cU:ex.elem s=false) (h:g s=some x) [az:b9 x] (t:nz ex g g2 l):nz ex g g2 ((s,x)::l)
 | p {s q k:Nat}{l:List (Nat × ab)}{j9:List ab}(cU:ex.elem s=false) (h:g s=some (.ptr ⟨q,[]⟩ k)) (af:g2 q=some (.obj j9)) (fk:Nat.blt k j9.length=true) (t:nz ex g g2 l):nz ex g g2 ((s,.ptr ⟨q,[]⟩ k)::l)
 | z {s:Nat}{x y:ab}{l:List (Nat × ab)}(he:ex.elem s=true) (h:g s=some y) [az:b9 y] (hv:gE y x) [j:mI x] (t:nz ex g g2 l):nz ex g g2 ((s,x)::l)
theorem nz.spec {ex:List Nat}{l:List (Nat × ab)}(h:nz ex g g2 l):∀ t x,get l t=some x->((ex.elem t=false/\g t=some x/\eo g2 x)\/(ex.elem t=true/\∃ y,g t=some y/\cE y/\gE y x))/\∀ z p n m new,x≠.bC z p n m new:=by
 induction h with
 | nil=>intro t x j; cases j
 | @n s x l cU h az _ aK =>
  intro t y ai; simp only [get] at ai
  split at ai
  ·rename_i e; subst e; cases ai; exact ⟨.inl ⟨cU,h,.bd az.bd⟩,by rintro z p n m new rfl; cases az.bd⟩
  ·exact aK t y ai
 | @p s q k l j9 cU h af fk _ aK =>
  intro t y ai; simp only [get] at ai
  split at ai
  ·rename_i e; subst e; cases ai; exact ⟨.inl ⟨cU,h,.ref rfl (vy af (by simpa using fk))⟩,by simp⟩
  ·exact aK t y ai
 | @z s x y l he h az hv j _ aK =>
  intro t y' ai; simp only [get] at ai
  split at ai
  ·rename_i e; subst e; cases ai; exact ⟨.inr ⟨he,y,h,az.bd,hv⟩,j.fg⟩
  ·exact aK t y' ai
theorem nz.uC {ex:List Nat}{G2:List (Nat × ab)}(h:nz ex g (get G2) G2):GD (λt=>ex.elem t) g (get G2):=by
 refine ⟨λt x j ak=>?_,λt x j ak=>?_,λt z q n m new j=>(h.spec t _ j).2 _ _ _ _ _ rfl⟩
 ·rcases (h.spec t x j).1 with ⟨_,h1,af⟩ | ⟨h1,_⟩
  ·grind
  grind
 ·rcases (h.spec t x j).1 with ⟨h1,_⟩ | ⟨_,af⟩
  ·grind
  grind
theorem W.eF {bB:Code}{G G1:List (Nat × ab)}{Φ:Exit->aG->Prop}(ex:List Nat) (h:nz ex (get G) (get G1) G1) (hw:W P N bB (get G1) Φ):W P N bB (get G) Φ:=by
 intro Q a w I Fs a_ a8 dD;obtain ⟨I',bY,dU,bM⟩:=a_.uC h.uC;exact hw dU a8 λe g' b3 w' he az=>dD e g' b3 w' he (hD.trans rfl hn.refl bM az)
theorem aC.eF {G1:List (Nat × ab)}(ex:List Nat) (h:nz ex g (get G1) G1) (hk:aC P N ops l (get G1) K):aC P N ops l g K:=by
 intro i hi;obtain ⟨g',aj,dz⟩:=hk i hi;exact ⟨g',.uC h.uC aj,dz⟩
theorem Take.pre {xs xs':List ab}:∀ {ps:List ab},(∀ x∈ps,cE x)->Take g xs xs' g'->Take g (ps++xs) (ps++xs') g'
 | [],_,h=>h
 | x::ps,az,h=>.cons (az x (by simp)) (Take.pre (ps:=ps) (λy ai=>az y (List.mem_cons_of_mem _ ai)) h)
inductive fc:aG->List ab->List ab->aG->Prop
 | nil {g:aG}:fc g [] [] g
 | l_ {g:aG}{xs:List ab} [az:df xs]:fc g xs xs g
 | f {g g':aG}{x:ab}{xs xs':List ab} [az:b9 x] (t:fc g xs xs' g'):fc g (x::xs) (x::xs') g'
 | r {α:Type}{g g':aG}{p:Place}{en:bz α}{L:List α}{xs xs':List ab}(av:bu g p=some (ar en L)) (t:fc (cc g p .dead) xs xs' g'):fc g (.bn en.z p L.length::xs) (ar en L::xs') g'
 | l {g g1 g':aG}{p:Place}{z n:Nat}{cs cs' xs xs':List ab}(av:bu g p=some (.own z n cs)) (ah:cs.length=n * z) (h1:fc (cc g p .dead) cs cs' g1) (t:fc g1 xs xs' g'):fc g (.bn z p n::xs) (.own z n cs'::xs') g'
 | lK {α:Type}{g g1 g':aG}{q:Place}{s m:Nat}{en:bz α}{L:List α}{new cK xs xs':List ab}(ax:g s=some (.bC en.z q L.length m new)) (av:bu g q=some (ar en L)) (ba:Nat.beq q.root s=false) (h1:fc (cc (cc g ⟨s,[]⟩ .dead) q .dead) new cK g1) (t:fc g1 xs xs' g') :
   fc g (.bn en.z ⟨s,[]⟩ (L.length+m)::xs) (.own en.z (L.length+m) (bw en L++cK)::xs') g'
 | mM {g g1 g':aG}{cs cs' xs xs':List ab}(h1:fc g cs cs' g1) (t:fc g1 xs xs' g'):fc g (.agg cs::xs) (.agg cs'::xs') g'
 | m {g g':aG}{p:Place}{q:Array MapEntry->Nat->Prop}{xs xs':List ab}(av:bu g p=some (.mp q)) (t:fc (cc g p .dead) xs xs' g'):fc g (.ha p::xs) (.mp q::xs') g'
 | b {g g1 g':aG}{p:Place}{cs cs' xs xs':List ab}(av:bu g p=some (.obj cs)) (h1:fc (cc g p .dead) cs cs' g1) (t:fc g1 xs xs' g'):fc g (.ptr p 0::xs) (.obj cs'::xs') g'
theorem fc.take {xs xs':List ab}(h:fc g xs xs' g'):Take g xs xs' g':=by
 induction h with
 | m av _ aK=>exact .mp av (.bd (by simp)) aK
 | nil=>exact .bd (by simp)
 | @l_ g xs az=>exact .bd az.bd
 | @f g g' x xs xs' az _ aK=>exact .cons az.bd aK
 | @r α g g' p en L xs xs' av _ aK =>
  refine .bn av (Nat.le_refl _) ?_ aK;rw [xD];exact .bd (o4 en L)
 | @l g g1 g' p z n cs cs' xs xs' av ah _ _ ga fP =>
  refine .bn av (Nat.le_refl _) ?_ fP
  grind
 | @lK α g g1 g' q s m en L new cK xs xs' ax av ba _ _ ga fP=>exact .bC ax av (Nat.ne_of_beq_eq_false ba) (.pre (o4 en L) ga) fP
 | @mM g g1 g' cs cs' xs xs' _ _ ga fP=>exact .agg ga fP
 | @b g g1 g' p cs cs' xs xs' av _ _ ga fP=>exact .obj av ga fP
inductive gj:List ab->List ab->Prop
 | nil:gj [] []
 | hz {xs:List ab}:gj xs xs
 | f {x:ab}{xs ys:List ab}(t:gj xs ys):gj (x::xs) (x::ys)
 | o {z:Nat}{xs ys:List ab}(t:gj xs ys):gj (.bf::xs) (.own z 0 []::ys)
 | z {x y:ab}{xs ys:List ab} [az:b9 x] [hv:iw x y] (t:gj xs ys):gj (x::xs) (y::ys)
 | g {x y:ab}{xs ys:List ab}(h:gE x y) (t:gj xs ys):gj (x::xs) (y::ys)
theorem gj.len {xs ys:List ab}(h:gj xs ys):ys.length=xs.length:=by
 induction h with
 | nil=>rfl
 | hz=>rfl
 | f _ aK=>simp [aK]
 | o _ aK=>simp [aK]
 | z _ aK=>simp [aK]
 | g _ _ aK=>simp [aK]
theorem gj.get {xs ys:List ab}(h:gj xs ys):∀ (k:Nat) (x y:ab),xs[k]?=some x->ys[k]?=some y->gE x y:=by
 induction h with
 | nil=>intro k x y j; simp at j
 | hz=>intro k x y j ai; rw [j] at ai; cases ai; exact .refl
 | @f x xs ys _ aK =>
  intro k a b aQ au;cases k with
  | zero=>simp at aQ au; subst aQ au; exact .refl
  | succ k=>exact aK k a b (by simpa using aQ) (by simpa using au)
 | @o z xs ys _ aK =>
  intro k a b aQ au;cases k with
  | zero=>simp at aQ au; subst aQ au; exact .Cm
  | succ k=>exact aK k a b (by simpa using aQ) (by simpa using au)
 | @z x y xs ys az hv _ aK =>
  intro k a b aQ au;cases k with
  | zero=>simp at aQ au; subst aQ au; exact .oh az.bd (hv.v _)
  | succ k=>exact aK k a b (by simpa using aQ) (by simpa using au)
 | @g x y xs ys h _ aK =>
  grind
theorem gj.pre {xs ys:List ab}(h:gj xs ys):∀ ps:List ab,gj (ps++xs) (ps++ys)
 | []=>h
 | _::ps=>.f (gj.pre h ps)
theorem gj.own {z n:Nat}{xs ys:List ab}(h:gj xs ys):gE (.own z n xs) (.own z n ys):=.own h.len h.get
theorem gj.obj {xs ys:List ab}(h:gj xs ys):gE (.obj xs) (.obj ys):=.obj h.len h.get
theorem gj.agg {xs ys:List ab}(h:gj xs ys):gE (.agg xs) (.agg ys):=.agg h.len h.get
theorem gE.pa [az:b9 x] [hv:iw x y]:gE x y:=.oh az.bd (hv.v _)
theorem bF.As {o:Oper}{x:Operand}{y bS y':ab}{G2:List (Nat × ab)}(aM:o.op=.assign x) (aO:o.dst=some d) (j:Rd g x y) (ak:fc g [y] [bS] g1) (aS:gE bS y') (cT:Trim false g1 (get G2) G2) (aI:get G2 d=none) (a8:N.ok d=true):bF P N g o (cH (get G2) d y') :=
 .assign aM aO j.bj ak.take aS cT.keep aI a8
theorem bF.LZ {o:Oper}{x:Operand}{en:bz α}{L M R:List α}{s m:Nat}{new cK:List ab}{G2:List (Nat × ab)}(aM:o.op=.assign x) (aO:o.dst=some d) (j:Rd g x (.bn en.z ⟨s,[]⟩ (L.length+m))) (ax:g s=some (.bC en.z q L.length m new)) (av:bu g q=some (ar en L)) (ba:Nat.beq q.root s=false)
  (h1:fc (cc (cc g ⟨s,[]⟩ .dead) q .dead) new cK g1) (aS:gj cK (bw en M)) (hm:M.length=m) (aj:L++M=R) (cT:Trim false g1 (get G2) G2) (aI:get G2 d=none) (a8:N.ok d=true):bF P N g o (cH (get G2) d (ar en R)):=by
 subst hm aj;have ak:=fc.lK (xs:=[]) (xs':=[]) ax av ba h1 .nil;rw [<- Fu];exact .assign aM aO j.bj ak.take (aS.pre _).own cT.keep aI a8
theorem bF.xK {o:Oper}{k0:Nat}{iQ cs' cs2:List ab}{y bS y':ab}{G2:List (Nat × ab)}(aM:o.op=.store t a b) (aO:o.dst=none) (aQ:Rd g a (.ptr ⟨r,[]⟩ k0)) (au:Rd g b y) (ak:fc g [y] [bS] g1) (nF:gE bS y') (J:mQ y'=some cs') (aS:hc P t cs'.length=true)
  (ax:g1 r=some (.obj iQ)) (hk:Nat.ble (k0+cs'.length) iQ.length=true) (aH:Nat.blt 0 cs'.length=true) (he:ew iQ k0 cs'=cs2) [eN:df iQ] (aj:(get G2 r).isSome=true) (cT:k5 g1 (get G2) r cs2 G2):bF P N g o (get G2):=by
 subst he;refine .store aM aO aQ.bj au.bj ak.take nF J aS (p:=⟨r,[]⟩) (nd:=.obj iQ) (z:=0) (n:=0) (by simp [bu,ax,ab.at]) (.inr rfl) (Nat.le_of_ble_eq_true hk) (by simpa using aH) (λt x j=>?_) (λt x j y ai=>?_) (λt z q n m new j=>?_) (by intro e; rw [e] at aj; cases aj)
 ·rcases cT.spec t x j with ⟨h1,af,_⟩ | ⟨h1,af,_⟩
  all_goals grind [cc,ab.setAt,ab.ew]
 ·rcases cT.spec t x j with ⟨h1,af,aJ⟩ | ⟨h1,af,aJ⟩
  ·rw [af] at ai;cases ai;exact aJ.C9
  ·subst h1;rw [ax] at ai;cases ai;exact .bd (.obj eN.bd)
 ·rcases cT.spec t _ j with ⟨_,_,aJ⟩ | ⟨_,af,_⟩
  ·exact aJ.fg _ _ _ _ _ rfl
  grind
theorem bF.zV {o:Oper}{k0 s m:Nat}{en:bz α}{L M R:List α}{new cK:List ab}{iQ cs2:List ab}{G2:List (Nat × ab)}(aM:o.op=.store t a b) (aO:o.dst=none) (aQ:Rd g a (.ptr ⟨r,[]⟩ k0)) (au:Rd g b (.bn en.z ⟨s,[]⟩ (L.length+m))) (pL:g s=some (.bC en.z q L.length m new)) (av:bu g q=some (ar en L)) (ba:Nat.beq q.root s=false)
  (h1:fc (cc (cc g ⟨s,[]⟩ .dead) q .dead) new cK g1) (nF:gj cK (bw en M)) (hm:M.length=m) (aV:L++M=R) (aS:hc P t 1=true)
  (ax:g1 r=some (.obj iQ)) (hk:Nat.ble (k0+1) iQ.length=true) (he:ew iQ k0 [ar en R]=cs2) [eN:df iQ] (aj:(get G2 r).isSome=true) (cT:k5 g1 (get G2) r cs2 G2):bF P N g o (get G2):=by
 subst hm aV;have ak:=fc.lK (xs:=[]) (xs':=[]) pL av ba h1 .nil;refine .xK (y':=ar en (L++M)) aM aO aQ au ak ?_ rfl aS ax hk rfl he aj cT;rw [<- Fu]; exact (nF.pre _).own
inductive mH (r:Nat) (cs:List ab) (k0:Nat):Nat->List ab->List ab->Prop
 | nil {i:Nat}:mH r cs k0 i [] []
 | b {i:Nat}{xs ys:List ab}(hi:Nat.beq i k0=true) (t:mH r cs k0 (i+1) xs ys):mH r cs k0 i (.ptr ⟨r,[]⟩ 0::xs) (.obj cs::ys)
 | n {i:Nat}{x:ab}{xs ys:List ab}(hi:Nat.beq i k0=false) [az:b9 x] (t:mH r cs k0 (i+1) xs ys):mH r cs k0 i (x::xs) (x::ys)
theorem mH.len {cs:List ab}{k0 i:Nat}{xs ys:List ab}(h:mH r cs k0 i xs ys):ys.length=xs.length:=by
 induction h with
 | nil=>rfl
 | b _ _ aK=>simp [aK]
 | n _ _ aK=>simp [aK]
theorem mH.X2 {cs:List ab}{k0 i:Nat}{xs ys:List ab}(h:mH r cs k0 i xs ys) (hi:k0<i):xs=ys/\∀ x∈xs,cE x:=by
 induction h with
 | nil=>exact ⟨rfl,by simp⟩
 | @b i _ _ h _ _=>have:=Nat.eq_of_beq_eq_true h; omega
 | @n i x xs ys _ az _ aK =>
  obtain ⟨h1,af⟩:=aK (by omega);exact ⟨by rw [h1],oY az.bd af⟩
theorem mH.take {cs:List ab}{k0 i:Nat}{xs ys:List ab}(h:mH r cs k0 i xs ys) (ax:g r=some (.obj cs)) (az:∀ x∈cs,cE x):i<=k0->k0<i+xs.length->Take g xs ys (cc g ⟨r,[]⟩ .dead):=by
 induction h with
 | nil=>intro h1 af; simp at af; omega
 | @b i xs ys hi t _ =>
  intro h1 af;have:=Nat.eq_of_beq_eq_true hi;obtain ⟨e,mu⟩:=t.X2 (by omega);subst e;exact .obj (by simp [bu,ax,ab.at]) (.bd az) (.bd mu)
 | @n i x xs ys hi j _ aK =>
  intro h1 af;have:=Nat.ne_of_beq_eq_false hi;simp only [List.length_cons] at af;exact .cons j.bd (aK (by omega) (by omega))
theorem mH.RS {cs:List ab}{k0 i:Nat}{xs ys:List ab}(h:mH r cs k0 i xs ys):i<=k0->k0<i+xs.length->xs[k0 - i]?=some (.ptr ⟨r,[]⟩ 0):=by
 induction h with
 | nil=>intro h1 af; simp at af; omega
 | @b i xs ys hi _ _=>intro _ _; have:=Nat.eq_of_beq_eq_true hi; subst this; simp
 | @n i x xs ys hi _ _ aK =>
  grind [Nat.ne_of_beq_eq_false]
def tL (n k0:Nat) (x:ab):List (Option ab):=(List.range n).map λi=>if i=k0 then some x else none
inductive vL (g:aG) (d r:Nat) (n:Nat) (G4:List (Nat × ab)):List (Nat × ab)->Prop
 | nil:vL g d r n G4 []
 | c {s k:Nat}{l:List (Nat × ab)}(h:g s=some (.ptr ⟨r,[]⟩ k)) (hk:Nat.blt k n=true) (aO:Nat.beq s d=false) (bo:get G4 s=none) (t:vL g d r n G4 l):vL g d r n G4 ((s,.ptr ⟨r,[]⟩ k)::l)
theorem yz {A B:List (Nat × ab)}{t:Nat}:get (A++B) t=match get A t with | some x=>some x | none=>get B t:=by
 induction A with
 | nil=>rfl
 | cons p A aK =>
  grind [get]
theorem vL.spec {n:Nat}{G4 A:List (Nat × ab)}(h:vL g d r n G4 A):∀ t x,get A t=some x->get G4 t=none/\t≠d/\g t=some x/\∃ k,x=.ptr ⟨r,[]⟩ k/\k<n:=by
 induction h with
 | nil=>intro t x j; cases j
 | @c s k l h hk aO bo _ aK =>
  intro t x j;simp only [get] at j
  split at j
  ·rename_i e;subst e;cases j
   simp_all [Nat.ne_of_beq_eq_false]
  grind
theorem fp.g_ {o:Oper}{xs:List Operand}{fI:Array TypeId}{f:FuncId}{ys args:List ab}{res:ab}{cs cs':List ab}{k0:Nat}{G2 A:List (Nat × ab)}(aM:o.op=.call { callee:=.value (.func f),args:=xs.toArray,argTypes:=fI }) (aO:o.dst=some d) (j:Own.fZ g xs=some ys)
  (ax:g r=some (.obj cs)) [eN:df cs] (aQ:mH r cs k0 0 ys args) (jA:Nat.blt k0 ys.length=true) (gp:bH P f args (tL args.length k0 (.obj cs')) res) (aU:gR P f=true) [aj:b9 res] [uR:df cs']
  (cT:Trim false (cc g ⟨r,[]⟩ .dead) (get ((r,.dead)::G2)) G2) (aI:get G2 d=none) (pM:Nat.beq r d=false) (uH:Trim false (get ((r,.obj cs')::G2)) (get ((r,.obj cs')::G2)) G2) (dm:vL g d r cs'.length ((r,.obj cs')::G2) A) (a8:N.ok d=true) :
  fp P N g o d (get (A++(d,res)::(r,.obj cs')::G2)):=by
 have ac8:k0<ys.length:=by simpa using jA
 have tB:r≠d:=Nat.ne_of_beq_eq_false pM;have wv:args.length=ys.length:=aQ.len;have m_:(tL args.length k0 (.obj cs'))[k0]?=some (some (.obj cs')):=by
  unfold tL;rw [List.getElem?_map,List.getElem?_range (by omega)];simp
 have Wg:∀ (k:Nat) (x:ab),(tL args.length k0 (.obj cs'))[k]?=some (some x)->x=.obj cs':=by
  intro k x h;unfold tL at h;rw [List.getElem?_map] at h;cases hk:(List.range args.length)[k]? with
  | none=>rw [hk] at h; cases h
  | some aa =>
   rw [hk] at h;simp only [Option.map_some,Option.some.injEq] at h
   split at h
   ·exact (Option.some.inj h).symm
   ·cases h
 have AL:get ((r,ab.dead)::G2) r=some .dead:=by simp [get]
 have tI:gF (cc g ⟨r,[]⟩ .dead) (get ((r,.dead)::G2)):=by
  refine ⟨λt x h=>?_,λt x h=>?_,λt z q n m new h=>?_⟩
  all_goals
   simp only [get] at h
   split at h
  ·rename_i e; subst e; cases h; simp [cc,ax,ab.setAt]
  ·obtain ⟨⟨y,h1,_,aJ⟩,_⟩:=cT.spec t x h; rw [<- aJ rfl]; exact h1
  ·cases h; exact .bd .dead
  ·exact (cT.spec t x h).2.1
  ·cases h
  ·exact (cT.spec t _ h).2.2 _ _ _ _ _ rfl
 have put:p0 (get ((r,.dead)::G2)) [(⟨r,[]⟩,.obj cs')]=get ((r,.obj cs')::G2):=by
  funext t;simp only [p0,cc,get];by_cases h:t=r
  ·simp [h,ab.setAt]
  ·simp [h]
 have tJ:gF (get ((r,.obj cs')::G2)) (get ((r,.obj cs')::G2)):=by
  refine ⟨λt x h=>h,λt x h=>?_,λt z q n m new h=>?_⟩
  all_goals
   simp only [get] at h
   split at h
  ·cases h; exact .bd (.obj uR.bd)
  ·exact (uH.spec t x h).2.1
  ·cases h
  ·exact (uH.spec t _ h).2.2 _ _ _ _ _ rfl
 refine x0.ok (first:=[]) (caps:=[]) (ys:=ys) (tk:=λ_=>true) (vw:=false) (outs:=tL args.length k0 (.obj cs')) (g1:=cc g ⟨r,[]⟩ .dead) (g2:=get ((r,.dead)::G2)) (g4:=get ((r,.obj cs')::G2)) (l:=[(⟨r,[]⟩,.obj cs')]) (ks:=λ_=>k0) (xs0:=ys) (xs1:=args) (args:=args) (res:=res) aM aO rfl (by simpa using j)
  ⟨aU,by simp,by simpa using wv,λk x h=>.inl (by simpa using h),aQ.take ax eN.bd (Nat.zero_le _) (by omega),tI,λk x y _ ai=>by simpa using ai,gp,by simpa using aj.bd,λk x h=>by rw [Wg k x h]; simpa using cE.obj uR.bd,λaa p x ag=>?_,by simp,λi aa hi ag _=>by simp at hi ag; omega,by rw [put]; exact tJ⟩ ?_ a8 ?_
 ·cases aa with
  | succ aa=>simp at ag
  | zero =>
   simp only [List.getElem?_cons_zero,Option.some.injEq,Prod.mk.injEq] at ag;obtain ⟨rfl,rfl⟩:=ag;refine ⟨m_,by simp [bu,AL,ab.at],.inr ⟨cs,?_,by simp [bu,ax,ab.at]⟩,λ_ h=>by cases h⟩;have:=aQ.RS (Nat.zero_le _) (by omega);simpa using this
 ·simp only [get,if_neg (Ne.symm tB)]; exact aI
 ·refine ⟨λt x h=>?_,λt x h=>?_⟩
  ·rw [q7] at h;rw [yz];cases mT:get A t with
   | none=>exact h
   | some y =>
    obtain ⟨h1,af,_⟩:=dm.spec t y mT;simp only [get,if_neg af] at h;simp only [get] at h1;rw [h1] at h; cases h
  ·rw [q7];rw [yz] at h;cases mT:get A t with
   | none=>rw [mT] at h; exact .inl h
   | some y =>
    rw [mT] at h;cases h;obtain ⟨h1,af,aJ,k,rfl,hk⟩:=dm.spec t x mT;refine .inr ⟨?_,af,aJ,r,k,cs',rfl,tB,?_,hk⟩
    ·simp only [get,if_neg af]; exact h1
    ·simp only [get,if_neg tB,if_true]
end
end Go.Own
namespace Go.Own
open Go
set_option linter.unusedSectionVars false
variable [cw]
variable {α β:Type}
def Ec (k:IntKind):bz Int:=.one (λn=>.lit (.int k n)) λ_=>.lit
instance {k:IntKind}:Flat (Ec k):=⟨λ_=>rfl⟩
instance {k:IntKind}:gQ (Ec k) (Ec k):=⟨rfl,λa=>(inferInstance:du [.lit (.int k a)] [.lit (.int k a)])⟩
instance {k:IntKind}:lU (Ec k):=⟨λa=>(inferInstance:js [.lit (.int k a)])⟩
instance {cs:List ab}{n:Nat}{x:ab} [h:df cs] [j:b9 x]:df (cs.set n x):=⟨λy ai=>by
 rcases List.mem_or_eq_of_mem_set ai with aL | aL
 ·exact h.bd y aL
 ·rw [aL]; exact j.bd⟩
instance {x y:ab} [h:b9 y]:b9 (x.setAt [] y):=⟨by simpa [ab.setAt] using h.bd⟩
def o1 (m n:Int):Option Int:=if n=0 then none else some (IntKind.u64.wrap (m.tdiv n))
def o3 (m n:Int):Option Int:=if n=0 then none else some (m.tmod n)
inductive jS:List ab->List ab->Prop
 | nil:jS [] []
 | f {x:ab}{xs ys:List ab}(t:jS xs ys):jS (x::xs) (x::ys)
 | o {z:Nat}{xs ys:List ab}(t:jS xs ys):jS (.bf::xs) (.own z 0 []::ys)
 | i {z:Nat}{xs ys:List ab}(t:jS xs ys):jS (.bf::xs) (.bc z 0 []::ys)
theorem jS.len {xs ys:List ab}(h:jS xs ys):ys.length=xs.length:=by
 induction h with
 | nil=>rfl
 | f _ aK=>simp [aK]
 | o _ aK=>simp [aK]
 | i _ aK=>simp [aK]
theorem jS.get {xs ys:List ab}(h:jS xs ys):∀ (k:Nat) (x y:ab),xs[k]?=some x->ys[k]?=some y->mL x y:=by
 induction h with
 | nil=>intro k x y j; simp at j
 | f _ aK =>
  intro k a b aQ au;cases k with
  | zero=>simp at aQ au; subst aQ au; exact .refl
  | succ k=>exact aK k a b (by simpa using aQ) (by simpa using au)
 | o _ aK =>
  intro k a b aQ au;cases k with
  | zero=>simp at aQ au; subst aQ au; exact .oq
  | succ k=>exact aK k a b (by simpa using aQ) (by simpa using au)
 | i _ aK =>
  intro k a b aQ au;cases k with
  | zero=>simp at aQ au; subst aQ au; exact .oX
  | succ k=>exact aK k a b (by simpa using aQ) (by simpa using au)
theorem jS.obj {xs ys:List ab}(h:jS xs ys):mL (.obj xs) (.obj ys):=.obj h.len h.get
section
variable {P:Program}{N:cN}{ops:Array Oper}{g g' g1 g2:aG}{K:aG->Prop}{l:List Oper}{d r:Nat}{op:Op}{ty t t2:TypeId}{pos:String}{after:Array Edge}{gd:Option (Nat × Bool)}{a b c:Operand}{p q:Place}{x y:ab}{k:IntKind}{m n:Int}
variable {a':List (List Nat)}{g0:aG}{acc:Acc}{i:Nat}
def rF:List Nat->Bool
 | []=>true
 | x::l=>l.all (λy=>!Nat.beq x y)&&rF l
theorem J6:∀ {l:List Place},rF (l.map Place.root)=true->l.Nodup
 | [],_=>List.nodup_nil
 | p::l,h=>by
  simp only [List.map_cons,rF,Bool.and_eq_true,List.all_eq_true] at h;refine List.nodup_cons.2 ⟨λhm=>?_,J6 h.2⟩;have:=h.1 p.root (List.mem_map.2 ⟨p,hm,rfl⟩);simp at this
theorem b1.v7 (bL:Nat) {G G2:List (Nat × ab)}{o:Oper}(he:bF P N (c9 (get G) (λ_=>true) acc) o (get G2)) (aI:o.guard=none) (gS:rF ((acc.filterMap ke).map Place.root)=true) (fO:mD G=true) (ag:Nat.beq ops.size (bL+l.length+1)=true)
  (aQ:(List.range bL).all (λk=>(a'.getD bL []).contains k)=true) (au:(List.range ops.size).all (λk=>Nat.ble k bL||(a'.getD k []).contains bL)=true) (hk:b1 P N ops a' (get G2) (bL+1) [] l K):b1 P N ops a' (get G) i acc (o::l) K:=by
 intro dM aa cV mx lE;have:=AN lE ag;subst this;obtain ⟨h1,af⟩:=drop_cons lE;obtain ⟨g',aj,dz⟩:=hk [] (aa+1) .nil .nil af;refine ⟨g',.Md cV mx (J6 gS) (xd fO) h1 ?_ he aQ ?_ aj,dz⟩
 ·grind [h']
 simp_all
theorem b1.bv (bL:Nat) {G G2:List (Nat × ab)}{o:Oper}{x:ab}(he:bF P N (c9 (get G) (λ_=>true) acc) o (cH (get G2) d x)) (aI:o.guard=none) (gS:rF ((acc.filterMap ke).map Place.root)=true) (fO:mD G=true) (ag:Nat.beq ops.size (bL+l.length+1)=true)
  (aQ:(List.range bL).all (λk=>(a'.getD bL []).contains k)=true) (au:(List.range ops.size).all (λk=>Nat.ble k bL||(a'.getD k []).contains bL)=true) (hk:b1 P N ops a' (get ((d,x)::G2)) (bL+1) [] l K):b1 P N ops a' (get G) i acc (o::l) K :=
 .v7 bL (q7 ▸ he) aI gS fO ag aQ au hk
class oE (s:Nat) (g:aG):Prop where fg:∀ t,t≠s->∀ z q n m new,g t≠some (.bC z q n m new)
instance (priority:=low) {s:Nat}{g:aG} [h:qc g]:oE s g:=⟨λt _=>h.fg t⟩
instance {s:Nat}{g:aG}{x:ab} [h:oE s g]:oE s (cH g s x):=⟨λt ak z q n m new e=>by
 unfold cH at e;rw [if_neg ak] at e;exact h.fg t ak _ _ _ _ _ e⟩
instance {s d:Nat}{g:aG}{x:ab} [h:oE s g] [j:mI x]:oE s (cH g d x):=⟨λt ak z q n m new e=>by
 unfold cH at e
 split at e
 ·cases e; exact j.fg _ _ _ _ _ rfl
 ·exact h.fg t ak _ _ _ _ _ e⟩
class ya (s:Nat) (acc:Acc):Prop where fg:∀ e∈acc,e.2.1≠s->∀ z q n m new,e.2.2≠some (.bC z q n m new)
instance {s:Nat}:ya s []:=⟨by simp⟩
instance {s aa d:Nat}{x:ab}{acc:Acc} [j:mI x] [h:ya s acc]:ya s ((aa,d,some x)::acc):=⟨λe he ax z q n m new bE=>by
 rcases List.mem_cons.1 he with rfl | he
 ·exact j.fg z q n m new (Option.some.inj bE)
 ·exact h.fg e he ax z q n m new bE⟩
instance {s aa:Nat}{x:Option ab}{acc:Acc} [h:ya s acc]:ya s ((aa,s,x)::acc):=⟨λe he ax z q n m new bE=>by
 rcases List.mem_cons.1 he with rfl | he
 ·exact absurd rfl ax
 ·exact h.fg e he ax z q n m new bE⟩
instance {s:Nat}{G:List (Nat × ab)}{A:Nat->Bool}{acc:Acc} [aI:qc (get G)] [h:ya s acc]:oE s (c9 (get G) A acc):=⟨λt ak z q n m new e=>by
 rcases tY e with ⟨bZ,he,h1,_,af⟩ | ⟨_,af⟩
 ·exact h.fg bZ he (by rw [h1]; exact ak) _ _ _ _ _ af
 ·exact aI.fg _ _ _ _ _ _ af⟩
namespace O
theorem o1 {r:Int}(j:Rd g a (.lit (.int .u64 m))) (ai:Rd g b (.lit (.int .u64 n))) (h:Own.o1 m n=some r):b5 P g (.binOp .quo t a b t2) ty (.lit (.int .u64 r)):=by
 unfold Own.o1 at h
 split at h
 ·cases h
 ·cases h; exact .ek (.quo j ai (by assumption))
theorem o3 {r:Int}(j:Rd g a (.lit (.int .u64 m))) (ai:Rd g b (.lit (.int .u64 n))) (h:Own.o3 m n=some r):b5 P g (.binOp .rem t a b t2) ty (.lit (.int .u64 r)):=by
 unfold Own.o3 at h
 split at h
 ·cases h
 ·cases h; exact .ek (.rem j ai (by assumption))
theorem Th {L:List Int}(j:Rd g a (.bc pw.z L.length (bw pw L))) (ak:v8 P t t2=true):b5 P g (.convert t t2 a) ty (ao (strOfNums L)):=by
 have h:=j.bj;rw [PL] at h;exact .ek (.D' h ak)
theorem s' {e c_:Nat}{parts:Array (Nat × Operand)}{ys cs:List ab}{z:Nat}(ak:e2 P t e z=true) (j:fZ g (parts.toList.map (·.2))=some ys) (J:l0 ys=some cs) (aS:ys.all (λy=>match h0 y with | some c=>Nat.beq c.length z | none=>false)=true)
  (av:parts.toList=(parts.toList.map (·.2)).mapIdx (λi x=>(i,x))) (az:(parts.toList.map (·.2)).length=c_) (hzero:hY P e z=true) (au:Nat.ble (c_ * z) 16777216=true) (gh:Nat.ble c_ 16777216=true):b5 P g (.buildSlice t c_ parts) ty (.own z c_ cs):=by
 subst az;exact .o0 (.buildSlice ak av j (λy ai=>by
  grind [Nat.eq_of_beq_eq_true]) J (Nat.le_of_ble_eq_true au) (Nat.le_of_ble_eq_true gh) (.inr (Ld hzero)))
theorem Qn {z m:Nat}{cs:List ab}(ba:bu g q=some (.own z m cs)) (ah:cs.length=m * z) (aU:cs.all lB=true):Src g (.bn z q m) z m cs:=by
 have:=Src.bn (g:=g) (m:=m) ba (Nat.le_refl _)
 simp_all [List.take_of_length_le,AV]
theorem Au {en:bz α}{L M r:List α}{e fq m:Nat}{cs:List ab}(ax:Rd g a (.bn en.z p L.length)) (av:bu g p=some (ar en L)) (j:Rd g b (.bn en.z q m)) (ba:bu g q=some (.own en.z m cs)) (ah:cs.length=m * en.z) (aU:cs.all lB=true) (hm:M.length=m) (ak:jt P t e en.z fq=true) (au:Nat.ble fq 128=true) (h:dP L M=some r) [eN:qc g] :
  b5 P g (.call { callee:=.builtin .append,args:=#[a,b],argTypes:=#[t,t] }) ty (.bC en.z p L.length m cs):=by
 subst hm;obtain ⟨h1,af,_⟩:=yj h au;exact .lj (.grow ax.bj (.inl ⟨_,av⟩) (λt br ck bm cK e=>eN.fg _ _ _ _ _ _ e) j.bj (Qn ba ah aU) ak h1 af)
theorem DV {en:bz α}{L M M2 r:List α}{y:ab}{e fq s:Nat}(ax:Rd g a (.bn en.z ⟨s,[]⟩ (L.length+M.length))) (pL:g s=some (.bC en.z q L.length M.length (bw en M))) (av:bu g q=some (ar en L)) (j:Rd g b y) (hm:nx g en y M2) (ak:jt P t e en.z fq=true) (au:Nat.ble fq 128=true) (h:dP (L++M) M2=some r) [eN:oE s g] :
  b5 P g (.call { callee:=.builtin .append,args:=#[a,b],argTypes:=#[t,t] }) ty (.bC en.z ⟨s,[]⟩ (L.length+M.length) M2.length (bw en M2)):=by
 obtain ⟨h1,af,_⟩:=yj h au;rw [List.length_append] at h1 af;refine .lj (.grow ax.bj (.inr ⟨rfl,q,L.length,M.length,bw en M,_,pL,rfl,av⟩) (λt br ck bm cK e=>?_) j.bj hm.src ak h1 af);by_cases WD:t=s
 ·grind [bu,ab.at]
 ·exact eN.fg t WD _ _ _ _ _ e
theorem O5 {en:bz α}{z0:α}{r:List α}{e fq:Nat}{dh:Value}(ak:e2 P t e en.z=true) (j:Rd g a (.lit (.int k m))) (ai:Rd g b (.lit (.int .i64 m))) (hzero:(P.info? e).bind (·.zero)=some dh) (h1:dh.cells.toList.all Value.oneCell'=true) (h3:(en.cells z0).length=dh.cells.size) (VC:∀ (k:Nat) (u:Value) (x:ab),dh.cells[k]?=some u->(en.cells z0)[k]?=some x->x=j0 u\/(j0 u=.bf/\∃ br,x=.bc br 0 [])) (h:nM m z0=some r) (iV:(P.info? e).map (·.bytes)=some fq) (au:Nat.ble fq 128=true) :
  b5 P g (.makeSlice t a b) ty (ar en r):=by
 unfold nM at h
 split at h
 ·rename_i hm;have sk:lim=1099511627776:=rfl;have kt:=Nat.le_of_ble_eq_true au;obtain ⟨aa,rfl⟩:=Int.eq_ofNat_of_zero_le hm.1;cases h;have ag:aa<=1099511627776:=by omega
  have dL:dh.cells.size=en.z:=by rw [<- h3,en.len]
  have:=nw.makeSlice (P:=P) (ty:=ty) ak j.bj ai.bj hzero (by rw [<- Array.all_toList]; exact h1) dL iV (by
   calc aa * fq<=1099511627776 * 128:=Nat.mul_le_mul ag kt
    _=140737488355328:=by decide) (by omega) h3 VC
  have bO:(List.replicate aa (en.cells z0)).flatten=bw en (List.replicate aa z0):=by simp [bw,List.flatMap_def]
  unfold ar;rw [Int.toNat_natCast,List.length_replicate,<- bO];exact .o0 this
 ·cases h
theorem mk {en:bz α}{z0:α}{r:List α}{e fq:Nat}{dh:Value}(ak:e2 P t e en.z=true) (j:Rd g a (.lit (.int k m))) (ai:Rd g b (.lit (.int .i64 m))) (hzero:(P.info? e).bind (·.zero)=some dh) (h1:dh.cells.toList.all Value.oneCell'=true) (J:dh.cells.toList.map j0=en.cells z0) (h:nM m z0=some r) (iV:(P.info? e).map (·.bytes)=some fq) (au:Nat.ble fq 128=true) :
  b5 P g (.makeSlice t a b) ty (ar en r):=by
 grind [O5]
theorem XS {e:bz β}{r:List (List β)}{m:Int}{k:IntKind}{a b:Operand}{t ty:TypeId}{AP fq:Nat}{dh:Value}(ak:e2 P t AP (b6 e).z=true) (j:Rd g a (.lit (.int k m))) (ai:Rd g b (.lit (.int .i64 m))) (hzero:(P.info? AP).bind (·.zero)=some dh) (h1:dh.cells.toList.all Value.oneCell'=true) (J:dh.cells.toList.map j0=[.bf]) (h:nM m ([]:List β)=some r) (iV:(P.info? AP).map (·.bytes)=some fq) (au:Nat.ble fq 128=true) :
  b5 P g (.makeSlice t a b) ty (ar (b6 e) r):=by
 refine O5 ak j ai hzero h1 ?_ (λk u x hu j=>.inr ?_) h iV au
 ·grind [List.length_map,b6]
 ·have ah:=congrArg List.length J;rw [List.length_map] at ah;have hk:k=0:=by
   grind
  subst hk;have hy:dh.cells.toList[0]?=some u:=by simpa using hu
  have af:=congrArg (λl=>l[0]?) J;simp only [List.getElem?_map,hy,Option.map_some] at af;have af:=Option.some.inj af;refine ⟨af,e.z,?_⟩;have j:([ay e []]:List ab)[0]?=some x:=j;have:x=ay e []:=(Option.some.inj j).symm;rw [this];rfl
theorem XQ (j:Rd g a (ae m)) (ai:Rd g b (ae n)):b5 P g (.call { callee:=.builtin .min,args:=#[a,b],argTypes:=#[t,t2] }) ty (ae (min m n)):=.ek (.lits (vs:=[.int .i64 m,.int .i64 n]) (by simp [j.bj,ai.bj]) rfl λw cs=>by
 have:(if n<m then n else m)=min m n:=by omega
 simp [builtin,Builtin.min_,Builtin.min2,this])
end O
theorem KA (en:bz α) {L:List α}{y y2:α}{o:Nat}{cs':List ab}(h:idx L m=some y) (he:ew (en.cells y) o cs'=en.cells y2) (hlen:o+cs'.length<=en.z):ew (bw en L) (m.toNat * en.z+o) cs'=bw en (L.set m.toNat y2):=by
 obtain ⟨aH,h1,af⟩:=qu h;have aN:m.toNat<L.length:=(List.getElem?_eq_some_iff.1 af).1;have ai:L[m.toNat]=y:=(List.getElem?_eq_some_iff.1 af).2;have bO:bw en L=bw en (L.take m.toNat)++(en.cells y++bw en (L.drop (m.toNat+1))):=by
  grind [bw,List.take_append_drop,List.drop_eq_getElem_cons]
 have b7:bw en (L.set m.toNat y2)=bw en (L.take m.toNat)++(en.cells y2++bw en (L.drop (m.toNat+1))):=by
  grind [List.set_eq_take_append_cons_drop,bw]
 have ah:(bw en (L.take m.toNat)).length=m.toNat * en.z:=by rw [nn,List.length_take]; congr 1; omega
 rw [bO,b7,<- he];unfold ew;generalize bw en (L.take m.toNat)=A at *;generalize bw en (L.drop (m.toNat+1))=B at *;rw [<- ah];have Ov:=en.len y;rw [List.take_append,List.take_of_length_le (by omega),show A.length+o - A.length=o by omega,List.take_append_of_le_length (by omega)];rw [List.drop_append,List.drop_eq_nil_of_le (by omega),show A.length+o+cs'.length - A.length=o+cs'.length by omega,List.drop_append_of_le_length (by omega)];simp
theorem Hu {en:bz α}{L:List α}{i:Int}{off:Nat}{y:α}(h:idx L i=some y) (aM:Nat.blt off en.z=true):i.toNat * en.z+off<(bw en L).length:=by
 obtain ⟨zH,kg,_⟩:=qu h;have mv:off<en.z:=by simpa using aM
 rw [nn];have af:i.toNat+1<=L.length:=by omega
 calc i.toNat * en.z+off<i.toNat * en.z+en.z:=by omega
  _=(i.toNat+1) * en.z:=by rw [Nat.add_mul]; omega
  _<=L.length * en.z:=Nat.mul_le_mul_right _ af
theorem nJ {L:List α}{i:Int}{y y2:α}(h:idx L i=some y):idx (L.set i.toNat y2) i=some y2:=by
 grind [idx]
inductive oD (g g2:aG):ab->Prop
 | mk {α:Type}{en:bz α}{L Lv:List α}{r aa off:Nat}{i:Int}{y y2:α}(h1:bu g ⟨r,[aa]⟩=some (ar en L)) (hi:idx L i=some y) (af:bu g2 ⟨r,[aa]⟩=some (ar en Lv)) (Br:idx Lv i=some y2) (aM:Nat.blt off en.z=true):oD g g2 (.ptr ⟨r,[aa]⟩ (i.toNat * en.z+off))
theorem oD.Pl {x:ab}(h:oD g g2 x):gG g x:=by
 cases h with
 | mk h1 hi af Br aM=>exact ⟨_,h1,_,_,_,.inl rfl,Hu hi aM⟩
theorem oD.Kb {x:ab}(h:oD g g2 x):gG g2 x:=by
 cases h with
 | mk h1 hi af Br aM=>exact ⟨_,af,_,_,_,.inl rfl,Hu Br aM⟩
theorem oD.bW {x:ab}(h:oD g g2 x):eo g2 x:=by
 have:=h.Kb;cases h with
 | mk=>exact .ref rfl this
theorem oD.fg {x:ab}(h:oD g g2 x):∀ z p n m new,x≠.bC z p n m new:=by
 cases h with
 | mk=>simp
theorem oD.clear {x:ab}{k0 m0:Nat}(h:oD g g2 x) (av:p.path≠[]):Clear p k0 m0 x:=by
 cases h with
 | mk =>
  intro q ba _ aa dk e;simp only [zM,Option.some.injEq] at ba;subst ba;cases EN:p.path with
  | nil=>exact absurd EN av
  | cons a b=>rw [EN] at e; simp at e
inductive kM (g g2:aG) (r:Nat) (x2:ab):List (Nat × ab)->Prop
 | nil:kM g g2 r x2 []
 | n {s:Nat}{x:ab}{l:List (Nat × ab)}(cU:Nat.beq s r=false) (h:g s=some x) [az:b9 x] (t:kM g g2 r x2 l):kM g g2 r x2 ((s,x)::l)
 | p {s q k:Nat}{l:List (Nat × ab)}{cs j9:List ab}(cU:Nat.beq s r=false) (h:g s=some (.ptr ⟨q,[]⟩ k)) (h1:g q=some (.obj cs)) (hk:Nat.blt k cs.length=true) (af:g2 q=some (.obj j9)) (fk:Nat.blt k j9.length=true) (t:kM g g2 r x2 l):kM g g2 r x2 ((s,.ptr ⟨q,[]⟩ k)::l)
 | e {s:Nat}{x:ab}{c2:List ab}{l:List (Nat × ab)}(cU:Nat.beq s r=false) (h:g s=some x) (he:oD g g2 x) (gZ:x2=.obj c2) (t:kM g g2 r x2 l):kM g g2 r x2 ((s,x)::l)
 | w {α:Type}{s q:Nat}{en:bz α}{L:List α}{l:List (Nat × ab)}(cU:Nat.beq s r=false) (h:g s=some (.bn en.z ⟨q,[]⟩ L.length)) (h1:g q=some (ar en L)) (af:g2 q=some (ar en L)) (t:kM g g2 r x2 l):kM g g2 r x2 ((s,.bn en.z ⟨q,[]⟩ L.length)::l)
 | b {l:List (Nat × ab)}{x:ab}(e:x=x2) [az:b9 x2] (t:kM g g2 r x2 l):kM g g2 r x2 ((r,x)::l)
theorem kM.spec {x2:ab}{l:List (Nat × ab)}(h:kM g g2 r x2 l):∀ t x,get l t=some x->(t≠r/\g t=some x/\(pf g g2 x\/oD g g2 x/\∃ c2,x2=.obj c2))\/(t=r/\x=x2/\cE x):=by
 induction h with
 | nil=>intro t x j; cases j
 | @n s x l cU h az _ aK =>
  intro t y ai;simp only [get] at ai
  split at ai
  ·rename_i e;subst e;cases ai;exact .inl ⟨Nat.ne_of_beq_eq_false cU,h,.inl (.n az.bd)⟩
  grind
 | @p s q k l cs j9 cU h h1 hk af fk _ aK =>
  intro t y ai;simp only [get] at ai
  split at ai
  ·rename_i e;subst e;cases ai;exact .inl ⟨Nat.ne_of_beq_eq_false cU,h,.inl (.p h1 (by simpa using hk) af (by simpa using fk))⟩
  grind
 | @e s x c2 l cU h he gZ _ aK =>
  grind [get,Nat.ne_of_beq_eq_false]
 | @w α s q en L l cU h h1 af _ aK =>
  intro t y ai;simp only [get] at ai
  split at ai
  ·rename_i e;subst e;cases ai;exact .inl ⟨Nat.ne_of_beq_eq_false cU,h,.inl (.r h1 (Nat.le_refl _) af (Nat.le_refl _))⟩
  grind
 | @b l x e az _ aK =>
  intro t y ai;simp only [get] at ai
  split at ai
  ·rename_i bZ;subst bZ;cases ai;subst e;exact .inr ⟨rfl,rfl,az.bd⟩
  grind
theorem pf.Ky {x:ab}{k0 m0:Nat}(h:pf g g2 x):j7 (λr=>gG g r/\Clear p k0 m0 r/\gG g2 r) x:=by
 cases h with
 | n h=>exact .bd h
 | p h hk af fk =>
  refine .ref rfl ⟨vy h hk,?_,vy af fk⟩;intro q ba _ aa dk e;simp only [zM,Option.some.injEq] at ba;subst ba;simp at e
 | r h hk af fk =>
  refine .ref rfl ⟨C7 h hk,?_,C7 af fk⟩;intro q ba _ aa dk e;simp only [zM,Option.some.injEq] at ba;subst ba;simp at e
theorem bF.xL {gW:Oper}{en:bz α}{L:List α}{hL y2:α}{o:Nat}{cs':List ab}{x2:ab}{G2:List (Nat × ab)}(aM:gW.op=.store t a b) (aO:gW.dst=none) (aQ:Rd g a (.ptr p (m.toNat * en.z+o))) (au:Rd g b y) (av:bu g p=some (ar en L)) (h:idx L m=some hL) (aS:hc P t cs'.length=true)
  (J:mQ y=some cs') (he:ew (en.cells hL) o cs'=en.cells y2) (hlen:Nat.ble (o+cs'.length) en.z=true) (aH:Nat.blt 0 cs'.length=true) (gZ:cc g p (ar en (L.set m.toNat y2)) p.root=some x2) (aj:(get G2 p.root).isSome=true) [az:b9 y] {y0:ab}(sx:g p.root=some y0) [eN:b9 y0] (cT:kM g (get G2) p.root x2 G2):bF P N g gW (get G2):=by
 have Bv:=Nat.le_of_ble_eq_true hlen;have j':=KA en h he Bv;have pG:(L.set m.toNat y2).length=L.length:=List.length_set;refine .store aM aO aQ.bj au.bj (.bd (by simpa using az.bd)) .refl J aS (p:=p) (nd:=ar en L) (z:=en.z) (n:=L.length) (cs:=bw en L) av (.inl rfl) ?_ (by simpa using aH) (λt x j=>?_) (λt x j y ai=>?_) (λt z q n m new j=>?_) (by intro e; rw [e] at aj; cases aj)
 ·obtain ⟨zH,kg,_⟩:=qu h;rw [nn];have af:m.toNat+1<=L.length:=by omega
  calc m.toNat * en.z+o+cs'.length<=m.toNat * en.z+en.z:=by omega
   _=(m.toNat+1) * en.z:=by rw [Nat.add_mul]; omega
   _<=L.length * en.z:=Nat.mul_le_mul_right _ af
 ·have ft:(ar en L).ew (m.toNat * en.z+o) cs'=ar en (L.set m.toNat y2):=by
   show ab.own en.z L.length (ew (bw en L) (m.toNat * en.z+o) cs')=_
   grind
  rw [ft];rcases cT.spec t x j with ⟨h1,af,_⟩ | ⟨h1,af,_⟩
  ·grind [xF]
  grind
 ·rcases cT.spec t x j with ⟨h1,af,aJ⟩ | ⟨h1,af,aJ⟩
  ·rw [af] at ai;cases ai;rcases aJ with aJ | ⟨aJ,c2,rfl⟩
   ·exact aJ.Ky
   ·refine j7.ref (by cases aJ; rfl) ⟨aJ.Pl,aJ.clear ?_,aJ.Kb⟩
    grind [cc,ab.setAt]
  ·subst h1;rw [sx] at ai;cases ai;exact .bd eN.bd
 ·rcases cT.spec t _ j with ⟨_,_,aJ | ⟨aJ,_⟩⟩ | ⟨_,_,aJ⟩
  ·exact aJ.fg _ _ _ _ _ rfl
  ·exact aJ.fg _ _ _ _ _ rfl
  ·cases aJ
end
end Go.Own
namespace Go.Own
open Go
set_option linter.unusedSectionVars false
variable [cw]
theorem R9 (a b:ByteArray):(a == b)=decide (a=b):=by
 obtain ⟨a⟩:=a;obtain ⟨b⟩:=b;have:(({ data:=a }:ByteArray) == { data:=b })=(a == b):=rfl;rw [this,Bool.eq_iff_iff];simp
inductive lX where
 | b | s | i (k:IntKind)
 deriving DecidableEq
def kj:Value->Option lX
 | .bool _=>some .b
 | .string _=>some .s
 | .int k _=>some (.i k)
 | _=>none
def AO (P:Program) (rc:TypeId->List lX->Bool):List Field->Nat->List lX->Bool
 | [],_,sh=>sh.isEmpty
 | f :: fs, o, sh => f.name != "_" && f.offset == o && (match P.info? f.type with
   | some i=>i.size<=sh.length&&rc f.type (sh.take i.size)&&AO P rc fs (o+i.size) (sh.drop i.size)
   | none=>false)
def th (P:Program):Nat->TypeId->List lX->Bool
 | 0,_,_=>false
 | d+1,t,sh=>match P.underlying t with
  | some .bool=>sh == [.b]&&jw P t
  | some (.int k)=>sh == [.i k]&&jw P t
  | some .string=>sh == [.s]&&jw P t
  | some (.struct fs)=>ia P t sh.length&&!P.stoodInHeld t&&AO P (th P d) fs.toList 0 sh
  | _=>false
def Hv:Value->Value->Bool
 | .bool a,.bool b=>a == b
 | .int _ a,.int _ b=>decide (a=b)
 | .string a,.string b=>decide (a=b)
 | _,_=>false
def jT:List Value->List Value->Bool
 | a::dK,b::bs=>Hv a b&&jT dK bs
 | _,_=>true
theorem MS:∀ (dK bs cs jg:List Value),dK.length=bs.length->jT (dK++cs) (bs++jg)=(jT dK bs&&jT cs jg)
 | [],[],cs,jg,_=>by simp [jT]
 | [],_::_,_,_,h=>by simp at h
 | _::_,[],_,_,h=>by simp at h
 | a::dK,b::bs,cs,jg,h=>by
  simp only [List.cons_append,jT,MS dK bs cs jg (by simpa using h),Bool.and_assoc]
def pack (P:Program) (t:TypeId) (vs:List Value):Value :=
 match P.underlying t,vs with
 | some (.struct _),_=>.agg vs.toArray
 | _,v::_=>v
 | _,[]=>.agg #[]
theorem PT {P:Program}{w:World}{t:TypeId}{d:Nat}{sh:List lX}(h:th P (d+1) t sh=true) {cs:List Value}{o:Nat}{vs:List Value}(hv:(cs.drop o).take sh.length=vs) (ah:vs.length=sh.length) :
  (part t cs.toArray o).run P w=.ok (pack P t vs) w:=by
 unfold th at h
 split at h
 case h_4 fs hu =>
  simp only [Bool.and_eq_true] at h;obtain ⟨h1,af⟩:=DS (w:=w) h.1.1;simp [part,h1,af,pack,hu,<- hv,List.take_drop]
 case h_5=>cases h
 all_goals
  rename_i hu;simp only [Bool.and_eq_true,beq_iff_eq] at h;obtain ⟨rfl,J⟩:=h;obtain ⟨h1,af⟩:=Hg (w:=w) J;obtain ⟨v,rfl⟩:∃ v,vs=[v]:=by
   rcases vs with _ | ⟨v,_ | _⟩ <;> simp at ah;exact ⟨v,rfl⟩
  have:cs[o]?=some v:=by
   have:=congrArg List.head? hv;simpa [List.head?_take] using this
  simp [part,h1,pack,hu,this]
theorem C_ {P:Program}(w:World):∀ (d:Nat) (t:TypeId) (sh:List lX),th P d t sh=true->∀ (D:Nat),d<=D->∀ (dK bs:List Value),dK.map kj=sh.map some->bs.map kj=sh.map some ->
  (Op.equalIn D t (pack P t dK) (pack P t bs)).run P w=.ok (jT dK bs) w
 | 0,_,_,h,_,_,_,_,_,_=>by simp [th] at h
 | d+1,t,sh,h,D,r',dK,bs,aQ,au=>by
  obtain ⟨D,rfl⟩:∃ E,D=E+1:=⟨D - 1,by omega⟩;have aH:=h;unfold th at h
  split at h
  case h_5=>cases h
  case h_4 fs hu =>
   simp only [Bool.and_eq_true,Bool.not_eq_true'] at h;obtain ⟨⟨h1,af⟩,aJ⟩:=h;have key:∀ (fs:List Field) (o:Nat) (sh:List lX) (mN mO:List Value),AO P (th P d) fs o sh=true->dK.drop o=mN->bs.drop o=mO->mN.map kj=sh.map some->mO.map kj=sh.map some ->
     (forIn (m:=Sem) (β:=Option Bool × Unit) fs (none,()) λf _ =>
      if f.name = "_" then pure (.yield (none, ()))
      else do
       let x <- part f.type dK.toArray f.offset
       let y <- part f.type bs.toArray f.offset
       let c <- Op.equalIn D f.type x y
       if c=false then pure (.done (some false,())) else pure (.yield (none,()))).run P w=.ok (if jT mN mO then (none,()) else (some false,())) w:=by
    intro fs
    induction fs with
    | nil =>
     intro o sh mN mO aI _ _ aQ au;have ax:sh=[]:=by simpa [AO] using aI
     subst ax;have h1:mN=[]:=by simpa using aQ
     have af:mO=[]:=by simpa using au
     subst h1 af;simp [jT]
    | cons f fs aK =>
     intro o sh mN mO aI EC NI aQ au;unfold AO at aI;cases hi:P.info? f.type with
     | none=>simp [hi] at aI
     | some i =>
      simp only [hi,Bool.and_eq_true,bne_iff_ne,beq_iff_eq,decide_eq_true_eq] at aI;obtain ⟨⟨az,rfl⟩,⟨hle,he⟩,Bq⟩:=aI;obtain ⟨e,rfl⟩:∃ e,d=e+1:=by
       cases d with
       | zero=>simp [th] at he
       | succ e=>exact ⟨e,rfl⟩
      have w7:mN.length=sh.length:=by simpa using congrArg List.length aQ
      have adz:mO.length=sh.length:=by simpa using congrArg List.length au
      have ZI:(mN.take i.size).map kj=(sh.take i.size).map some:=by rw [List.map_take,List.map_take,aQ]
      have hd:(mO.take i.size).map kj=(sh.take i.size).map some:=by rw [List.map_take,List.map_take,au]
      have Ti:(mN.drop i.size).map kj=(sh.drop i.size).map some:=by rw [List.map_drop,List.map_drop,aQ]
      have Tj:(mO.drop i.size).map kj=(sh.drop i.size).map some:=by rw [List.map_drop,List.map_drop,au]
      have lt:(sh.take i.size).length=i.size:=by simp; omega
      have lj:=PT (w:=w) he (cs:=dK) (o:=f.offset) (vs:=mN.take i.size) (by rw [EC,lt]) (by simp; omega);have Pz:=PT (w:=w) he (cs:=bs) (o:=f.offset) (vs:=mO.take i.size) (by rw [NI,lt]) (by simp; omega);have Ht:=C_ w (e+1) f.type _ he D (by omega) _ _ ZI hd;have aK:=aK (f.offset+i.size) (sh.drop i.size) (mN.drop i.size) (mO.drop i.size) Bq (by rw [<- EC,List.drop_drop]) (by rw [<- NI,List.drop_drop]) Ti Tj;have sp:jT mN mO=(jT (mN.take i.size) (mO.take i.size)&&jT (mN.drop i.size) (mO.drop i.size)):=by
       have:=MS (mN.take i.size) (mO.take i.size) (mN.drop i.size) (mO.drop i.size) (by simp; omega)
       rwa [List.take_append_drop,List.take_append_drop] at this
      rw [List.forIn_cons];cases J:jT (mN.take i.size) (mO.take i.size) with
      | false=>simp [az,lj,Pz,Ht,J,sp]
      | true =>
       simp only [J] at Ht;simp [az,lj,Pz,Ht,J,sp];simpa using aK
   have hk:=key fs.toList 0 sh dK bs aJ rfl rfl aQ au;unfold Op.equalIn;simp [pack,hu,run_underlying hu,af];rw [<- Array.forIn_toList,hk];cases jT dK bs <;> simp
  all_goals
   rename_i hu;simp only [Bool.and_eq_true,beq_iff_eq] at h;obtain ⟨rfl,J⟩:=h;obtain ⟨a,rfl⟩:∃ v,dK=[v]:=by
    rcases dK with _ | ⟨v,_ | _⟩ <;> simp at aQ;exact ⟨v,rfl⟩
   obtain ⟨b,rfl⟩:∃ v,bs=[v]:=by
    rcases bs with _ | ⟨v,_ | _⟩ <;> simp at au;exact ⟨v,rfl⟩
   cases a <;> simp [kj] at aQ <;> cases b <;> simp [kj] at au;simp [Op.equalIn,pack,hu,run_underlying hu,jT,Hv,aQ,au,R9] <;> rfl
end Go.Own
namespace Go.Own
open Go
set_option linter.unusedSectionVars false
variable [cw]
def n4 (P:Program) (t:TypeId) (sh:List lX):Bool :=
 th P 100 t sh&&(match P.underlying t with | some (.struct _)=>true | _=>false)&&!P.eqGuardType P.depth t
section
variable {P:Program}{g:aG}{t t2:TypeId}{ty:TypeId}{a b:Operand}
theorem Y0 {dK bs:List Value}{sh:List lX}(aQ:dK.map kj=sh.map some) (au:bs.map kj=sh.map some) (ak:n4 P t sh=true) (w:World) :
  (do eqGuard .eql t a b (.agg dK.toArray) (.agg bs.toArray); binOp .eql t (.agg dK.toArray) (.agg bs.toArray):Sem Value).run P w=.ok (.bool (jT dK bs)) w:=by
 simp only [n4,Bool.and_eq_true,Bool.not_eq_true'] at ak;obtain ⟨⟨h1,af⟩,aJ⟩:=ak;have h:=C_ w 100 t sh h1 Op.maxDepth (by decide) dK bs aQ au
 split at af
 ·rename_i fs hu;simp only [pack,hu] at h;simp [eqGuard,binOp,aJ,Op.equal,h]
 ·cases af
theorem Y2 {dK bs:List Value}{sh:List lX}(aQ:dK.map kj=sh.map some) (au:bs.map kj=sh.map some) (ak:n4 P t sh=true) (w:World) :
  (do eqGuard .neq t a b (.agg dK.toArray) (.agg bs.toArray); binOp .neq t (.agg dK.toArray) (.agg bs.toArray):Sem Value).run P w=.ok (.bool (!jT dK bs)) w:=by
 simp only [n4,Bool.and_eq_true,Bool.not_eq_true'] at ak;obtain ⟨⟨h1,af⟩,aJ⟩:=ak;have h:=C_ w 100 t sh h1 Op.maxDepth (by decide) dK bs aQ au
 split at af
 ·rename_i fs hu;simp only [pack,hu] at h;simp [eqGuard,binOp,aJ,Op.equal,h]
 ·cases af
namespace O
theorem TG {nt oA:List Value}{sh:List lX}(j:Rd g a (.agg (nt.map .lit))) (ai:Rd g b (.agg (oA.map .lit))) (aQ:nt.map kj=sh.map some) (au:oA.map kj=sh.map some) (ak:n4 P t sh=true) :
  b5 P g (.binOp .eql t a b t2) ty (bg (jT nt oA)):=.ek (.Aw j.bj ai.bj rfl λw=>Y0 aQ au ak w)
theorem XY {nt oA:List Value}{sh:List lX}(j:Rd g a (.agg (nt.map .lit))) (ai:Rd g b (.agg (oA.map .lit))) (aQ:nt.map kj=sh.map some) (au:oA.map kj=sh.map some) (ak:n4 P t sh=true) :
  b5 P g (.binOp .neq t a b t2) ty (bg (!jT nt oA)):=.ek (.Aw j.bj ai.bj rfl λw=>Y2 aQ au ak w)
end O
end
end Go.Own
namespace Go.Own
open Go
set_option linter.unusedSectionVars false
variable [cw]
section
variable {P:Program}{N:cN}{g g2:aG}{d r k0:Nat}{α:Type}
theorem View.nO {p:Place}{cs cs':List ab}(av:bu g p=some (.obj cs)) (hk:Nat.blt 0 cs.length=true) [h:du cs cs']:View g (.ptr p 0) (.cJ cs') :=
 .ptr av (z:=0) (n:=0) (.inr rfl) (by simpa using hk) (by simpa using h.l) λk x y j ai=>h.v g k x y (by simpa using j) ai
theorem eo.el {en:bz α}{L:List α}{aa off:Nat}{i:Int}{y:α}(af:bu g2 ⟨r,[aa]⟩=some (ar en L)) (hi:idx L i=some y) (aM:Nat.blt off en.z=true):eo g2 (.ptr ⟨r,[aa]⟩ (i.toNat * en.z+off)) :=
 (oD.mk (g:=g2) af hi af hi aM).bW
theorem jI {p:Place}{k:Nat}:∀ z q n m new,ab.ptr p k≠.bC z q n m new:=by simp
inductive xX (g:aG) (d r k0:Nat) (G4:List (Nat × ab)):List (Nat × ab)->Prop
 | nil:xX g d r k0 G4 []
 | c {α:Type}{en:bz α}{L:List α}{s off:Nat}{i:Int}{y:α}{l:List (Nat × ab)}(h:g s=some (.ptr ⟨r,[k0]⟩ (i.toNat * en.z+off))) (av:bu (get G4) ⟨r,[k0]⟩=some (ar en L)) (hi:idx L i=some y) (aM:Nat.blt off en.z=true) (aO:Nat.beq s d=false) (bo:get G4 s=none) (t:xX g d r k0 G4 l):xX g d r k0 G4 ((s,.ptr ⟨r,[k0]⟩ (i.toNat * en.z+off))::l)
theorem xX.spec {G4 l:List (Nat × ab)}(h:xX g d r k0 G4 l):∀ t x,get l t=some x->get G4 t=none/\t≠d/\g t=some x/\∃ m z n cs,x=.ptr ⟨r,[k0]⟩ m/\bu (get G4) ⟨r,[k0]⟩=some (.own z n cs)/\m<cs.length:=by
 induction h with
 | nil=>intro t x j; cases j
 | @c α en L s off i y l h av hi aM aO bo _ aK =>
  intro t x j; simp only [get] at j
  split at j
  ·rename_i e; subst e; cases j; exact ⟨bo,Nat.ne_of_beq_eq_false aO,h,_,_,_,_,rfl,av,Hu hi aM⟩
  ·exact aK t x j
theorem kM.keep {g':aG}{x2:ab}{G2:List (Nat × ab)}(cT:kM g (get G2) r x2 G2) (h1:∀ t,t≠r->g' t=g t) (af:g' r=some x2):gF g' (get G2):=by
 refine ⟨λt x j=>?_,λt x j=>?_,λt z q n m new j=>?_⟩
 ·rcases cT.spec t x j with ⟨a,b,_⟩ | ⟨rfl,rfl,_⟩
  ·grind
  grind
 ·rcases cT.spec t x j with ⟨_,_,aJ | ⟨aJ,_⟩⟩ | ⟨_,_,aJ⟩
  ·exact aJ.bW
  ·exact aJ.bW
  ·exact .bd aJ
 ·rcases cT.spec t _ j with ⟨_,_,aJ | ⟨aJ,_⟩⟩ | ⟨_,_,aJ⟩
  ·exact aJ.fg _ _ _ _ _ rfl
  ·exact aJ.fg _ _ _ _ _ rfl
  ·cases aJ
theorem P9 {cs:List ab}{y x:ab}(h:g r=some (.obj cs)) (hk:cs[k0]?=some x):cc g ⟨r,[k0]⟩ y r=some (.obj (cs.set k0 y)):=by
 grind [cc,ab.setAt,ab.kids,ab.tT]
theorem bF.ei {o:Oper}{y:ab}{cs cs5:List ab}{G1 G4:Value->List (Nat × ab)}{c4:Value->List ab}{G5 A:List (Nat × ab)}(aO:o.dst=some d) (a8:N.ok d=true) (aj:g r=some (.obj cs)) (ai:cs[k0]?=some y) [wW:b9 y]
  (h1:∀ v,kM g (get (G1 v)) r (.obj (cs.set k0 (.lit v))) (G1 v)) (J:∀ v,fp P N (get (G1 v)) o d (get (G4 v))) (Nf:∀ v,get (G4 v) r=some (.obj (c4 v))) (Nd:∀ v,(c4 v)[k0]?=some (.lit v)) (Uj:∀ v,(c4 v).set k0 y=cs5)
  (cu:∀ v,kM (get (G4 v)) (get G5) r (.obj cs5) G5) (Um:bu (get G5) ⟨r,[k0]⟩=some y) (dm:xX g d r k0 G5 A) (kR:∀ i,y≠.self i:=by exact λ_ h=>by cases h):bF P N g o (get (A++G5)):=by
 refine .call aO a8 (fp.TZ aj ai wW.bd kR λv hv=>⟨get (G1 v),get (G4 v),get G5,?_,J v,?_,?_,Um,?_⟩)
 ·exact (h1 v).keep (λt ak=>xF ak) (P9 aj ai)
 ·have:=Nf v;simp only [bu,this,ab.at,ab.kids,Nd v]
 ·refine (cu v).keep (λt ak=>xF ak) ?_;rw [P9 (Nf v) (Nd v),Uj v]
 ·refine ⟨λt x h=>?_,λt x h=>?_⟩
  ·rw [yz];cases mT:get A t with
   | none=>exact h
   | some z =>
    obtain ⟨kg,_⟩:=dm.spec t z mT;rw [kg] at h; cases h
  ·rw [yz] at h;cases mT:get A t with
   | none=>rw [mT] at h; exact .inl h
   | some z =>
    rw [mT] at h;cases h;exact .inr (dm.spec t x mT)
end
end Go.Own
namespace Go.Own
open Go
set_option linter.unusedSectionVars false
variable [cw]
section
variable {P:Program}{N:cN}{ops:Array Oper}{g g1 ml:aG}{K:aG->Prop}{l:List Oper}{d r:Nat}{t:TypeId}{a b:Operand}{x y:ab}
variable {a':List (List Nat)}{acc:Acc}{i:Nat}
theorem i_ {a b:Nat}(h:Nat.blt a b=true):a<b:=by simpa using h
def Fg:Option Nat->Nat->Bool
 | none,_=>true
 | some a,d=>!Nat.beq a d
theorem O8 {o:Option Nat}{d:Nat}(h:Fg o d=true):o≠some d:=by
 rintro rfl;simp [Fg] at h
inductive yh (P:Program) (N:cN) (ops:Array Oper) (a':List (List Nat)) (rs:Place->Prop) (ml g1:aG) (o:Oper) (U:Acc):Acc->Prop
 | nil:yh P N ops a' rs ml g1 o U []
 | c {k d:Nat}{x:ab}{gW:Oper}{V:Acc}(bM:Aq rs ml g1 o x) (h1:g1 d=none) (cU:Fg o.dst d=true) (aM:ops[k]?=some gW) (EL:gW.dst=some d) (a8:N.ok d=true) (hw:h' (c9 g1 (λm=>(a'.getD k []).contains m) U) ops gW true)
   (ax:b5 P (c9 g1 (λm=>(a'.getD k []).contains m) U) gW.op gW.type x) (t:yh P N ops a' rs ml g1 o U V):yh P N ops a' rs ml g1 o U ((k,d,some x)::V)
theorem yh.spec {o:Oper}{U V:Acc}{rs:Place->Prop}(h:yh P N ops a' rs ml g1 o U V):∀ e∈V,(∃ x,e.2.2=some x/\Aq rs ml g1 o x)/\(g1 e.2.1=none/\o.dst≠some e.2.1)/\∃ gW,ops[e.1]?=some gW/\gW.dst=some e.2.1/\N.ok e.2.1=true/\pg P (c9 g1 (λm=>(a'.getD e.1 []).contains m) U) ops gW e.2.2:=by
 induction h with
 | nil=>intro e he; cases he
 | c bM h1 cU aM EL a8 hw ax _ aK =>
  intro e he;rcases List.mem_cons.1 he with rfl | he
  ·exact ⟨⟨_,rfl,bM⟩,⟨h1,O8 cU⟩,_,aM,EL,a8,.inl ⟨hw,.inl ax⟩⟩
  ·exact aK e he
theorem b1.e' (bL:Nat) {G G2:List (Nat × ab)}{U:Acc}{o:Oper}{rs:List Nat}(he:pc P N (rM rs) (c9 (get G) (λm=>(a'.getD bL []).contains m) acc) o (get G2)) (lH:rs.all (λr=>(get G r).isSome)=true) (aI:o.guard=none) (gS:rF ((acc.filterMap ke).map Place.root)=true) (fO:mD G=true) (ag:Nat.beq ops.size (bL+l.length+1)=true)
  (gg:acc.filter (λe=>!(a'.getD bL []).contains e.1)=U) (ss:yh P N ops a' (rM rs) (c9 (get G) (λm=>(a'.getD bL []).contains m) acc) (get G2) o U U)
  (au:(List.range ops.size).all (λk=>Nat.ble k bL||(a'.getD k []).contains bL)=true) (hk:b1 P N ops a' (get G2) (bL+1) U l K):b1 P N ops a' (get G) i acc (o::l) K:=by
 intro dM aa cV mx lE;have:=AN lE ag;subst this;obtain ⟨h1,af⟩:=drop_cons lE;have pJ:∀ e∈U,e∈acc:=λe he=>by rw [<- gg] at he; exact (List.mem_filter.1 he).1
 have HZ:mJ P N ops a' (get G2) (aa+1) U:=⟨λe he=>by have:=(mx.le cV).2 e (pJ e he); omega,λe he=>(ss.spec e he).2.1.1,by rw [<- gg]; exact (List.filter_sublist.map _).nodup (mx.nodup cV),λe he bZ h4 h=>mx.uniq cV (pJ e he) (pJ bZ h4) h,λe he=>(ss.spec e he).2.2⟩;obtain ⟨g',aj,dz⟩:=hk U (aa+1) HZ .nil af;refine ⟨g',.yp mx (J6 gS) (xd fO) h1 ?_ he (λr aj e=>by have:=List.all_eq_true.1 lH r.root aj; rw [e] at this; cases this) gg.symm (λe h=>(ss.spec e h).1) (λe h=>(ss.spec e h).2.1) (λe h=>(ss.spec e h).2.2) ?_ aj,dz⟩
 ·unfold h'; rw [aI]
 ·refine List.all_eq_true.2 λk hk=>?_;have:=List.all_eq_true.1 au k hk;simp only [Bool.or_eq_true,decide_eq_true_eq,Nat.ble_eq] at this ⊢;exact this
theorem pc.box {o:Oper}{r:Nat}{x:ab}{G1 G2:List (Nat × ab)}(he:bF P N (get G1) o (get G2)) (aj:g r=some x) [j:b9 x] (hk:Trim false g (get G1) G1) (aH:get G1 r=none) (h1:get G2 r=none) (aO:Fg o.dst r=true):pc P N (rM [r]) g o (get ((r,x)::G2)):=by
 rw [<- q7];exact he.oM.frame aj j.bd hk.keep aH h1 (O8 aO)
theorem bF.o6 {o:Oper}{k0:Nat}{cs cs' cs2:List ab}{G2:List (Nat × ab)}(aM:o.op=.store t a b) (aO:o.dst=none) (ax:g r=some (.obj cs)) (aQ:Rd g a (.ptr ⟨r,[]⟩ k0)) (au:Rd g b y) [az:b9 y] (J:mQ y=some cs') (aS:hc P t cs'.length=true)
  (hk:Nat.ble (k0+cs'.length) cs.length=true) (aH:Nat.blt 0 cs'.length=true) (he:ew cs k0 cs'=cs2) [eN:df cs] (aj:(get G2 r).isSome=true) (cT:k5 g (get G2) r cs2 G2):bF P N g o (get G2) :=
 .box aM aO ax aQ au az.bd J aS (Nat.le_of_ble_eq_true hk) (by simpa using aH) he (by intro e; rw [e] at aj; cases aj) cT
end
end Go.Own
namespace Go.Own
open Go
set_option linter.unusedSectionVars false
variable [cw]
section
variable {α:Type}
theorem du.app {xs ys xs' Dx:List ab}(h:du xs ys) (aL:du xs' Dx):du (xs++xs') (ys++Dx):=⟨by simp [h.l,aL.l],λg k a b aQ au=>by
 by_cases hk:k<xs.length
 ·rw [List.getElem?_append_left hk] at aQ;rw [List.getElem?_append_left (by rw [h.l]; exact hk)] at au;exact h.v g k a b aQ au
 ·rw [List.getElem?_append_right (by omega)] at aQ;rw [List.getElem?_append_right (by rw [h.l]; omega),h.l] at au;exact aL.v g _ a b aQ au⟩
instance {e bZ:bz α}{L:List α} [h:gQ e bZ]:du (bw e L) (bw bZ L):=⟨(Dn e bZ L).1,(Dn e bZ L).2⟩
theorem iw.Kz {en:bz α}{L:List α}{n:Nat}{cs cs':List ab}(h:bw en L=cs') (ah:L.length=n) [hv:du cs cs']:iw (.own en.z n cs) (ay en L):=⟨λg=>by
 subst h ah;exact .own hv.l (hv.v g)⟩
theorem iw.lK {en tg:bz α}{L M:List α}{m:Nat}{new cK:List ab} [h:gQ en tg] (az:bw tg M=cK) (hm:M.length=m) [aL:du new cK]:iw (.own en.z (L.length+m) (bw en L++new)) (ay tg (L++M)):=⟨λg=>by
 subst az hm;have hv:=du.app (inferInstance:du (bw en L) (bw tg L)) aL;show View g (.own en.z (L.length+M.length) (bw en L++new)) (.bc tg.z (L++M).length (bw tg (L++M)));have e:bw tg (L++M)=bw tg L++bw tg M:=by simp [bw]
 rw [e,List.length_append,<- h.z];exact .own hv.l (hv.v g)⟩
end
end Go.Own
namespace Go.Own
open Go
set_option linter.unusedSectionVars false
variable [cw]
section
variable {α:Type}{g g2:aG}{p q:Place}{P:Program}{a b:Operand}{t:TypeId}{ty:TypeId}
theorem eo.bn {en:bz α}{L:List α}(h:bu g2 p=some (ar en L)):eo g2 (.bn en.z p L.length):=.ref rfl (.inl ⟨_,_,h,Nat.le_refl _⟩)
namespace O
theorem RH {en:bz α}{L M r:List α}{e fq m:Nat}{cs:List ab}(ax:Rd g a (.bn en.z p L.length)) (av:bu g p=some (ar en L)) (j:Rd g b (.bn en.z q m)) (ba:bu g q=some (.own en.z m cs)) (ah:cs.length=m * en.z) (aU:cs.all lB=true) (hm:M.length=m) (ak:jt P t e en.z fq=true) (au:Nat.ble fq 128=true) (h:dP L M=some r)
  (eN:∀ t z n m new,g t≠some (.bC z p n m new)):b5 P g (.call { callee:=.builtin .append,args:=#[a,b],argTypes:=#[t,t] }) ty (.bC en.z p L.length m cs):=by
 subst hm;obtain ⟨h1,af,_⟩:=yj h au;exact .lj (.grow ax.bj (.inl ⟨_,av⟩) (λt br ck bm cK e=>eN _ _ _ _ _ e) j.bj (Qn ba ah aU) ak h1 af)
end O
end
end Go.Own
namespace Go.Own
open Go Go.RowKit Go.ChangeShapes Go.WideShapes Go.Deep
set_option linter.unusedSectionVars false
variable [cw]
variable {α β Li:Type}{P:Program}
abbrev s3 (w:World) (y:ab) (u:Value):Prop:=R w (λb=>b<w.heap.size) (λ_ _=>False) y u (λ_=>False)
def lV (w:World) (ys:List ab) (cs:List Value):Prop :=
 ys.length=cs.length/\∀ (k:Nat) (y:ab) (u:Value),ys[k]?=some y->cs[k]?=some u->u.oneCell'=true/\s3 w y u
theorem lV.nil {w:World}:lV w [] []:=⟨rfl,λ_ _ _ h=>by simp at h⟩
theorem lV.one {w:World}{y:ab}{u:Value}(h1:u.oneCell'=true) (h:s3 w y u):lV w [y] [u] :=
 ⟨rfl,λk y' tV ai hu=>by
  cases k with
  | zero=>simp at ai hu; subst ai hu; exact ⟨h1,h⟩
  | succ k=>simp at ai⟩
theorem lV.app {w:World}{ys hM:List ab}{cs jg:List Value}(h:lV w ys cs) (af:lV w hM jg):lV w (ys++hM) (cs++jg):=by
 refine ⟨by simp [h.1,af.1],λk y u ai hu=>?_⟩;by_cases hk:k<ys.length
 ·rw [List.getElem?_append_left hk] at ai;rw [List.getElem?_append_left (h.1 ▸ hk)] at hu;exact h.2 k y u ai hu
 ·rw [List.getElem?_append_right (by omega)] at ai;rw [List.getElem?_append_right (by have:=h.1; omega),<- h.1] at hu;exact af.2 _ y u ai hu
structure hB (P:Program) (e:bz α) (t:TypeId) (ok:α->Prop):Prop where
 z:P.cellsOf t=e.z
 go:∀ {H:Type}{enc:TypeId × Value->H}{w:World}{n:Nat}{cs:List Value}{x:DataW H × List MemPlace},
  DataW.trod enc P w 0 (λ_=>true) true n t cs=some x->∃ a,ok a/\lV w (e.cells a) cs
theorem hB.int {e:bz Int}{t:TypeId}{k:IntKind}(ak:P.underlying t=some (.int k)) (aS:P.cellsOf t=e.z) (he:∀ n,e.cells n=[.lit (.int k n)]) :
  hB P e t (λn=>(Lit.int k n).wf=true):=by
 refine ⟨aS,λh=>?_⟩;obtain ⟨n,rfl,_,hw⟩:=DataW.trod_int ak h;exact ⟨n,hw,he n ▸ lV.one rfl (.lit rfl λ_ h=>h)⟩
theorem hB.bool {e:bz Bool}{t:TypeId}(ak:P.underlying t=some .bool) (aS:P.cellsOf t=e.z) (he:∀ n,e.cells n=[.lit (.bool n)]) :
  hB P e t (λ_=>True):=by
 refine ⟨aS,λh=>?_⟩;obtain ⟨n,rfl,_⟩:=DataW.trod_bool ak h;exact ⟨n,trivial,he n ▸ lV.one rfl (.lit rfl λ_ h=>h)⟩
theorem hB.str {e:bz ByteArray}{t:TypeId}(ak:P.underlying t=some .string) (aS:P.cellsOf t=e.z) (he:∀ n,e.cells n=[.lit (.string n)]) :
  hB P e t (λs=>s.size<=maxLen):=by
 refine ⟨aS,λh=>?_⟩;obtain ⟨n,rfl,_,hw⟩:=DataW.trod_string ak h;exact ⟨n,hw,he n ▸ lV.one rfl (.lit rfl λ_ h=>h)⟩
theorem PM (e:bz α) (aS:0<e.z):∀ (l:List α) (k:Nat) (y:ab),(bw e l)[k]?=some y->∃ a,l[k / e.z]?=some a/\(e.cells a)[k % e.z]?=some y
 | [],k,y,h=>by simp [bw] at h
 | a::l,k,y,h=>by
  have he:bw e (a::l)=e.cells a++bw e l:=by simp [bw]
  rw [he] at h;by_cases hk:k<e.z
  ·rw [List.getElem?_append_left (by rw [e.len]; exact hk)] at h;exact ⟨a,by simp [Nat.div_eq_of_lt hk],by rw [Nat.mod_eq_of_lt hk]; exact h⟩
  ·rw [List.getElem?_append_right (by rw [e.len]; omega),e.len] at h;obtain ⟨b,h1,af⟩:=PM e aS l (k - e.z) y h;have aO:k / e.z=(k - e.z) / e.z+1:=by rw [Nat.div_eq_sub_div aS (by omega)]
   refine ⟨b,by rw [aO]; simpa using h1,?_⟩;rw [Nat.mod_eq_sub_mod (by omega)]; exact af
theorem hB.slice {e:bz α}{t FZ:TypeId}{ok:α->Prop}(h:hB P e FZ ok) (ak:P.underlying t=some (.slice FZ)) (aS:P.cellsOf t=1) (pK:0<e.z) :
  hB P (b6 e) t (λl=>l.length<=maxLen/\∀ x∈l,ok x):=by
 classical
 refine ⟨aS,λ{H enc w n cs x} aj=>?_⟩;rcases open_slice ak aj with ⟨rfl,rfl⟩ | ⟨a,len,cap,m,ck,D,pe,rfl,au,ah,hm,I2,rfl,j⟩
 ·exact ⟨[],⟨by simp,by simp⟩,lV.one rfl (.hj λ_ h=>h)⟩
 ·have V9:m=cap:=by simpa using I2
  subst V9;have hex:∀ i,i<len->∃ q:α × List Value,ok q.1/\lV w (e.cells q.1) q.2/\w.cells? 0 (a.add (i * P.cellsOf FZ)) (P.cellsOf FZ)=some q.2:=λi hi=>by
   obtain ⟨cs',h1,af⟩:=j i (by omega);obtain ⟨b,ku,gh⟩:=h.go af;exact ⟨(b,cs'),ku,gh,h1⟩
  by_cases aH:len=0
  ·subst aH;exact ⟨[],⟨by simp,by simp⟩,lV.one rfl (.hj λ_ h=>h)⟩
  ·obtain ⟨zH,_⟩:=hex 0 (by omega)
   haveI:Inhabited (α × List Value):=⟨zH⟩
   obtain ⟨f,aU⟩:=choose_lt hex;have hlen:((List.range len).map λi=>(f i).1).length=len:=by simp
   have pF:∀ (i:Nat) (b:α),((List.range len).map λi=>(f i).1)[i]?=some b->i<len/\b=(f i).1:=λi b hi=>by
    have aN:=(List.getElem?_eq_some_iff.1 hi).1;simp at aN;simp [aN] at hi;exact ⟨aN,hi.symm⟩
   have j':a.spot=none/\a.block<w.heap.size:=by
    obtain ⟨_,_,aJ⟩:=aU 0 (by omega);obtain ⟨_,IZ,cu⟩:=World.cells?_some aJ;have dC:=cu 0 (by rw [h.z]; exact pK);simp only [Nat.zero_mul,Addr.add,if_true] at dC;have:0<(f 0).2.length:=by rw [IZ,h.z]; exact pK
    rw [List.getElem?_eq_getElem this] at dC;unfold World.cell? at dC
    split at dC
    ·rename_i bE;refine ⟨?_,(Array.getElem?_eq_some_iff.1 bE).1⟩;cases ax:a.spot with
     | none=>rfl
     | some s=>simp [ax] at dC
    ·cases dC
   have key:∀ (k:Nat) (y:ab),(bw e ((List.range len).map λi=>(f i).1))[k]?=some y->∃ u,w.cell? ⟨a.block,a.off+k,none⟩=some u/\u.oneCell'=true/\s3 w y u:=λk y hk=>by
    obtain ⟨b,ku,gh⟩:=PM e pK _ k y hk;obtain ⟨hi,rfl⟩:=pF _ _ ku;obtain ⟨_,af,aJ⟩:=aU _ hi;obtain ⟨_,IZ,cu⟩:=World.cells?_some aJ;have EJ:k % e.z<e.z:=Nat.mod_lt _ pK;have dC:=cu (k % e.z) (by rw [h.z]; exact EJ);rw [Deep.add_add,h.z] at dC;have fk:k / e.z * e.z+k % e.z=k:=by rw [Nat.mul_comm]; exact Nat.div_add_mod k e.z
    rw [fk] at dC;have aN:k % e.z<(f (k / e.z)).2.length:=by rw [IZ,h.z]; exact EJ
    rw [List.getElem?_eq_getElem aN] at dC;have aQ:a.add k=⟨a.block,a.off+k,none⟩:=by
     unfold Addr.add;split
     ·rename_i T_; subst T_; cases a; simp at j' ⊢; exact j'.1
     ·rfl
    rw [aQ] at dC;exact ⟨_,dC,af.2 _ _ _ gh (List.getElem?_eq_getElem aN)⟩
   refine ⟨(List.range len).map λi=>(f i).1,⟨by rw [hlen]; omega,λy ai=>?_⟩,lV.one rfl ?_⟩
   ·obtain ⟨i,hi,rfl⟩:=List.mem_map.1 ai;exact (aU i (List.mem_range.1 hi)).1
   ·show s3 w (.bc e.z _ _) _;rw [hlen];refine .bc (us:=λk=>(w.cell? ⟨a.block,a.off+k,none⟩).getD .nilFunc) (λ_ h=>h) ah j'.2 j'.1 (by rw [nn,hlen]) (λk y hk=>?_) (λk y hk=>?_) (λk y hk=>?_)
    ·obtain ⟨u,h1,af,aJ⟩:=key k y hk;simp only [h1,Option.getD_some]; exact af
    ·obtain ⟨u,h1,af,aJ⟩:=key k y hk;simp only [h1,Option.getD_some]
    ·obtain ⟨u,h1,af,aJ⟩:=key k y hk;simp only [h1,Option.getD_some]; exact aJ
def AU (P:Program):Nat->List Field->List TypeId->Bool
 | _,[],[]=>true
 | off,f::fs,t::jK=>decide (f.type=t)&&decide (f.offset=off)&&AU P (off+P.cellsOf t) fs jK
 | _,_,_=>false
def zX (P:Program) (t:TypeId) (jK:List TypeId):Bool :=
 match P.underlying t with
 | some (.struct fs)=>AU P 0 fs.toList jK&&decide (P.cellsOf t=(jK.map P.cellsOf).sum)
 | _=>false
structure xW (P:Program) (cells:β->List ab) (jK:List TypeId) (ok:β->Prop):Prop where
 go:∀ {H:Type}{enc:TypeId × Value->H}{w:World}{n:Nat}{cs:List Value}{fs:List Field}{off:Nat},AU P off fs jK=true->cs.length=off+(jK.map P.cellsOf).sum ->
  (∀ (i:Nat) (f:Field),fs[i]?=some f->∃ x,DataW.trod enc P w 0 (λ_=>true) true n f.type ((cs.drop f.offset).take (P.cellsOf f.type))=some x) ->
  ∃ b,ok b/\lV w (cells b) (cs.drop off)
theorem xW.nil:xW P (λ_:Unit=>[]) [] (λ_=>True) :=
 ⟨λ{H enc w n cs fs off} _ ah _=>⟨(),trivial,by rw [List.drop_eq_nil_of_le (by simp at ah; omega)]; exact lV.nil⟩⟩
theorem xW.cons {e:bz α}{t:TypeId}{jK:List TypeId}{ok:α->Prop}{cells:β->List ab}{Pn:β->Prop}(h:hB P e t ok) (ah:xW P cells jK Pn) :
  xW P (λp:α × β=>e.cells p.1++cells p.2) (t::jK) (λp=>ok p.1/\Pn p.2):=by
 refine ⟨λ{H enc w n cs fs off} f' hlen aj=>?_⟩;cases fs with
 | nil=>simp [AU] at f'
 | cons f fs =>
  simp only [AU,Bool.and_eq_true,decide_eq_true_eq] at f';obtain ⟨⟨rfl,rfl⟩,f'⟩:=f';obtain ⟨x,j⟩:=aj 0 f rfl;obtain ⟨a,aQ,aV⟩:=h.go j;obtain ⟨b,au,sa⟩:=ah.go (off:=f.offset+P.cellsOf f.type) (cs:=cs) f' (by rw [hlen]; simp [Nat.add_assoc]) (λi fX ql=>aj (i+1) fX (by simpa using ql));refine ⟨(a,b),⟨aQ,au⟩,?_⟩;have:cs.drop f.offset=(cs.drop f.offset).take (P.cellsOf f.type)++cs.drop (f.offset+P.cellsOf f.type):=by
   rw [<- List.drop_drop]; exact (List.take_append_drop _ _).symm
  rw [this];exact aV.app sa
theorem hB.struct {e:bz Li}{t:TypeId}{jK:List TypeId}{cells:β->List ab}{ok:β->Prop}(h:xW P cells jK ok) (mk:β->Li) (un:Li->β) (Od:∀ b,un (mk b)=b) (J:∀ b,e.cells (mk b)=cells b) (ak:zX P t jK=true) (aS:P.cellsOf t=e.z) :
  hB P e t (λs=>ok (un s)):=by
 refine ⟨aS,λ{H enc w n cs x} aj=>?_⟩;unfold zX at ak
 split at ak
 ·rename_i fs hu;simp only [Bool.and_eq_true,decide_eq_true_eq] at ak;obtain ⟨xs,ck,rfl,rfl,ah,Xd,j⟩:=DataW.trod_struct hu aj;obtain ⟨b,au,aV⟩:=h.go (w:=w) (off:=0) (cs:=cs) (fs:=fs.toList) (n:=ck) (enc:=enc) ak.1 (by rw [ah,ak.2]; simp) (λi f aU=>by
   have ql:fs[i]?=some f:=by simpa using aU
   have hi:i<xs.length:=by rw [Xd]; exact (Array.getElem?_eq_some_iff.1 ql).1
   exact ⟨xs[i],by rw [j i f ql,List.getElem?_eq_getElem hi]⟩)
  exact ⟨mk b,by rw [Od]; exact au,by rw [J]; simpa using aV⟩
 ·cases ak
inductive DD (w:World):ab->Value->Prop
 | mk {y:ab}{v:Value}(h:s3 w y v):DD w y v
theorem hB.one {e:bz α}{t:TypeId}{ok:α->Prop}{g:α->ab}(h:hB P e t ok) (he:∀ a,e.cells a=[g a]) {H:Type}{enc:TypeId × Value->H}{w:World}{v:Value}{d:DataW H}{p:List MemPlace}(hv:v.cells.toList=[v])
  (ak:DataW.Trod enc P w 0 (λ_=>true) true t v d p):∃ a,ok a/\DD w (g a) v:=by
 obtain ⟨n,az⟩:=ak;obtain ⟨a,aQ,aV⟩:=h.go az;refine ⟨a,aQ,.mk ?_⟩;rw [hv,he] at aV;exact (aV.2 0 _ _ rfl rfl).2
theorem hB.Po {e:bz α}{t:TypeId}{ok:α->Prop}{jK:List TypeId}(h:hB P e t ok) (f':zX P t jK=true) {H:Type}{enc:TypeId × Value->H}{w:World}{v:Value}{d:DataW H}{p:List MemPlace}{base:Nat}(hv:Value.okWide P w .any base t v)
  (ak:DataW.Trod enc P w 0 (λ_=>true) true t v d p):∃ a,ok a/\DD w (.agg (e.cells a)) v:=by
 have hu:∃ fs,P.underlying t=some (.struct fs):=by
  unfold zX at f'
  split at f'
  ·exact ⟨_,by assumption⟩
  ·cases f'
 obtain ⟨fs,hu⟩:=hu;obtain ⟨cs,rfl,gl⟩:=okWide_struct hu hv;obtain ⟨n,az⟩:=ak;obtain ⟨a,aQ,aV⟩:=h.go az;refine ⟨a,aQ,.mk ?_⟩;have ie:lV w (e.cells a) cs.toList:=aV;refine .agg (Fs:=λ_ _=>False) (by simpa using ie.1) (λk u hu=>?_) (λk x u j hu=>(ie.2 k x u j (by simpa using hu)).2) (λ_ _ _ _ _ h=>h.elim) (λc=>⟨λh=>h.elim,λ⟨_,_,h⟩=>h⟩);have hk:k<(e.cells a).length:=by rw [ie.1]; simpa using (Array.getElem?_eq_some_iff.1 hu).1
 exact (ie.2 k _ u (List.getElem?_eq_getElem hk) (by simpa using hu)).1
inductive uf (w:World):List ab->List Value->Prop
 | nil:uf w [] []
 | cons {y:ab}{v:Value}{ys:List ab}{vs:List Value}(h:DD w y v) (ax:uf w ys vs):uf w (y::ys) (v::vs)
theorem uf.get {w:World}{ys:List ab}{vs:List Value}(h:uf w ys vs):ys.length=vs.length/\∀ (k:Nat) (y:ab),ys[k]?=some y->∃ v,vs[k]?=some v/\s3 w y v:=by
 induction h with
 | nil=>exact ⟨rfl,λk y h=>by simp at h⟩
 | cons h _ aK =>
  refine ⟨by simp [aK.1],λk y ai=>?_⟩;cases k with
  | zero =>
   simp at ai; subst ai;obtain ⟨h⟩:=h;exact ⟨_,rfl,h⟩
  | succ k=>simpa using aK.2 k y (by simpa using ai)
theorem uf.Zs {w:World}{ys:List ab}{vs:List Value}(h:uf w ys vs) (av:ys.all (λy=>match y with | .bC ..=>false | _=>true)=true) (hV:cw.q w λb=>b<w.heap.size) :
  cB w (λb=>b<w.heap.size) vs.toArray (oK ys) (λ_=>cb):=by
 refine ⟨λt x j=>?_,λ_ _ _ h=>h,λ_ _ _ h=>h.elim,λ_ _ h=>h.elim,λ_ h=>h,λt t' z p n m new br ck bm cK h1 _=>?_,hV⟩
 ·obtain ⟨v,hv,aV⟩:=h.get.2 t x j;exact ⟨v,by simpa using hv,.tree (aV.frame (λ_ _=>rfl) (λ_ h=>h) (λ_ _ h=>h.elim) (λ_ _=>rfl))⟩
 ·have:=List.all_eq_true.1 av _ (List.mem_of_getElem? h1);cases this
structure Lu (w w':World):Prop where
 kept:∀ may:MemPlace->Prop,w.keptBut w' may
 eF:∀ a,a.block<w.heap.size->w'.frozen? a=w.frozen? a
theorem bH.Z5 {f:FuncId}{ys:List ab}{vs:List Value}{outs:List (Option ab)}{r:Value}(J:bH P f ys outs (.lit r)) (w:World) (h:uf w ys vs) (av:ys.all (λy=>match y with | .bC ..=>false | _=>true)=true) (hV:cw.q w λb=>b<w.heap.size) :
  Calls P f vs.toArray w λe w'=>e=.returned r/\Lu w w'/\∀ i:Nat,i<w.heap.size->w'.heap[i]?=w.heap[i]?:=by
 have:=J.2 w _ vs _ h.get.1.symm (h.Zs av hV);refine this.mono ?_;rintro e w' ⟨v,I',bY,rfl,a_,bM⟩;obtain ⟨u,hu,aV⟩:=a_.rel outs.length (.lit r) (by simp [h5]);have ah:outs.length=vs.length:=by rw [J.1]; exact h.get.1
 have wQ:u=v:=by
  rw [ah] at hu;simpa using hu.symm
 subst wQ;have hv:=(aV.fS (by simp)).gK.1;subst hv;have au:∀ i:Nat,i<w.heap.size->w'.heap[i]?=w.heap[i]?:=λi hi=>bM.ei.block i hi λ⟨_,h⟩=>h;have hk:World.keptBut w w' (λ_=>False):=⟨bM.ei.os,bM.ei.output,λi hi=>by
  rw [au i hi];exact (World.keptBut_refl w (λ_=>False)).2.2 i hi⟩
 exact ⟨rfl,⟨λmay=>World.keptBut_mono (λ_ f=>f.elim) hk,λa aQ=>bM.ei.eF a aQ λ⟨_,h⟩=>h⟩,au⟩
theorem Qx {H:Type}{enc:TypeId × Value->H}{w w':World}{base:Nat}{sp:Nat->Bool}{held:Bool}(au:∀ i:Nat,i<w.heap.size->w'.heap[i]?=w.heap[i]?) :
  ∀ {jK:List TypeId}{vs:List Value}{jg:List (DataW H)}{ps:List MemPlace},DataW.TrodAll enc P w base sp held jK vs jg ps->DataW.TrodAll enc P w' base sp held jK vs jg ps
 | [],[],[],_,h=>h
 | _::_,_::_,_::_,_,⟨p,q,⟨n,az⟩,af,e⟩=>by
  refine ⟨p,q,⟨n,DataW.trod_carry n _ _ _ az λx j=>?_⟩,Qx au af,e⟩;have aN:=DataW.trod_lt n _ _ _ az x j;cases x with
  | cell b off =>
   show w'.cell? _=w.cell? _;exact World.cell?_of_block (au b aN)
  | map b=>exact au b aN
theorem RO {H:Type}{enc:TypeId × Value->H}{w w':World}(ah:laidOutB P=true) (hm:mapsRowed P=true)
  (aS:((List.range P.types.size).all λt=>match P.underlying t with | some (.slice e)=>decide (0<P.cellsOf e) | _=>true)=true)
  (au:∀ i:Nat,i<w.heap.size->w'.heap[i]?=w.heap[i]?) {jK:List TypeId}{vs:List Value}{jg:List (DataW H)}{ps:List MemPlace}(ak:jK.all (λt=>decide (t<P.types.size))=true)
  (h:DataW.TrodAll enc P w 0 (λ_=>true) true jK vs jg ps) {sp:Nat->Bool}(j':∀ p∈ps,sp p.block=true):DataW.TrodAll enc P w' 0 sp true jK vs jg ps :=
 (Qx au h).respare (kids_rows ah hm) (slices_full_of P aS) (λt h=>of_decide_eq_true (List.all_eq_true.1 ak t h)) j'
end Go.Own
