/- Parts of the proof that the last text states. -/
import Derived.ChangeAt
import Derived.ChangeOld
import Derived.ChangeSame
import Derived.Deep.Slices
import Derived.ReadAgain
import Derived.RowKit3
import Derived.WideShapes
import Derived.Test.YtcfiphoaldlmiaaGreatE3
namespace Go.Own
open Go
set_option linter.unusedSectionVars false
variable [TB]
structure En (α:Type) where
 z:Nat
 cells:α->List AV
 len:∀ a,(cells a).length=z
 nr:∀ a,∀ x∈cells a,NR x
variable {α β S R:Type}
def rowc (e:En α) (l:List α):List AV:=l.flatMap e.cells
abbrev oR (e:En α) (l:List α):AV:=.own e.z l.length (rowc e l)
abbrev iR (e:En α) (l:List α):AV:=.imm e.z l.length (rowc e l)
abbrev I64 (n:Int):AV:=.lit (.int .i64 n)
abbrev U8 (n:Int):AV:=.lit (.int .u8 n)
abbrev BB (b:Bool):AV:=.lit (.bool b)
abbrev SS (s:ByteArray):AV:=.lit (.string s)
abbrev w64 (n:Int):Int:=IntKind.i64.wrap n
abbrev w8 (n:Int):Int:=IntKind.u8.wrap n
theorem rowc_len (e:En α) (l:List α):(rowc e l).length=l.length * e.z:=by
 induction l with
 | nil=>simp [rowc]
 | cons a l ih =>
  have:rowc e (a::l)=e.cells a++rowc e l:=by simp [rowc]
  rw [this,List.length_append,e.len,ih,List.length_cons,Nat.add_mul]; omega
theorem rowc_nr (e:En α) (l:List α):∀ x∈rowc e l,NR x:=by
 intro x hx
 obtain ⟨a,_,h⟩:=List.mem_flatMap.1 hx
 exact e.nr a x h
theorem rowc_app (e:En α) (l m:List α):rowc e (l++m)=rowc e l++rowc e m:=by simp [rowc]
theorem rowc_drop (e:En α):∀ (l:List α) (i:Nat),(rowc e l).drop (i * e.z)=rowc e (l.drop i)
 | l,0=>by simp
 | [],i+1=>by simp [rowc]
 | a::l,i+1=>by
  have h:rowc e (a::l)=e.cells a++rowc e l:=by simp [rowc]
  rw [h,List.drop_append,e.len,List.drop_eq_nil_of_le (by rw [e.len,Nat.add_mul]; omega)]
  have:(i+1) * e.z - e.z=i * e.z:=by rw [Nat.add_mul]; omega
  rw [this,List.nil_append,rowc_drop e l i]; rfl
theorem rowc_take (e:En α):∀ (l:List α) (i:Nat),(rowc e l).take (i * e.z)=rowc e (l.take i)
 | l,0=>by simp [rowc]
 | [],i+1=>by simp [rowc]
 | a::l,i+1=>by
  have h:rowc e (a::l)=e.cells a++rowc e l:=by simp [rowc]
  rw [h,List.take_append,e.len,List.take_of_length_le (by rw [e.len,Nat.add_mul]; omega)]
  have:(i+1) * e.z - e.z=i * e.z:=by rw [Nat.add_mul]; omega
  rw [this,rowc_take e l i]; simp [rowc]
def idx (l:List α) (i:Int):Option α:=if 0<=i then l[i.toNat]? else none
theorem idx_spec {l:List α}{i:Int}{y:α}(h:idx l i=some y):0<=i/\i<l.length/\l[i.toNat]?=some y:=by
 grind [idx]
theorem rowc_idx (e:En α) {l:List α}{i:Int}{y:α}(h:idx l i=some y):(rowc e l).drop (i.toNat * e.z)=e.cells y++rowc e (l.drop (i.toNat+1)):=by
 obtain ⟨h0,h1,h2⟩:=idx_spec h
 grind [rowc_drop,List.drop_eq_getElem_cons,rowc]
theorem rowc_at (e:En α) {l:List α}{i:Int}{y:α}(h:idx l i=some y) {k:Nat}{x:AV}(hk:(e.cells y)[k]?=some x):(rowc e l)[i.toNat * e.z+k]?=some x:=by
 have hlt:=(List.getElem?_eq_some_iff.1 hk).1
 rw [<- List.getElem?_drop,rowc_idx e h,List.getElem?_append_left hlt]; exact hk
abbrev lim:Nat:=1099511627776
def fuel:Nat:=1000000000000000000
def iter (f:S->Option (S ⊕ R)):Nat->S->Option R
 | 0,_=>none
 | n+1,s=>match f s with
  | none=>none
  | some (.inl s')=>iter f n s'
  | some (.inr r)=>some r
def loopM (f:S->Option (S ⊕ R)) (s:S):Option R:=iter f fuel s
theorem bnd {o:Option α}{f:α->Option β}{r:β}(h:o.bind f=some r):∃ y,o=some y/\f y=some r:=Option.bind_eq_some_iff.1 h
theorem cndT {b:Bool}{x y o:α}(hb:b=true) (h:cond b x y=o):x=o:=by
 grind
theorem cndF {b:Bool}{x y o:α}(hb:b=false) (h:cond b x y=o):y=o:=by
 grind
theorem cnd {b:Bool}{x y o:α}(h:cond b x y=o):(b=true/\x=o)\/(b=false/\y=o):=by
 grind
theorem sm {a b:α}(h:some a=some b):a=b:=by grind
class NRc (x:AV):Prop where nr:NR x
class NRl (cs:List AV):Prop where nr:∀ x∈cs,NR x
instance {v:Value}:NRc (.lit v):=⟨.lit⟩
instance:NRc .nils:=⟨.nils⟩
instance:NRc .dead:=⟨.dead⟩
instance {k:Nat × Nat}:NRc (.self k):=⟨.self⟩
instance {t:Nat}{us:List Value}:NRc (.brow t us):=⟨.brow⟩
instance {z n:Nat}{cs:List AV} [h:NRl cs]:NRc (.imm z n cs):=⟨.imm h.nr⟩
instance {z n:Nat}{cs:List AV} [h:NRl cs]:NRc (.own z n cs):=⟨.own h.nr⟩
instance {cs:List AV} [h:NRl cs]:NRc (.obj cs):=⟨.obj h.nr⟩
instance {cs:List AV} [h:NRl cs]:NRc (.agg cs):=⟨.agg h.nr⟩
instance {cs:List AV} [h:NRl cs]:NRc (.tup cs):=⟨.tup h.nr⟩
instance {cs:List AV} [h:NRl cs]:NRc (.iptr cs):=⟨.iptr h.nr⟩
instance {f:Fn}{a b:List AV} [h:NRl a] [h':NRl b]:NRc (.clo f a b):=⟨.clo h.nr h'.nr⟩
instance:NRl []:=⟨by simp⟩
instance {x:AV}{cs:List AV} [h:NRc x] [h':NRl cs]:NRl (x::cs):=⟨nr_cons h.nr h'.nr⟩
instance {e:En α}{l:List α}:NRl (rowc e l):=⟨rowc_nr e l⟩
instance {e:En α}{a:α}:NRl (e.cells a):=⟨e.nr a⟩
instance {a b:List AV} [h:NRl a] [h':NRl b]:NRl (a++b):=⟨fun x hx=>(List.mem_append.1 hx).elim (h.nr x) (h'.nr x)⟩
instance {a:List AV}{n:Nat} [h:NRl a]:NRl (a.drop n):=⟨fun x hx=>h.nr x (List.mem_of_mem_drop hx)⟩
instance {a:List AV}{n:Nat} [h:NRl a]:NRl (a.take n):=⟨fun x hx=>h.nr x (List.mem_of_mem_take hx)⟩
instance {v:Value}{n:Nat}:NRl (List.replicate n (.lit v)):=⟨fun x hx=>by rw [(List.mem_replicate.1 hx).2]; exact .lit⟩
abbrev En.one (f:α->AV) (h:∀ a,NR (f a)):En α:=⟨1,fun a=>[f a],fun _=>rfl,fun a x hx=>by rw [List.mem_singleton.1 hx]; exact h a⟩
def eI:En Int:=.one (fun n=>I64 n) fun _=>.lit
def eU:En Int:=.one (fun n=>U8 n) fun _=>.lit
def eB:En Bool:=.one (fun b=>BB b) fun _=>.lit
def eS:En ByteArray:=.one (fun s=>SS s) fun _=>.lit
def eO (e:En α):En (List α):=.one (fun l=>oR e l) fun l=>.own (rowc_nr e l)
def eM (e:En α):En (List α):=.one (fun l=>iR e l) fun l=>.imm (rowc_nr e l)
inductive Trim (b:Bool) (g g2:Gst):List (Nat × AV)->Prop
 | nil:Trim b g g2 []
 | n {s:Nat}{x:AV}{l:List (Nat × AV)}(h:g s=some x) [hn:NRc x] (t:Trim b g g2 l):Trim b g g2 ((s,x)::l)
 | r {s:Nat}{x:AV}{l:List (Nat × AV)}(h:g s=some x) (hn:RK g2 x) (hp:∀ z p n m new,x≠.pend z p n m new) (t:Trim b g g2 l):Trim b g g2 ((s,x)::l)
 | e {s:Nat}{x y:AV}{l:List (Nat × AV)}(h:g s=some y) (he:y=x) [hn:NRc x] (t:Trim b g g2 l):Trim b g g2 ((s,x)::l)
 | w {s:Nat}{x y:AV}{l:List (Nat × AV)}(hb:b=true) (h:g s=some y) (hw:WkV y x) [hn:NRc x] (t:Trim b g g2 l):Trim b g g2 ((s,x)::l)
theorem Trim.spec {b:Bool}{g g2:Gst}{l:List (Nat × AV)}(h:Trim b g g2 l):∀ t x,get l t=some x->(∃ y,g t=some y/\WkV y x/\(b=false->y=x))/\RK g2 x/\∀ z p n m new,x≠.pend z p n m new:=by
 have np:∀ {x:AV},NR x->∀ z p n m new,x≠.pend z p n m new:=by rintro x h z p n m new rfl; cases h
 induction h with
 | nil=>intro t x hx; cases hx
 | @n _ _ _ h hn _ ih =>
  intro t x hx; simp only [get] at hx
  split at hx
  ·rename_i e; subst e; cases hx; exact ⟨⟨_,h,.refl,fun _=>rfl⟩,.nr hn.nr,np hn.nr⟩
  ·exact ih t x hx
 | r h hn hp _ ih =>
  intro t x hx; simp only [get] at hx
  split at hx
  ·rename_i e; subst e; cases hx; exact ⟨⟨_,h,.refl,fun _=>rfl⟩,hn,hp⟩
  ·exact ih t x hx
 | @e _ _ _ _ h he hn _ ih =>
  intro t x hx; simp only [get] at hx
  split at hx
  ·rename_i e; subst e he; cases hx; exact ⟨⟨_,h,.refl,fun _=>rfl⟩,.nr hn.nr,np hn.nr⟩
  ·exact ih t x hx
 | @w _ _ _ _ hb h hw hn _ ih =>
  intro t x hx; simp only [get] at hx
  split at hx
  ·rename_i e; subst e; cases hx; exact ⟨⟨_,h,hw,fun h=>by rw [hb] at h; cases h⟩,.nr hn.nr,np hn.nr⟩
  ·exact ih t x hx
theorem Trim.wk {b:Bool}{g:Gst}{l:List (Nat × AV)}(h:Trim b g (get l) l):Wk g (get l) :=
 ⟨fun t x hx=>by obtain ⟨⟨y,h1,h2,_⟩,_⟩:=h.spec t x hx; exact ⟨y,h1,h2⟩,fun t x hx=>(h.spec t x hx).2.1,fun t z q n m new hx=>(h.spec t _ hx).2.2 _ _ _ _ _ rfl⟩
theorem Trim.keep {g:Gst}{l:List (Nat × AV)}(h:Trim false g (get l) l):Keep g (get l) :=
 ⟨fun t x hx=>by obtain ⟨⟨y,h1,_,h3⟩,_⟩:=h.spec t x hx; rw [<- h3 rfl]; exact h1,fun t x hx=>(h.spec t x hx).2.1,fun t z q n m new hx=>(h.spec t _ hx).2.2 _ _ _ _ _ rfl⟩
section
variable {P:Program}{N:Rm}{ops:Array Oper}{g:Gst}{K:Gst->Prop}{l:List Oper}{d:Nat}{op:Op}{ty:TypeId}{pos:String}{after:Array Edge}{x:AV}{gd:Option (Nat × Bool)}
def To (P:Program) (N:Rm) (c:Code) (G G1:List (Nat × AV)):Prop:=W P N c (get G) fun e g'=>e=.normal/\Wk g' (get G1)
theorem W.sq {A B:Code}{G G1:List (Nat × AV)}{Φ:Exit->Gst->Prop}(h1:To P N A G G1) (h2:W P N B (get G1) Φ):W P N (.seq A B) (get G) Φ:=by
 refine W.seq (W.out h1 fun e g' h=>⟨get G1,h.2,?_⟩)
 obtain ⟨rfl,_⟩:=h
 exact h2
theorem W.sq' {A B:Code}{G:List (Nat × AV)}{Φ:Exit->Gst->Prop}(h:W P N A (get G) (thenP (fun g1=>W P N B g1 Φ) Φ)):W P N (.seq A B) (get G) Φ:=W.seq h
theorem To.rg {id:Nat}{l:List Oper}{G G1:List (Nat × AV)}(h:RunL P N l.toArray l (get G) fun g'=>Wk g' (get G1)):To P N (.region id l.toArray false) G G1 :=
 W.reg (fun i hi=>by obtain ⟨g',h1,h2⟩:=h i hi; exact ⟨g',h1,rfl,h2⟩)
theorem RunL.fin {G1:List (Nat × AV)}(h:Trim true g (get G1) G1):RunL P N ops [] g fun g'=>Wk g' (get G1):=.nil h.wk
theorem RunL.re {G1:List (Nat × AV)}(h:Trim false g (get G1) G1) (hk:RunL P N ops l (get G1) K):RunL P N ops l g K:=.forget h.keep hk
theorem RunL.v (hp:PS P g op ty x) (hN:N.ok d=true) (hf:g d=none) (hg:Gd g ops gd) (hk:RunL P N ops l (upd g d x) K):RunL P N ops (⟨some d,op,ty,pos,after,gd⟩::l) g K:=.valP hp hN hf hg hk
theorem RunL.c (hp:PC P g op x) (hN:N.ok d=true) (hf:g d=none) (hg:Gd g ops gd) (hk:RunL P N ops l (upd g d x) K):RunL P N ops (⟨some d,op,ty,pos,after,gd⟩::l) g K:=.call hp hN hf hg hk
theorem Gd.yb {j t:Nat}{b c:Bool}(h:(ops[j]?).bind (·.dst)=some t) (hg:g t=some (.lit (.bool c))) (hb:c=b):Gd g ops (some (j,b)):=by subst hb; exact .yes h hg
theorem RunL.ps {j t':Nat}{b c:Bool}(h:(ops[j]?).bind (·.dst)=some t') (hg:g t'=some (.lit (.bool c))) (hb:c=!b) (hN:N.ok d=true) (hf:g d=none) (hk:RunL P N ops l (upd g d (.tup [])) K):RunL P N ops (⟨some d,op,ty,pos,after,some (j,b)⟩::l) g K:=by
 subst hb; exact .stepS rfl hN hf (r:=some (.tup [])) (.inr (.inl ⟨⟨t',h,.inl ⟨_,hg,by cases b <;> rfl⟩⟩,rfl⟩)) hk
theorem RunL.pu {j t':Nat}{b:Bool}(h:(ops[j]?).bind (·.dst)=some t') (hg:g t'=some (.tup [])) (hN:N.ok d=true) (hf:g d=none) (hk:RunL P N ops l (upd g d (.tup [])) K):RunL P N ops (⟨some d,op,ty,pos,after,some (j,b)⟩::l) g K :=
 .stepS rfl hN hf (r:=some (.tup [])) (.inr (.inl ⟨⟨t',h,.inr ⟨hg,rfl⟩⟩,rfl⟩)) hk
theorem To.skip {G G1:List (Nat × AV)}(h:Trim true (get G) (get G1) G1):To P N .skip G G1:=W.skip ⟨rfl,h.wk⟩
theorem To.cnd {t:Nat}{A B:Code}{b:Bool}{G G1:List (Nat × AV)}(hc:get G t=some (BB b)) (hT:b=true->To P N A G G1) (hF:b=false->To P N B G G1):To P N (.cond (.tmp t) A B) G G1:=W.condS (.lit hc) hT hF
theorem W.cnd {t:Nat}{A B:Code}{b:Bool}{G:List (Nat × AV)}{Φ:Exit->Gst->Prop}(hc:get G t=some (BB b)) (hT:b=true->W P N A (get G) Φ) (hF:b=false->W P N B (get G) Φ):W P N (.cond (.tmp t) A B) (get G) Φ:=W.condS (.lit hc) hT hF
theorem To.sq {A B:Code}{G G1 G2:List (Nat × AV)}(h1:To P N A G G1) (h2:To P N B G1 G2):To P N (.seq A B) G G2:=W.sq h1 h2
theorem To.blk {id:Nat}{c:Code}{G G1:List (Nat × AV)}(h:W P N c (get G) fun e g'=>(e=.normal\/e=.exit id)/\Wk g' (get G1)):To P N (.block id c) G G1:=by
 refine W.block (h.mono ?_)
 rintro e g' ⟨rfl | rfl,h⟩
 ·exact ⟨rfl,h⟩
 ·show if id=id then _ else _
  grind
end
end Go.Own
namespace Go.Own
open Go
set_option linter.unusedSectionVars false
variable [TB]
variable {α β:Type}
def bidx (s:ByteArray) (m:Int):Option Int:=if 0<=m/\m<s.size then some (byteAt s m) else none
def cutO (s:ByteArray) (m n:Int):Option ByteArray:=if 0<=m/\m<=n/\n<=s.size then some (cutS s m n) else none
def catO (s u:ByteArray):Option ByteArray:=if s.size+u.size<=4611686018427387904 then some (s++u) else none
def quoO (m n:Int):Option Int:=if n=0 then none else some (w64 (m.tdiv n))
def remO (m n:Int):Option Int:=if n=0 then none else some (m.tmod n)
def subO (l:List α) (m n:Int):Option (List α):=if 0<=m/\m<=n/\n<=l.length then some ((l.drop m.toNat).take (n - m).toNat) else none
def flatB:AV->Bool
 | .lit _ | .nils | .imm .. | .iptr _ | .clo .. | .ptr .. | .brw .. | .sub .. | .mref .. | .imp ..=>true
 | _=>false
theorem flat_ref {d:Nat}{p:Place}{x:AV}(h:flatB x=true):refIn d p x=x:=by
 cases x <;> simp [flatB] at h <;> cases d <;> rfl
theorem flat_top {t:Nat}{x:AV}(h:flatB x=true):refTop t x=x:=by
 cases x <;> simp [flatB] at h <;> rfl
theorem flat_map {d:Nat}{q:Nat->Place}{cs:List AV}(h:cs.all flatB=true):(cs.mapIdx fun i x=>refIn d (q i) x)=cs:=by
 apply List.ext_getElem?
 intro k
 rw [List.getElem?_mapIdx]
 cases hk:cs[k]? with
 | none=>rfl
 | some x=>simp only [Option.map_some,flat_ref (List.all_eq_true.1 h x (List.mem_of_getElem? hk))]
section
variable {P:Program}{N:Rm}{ops:Array Oper}{g:Gst}{K:Gst->Prop}{l:List Oper}{d:Nat}{ty t t2:TypeId}{a b c:Operand}{k k':IntKind}{m n:Int}{s u:ByteArray}{p q e:Bool}
theorem Rd.f {t:Nat}{x:AV}(h:g t=some x) (hf:flatB x=true):Own.opd g (.tmp t)=some x:=by simp only [Own.opd,h,Option.map_some,flat_top hf]
theorem Rd.aggF {t:Nat}{cs:List AV}(h:g t=some (.agg cs)) (hf:cs.all flatB=true):Rd g (.tmp t) (.agg cs):=.agg h (flat_map hf)
theorem Rd.tupF {t:Nat}{cs:List AV}(h:g t=some (.tup cs)) (hf:cs.all flatB=true):Rd g (.tmp t) (.tup cs):=.tup h (flat_map hf)
namespace O
theorem mv {y:AV}(h:Rd g a y):PS P g (.move a) ty y:=.p1 (.move h.opd)
theorem az {y:AV}(h:Rd g a y):PS P g (.assign a) ty y:=.p1 (.assign h.opd)
theorem pkT {y:AV}(hc:Rd g c (BB p)) (hb:p=true) (h:Rd g a y):PS P g (.pick c a b) ty y:=by subst hb; exact .p1 (.pickT hc h)
theorem pkF {y:AV}(hc:Rd g c (BB p)) (hb:p=false) (h:Rd g b y):PS P g (.pick c a b) ty y:=by subst hb; exact .p1 (.pickF hc h)
theorem add (hx:Rd g a (.lit (.int k m))) (hy:Rd g b (.lit (.int k n))):PS P g (.binOp .add t a b t2) ty (.lit (.int k (k.wrap (m+n)))):=.p1 (.add hx hy)
theorem sub (hx:Rd g a (.lit (.int k m))) (hy:Rd g b (.lit (.int k n))):PS P g (.binOp .sub t a b t2) ty (.lit (.int k (k.wrap (m - n)))):=.p1 (.subt hx hy)
theorem mul (hx:Rd g a (.lit (.int k m))) (hy:Rd g b (.lit (.int k n))):PS P g (.binOp .mul t a b t2) ty (.lit (.int k (k.wrap (m * n)))):=.p1 (.mul hx hy)
theorem quo {r:Int}(hx:Rd g a (I64 m)) (hy:Rd g b (I64 n)) (h:quoO m n=some r):PS P g (.binOp .quo t a b t2) ty (I64 r):=by
 unfold quoO at h
 split at h
 ·cases h
 ·cases h; exact .p1 (.quo hx hy (by assumption))
theorem rem {r:Int}(hx:Rd g a (I64 m)) (hy:Rd g b (I64 n)) (h:remO m n=some r):PS P g (.binOp .rem t a b t2) ty (I64 r):=by
 unfold remO at h
 split at h
 ·cases h
 ·cases h; exact .p1 (.rem hx hy (by assumption))
theorem lss (hx:Rd g a (.lit (.int k m))) (hy:Rd g b (.lit (.int k n))):PS P g (.binOp .lss t a b t2) ty (BB (decide (m<n))):=.p1 (.lss hx hy (by simp))
theorem leq (hx:Rd g a (.lit (.int k m))) (hy:Rd g b (.lit (.int k n))):PS P g (.binOp .leq t a b t2) ty (BB (decide (m<=n))):=.p1 (.leq hx hy (by simp))
theorem gtr (hx:Rd g a (.lit (.int k m))) (hy:Rd g b (.lit (.int k n))):PS P g (.binOp .gtr t a b t2) ty (BB (decide (n<m))):=.p1 (.gtr hx hy (by simp))
theorem geq (hx:Rd g a (.lit (.int k m))) (hy:Rd g b (.lit (.int k n))):PS P g (.binOp .geq t a b t2) ty (BB (decide (n<=m))):=.p1 (.geq hx hy (by simp))
theorem eql (hx:Rd g a (.lit (.int k m))) (hy:Rd g b (.lit (.int k n))):PS P g (.binOp .eql t a b t2) ty (BB (decide (m=n))):=.p1 (.eql hx hy (by simp))
theorem neq (hx:Rd g a (.lit (.int k m))) (hy:Rd g b (.lit (.int k n))):PS P g (.binOp .neq t a b t2) ty (BB (!decide (m=n))):=.p1 (.neq hx hy (by simp))
theorem eqS (hx:Rd g a (SS s)) (hy:Rd g b (SS u)):PS P g (.binOp .eql t a b t2) ty (BB (decide (s=u))):=.p1 (.eqS hx hy (by simp))
theorem neS (hx:Rd g a (SS s)) (hy:Rd g b (SS u)):PS P g (.binOp .neq t a b t2) ty (BB (!decide (s=u))):=.p1 (.neS hx hy (by simp))
theorem eqB (hx:Rd g a (BB p)) (hy:Rd g b (BB q)) (ht:boolT P t=true):PS P g (.binOp .eql t a b t2) ty (BB (p == q)):=.p1 (.bin hx.opd hy.opd rfl fun w=>run_eqB (boolT_spec ht) w)
theorem neg (hx:Rd g a (.lit (.int k m))):PS P g (.unOp .neg t a) ty (.lit (.int k (k.wrap (-m)))):=.p1 (.un hx.opd rfl fun w=>by simp [Op.unary,Op.intArith])
theorem not (hx:Rd g a (BB p)):PS P g (.unOp .not t a) ty (BB (!p)):=.p1 (.not hx)
theorem cvI (hx:Rd g a (.lit (.int k m))) (hs:intT P t k=true) (hd:intT P t2 k'=true):PS P g (.convert t t2 a) ty (.lit (.int k' (k'.wrap m))):=.p1 (.convII hx hs hd)
theorem cat {r:ByteArray}(hx:Rd g a (SS s)) (hy:Rd g b (SS u)) (h:catO s u=some r):PS P g (.binOp .add t a b t2) ty (SS r):=by
 unfold catO at h
 split at h
 ·cases h; exact .p1 (.cat hx hy (by omega))
 ·cases h
theorem lenS (hx:Rd g a (SS s)) (ht:strT P t=true):PS P g (.call { callee:=.builtin .len,args:=#[a],argTypes:=#[t] }) ty (I64 s.size):=.p1 (.lenS hx ht)
theorem at' {r:Int}(hx:Rd g a (SS s)) (hy:Rd g b (.lit (.int k m))) (ht:strT P t=true) (h:bidx s m=some r):PS P g (.index t a b) ty (U8 r):=by
 unfold bidx at h
 split at h
 ·cases h; exact .p1 (.atI hx hy ht (by assumption))
 ·cases h
theorem sl {r:ByteArray}{k2:IntKind}(hx:Rd g a (SS s)) (hl:Rd g b (.lit (.int k m))) (hh:Rd g c (.lit (.int k2 n))) (ht:strT P t=true) (h:cutO s m n=some r):PS P g (.slice t a (some b) (some c) none) ty (SS r):=by
 unfold cutO at h
 split at h
 ·cases h; exact .p1 (.slS hx hl hh ht (by assumption))
 ·cases h
theorem sl0 {r:ByteArray}(hx:Rd g a (SS s)) (hh:Rd g c (.lit (.int k n))) (ht:strT P t=true) (h:cutO s 0 n=some r):PS P g (.slice t a none (some c) none) ty (SS r):=by
 unfold cutO at h
 split at h
 ·rename_i hc; cases h; exact .p1 (.slS0 hx hh ht ⟨hc.2.1,hc.2.2⟩)
 ·cases h
theorem sl1 {r:ByteArray}(hx:Rd g a (SS s)) (hl:Rd g b (.lit (.int k m))) (ht:strT P t=true) (h:cutO s m s.size=some r):PS P g (.slice t a (some b) none none) ty (SS r):=by
 unfold cutO at h
 split at h
 ·rename_i hc; cases h; exact .p1 (.slS1 hx hl ht ⟨hc.1,hc.2.1⟩)
 ·cases h
theorem lenI {z z' n:Nat}{cs:List AV}{e:TypeId}(hx:Rd g a (.imm z n cs)) (ht:slT P t e z'=true):PS P g (.call { callee:=.builtin .len,args:=#[a],argTypes:=#[t] }) ty (I64 n):=.p1 (.lenImm hx.opd ht)
theorem ixI {en:En α}{L:List α}{y:α}{e:TypeId}(hx:Rd g a (.imm en.z L.length (rowc en L))) (hy:Rd g b (.lit (.int k m))) (ht:slT P t e en.z=true) (h:idx L m=some y):PS P g (.indexAddr t a b) ty (.iptr (en.cells y++rowc en (L.drop (m.toNat+1)))):=by
 rw [<- rowc_idx en h]
 obtain ⟨h0,h1,_⟩:=idx_spec h
 obtain ⟨j,rfl⟩:=Int.eq_ofNat_of_zero_le h0
 exact .p1 (.idxImm hx.opd hy.opd ht (by omega))
theorem slI {en:En α}{L r:List α}{e:TypeId}{k2:IntKind}(hx:Rd g a (.imm en.z L.length (rowc en L))) (hl:Rd g b (.lit (.int k m))) (hh:Rd g c (.lit (.int k2 n))) (ht:slT P t e en.z=true) (h:subO L m n=some r):PS P g (.slice t a (some b) (some c) none) ty (iR en r):=by
 unfold subO at h
 split at h
 ·rename_i hc
  obtain ⟨h0,h1,h2⟩:=hc
  cases h
  obtain ⟨i,rfl⟩:=Int.eq_ofNat_of_zero_le h0
  obtain ⟨j,rfl⟩:=Int.eq_ofNat_of_zero_le (show 0<=n by omega)
  have:=PS1.sliceImm (P:=P) (ty:=ty) (t:=t) (l:=i) (h:=j) (lo:=some b) (hi:=some c) hx.opd ⟨_,hl.opd⟩ ⟨_,hh.opd⟩ ht (by omega) (by omega)
  rw [rowc_drop,rowc_take] at this
  have e1:(((L.drop i).take (j - i)).length)=j - i:=by rw [List.length_take,List.length_drop]; omega
  have e2:((j:Int) - (i:Int)).toNat=j - i:=by omega
  rw [Int.toNat_natCast,e2]
  unfold iR
  rw [e1]
  exact .p1 this
 ·cases h
theorem slI0 {en:En α}{L r:List α}{e:TypeId}(hx:Rd g a (.imm en.z L.length (rowc en L))) (hh:Rd g c (.lit (.int k n))) (ht:slT P t e en.z=true) (h:subO L 0 n=some r):PS P g (.slice t a none (some c) none) ty (iR en r):=by
 unfold subO at h
 split at h
 ·rename_i hc
  obtain ⟨_,h1,h2⟩:=hc
  cases h
  obtain ⟨j,rfl⟩:=Int.eq_ofNat_of_zero_le h1
  have:=PS1.sliceImm (P:=P) (ty:=ty) (t:=t) (l:=0) (h:=j) (lo:=none) (hi:=some c) hx.opd rfl ⟨_,hh.opd⟩ ht (by omega) (by omega)
  rw [rowc_drop,rowc_take] at this
  have e1:(((L.drop 0).take (j - 0)).length)=j - 0:=by rw [List.length_take,List.length_drop]; omega
  have e2:((j:Int) - 0).toNat=j - 0:=by omega
  rw [e2]
  unfold iR
  have e3:(0:Int).toNat=0:=rfl
  rw [e3,e1]
  exact .p1 this
 ·cases h
theorem slI1 {en:En α}{L r:List α}{e:TypeId}(hx:Rd g a (.imm en.z L.length (rowc en L))) (hl:Rd g b (.lit (.int k m))) (ht:slT P t e en.z=true) (h:subO L m L.length=some r):PS P g (.slice t a (some b) none none) ty (iR en r):=by
 unfold subO at h
 split at h
 ·rename_i hc
  obtain ⟨h0,h1,h2⟩:=hc
  cases h
  obtain ⟨i,rfl⟩:=Int.eq_ofNat_of_zero_le h0
  have:=PS1.sliceImm (P:=P) (ty:=ty) (t:=t) (l:=i) (h:=L.length) (lo:=some b) (hi:=none) hx.opd ⟨_,hl.opd⟩ rfl ht (by omega) (by omega)
  rw [rowc_drop,rowc_take] at this
  have e1:(((L.drop i).take (L.length - i)).length)=L.length - i:=by rw [List.length_take,List.length_drop]; omega
  have e2:((L.length:Int) - (i:Int)).toNat=L.length - i:=by omega
  rw [Int.toNat_natCast,e2]
  unfold iR
  rw [e1]
  exact .p1 this
 ·cases h
theorem fI {s' f off:Nat}{cs:List AV}(hx:Rd g a (.iptr cs)) (hf:fldT P s' f off t=true):PS P g (.fieldAddr s' a f) ty (.iptr (cs.drop off)):=.p1 (.fieldI hx.opd hf)
theorem ldI {x:AV}{cs:List AV}(hx:Rd g a (.iptr cs)) (ht:cellT P t=true) (hc:cs.head?=some x):PS P g (.load t a) ty x:=by
 cases cs with
 | nil=>cases hc
 | cons y cs=>cases hc; exact .p1 (.loadI1 hx.opd ht)
theorem ldIN {z:Nat}{cs cs':List AV}(hx:Rd g a (.iptr cs)) (ht:aggT P t z=true) (hc:cs.take z=cs') (hz:cs'.length=z):PS P g (.load t a) ty (.agg cs'):=by
 subst hc
 exact .p1 (.loadIN hx.opd ht (by rw [List.length_take] at hz; omega))
theorem nlI {cs:List AV}(hx:Rd g a (.iptr cs)):PS P g (.nilCheck a) ty (.iptr cs):=.p1 (.nilI hx.opd)
theorem nlP {p:Place}{k:Nat}(hx:Rd g a (.ptr p k)):PS P g (.nilCheck a) ty (.ptr p k):=.p1 (.nilP hx.opd)
theorem fd {s' f off:Nat}{cs:List AV}{x:AV}(hx:Rd g a (.agg cs)) (hf:fldT P s' f off t=true) (ht:cellT P t=true) (hy:cs[off]?=some x):PS P g (.field s' a f) ty x:=.p1 (.field1 hx.opd hf ht hy)
theorem ex {p i:Nat}{cs:List AV}{x y:AV}(hx:g p=some (.tup cs)) (hy:cs[i]?=some x) (hr:refIn 1 (Place.push ⟨p,[]⟩ i) x=y):PS P g (.extract (.tmp p) i) ty y :=
 .p1 (.extr (cs:=cs.mapIdx fun i x=>refIn 1 (Place.push ⟨p,[]⟩ i) x) (by simp [opd,hx,refTop,refIn]) (by simp [hy,hr]))
theorem box {e:TypeId}{y:AV}{cs:List AV}(hx:Rd g a y) (hc:boxCells y=some cs):PS P g (.box e a) ty (.obj cs):=.p2 (.box hx.opd hc)
theorem fO {s' f off k r:Nat}{cs:List AV}(hs:g r=some (.obj cs)) (hx:Rd g a (.ptr ⟨r,[]⟩ k)) (hf:fldT P s' f off t=true) (hlt:Nat.blt (k+off) cs.length=true):PS P g (.fieldAddr s' a f) ty (.ptr ⟨r,[]⟩ (k+off)) :=
 .p1 (.fieldP hx.opd hf ⟨.obj cs,by simp [atP,hs,AV.at],0,0,cs,.inr rfl,by simpa using hlt⟩)
theorem ldO {k r:Nat}{cs:List AV}{x y:AV}(hs:g r=some (.obj cs)) (hx:Rd g a (.ptr ⟨r,[]⟩ k)) (ht:cellT P t=true) (hc:cs[k]?=some x) (hy:refIn 0 ⟨r,[k]⟩ x=y):PS P g (.load t a) ty y:=by
 subst hy
 exact .p1 (.load1 (p:=⟨r,[]⟩) hx.opd ht (by simp [atP,hs,AV.at,Place.push,AV.kids,hc]))
theorem ldON {k r z:Nat}{cs cs':List AV}(hs:g r=some (.obj cs)) (hx:Rd g a (.ptr ⟨r,[]⟩ k)) (ht:aggT P t z=true) (hk:Nat.ble (k+z) cs.length=true) (hc:(((cs.drop k).take z).mapIdx fun i x=>refIn 0 ⟨r,[k+i]⟩ x)=cs'):PS P g (.load t a) ty (.agg cs'):=by
 subst hc
 exact .p1 (.loadN (p:=⟨r,[]⟩) (n:=0) (z:=0) hx.opd ht (by simp [atP,hs,AV.at]) (.inr rfl) (Nat.le_of_ble_eq_true hk))
end O
theorem Opds.cc {x:Operand}{y:AV}{xs:List Operand}{ys:List AV}(h:Rd g x y) [hn:NRc y] (ht:Opds g xs ys):Opds g (x::xs) (y::ys):=.cons h hn.nr ht
theorem PC.go {xs:List Operand}{tys:Array TypeId}{f:FuncId}{ys:List AV}{outs:List (Option AV)}{res:AV}(hx:Opds g xs ys) (hcon:Con P f ys outs res) (hf:callT P f=true) (ho:noneB outs=true) [hr:NRc res] :
  PC P g (.call { callee:=.value (.func f),args:=xs.toArray,argTypes:=tys }) res:=.easy hcon hf hx ho hr.nr
inductive Rts (P:Program) (g:Gst):List ResultVar->List AV->Prop
 | nil:Rts P g [] []
 | f {t:Nat}{x:AV}{rs:List ResultVar}{xs:List AV}(h:g t=some x) (hf:flatB x=true) [hn:NRc x] (ht:Rts P g rs xs):Rts P g (.tmp t::rs) (x::xs)
 | c {a:Nat}{t:TypeId}{z:Nat}{cs:List AV}{rs:List ResultVar}{xs:List AV}(h:g a=some (.obj cs)) (ht:aggT P t z=true) (hz:cs.length=z) (hf:(0<z&&cs.all flatB)=true) [hn:NRl cs] (hr:Rts P g rs xs):Rts P g (.cell a t::rs) (.agg cs::xs)
theorem Rts.spec {rs:List ResultVar}{xs:List AV}(h:Rts P g rs xs):ResVs P g rs xs/\∀ x∈xs,NR x:=by
 induction h with
 | nil=>exact ⟨.nil,by simp⟩
 | @f t x rs xs h hf hn _ ih=>exact ⟨.cons (.tmp (Rd.f h hf)) ih.1,nr_cons hn.nr ih.2⟩
 | @c a t z cs rs xs h ht hz hf hn _ ih =>
  simp only [Bool.and_eq_true,decide_eq_true_eq] at hf
  refine ⟨.cons ?_ ih.1,nr_cons (.agg hn.nr) ih.2⟩
  have hx:Own.opd g (.tmp a)=some (.ptr ⟨a,[]⟩ 0):=by
   cases cs with
   | nil=>simp at hz; omega
   | cons c cs=>simp [Own.opd,h,refTop,refIn]
  have:=PS1.loadN (P:=P) (ty:=t) (p:=⟨a,[]⟩) (n:=0) (z:=0) hx ht (by simp only [atP,h,AV.at]) (.inr rfl) (show 0+z<=cs.length by omega)
  have hall:((cs.drop 0).take z).mapIdx (fun i x=>refIn 0 (Place.push ⟨a,[]⟩ (0+i)) x)=cs:=by
   rw [List.drop_zero,List.take_of_length_le (by omega)]
   exact flat_map hf.2
  rw [hall] at this
  exact .cell this
theorem Fin.rt {rs:List ResultVar}{xs:List AV}{res:AV}{outs:List (Option AV)}{n:Nat}(h:Rts P g rs xs) (he:resAV xs=res) (ho:noneB outs=true) (hl:outs.length=n):Fin P N rs n outs res .ret g :=
 ⟨.inr rfl,⟨xs,xs,g,h.spec.1,.nr h.spec.2,he.symm,fun k x hk=>absurd hk (noneB_spec ho k x)⟩,hl⟩
end
def numbered:Nat->List AV->List (Nat × AV)
 | _,[]=>[]
 | i,x::l=>(i,x)::numbered (i+1) l
theorem get_numbered:∀ (l:List AV) (i t:Nat),get (numbered i l) t=if i<=t then l[t - i]? else none
 | [],i,t=>by simp [numbered,get]
 | x::l,i,t=>by
  simp only [numbered,get]
  by_cases h:t=i
  ·subst h; simp
  ·rw [if_neg h,get_numbered l (i+1) t]
   by_cases h1:i+1<=t
   ·rw [if_pos h1,if_pos (by omega)]
    have:t - i=(t - (i+1))+1:=by omega
    rw [this,List.getElem?_cons_succ]
   ·rw [if_neg h1,if_neg (by omega)]
theorem argG_num (args:List AV):argG args=get (numbered 0 args):=funext fun t=>by rw [get_numbered]; simp [argG]
theorem Con.go {P:Program}{f:FuncId}{fn:Func}{c:Code}{args:List AV}{outs:List (Option AV)}{res:AV}{N:Rm}(hf:P.funcs[f]?=some fn) (hb:fn.body=some c) (hN:fn.ntmps=N.size) (ha:Nat.ble args.length N.size=true) (hlen:outs.length=args.length)
  (hw:W P N c (get (numbered 0 args)) (Fin P N fn.results.toList args.length outs res)):Con P f args outs res :=
 .fin hf hb hN ha hlen (by rw [argG_num]; exact hw)
end Go.Own
namespace Go.Own
open Go
set_option linter.unusedSectionVars false
variable [TB]
section
variable {P:Program}{N:Rm}{Φ Φ':Exit->Gst->Prop}{Ψ:Gst->Prop}{G G1:List (Nat × AV)}{A B c:Code}{id k:Nat}{e:Exit}{S R:Type}
theorem To.sk (h:Trim true (get G) (get G1) G1):To P N .skip G G1:=.skip h
inductive Be:Gst->List (Nat × AV)->Prop
 | rf {G:List (Nat × AV)}:Be (get G) G
 | wk {g g1:Gst}{G:List (Nat × AV)}(h:Wk g g1) (hb:Be g1 G):Be g G
theorem Be.trans {g:Gst}{G G1:List (Nat × AV)}(h:Be g G) (h1:Be (get G) G1):Be g G1:=by
 induction h with
 | rf=>exact h1
 | wk h _ ih=>exact .wk h (ih h1)
inductive Ev1 (P:Program) (N:Rm):Gst->Exit->(Exit->Gst->Prop)->Prop
 | rf {g:Gst}{e:Exit}{Φ:Exit->Gst->Prop}(h:Φ e g):Ev1 P N g e Φ
 | wk {g g1:Gst}{e:Exit}{Φ:Exit->Gst->Prop}(hw:Wk g g1) (h:Ev1 P N g1 e Φ):Ev1 P N g e Φ
theorem W.outs {g:Gst}(h:W P N c g Φ) (hΦ:∀ e g',Φ e g'->Ev1 P N g' e Φ'):W P N c g Φ':=by
 intro a w I Fs Q hS hN hQ
 refine h hS hN fun e g' a' w' hp hn=>?_
 have hev:=hΦ e g' hp
 clear hp hΦ
 revert hn
 induction hev with
 | rf h=>exact fun hn=>hQ _ _ _ _ h hn
 | wk hw _ ih =>
  intro hn
  refine ih hQ ?_
  obtain ⟨h1,h2,I',Fs',hS',hst⟩:=hn
  obtain ⟨Fs2,hS2,hsub⟩:=hS'.wk hw
  exact ⟨h1,h2,I',Fs2,hS2,hst.fr,hst.more,hst.new,fun c ⟨t,hc⟩=>hst.own c ⟨t,hsub t c hc⟩⟩
def Px (e:Exit) (Φ:Exit->Gst->Prop) (G:List (Nat × AV)):Prop:=∀ g,Be g G->Φ e g
theorem W.be {g:Gst}(h:W P N c (get G) Φ) (hb:Be g G):W P N c g Φ:=by
 induction hb with
 | rf=>exact h
 | wk hw _ ih=>exact (ih h).weaken hw
theorem WL.be {g:Gst}(h:WL P N c (get G) Φ) (hb:Be g G):WL P N c g Φ:=by
 induction hb with
 | rf=>exact h
 | wk hw _ ih=>exact (ih h).weaken hw
theorem Px.sq (h:W P N B (get G) Φ):Px .normal (thenP (fun g1=>W P N B g1 Φ) Φ') G:=fun _ hb=>thenN (h.be hb)
theorem Px.sqE (h:Px (.exit k) Φ' G):Px (.exit k) (thenP Ψ Φ') G:=fun g hb=>thenE (h g hb)
theorem Px.sqR (h:Px .ret Φ' G):Px .ret (thenP Ψ Φ') G:=fun g hb=>thenR (h g hb)
theorem Px.bk (h:Px .normal Φ G):Px .normal (inB id Φ) G:=fun g hb=>inBN (h g hb)
theorem Px.bkH (h:Px .normal Φ G):Px (.exit id) (inB id Φ) G:=fun g hb=>inBH (h g hb)
theorem Px.bkM (hk:Nat.beq k id=false) (h:Px (.exit k) Φ G):Px (.exit k) (inB id Φ) G:=fun g hb=>inBM hk (h g hb)
theorem Px.bkR (h:Px .ret Φ G):Px .ret (inB id Φ) G:=fun g hb=>inBR (h g hb)
theorem W.xi (h:Px (.exit k) Φ G):W P N (.exit k) (get G) Φ:=W.exit (h _ .rf)
theorem W.sk (h:Px .normal Φ G):W P N .skip (get G) Φ:=W.skip (h _ .rf)
theorem W.rt (h:Px .ret Φ G):W P N .ret (get G) Φ:=W.ret (h _ .rf)
theorem W.rx {id:Nat}{l:List Oper}(G1:List (Nat × AV)) (h:RunL P N l.toArray l (get G) fun g'=>Wk g' (get G1)) (hk:Px .normal Φ G1):W P N (.region id l.toArray false) (get G) Φ :=
 W.reg (fun i hi=>by obtain ⟨g',h1,h2⟩:=h i hi; exact ⟨g',h1,hk g' (.wk h2 .rf)⟩)
theorem W.tr {G1:List (Nat × AV)}(h:Trim true (get G) (get G1) G1) (hw:W P N c (get G1) Φ):W P N c (get G) Φ:=hw.weaken h.wk
theorem W.st {G:List (Nat × AV)}(G1:List (Nat × AV)) (h:W P N c (get G1) Φ) (e:G1=G:=by rfl):W P N c (get G) Φ:=by subst e; exact h
theorem W.bk (h:W P N c (get G) (inB id Φ)):W P N (.block id c) (get G) Φ:=W.block h
theorem W.jn (G1:List (Nat × AV)) (h:W P N c (get G) fun e g=>e=.normal/\Be g G1) (hk:Px .normal Φ G1):W P N c (get G) Φ :=
 h.mono fun e g ⟨he,hb⟩=>by subst he; exact hk g hb
theorem Px.jn (h:Trim true (get G) (get G1) G1):Px .normal (fun e g=>e=.normal/\Be g G1) G:=fun _ hb=>⟨rfl,hb.trans (.wk h.wk .rf)⟩
def Rd2 (G:S->List (Nat × AV)) (Ψ:R->Exit->Gst->Prop):S ⊕ R->Exit->Gst->Prop
 | .inl s,e,g=>e=.normal/\Be g (G s)
 | .inr r,e,g=>e≠.normal/\Ψ r e g
theorem WL.it {f:S->Option (S ⊕ R)}{G:S->List (Nat × AV)}{Ψ:R->Exit->Gst->Prop}(hb:∀ s o,f s=some o->W P N c (get (G s)) (Rd2 G Ψ o)) :
  ∀ (n:Nat) (s:S) (r:R),Own.iter f n s=some r->WL P N c (get (G s)) (Ψ r)
 | 0,_,_,h=>by simp [Own.iter] at h
 | n+1,s,r,h=>by
  simp only [Own.iter] at h
  cases hf:f s with
  | none=>rw [hf] at h; cases h
  | some o =>
   rw [hf] at h
   refine .step ((hb s o hf).mono fun e g' hr=>?_)
   cases o with
   | inl s' =>
    obtain ⟨rfl,hw⟩:=hr
    exact (WL.it hb n s' r h).be hw
   | inr r' =>
    cases h
    obtain ⟨hn,hw⟩:=hr
    cases e with
    | normal=>exact absurd rfl hn
    | _=>exact hw
theorem W.lp {f:S->Option (S ⊕ R)}{s:S}{r:R}(G:S->List (Nat × AV)) (Ψ:R->Exit->Gst->Prop) (h:loopM f s=some r) (hb:∀ s o,f s=some o->W P N c (get (G s)) (Rd2 G Ψ o)) (hk:∀ e g,Ψ r e g->Φ e g):W P N (.loop c) (get (G s)) Φ :=
 (W.loop (WL.it hb fuel s r h)).mono hk
theorem W.lp1 {f:S->Option (S ⊕ R)}{s:S}{r:R}(G:S->List (Nat × AV)) (id:Nat) (Gx:R->List (Nat × AV)) (h:loopM f s=some r) (hb:∀ s o,f s=some o->W P N c (get (G s)) (Rd2 G (fun r e g=>e=.exit id/\Be g (Gx r)) o)) (hk:Px (.exit id) Φ (Gx r)):W P N (.loop c) (get (G s)) Φ :=
 .lp G _ h hb fun e g ⟨he,hg⟩=>by subst he; exact hk g hg
theorem W.lp2 {R2:Type}{f:S->Option (S ⊕ (R ⊕ R2))}{s:S}{r:R ⊕ R2}(G:S->List (Nat × AV)) (id:Nat) (Gx:R->List (Nat × AV)) (Gr:R2->List (Nat × AV)) (h:loopM f s=some r)
  (hb:∀ s o,f s=some o->W P N c (get (G s)) (Rd2 G (fun (r:R ⊕ R2) e g=>match r with | .inl r=>e=.exit id/\Be g (Gx r) | .inr r=>e=.ret/\Be g (Gr r)) o))
  (hx:∀ x,r=.inl x->Px (.exit id) Φ (Gx x)) (hr:∀ x,r=.inr x->Px .ret Φ (Gr x)):W P N (.loop c) (get (G s)) Φ:=by
 refine .lp G _ h hb fun e g h=>?_
 cases r with
 | inl r=>obtain ⟨rfl,hg⟩:=h; exact hx r rfl g hg
 | inr r=>obtain ⟨rfl,hg⟩:=h; exact hr r rfl g hg
theorem Px.go {s:S}{F:S->List (Nat × AV)}{Ψ:R->Exit->Gst->Prop}(h:Trim true (get G) (get (F s)) (F s)):Px .normal (Rd2 F Ψ (.inl s)) G:=fun _ hb=>⟨rfl,hb.trans (.wk h.wk .rf)⟩
theorem Px.x1 {r:R}{F:S->List (Nat × AV)}{Gx:R->List (Nat × AV)}(h:Trim true (get G) (get (Gx r)) (Gx r)):Px (.exit id) (Rd2 F (fun r e g=>e=.exit id/\Be g (Gx r)) (.inr r)) G:=fun _ hb=>⟨by simp,rfl,hb.trans (.wk h.wk .rf)⟩
theorem Px.x2 {R2:Type}{r:R}{F:S->List (Nat × AV)}{Gx:R->List (Nat × AV)}{Gr:R2->List (Nat × AV)}(h:Trim true (get G) (get (Gx r)) (Gx r)) :
  Px (.exit id) (Rd2 F (fun (r:R ⊕ R2) e g=>match r with | .inl r=>e=.exit id/\Be g (Gx r) | .inr r=>e=.ret/\Be g (Gr r)) (.inr (.inl r))) G:=fun _ hb=>⟨by simp,rfl,hb.trans (.wk h.wk .rf)⟩
theorem Px.r2 {R2:Type}{r:R2}{F:S->List (Nat × AV)}{Gx:R->List (Nat × AV)}{Gr:R2->List (Nat × AV)}(h:Trim true (get G) (get (Gr r)) (Gr r)) :
  Px .ret (Rd2 F (fun (r:R ⊕ R2) e g=>match r with | .inl r=>e=.exit id/\Be g (Gx r) | .inr r=>e=.ret/\Be g (Gr r)) (.inr (.inr r))) G:=fun _ hb=>⟨by simp,rfl,hb.trans (.wk h.wk .rf)⟩
def FinW (P:Program) (N:Rm) (rs:List ResultVar) (n:Nat) (outs:List (Option AV)) (res:AV) (e:Exit) (g:Gst):Prop:=∃ G,Be g G/\Fin P N rs n outs res e (get G)
theorem W.fin {rs:List ResultVar}{n:Nat}{outs:List (Option AV)}{res:AV}{g:Gst}(h:W P N c g (FinW P N rs n outs res)):W P N c g (Fin P N rs n outs res):=by
 have key:∀ e g,FinW P N rs n outs res e g->Ev1 P N g e (Fin P N rs n outs res):=by
  rintro e g ⟨G,hb,hf⟩
  induction hb with
  | rf=>exact .rf hf
  | wk hw _ ih=>exact .wk hw (ih hf)
 exact W.outs h key
theorem Px.fin {rs:List ResultVar}{n:Nat}{outs:List (Option AV)}{res:AV}(h:Fin P N rs n outs res e (get G)):Px e (FinW P N rs n outs res) G:=fun _ hb=>⟨G,hb,h⟩
end
end Go.Own
namespace Go.Own
open Go
set_option linter.unusedSectionVars false
variable [TB]
section
variable {P:Program}{N:Rm}{ops:Array Oper}{AT:List (List Nat)}{g0:Gst}{K:Gst->Prop}{l:List Oper}{acc:Acc}{d i:Nat}{op:Op}{ty:TypeId}{pos:String}{after:Array Edge}{x:AV}{gd:Option (Nat × Bool)}
abbrev vis (AT:List (List Nat)) (g0:Gst) (j:Nat) (acc:Acc):Gst:=visG g0 (fun m=>(AT.getD j []).contains m) acc
def DL (P:Program) (N:Rm) (ops:Array Oper) (AT:List (List Nat)) (g0:Gst) (i:Nat) (acc:Acc) (l:List Oper) (K:Gst->Prop):Prop:=∀ U0 j,PendOk P N ops AT g0 i U0->Seg P N ops AT g0 i U0 j acc->ops.toList.drop j=l->∃ g',DRun P N ops AT i U0 g0 g'/\K g'
theorem drop_at {j j0:Nat}{o:Oper}(h:ops.toList.drop j=o::l) (hj:Nat.beq ops.size (j0+l.length+1)=true):j=j0:=by
 grind [List.length_cons,Nat.eq_of_beq_eq_true]
theorem acc_new (hn:acc.all (fun e=>!Nat.beq e.2.1 d)=true):∀ e∈acc,e.2.1≠d:=by
 intro e he h
 have:=List.all_eq_true.1 hn e he
 simp_all
theorem DL.st (j0:Nat) {r:Option AV}{o:Oper}(hd:o.dst=some d) (hs:StepOk P (vis AT g0 j0 acc) ops o r) (hj:Nat.beq ops.size (j0+l.length+1)=true) (hf:g0 d=none) (hn:acc.all (fun e=>!Nat.beq e.2.1 d)=true) (hN:N.ok d=true)
  (hk:DL P N ops AT g0 i ((j0,d,r)::acc) l K):DL P N ops AT g0 i acc (o::l) K:=by
 intro U0 j hP hseg hdrop
 have:=drop_at hdrop hj
 subst this
 obtain ⟨h1,h2⟩:=drop_cons hdrop
 exact hk U0 (j+1) hP (.step hseg h1 hd hf (acc_new hn) hN hs) h2
theorem DL.v (j0:Nat) (hp:PS P (vis AT g0 j0 acc) op ty x) (hj:Nat.beq ops.size (j0+l.length+1)=true) (hf:g0 d=none) (hn:acc.all (fun e=>!Nat.beq e.2.1 d)=true) (hN:N.ok d=true) (hg:Gd (vis AT g0 j0 acc) ops gd)
  (hk:DL P N ops AT g0 i ((j0,d,some x)::acc) l K):DL P N ops AT g0 i acc (⟨some d,op,ty,pos,after,gd⟩::l) K :=
 .st j0 (r:=some x) rfl (.inl ⟨hg.wanted,.inl hp⟩) hj hf hn hN hk
theorem DL.c (j0:Nat) (hp:PC P (vis AT g0 j0 acc) op x) (hj:Nat.beq ops.size (j0+l.length+1)=true) (hf:g0 d=none) (hn:acc.all (fun e=>!Nat.beq e.2.1 d)=true) (hN:N.ok d=true) (hg:Gd (vis AT g0 j0 acc) ops gd)
  (hk:DL P N ops AT g0 i ((j0,d,some x)::acc) l K):DL P N ops AT g0 i acc (⟨some d,op,ty,pos,after,gd⟩::l) K :=
 .st j0 (r:=some x) rfl (.inl ⟨hg.wanted,.inr hp⟩) hj hf hn hN hk
theorem DL.ps (j0:Nat) {j' t':Nat}{b c:Bool}(h:(ops[j']?).bind (·.dst)=some t') (hg:vis AT g0 j0 acc t'=some (BB c)) (hb:c=!b) (hj:Nat.beq ops.size (j0+l.length+1)=true) (hf:g0 d=none) (hn:acc.all (fun e=>!Nat.beq e.2.1 d)=true) (hN:N.ok d=true)
  (hk:DL P N ops AT g0 i ((j0,d,some (.tup []))::acc) l K):DL P N ops AT g0 i acc (⟨some d,op,ty,pos,after,some (j',b)⟩::l) K :=
 .st j0 (r:=some (.tup [])) rfl (.inr (.inl ⟨⟨t',h,.inl ⟨c,hg,by subst hb; cases b <;> rfl⟩⟩,rfl⟩)) hj hf hn hN hk
theorem DL.pu (j0:Nat) {j' t':Nat}{b:Bool}(h:(ops[j']?).bind (·.dst)=some t') (hg:vis AT g0 j0 acc t'=some (.tup [])) (hj:Nat.beq ops.size (j0+l.length+1)=true) (hf:g0 d=none) (hn:acc.all (fun e=>!Nat.beq e.2.1 d)=true) (hN:N.ok d=true)
  (hk:DL P N ops AT g0 i ((j0,d,some (.tup []))::acc) l K):DL P N ops AT g0 i acc (⟨some d,op,ty,pos,after,some (j',b)⟩::l) K :=
 .st j0 (r:=some (.tup [])) rfl (.inr (.inl ⟨⟨t',h,.inr ⟨hg,rfl⟩⟩,rfl⟩)) hj hf hn hN hk
def npB (G:List (Nat × AV)):Bool:=G.all fun p=>match p.2 with | .pend ..=>false | _=>true
theorem npB_spec {G:List (Nat × AV)}(h:npB G=true):∀ t z q n m new,get G t≠some (.pend z q n m new):=by
 induction G with
 | nil=>intro t z q n m new hx; cases hx
 | cons p G ih =>
  grind [npB,get]
def ndz:List Place->Bool
 | []=>true
 | p::l=>l.all (fun q=>!(Nat.beq p.root q.root&&decide (p.path=q.path)))&&ndz l
omit [TB] in
theorem ndz_spec:∀ {l:List Place},ndz l=true->l.Nodup
 | [],_=>List.nodup_nil
 | p::l,h=>by
  simp only [ndz,Bool.and_eq_true,List.all_eq_true] at h
  refine List.nodup_cons.2 ⟨fun hm=>?_,ndz_spec h.2⟩
  have:=h.1 p hm
  simp at this
theorem DL.fin {G G1:List (Nat × AV)}(hz:ndz (acc.filterMap pendPlace)=true) (hp0:npB G=true) (hi:Nat.ble i ops.size=true) (h:Trim true (visG (get G) (fun _=>true) acc) (get G1) G1):DL P N ops AT (get G) i acc [] fun g'=>Wk g' (get G1):=by
 intro U0 j hP hseg hdrop
 have hj:j=ops.size:=by
  have h1:ops.size<=j:=by
   have:=congrArg List.length hdrop
   rw [List.length_drop,List.length_nil,Array.length_toList] at this
   omega
  have h3:j<=ops.size:=by
   cases hseg with
   | nil=>exact Nat.le_of_ble_eq_true hi
   | step _ ho=>have:=(Array.getElem?_eq_some_iff.1 ho).1; omega
  omega
 subst hj
 exact ⟨_,.fin hseg (ndz_spec hz) (npB_spec hp0),h.wk⟩
theorem DRun.bar0 {g g1 g':Gst}{i j:Nat}{U0:Acc}{o:Oper}(hP:PendOk P N ops AT g i U0) (hs:Seg P N ops AT g i U0 j acc) (hpd:(acc.filterMap pendPlace).Nodup) (hp0:∀ t z q n m new,g t≠some (.pend z q n m new)) (ho:ops[j]?=some o) (hw:Wanted (visG g (fun _=>true) acc) ops o true)
  (he:EO P N (visG g (fun _=>true) acc) o g1) (ha:(List.range j).all (fun k=>(AT.getD j []).contains k)=true) (hb:(List.range ops.size).all (fun k=>decide (k<=j)||(AT.getD k []).contains j)=true) (hr:DRun P N ops AT (j+1) [] g1 g'):DRun P N ops AT i U0 g g':=by
 have hA:∀ e∈acc,(AT.getD j []).contains e.1=true:=fun e h=>List.all_eq_true.1 ha e.1 (List.mem_range.2 ((hs.le hP).2 e h))
 have e:visG g (fun m=>(AT.getD j []).contains m) acc=visG g (fun _=>true) acc:=funext fun t=>visG_congr fun e h _=>hA e h
 have hU:[]=acc.filter fun e=>!(AT.getD j []).contains e.1:=by
  grind [List.filter_eq_nil_iff]
 exact .bar (rs:=rsV []) hs hpd hp0 ho (by rw [e]; exact hw) (by rw [e]; exact he.eff.v) (fun p hp=>by simp [rsV] at hp) hU (by simp) (by simp) (by simp) hb hr
theorem W.rd {id:Nat}{l:List Oper}{G:List (Nat × AV)}{Φ:Exit->Gst->Prop}(AT:List (List Nat)) (G1:List (Nat × AV)) (hm:P.follows .mixedOrders=true) (hA:ancOk l.toArray AT=true)
  (h:DL P N l.toArray AT (get G) 0 [] l fun g'=>Wk g' (get G1)) (hk:Px .normal Φ G1):W P N (.region id l.toArray true) (get G) Φ:=by
 obtain ⟨g',h1,h2⟩:=h [] 0 .nil .nil (by simp)
 exact (Ev.draw hm hA h1).w (hk g' (.wk h2 .rf))
end
end Go.Own
namespace Go.Own
open Go
set_option linter.unusedSectionVars false
variable [TB]
variable {α:Type}
section
variable {P:Program}{N:Rm}{ops:Array Oper}{g g2:Gst}{K:Gst->Prop}{l:List Oper}{d r:Nat}{ty t t2:TypeId}{pos:String}{after:Array Edge}{a b c:Operand}{k k':IntKind}{m n:Int}{s u:ByteArray}
namespace O
theorem al {e:TypeId}{z:Value}{cs:List AV}(hz:(P.info? e).bind (·.zero)=some z) (h1:z.cells.toList.all Value.oneCell'=true) (hc:z.cells.toList.map ofCell=cs):PS P g (.alloc e) ty (.obj cs):=by
 subst hc; exact .p2 (.alloc hz (by rw [<- Array.all_toList]; exact h1))
theorem bu {t:TypeId}{parts:Array (Nat × Operand)}{pl:List (Nat × Nat)}{zv:Value}{ps:List (Nat × List AV)}{cs:List AV}(ht:structT P t pl=true) (hz:(P.info? t).bind (·.zero)=some zv) (h1:zv.cells.toList.all Value.oneCell'=true)
  (hp:partsAV g parts.toList=some ps) (hc:fillAV (fun i=>pl[i]?) (zv.cells.toList.map ofCell) ps=some cs):PS P g (.build t parts) ty (.agg cs):=.p3 (.build ht hz (by rw [<- Array.all_toList]; exact h1) hp hc)
end O
inductive SK (g g2:Gst):AV->Prop
 | n {x:AV}(h:NR x):SK g g2 x
 | p {r k:Nat}{cs cs2:List AV}(h:g r=some (.obj cs)) (hk:k<cs.length) (h2:g2 r=some (.obj cs2)) (hk2:k<cs2.length):SK g g2 (.ptr ⟨r,[]⟩ k)
 | r {z n N N2 q:Nat}{cs cs2:List AV}(h:g q=some (.own z N cs)) (hn:n<=N) (h2:g2 q=some (.own z N2 cs2)) (hn2:n<=N2):SK g g2 (.brw z ⟨q,[]⟩ n)
theorem refOk_obj {r k:Nat}{cs:List AV}(h:g r=some (.obj cs)) (hk:k<cs.length):RefOk g (.ptr ⟨r,[]⟩ k):=⟨.obj cs,by simp [atP,h,AV.at],0,0,cs,.inr rfl,hk⟩
theorem refOk_own {z n N q:Nat}{cs:List AV}(h:g q=some (.own z N cs)) (hn:n<=N):RefOk g (.brw z ⟨q,[]⟩ n):=.inl ⟨N,cs,by simp [atP,h,AV.at],hn⟩
theorem SK.rk {x:AV}(h:SK g g2 x):RK g2 x:=by
 cases h with
 | n h=>exact .nr h
 | p _ _ h2 hk2=>exact .ref rfl (refOk_obj h2 hk2)
 | r _ _ h2 hn2=>exact .ref rfl (refOk_own h2 hn2)
theorem SK.rkp {x:AV}{r0 k0 m0:Nat}(h:SK g g2 x):RKp (fun r=>RefOk g r/\Clear ⟨r0,[]⟩ k0 m0 r/\RefOk g2 r) x:=by
 cases h with
 | n h=>exact .nr h
 | p h hk h2 hk2 =>
  refine .ref rfl ⟨refOk_obj h hk,?_,refOk_obj h2 hk2⟩
  intro q hq _ j r' e
  grind [refPlace]
 | r h hk h2 hk2 =>
  refine .ref rfl ⟨refOk_own h hk,?_,refOk_own h2 hk2⟩
  intro q hq _ j r' e
  grind [refPlace]
theorem SK.np {x:AV}(h:SK g g2 x):∀ z p n m new,x≠.pend z p n m new:=by
 rintro z p n m new rfl
 cases h with
 | n h=>cases h
inductive TrS (g g2:Gst) (r:Nat) (cs2:List AV):List (Nat × AV)->Prop
 | nil:TrS g g2 r cs2 []
 | n {s:Nat}{x:AV}{l:List (Nat × AV)}(hne:Nat.beq s r=false) (h:g s=some x) [hn:NRc x] (t:TrS g g2 r cs2 l):TrS g g2 r cs2 ((s,x)::l)
 | p {s q k:Nat}{l:List (Nat × AV)}{cs ct:List AV}(hne:Nat.beq s r=false) (h:g s=some (.ptr ⟨q,[]⟩ k)) (h1:g q=some (.obj cs)) (hk:Nat.blt k cs.length=true) (h2:g2 q=some (.obj ct)) (hk2:Nat.blt k ct.length=true) (t:TrS g g2 r cs2 l):TrS g g2 r cs2 ((s,.ptr ⟨q,[]⟩ k)::l)
 | w {α:Type}{s q:Nat}{en:En α}{L:List α}{l:List (Nat × AV)}(hne:Nat.beq s r=false) (h:g s=some (.brw en.z ⟨q,[]⟩ L.length)) (h1:g q=some (oR en L)) (h2:g2 q=some (oR en L)) (t:TrS g g2 r cs2 l):TrS g g2 r cs2 ((s,.brw en.z ⟨q,[]⟩ L.length)::l)
 | b {l:List (Nat × AV)}{x:AV}(e:x=.obj cs2) [hn:NRl cs2] (t:TrS g g2 r cs2 l):TrS g g2 r cs2 ((r,x)::l)
theorem TrS.spec {cs2:List AV}{l:List (Nat × AV)}(h:TrS g g2 r cs2 l):∀ t x,get l t=some x->(t≠r/\g t=some x/\SK g g2 x)\/(t=r/\x=.obj cs2/\NR x):=by
 induction h with
 | nil=>intro t x hx; cases hx
 | @n s x l hne h hn _ ih =>
  intro t y hy; simp only [get] at hy
  split at hy
  ·rename_i e; subst e; cases hy; exact .inl ⟨Nat.ne_of_beq_eq_false hne,h,.n hn.nr⟩
  ·exact ih t y hy
 | @p s q k l cs ct hne h h1 hk h2 hk2 _ ih =>
  intro t y hy; simp only [get] at hy
  split at hy
  ·rename_i e; subst e; cases hy; exact .inl ⟨Nat.ne_of_beq_eq_false hne,h,.p h1 (by simpa using hk) h2 (by simpa using hk2)⟩
  ·exact ih t y hy
 | @w α s q en L l hne h h1 h2 _ ih =>
  intro t y hy; simp only [get] at hy
  split at hy
  ·rename_i e; subst e; cases hy; exact .inl ⟨Nat.ne_of_beq_eq_false hne,h,.r h1 (Nat.le_refl _) h2 (Nat.le_refl _)⟩
  ·exact ih t y hy
 | @b l x e hn _ ih =>
  intro t y hy; simp only [get] at hy
  split at hy
  ·rename_i e'; subst e'; cases hy; subst e; exact .inr ⟨rfl,rfl,.obj hn.nr⟩
  ·exact ih t y hy
theorem EO.box {o:Oper}{k0:Nat}{cs cs' cs2:List AV}{y:AV}{G2:List (Nat × AV)}(ho:o.op=.store t a b) (hd:o.dst=none) (hs:g r=some (.obj cs)) (ha:Rd g a (.ptr ⟨r,[]⟩ k0)) (hb:Rd g b y) (hn:NR y) (hc:cellsP y=some cs') (hz:sizeT P t cs'.length=true)
  (hk:k0+cs'.length<=cs.length) (h0:0<cs'.length) (he:splice cs k0 cs'=cs2) [hno:NRl cs] (hr:get G2 r≠none) (hG:TrS g (get G2) r cs2 G2):EO P N g o (get G2):=by
 subst he
 have hroot:g r≠none:=by rw [hs]; simp
 refine .store ho hd ha.opd hb.opd (.nr (by simpa using hn)) .refl hc hz (p:=⟨r,[]⟩) (nd:=.obj cs) (z:=0) (n:=0) (by simp [atP,hs,AV.at]) (.inr rfl) hk h0 (fun t x hx=>?_) (fun t x hx y hy=>?_) (fun t z q n m new hx=>?_) hr
 ·rcases hG.spec t x hx with ⟨h1,h2,_⟩ | ⟨h1,h2,_⟩
  all_goals grind [setP,AV.setAt,AV.splice]
 ·rcases hG.spec t x hx with ⟨h1,h2,h3⟩ | ⟨h1,h2,h3⟩
  ·rw [h2] at hy
   cases hy
   exact h3.rkp
  ·subst h1
   rw [hs] at hy
   cases hy
   exact .nr (.obj hno.nr)
 ·rcases hG.spec t _ hx with ⟨_,_,h3⟩ | ⟨_,h2,_⟩
  ·exact h3.np _ _ _ _ _ rfl
  grind
theorem Trim.q {bb:Bool}{sl q k0:Nat}{cs:List AV}{lG:List (Nat × AV)}(h:g sl=some (.ptr ⟨q,[]⟩ k0)) (h2:g2 q=some (.obj cs)) (hk:Nat.blt k0 cs.length=true) (tt:Trim bb g g2 lG):Trim bb g g2 ((sl,.ptr ⟨q,[]⟩ k0)::lG) :=
 .r h (.ref rfl (refOk_obj h2 (by simpa using hk))) (by simp) tt
theorem RunL.ef {o:Oper}{G2:List (Nat × AV)}(hg:o.guard=none) (he:EO P N g o (get G2)) (hk:RunL P N ops l (get G2) K):RunL P N ops (o::l) g K:=by
 intro i hi
 obtain ⟨h1,h2⟩:=drop_cons hi
 obtain ⟨g',hr,hK⟩:=hk (i+1) h2
 refine ⟨g',.eff h1 ?_ he hr,hK⟩
 grind [Wanted]
theorem RunL.sO {k0:Nat}{cs cs' cs2:List AV}{y:AV}{G2:List (Nat × AV)}(hs:g r=some (.obj cs)) (ha:Rd g a (.ptr ⟨r,[]⟩ k0)) (hb:Rd g b y) [hn:NRc y] (hc:cellsP y=some cs') (hz:sizeT P t cs'.length=true)
  (hk:Nat.ble (k0+cs'.length) cs.length=true) (h0:Nat.blt 0 cs'.length=true) (he:splice cs k0 cs'=cs2) [hno:NRl cs] (hr:(get G2 r).isSome=true) (hG:TrS g (get G2) r cs2 G2) (hkk:RunL P N ops l (get G2) K):RunL P N ops (⟨none,.store t a b,ty,pos,after,none⟩::l) g K :=
 .ef rfl (.box rfl rfl hs ha hb hn.nr hc hz (Nat.le_of_ble_eq_true hk) (by simpa using h0) he (by intro e; rw [e] at hr; cases hr) hG) hkk
variable {AT:List (List Nat)}{acc:Acc}{i:Nat}
theorem DL.bar (j0:Nat) {G G2:List (Nat × AV)}{o:Oper}(he:EO P N (visG (get G) (fun _=>true) acc) o (get G2)) (hg:o.guard=none) (hz:acc.filterMap pendPlace=[]) (hp0:npB G=true) (hj:Nat.beq ops.size (j0+l.length+1)=true)
  (ha:(List.range j0).all (fun k=>(AT.getD j0 []).contains k)=true) (hb:(List.range ops.size).all (fun k=>Nat.ble k j0||(AT.getD k []).contains j0)=true) (hk:DL P N ops AT (get G2) (j0+1) [] l K):DL P N ops AT (get G) i acc (o::l) K:=by
 intro U0 j hP hseg hdrop
 have:=drop_at hdrop hj
 subst this
 obtain ⟨h1,h2⟩:=drop_cons hdrop
 obtain ⟨g',hr,hK⟩:=hk [] (j+1) .nil .nil h2
 refine ⟨g',.bar0 hP hseg (by rw [hz]; exact List.nodup_nil) (npB_spec hp0) h1 ?_ he ha ?_ hr,hK⟩
 ·grind [Wanted]
 simp_all
theorem DL.sO (j0:Nat) {G:List (Nat × AV)}{k0:Nat}{cs cs' cs2:List AV}{y:AV}{G2:List (Nat × AV)}(hj:Nat.beq ops.size (j0+l.length+1)=true) (ha0:(List.range j0).all (fun k=>(AT.getD j0 []).contains k)=true) (hb0:(List.range ops.size).all (fun k=>Nat.ble k j0||(AT.getD k []).contains j0)=true) (hz0:acc.filterMap pendPlace=[]) (hp0:npB G=true)
  (hs:visG (get G) (fun _=>true) acc r=some (.obj cs)) (ha:Rd (visG (get G) (fun _=>true) acc) a (.ptr ⟨r,[]⟩ k0)) (hb:Rd (visG (get G) (fun _=>true) acc) b y) [hn:NRc y] (hc:cellsP y=some cs') (hz:sizeT P t cs'.length=true)
  (hk:Nat.ble (k0+cs'.length) cs.length=true) (h0:Nat.blt 0 cs'.length=true) (he:splice cs k0 cs'=cs2) [hno:NRl cs] (hr:(get G2 r).isSome=true) (hG:TrS (visG (get G) (fun _=>true) acc) (get G2) r cs2 G2) (hkk:DL P N ops AT (get G2) (j0+1) [] l K):DL P N ops AT (get G) i acc (⟨none,.store t a b,ty,pos,after,none⟩::l) K :=
 .bar j0 (.box rfl rfl hs ha hb hn.nr hc hz (Nat.le_of_ble_eq_true hk) (by simpa using h0) he (by intro e; rw [e] at hr; cases hr) hG) rfl hz0 hp0 hj ha0 hb0 hkk
end
end Go.Own
namespace Go.Own
open Go
set_option linter.unusedSectionVars false
variable [TB]
variable {α β:Type}
def mkO (m:Int) (z:α):Option (List α):=if 0<=m/\m<=lim then some (List.replicate m.toNat z) else none
def appO (l m:List α):Option (List α):=if l.length+m.length<=lim then some (l++m) else none
class Flat (e:En α):Prop where fl:∀ a,(e.cells a).all flatB=true
instance:Flat eI:=⟨fun _=>rfl⟩
instance:Flat eU:=⟨fun _=>rfl⟩
instance:Flat eB:=⟨fun _=>rfl⟩
instance:Flat eS:=⟨fun _=>rfl⟩
instance {e:En α}:Flat (eM e):=⟨fun _=>rfl⟩
theorem rowc_flat (e:En α) [h:Flat e] (l:List α):(rowc e l).all flatB=true:=by
 refine List.all_eq_true.2 fun x hx=>?_
 obtain ⟨a,_,ha⟩:=List.mem_flatMap.1 hx
 exact List.all_eq_true.1 (h.fl a) x ha
theorem oR_app (e:En α) (l m:List α):(.own e.z (l.length+m.length) (rowc e l++rowc e m):AV)=oR e (l++m):=by
 grind [rowc_app]
theorem rowc_take_all (e:En α) (l:List α):(rowc e l).take (l.length * e.z)=rowc e l:=by grind [rowc_len]
theorem rowc_map_U:∀ L:List Int,rowc eU L=L.map fun b=>.lit (.int .u8 b)
 | []=>rfl
 | x::L=>by
  have:rowc eU (x::L)=U8 x::rowc eU L:=rfl
  rw [this,List.map_cons,rowc_map_U L]
section
variable {P:Program}{N:Rm}{ops:Array Oper}{g g1 g2:Gst}{K:Gst->Prop}{l:List Oper}{d r:Nat}{ty t t2:TypeId}{pos:String}{after:Array Edge}{gd:Option (Nat × Bool)}{a b c:Operand}{k k':IntKind}{m n:Int}{s u:ByteArray}{p q:Place}
namespace O
theorem bs {e nn:Nat}{parts:Array (Nat × Operand)}{ys:List AV}(en:En α) (L:List α) (ht:slT P t e en.z=true) (hx:opds g (parts.toList.map (·.2))=some ys) (hc:boxAll ys=some (rowc en L)) (hz:ys.all (fun y=>match boxCells y with | some c=>Nat.beq c.length en.z | none=>false)=true)
  (hp:parts.toList=(parts.toList.map (·.2)).mapIdx (fun i x=>(i,x))) (hn:(parts.toList.map (·.2)).length=nn) (hl:L.length=nn) (hzero:zeroT P e en.z=true) (hb:Nat.ble (nn * en.z) 16777216=true) (hb2:Nat.ble nn 16777216=true):PS P g (.buildSlice t nn parts) ty (oR en L):=by
 subst hn
 have:=PS2.buildSlice (P:=P) (ty:=ty) ht hp hx (fun y hy=>by
  grind [Nat.eq_of_beq_eq_true]) hc (Nat.le_of_ble_eq_true hb) (Nat.le_of_ble_eq_true hb2) (.inr (zeroT_spec hzero))
 unfold oR
 rw [hl]
 exact .p2 this
theorem lenO {z z' n:Nat}{e:TypeId}(hx:Rd g a (.brw z p n)) (ht:slT P t e z'=true):PS P g (.call { callee:=.builtin .len,args:=#[a],argTypes:=#[t] }) ty (I64 n):=.p1 (.lenBrw hx.opd ht)
theorem ixO {en:En α}{L:List α}{y:α}{e:TypeId}(hp:atP g p=some (oR en L)) (hx:Rd g a (.brw en.z p L.length)) (hi:Rd g b (.lit (.int k m))) (ht:slT P t e en.z=true) (h:idx L m=some y) (hz:Nat.blt 0 en.z=true):PS P g (.indexAddr t a b) ty (.ptr p (m.toNat * en.z+0)):=by
 obtain ⟨h0,h1,_⟩:=idx_spec h
 obtain ⟨j,rfl⟩:=Int.eq_ofNat_of_zero_le h0
 have hz':0<en.z:=by simpa using hz
 have hj:j<L.length:=by omega
 refine .p1 (.idxBrw hx.opd hi.opd ht hj ⟨_,hp,_,_,_,.inl rfl,?_⟩)
 simp_all [rowc_len]
theorem row_lt {en:En α}{L:List α}{y:α}{o:Nat}(h:idx L m=some y) (ho:o<en.z):m.toNat * en.z+o<(rowc en L).length:=by
 obtain ⟨h0,h1,_⟩:=idx_spec h
 rw [rowc_len]
 have h2:m.toNat+1<=L.length:=by omega
 calc m.toNat * en.z+o<m.toNat * en.z+en.z:=by omega
  _=(m.toNat+1) * en.z:=by rw [Nat.add_mul]; omega
  _<=L.length * en.z:=Nat.mul_le_mul_right _ h2
theorem fE {en:En α}{L:List α}{y:α}{s' f off o o':Nat}(hp:atP g p=some (oR en L)) (hx:Rd g a (.ptr p (m.toNat * en.z+o))) (hf:fldT P s' f off t=true) (h:idx L m=some y) (ho:o+off=o') (hlt:Nat.blt o' en.z=true):PS P g (.fieldAddr s' a f) ty (.ptr p (m.toNat * en.z+o')):=by
 subst ho
 rw [<- Nat.add_assoc]
 refine .p1 (.fieldP hx.opd hf ⟨_,hp,_,_,_,.inl rfl,?_⟩)
 simp_all [Nat.add_assoc,row_lt]
theorem atP_el {en:En α}{L:List α}{y:α}{o:Nat}{x:AV}(hp:atP g p=some (oR en L)) (h:idx L m=some y) (hc:(en.cells y)[o]?=some x):atP g (p.push (m.toNat * en.z+o))=some x:=by
 rw [atP_push,hp]
 exact rowc_at en h hc
theorem ldE {en:En α}{L:List α}{y:α}{o:Nat}{x x':AV}(hp:atP g p=some (oR en L)) (hx:Rd g a (.ptr p (m.toNat * en.z+o))) (ht:cellT P t=true) (h:idx L m=some y) (hc:(en.cells y)[o]?=some x) (hr:refIn 0 (p.push (m.toNat * en.z+o)) x=x'):PS P g (.load t a) ty x':=by
 subst hr
 exact .p1 (.load1 hx.opd ht (atP_el hp h hc))
theorem ldEN {en:En α}{L:List α}{y:α}{o z:Nat}{cs':List AV}(hp:atP g p=some (oR en L)) (hx:Rd g a (.ptr p (m.toNat * en.z+o))) (ht:aggT P t z=true) (h:idx L m=some y) (hz:Nat.ble (o+z) en.z=true)
  (hc:(((en.cells y).drop o).take z).mapIdx (fun i x=>refIn 0 (p.push (m.toNat * en.z+o+i)) x)=cs'):PS P g (.load t a) ty (.agg cs'):=by
 have hz':=Nat.le_of_ble_eq_true hz
 have hdrop:((rowc en L).drop (m.toNat * en.z+o)).take z=((en.cells y).drop o).take z:=by
  rw [<- List.drop_drop,rowc_idx en h,List.drop_append_of_le_length (by rw [en.len]; omega),List.take_append_of_le_length (by rw [List.length_drop,en.len]; omega)]
 subst hc
 rw [<- hdrop]
 refine .p1 (.loadN hx.opd ht hp (.inl rfl) ?_)
 obtain ⟨h0,h1,_⟩:=idx_spec h
 rw [rowc_len]
 have h2:m.toNat+1<=L.length:=by omega
 calc m.toNat * en.z+o+z<=m.toNat * en.z+en.z:=by omega
  _=(m.toNat+1) * en.z:=by rw [Nat.add_mul]; omega
  _<=L.length * en.z:=Nat.mul_le_mul_right _ h2
end O
class NoPd (g:Gst):Prop where np:∀ t z q n m new,g t≠some (.pend z q n m new)
class NPc (x:AV):Prop where np:∀ z q n m new,x≠.pend z q n m new
instance {x:AV} [h:NRc x]:NPc x:=⟨by rintro z q n m new rfl; cases h.nr⟩
instance {p:Place}{k:Nat}:NPc (.ptr p k):=⟨by simp⟩
instance {p:Place}{z n:Nat}:NPc (.brw z p n):=⟨by simp⟩
instance {p:Place}{z lo n:Nat}:NPc (.sub z p lo n):=⟨by simp⟩
instance {cs:List AV}:NPc (.agg cs):=⟨by simp⟩
instance {cs:List AV}:NPc (.tup cs):=⟨by simp⟩
instance {cs:List AV}:NPc (.obj cs):=⟨by simp⟩
instance {g:Gst}{d:Nat}{x:AV} [h:NoPd g] [hx:NPc x]:NoPd (upd g d x):=⟨fun t z q n m new e=>by
 unfold upd at e
 split at e
 ·cases e; exact hx.np _ _ _ _ _ rfl
 ·exact h.np _ _ _ _ _ _ e⟩
instance:NoPd (get []):=⟨fun _ _ _ _ _ _ e=>by cases e⟩
instance {t:Nat}{x:AV}{G:List (Nat × AV)} [hx:NPc x] [h:NoPd (get G)]:NoPd (get ((t,x)::G)):=⟨fun s z q n m new e=>by
 simp only [get] at e
 split at e
 ·cases e; exact hx.np _ _ _ _ _ rfl
 ·exact h.np _ _ _ _ _ _ e⟩
class NPa (acc:Acc):Prop where np:∀ e∈acc,∀ z q n m new,e.2.2≠some (.pend z q n m new)
instance:NPa []:=⟨by simp⟩
instance {j d:Nat}{x:AV}{acc:Acc} [hx:NPc x] [h:NPa acc]:NPa ((j,d,some x)::acc):=⟨fun e he z q n m new hh=>by
 rcases List.mem_cons.1 he with rfl | he
 ·exact hx.np z q n m new (Option.some.inj hh)
 ·exact h.np e he z q n m new hh⟩
instance {G:List (Nat × AV)}{A:Nat->Bool}{acc:Acc} [hg:NoPd (get G)] [h:NPa acc]:NoPd (visG (get G) A acc):=⟨fun t z q n m new e=>by
 rcases visG_some e with ⟨e',he,_,_,h2⟩ | ⟨_,h2⟩
 ·exact h.np e' he _ _ _ _ _ h2
 ·exact hg.np _ _ _ _ _ _ h2⟩
theorem app_bound {L M:List α}{r:List α}{b:Nat}(h:appO L M=some r) (hb:Nat.ble b 128=true):L.length+M.length<=4611686018427387904/\(L.length+M.length) * b<=140737488355328/\r=L++M:=by
 unfold appO at h
 split at h
 ·rename_i hl
  have hb':=Nat.le_of_ble_eq_true hb
  have hlim:lim=1099511627776:=rfl
  refine ⟨by omega,?_,(Option.some.inj h).symm⟩
  calc (L.length+M.length) * b<=1099511627776 * 128:=Nat.mul_le_mul hl hb'
   _=140737488355328:=by decide
 ·cases h
inductive Sr (g:Gst) (en:En α):AV->List α->Prop
 | i {M:List α}:Sr g en (.imm en.z M.length (rowc en M)) M
 | n:Sr g en .nils []
 | o {q:Place}{M:List α}(hq:atP g q=some (oR en M)) (hf:(rowc en M).all flatB=true):Sr g en (.brw en.z q M.length) M
theorem Sr.src {en:En α}{y:AV}{M:List α}(h:Sr g en y M):Src g y en.z M.length (rowc en M):=by
 cases h with
 | i=>exact .imm
 | n=>exact .nils
 | o hq hf =>
  have:=Src.brw (g:=g) (m:=M.length) hq (Nat.le_refl _)
  simp_all [rowc_take_all,flat_map]
theorem Sr.flat (en:En α) [Flat en] {q:Place}{M:List α}(hq:atP g q=some (oR en M)):Sr g en (.brw en.z q M.length) M:=.o hq (rowc_flat en M)
namespace O
theorem ap {en:En α}{L M r:List α}{y:AV}{e b0:Nat}(hs:Rd g a (.brw en.z p L.length)) (hp:atP g p=some (oR en L)) (hx:Rd g b y) (hm:Sr g en y M) (ht:appT P t e en.z b0=true) (hb:Nat.ble b0 128=true) (h:appO L M=some r) [hno:NoPd g] :
  PS P g (.call { callee:=.builtin .append,args:=#[a,b],argTypes:=#[t,t] }) ty (.pend en.z p L.length M.length (rowc en M)):=by
 obtain ⟨h1,h2,_⟩:=app_bound h hb
 exact .pa (.grow hs.opd (.inl ⟨_,hp⟩) (fun t z' n' m' new' e=>hno.np _ _ _ _ _ _ e) hx.opd hm.src ht h1 h2)
theorem apN {en:En α}{M r:List α}{y:AV}{e b0:Nat}(hs:Rd g a .nils) (hx:Rd g b y) (hm:Sr g en y M) (ht:appT P t e en.z b0=true) (hb:Nat.ble b0 128=true) (h:appO [] M=some r) :
  PS P g (.call { callee:=.builtin .append,args:=#[a,b],argTypes:=#[t,t] }) ty (oR en M):=by
 obtain ⟨h1,h2,_⟩:=app_bound h hb
 simp only [List.length_nil,Nat.zero_add] at h1 h2
 exact .pa (.nil hs.opd hx.opd hm.src ht h1 h2)
end O
inductive TrK (ex:List Nat) (g g2:Gst):List (Nat × AV)->Prop
 | nil:TrK ex g g2 []
 | n {s:Nat}{x:AV}{l:List (Nat × AV)}(hne:ex.elem s=false) (h:g s=some x) [hn:NRc x] (t:TrK ex g g2 l):TrK ex g g2 ((s,x)::l)
 | p {s q k:Nat}{l:List (Nat × AV)}{ct:List AV}(hne:ex.elem s=false) (h:g s=some (.ptr ⟨q,[]⟩ k)) (h2:g2 q=some (.obj ct)) (hk2:Nat.blt k ct.length=true) (t:TrK ex g g2 l):TrK ex g g2 ((s,.ptr ⟨q,[]⟩ k)::l)
 | w {α:Type}{s q:Nat}{en:En α}{L:List α}{l:List (Nat × AV)}(hne:ex.elem s=false) (h:g s=some (.brw en.z ⟨q,[]⟩ L.length)) (h2:g2 q=some (oR en L)) (t:TrK ex g g2 l):TrK ex g g2 ((s,.brw en.z ⟨q,[]⟩ L.length)::l)
theorem TrK.spec {ex:List Nat}{l:List (Nat × AV)}(h:TrK ex g g2 l):∀ t x,get l t=some x->ex.elem t=false/\g t=some x/\RK g2 x/\∀ z p n m new,x≠.pend z p n m new:=by
 induction h with
 | nil=>intro t x hx; cases hx
 | @n s x l hne h hn _ ih =>
  intro t y hy; simp only [get] at hy
  split at hy
  ·rename_i e; subst e; cases hy; exact ⟨hne,h,.nr hn.nr,by rintro z p n m new rfl; cases hn.nr⟩
  ·exact ih t y hy
 | @p s q k l ct hne h h2 hk2 _ ih =>
  intro t y hy; simp only [get] at hy
  split at hy
  ·rename_i e; subst e; cases hy; exact ⟨hne,h,.ref rfl (refOk_obj h2 (by simpa using hk2)),by simp⟩
  ·exact ih t y hy
 | @w α s q en L l hne h h2 _ ih =>
  intro t y hy; simp only [get] at hy
  split at hy
  ·rename_i e; subst e; cases hy; exact ⟨hne,h,.ref rfl (.inl ⟨_,_,(by simp [atP,h2,AV.at]:atP g2 ⟨q,[]⟩=some (oR en L)),Nat.le_refl _⟩),by simp⟩
  ·exact ih t y hy
theorem TrK.keep {ex:List Nat}{G2:List (Nat × AV)}(h:TrK ex g (get G2) G2) (hg:∀ t,ex.elem t=false->g1 t=g t):Keep g1 (get G2) :=
 ⟨fun t x hx=>by obtain ⟨h1,h2,_⟩:=h.spec t x hx; rw [hg t h1]; exact h2,fun t x hx=>(h.spec t x hx).2.2.1,fun t z q n m new hx=>(h.spec t _ hx).2.2.2 _ _ _ _ _ rfl⟩
theorem Take.row {en:En α}{L:List α}(hp:atP g p=some (oR en L)):Take g [.brw en.z p L.length] [oR en L] (setP g p .dead):=by
 have h1:Take (setP g p .dead) ((rowc en L).take (L.length * en.z)) (rowc en L) (setP g p .dead):=by
  rw [rowc_take_all]; exact .nr (rowc_nr en L)
 exact .brw hp (Nat.le_refl _) h1 (.nr (by simp))
theorem Take.row_pend {en:En α}{L M:List α}{s:Nat}(hs:g s=some (.pend en.z q L.length M.length (rowc en M))) (hp:atP g q=some (oR en L)) (hq:q.root≠s):Take g [.brw en.z ⟨s,[]⟩ (L.length+M.length)] [oR en (L++M)] (setP (setP g ⟨s,[]⟩ .dead) q .dead):=by
 rw [<- oR_app]
 exact .pend hs hp hq (.nr fun x hx=>(List.mem_append.1 hx).elim (rowc_nr en L x) (rowc_nr en M x)) (.nr (by simp))
theorem Take.row_pend2 {en:En α}{L M M2:List α}{s s2:Nat}(hs:g s=some (.pend en.z ⟨s2,[]⟩ (L.length+M2.length) M.length (rowc en M))) (hs2:g s2=some (.pend en.z q L.length M2.length (rowc en M2))) (hp:atP g q=some (oR en L)) (hq:q.root≠s) (hq2:q.root≠s2) (hss:s≠s2) :
  Take g [.brw en.z ⟨s,[]⟩ (L.length+M2.length+M.length)] [oR en (L++M2++M)] (setP (setP (setP g ⟨s,[]⟩ .dead) ⟨s2,[]⟩ .dead) q .dead):=by
 have:=Take.pend2 (g:=g) (xs:=[]) (xs':=[]) hs hs2 rfl hp hq hq2 hss (.nr (xs:=rowc en L++rowc en M2++rowc en M) fun x hx=>by
  grind [rowc_nr]) (.nr (by simp))
 grind [rowc_app]
theorem setP_out {t:Nat}{y:AV}(h:t≠p.root):setP g p y t=g t:=by
 grind [setP]
theorem elem_ne {ex:List Nat}{t s:Nat}(h:ex.elem t=false) (hs:ex.elem s=true):t≠s:=by
 grind
theorem EO.aR {o:Oper}{en:En α}{L:List α}{x:Operand}{G2:List (Nat × AV)}(ho:o.op=.assign x) (hd:o.dst=some d) (hx:Rd g x (.brw en.z p L.length)) (hp:atP g p=some (oR en L)) (hG:TrK [p.root] g (get G2) G2) (hg:get G2 d=none) (hN:N.ok d=true):EO P N g o (upd (get G2) d (oR en L)) :=
 .assign ho hd hx.opd (.row hp) .refl (hG.keep fun t ht=>setP_out (elem_ne ht (by simp))) hg hN
theorem EO.aP {o:Oper}{en:En α}{L M:List α}{s:Nat}{x:Operand}{G2:List (Nat × AV)}(ho:o.op=.assign x) (hd:o.dst=some d) (hx:Rd g x (.brw en.z ⟨s,[]⟩ (L.length+M.length))) (hs:g s=some (.pend en.z q L.length M.length (rowc en M))) (hp:atP g q=some (oR en L)) (hq:Nat.beq q.root s=false)
  (hG:TrK [s,q.root] g (get G2) G2) (hg:get G2 d=none) (hN:N.ok d=true):EO P N g o (upd (get G2) d (oR en (L++M))) :=
 .assign ho hd hx.opd (.row_pend hs hp (Nat.ne_of_beq_eq_false hq)) .refl (hG.keep fun t ht=>by rw [setP_out (elem_ne ht (by simp)),setP_out (elem_ne ht (by simp))]) hg hN
theorem EO.aP2 {o:Oper}{en:En α}{L M M2:List α}{s s2:Nat}{x:Operand}{G2:List (Nat × AV)}(ho:o.op=.assign x) (hd:o.dst=some d) (hx:Rd g x (.brw en.z ⟨s,[]⟩ (L.length+M2.length+M.length))) (hs:g s=some (.pend en.z ⟨s2,[]⟩ (L.length+M2.length) M.length (rowc en M)))
  (hs2:g s2=some (.pend en.z q L.length M2.length (rowc en M2))) (hp:atP g q=some (oR en L)) (hq:Nat.beq q.root s=false) (hq2:Nat.beq q.root s2=false) (hss:Nat.beq s s2=false)
  (hG:TrK [s,s2,q.root] g (get G2) G2) (hg:get G2 d=none) (hN:N.ok d=true):EO P N g o (upd (get G2) d (oR en (L++M2++M))) :=
 .assign ho hd hx.opd (.row_pend2 hs hs2 hp (Nat.ne_of_beq_eq_false hq) (Nat.ne_of_beq_eq_false hq2) (Nat.ne_of_beq_eq_false hss)) .refl (hG.keep fun t ht=>by rw [setP_out (elem_ne ht (by simp)),setP_out (elem_ne ht (by simp)),setP_out (elem_ne ht (by simp))]) hg hN
theorem RunL.ea {o:Oper}{x:AV}{G2:List (Nat × AV)}(hg:o.guard=none) (he:EO P N g o (upd (get G2) d x)) (hk:RunL P N ops l (upd (get G2) d x) K):RunL P N ops (o::l) g K:=by
 intro i hi
 obtain ⟨h1,h2⟩:=drop_cons hi
 obtain ⟨g',hr,hK⟩:=hk (i+1) h2
 refine ⟨g',.eff h1 ?_ he hr,hK⟩
 grind [Wanted]
theorem get_cons {x:AV}{G:List (Nat × AV)}:upd (get G) d x=get ((d,x)::G):=by
 grind [upd,get]
variable {AT:List (List Nat)}{acc:Acc}{i:Nat}
inductive Rto (P:Program):Gst->List ResultVar->List AV->List AV->Gst->Prop
 | nil {g:Gst}:Rto P g [] [] [] g
 | f {g g':Gst}{t:Nat}{x:AV}{rs:List ResultVar}{ys xs:List AV}(h:g t=some x) (hf:flatB x=true) [hn:NRc x] (ht:Rto P g rs ys xs g'):Rto P g (.tmp t::rs) (x::ys) (x::xs) g'
 | o {g g':Gst}{t:Nat}{en:En α}{L:List α}{rs:List ResultVar}{ys xs:List AV}(h:g t=some (oR en L)) (ht:Rto P (setP g ⟨t,[]⟩ .dead) rs ys xs g'):Rto P g (.tmp t::rs) (.brw en.z ⟨t,[]⟩ L.length::ys) (oR en L::xs) g'
end
end Go.Own
namespace Go.Own
open Go
set_option linter.unusedSectionVars false
variable [TB]
variable {α β:Type}
section
variable {P:Program}{N:Rm}{ops:Array Oper}{g g' g1 g2:Gst}{K:Gst->Prop}{l:List Oper}{d r:Nat}{ty t t2:TypeId}{pos:String}{after:Array Edge}{a b c:Operand}{p q:Place}{e:Exit}
inductive TkB (s:Nat):Gst->Nat->List AV->List AV->Gst->Prop
 | nil {g:Gst}{i:Nat}:TkB s g i [] [] g
 | f {g g':Gst}{i:Nat}{x:AV}{ys xs:List AV}(hf:flatB x=true) [hn:NRc x] (ht:TkB s g (i+1) ys xs g'):TkB s g i (x::ys) (x::xs) g'
 | o {α:Type}{g g':Gst}{i:Nat}{en:En α}{L:List α}{ys xs:List AV}(hp:atP g ⟨s,[i]⟩=some (oR en L)) (ht:TkB s (setP g ⟨s,[i]⟩ .dead) (i+1) ys xs g'):TkB s g i (.brw en.z ⟨s,[i]⟩ L.length::ys) (oR en L::xs) g'
theorem TkB.take {s i:Nat}{ys xs:List AV}(h:TkB s g i ys xs g'):Take g ys xs g':=by
 induction h with
 | nil=>exact .nr (by simp)
 | @f g g' i x ys xs hf hn _ ih=>exact .cons hn.nr ih
 | @o α g g' i en L ys xs hp _ ih =>
  refine .brw hp (Nat.le_refl _) ?_ ih
  rw [rowc_take_all]; exact .nr (rowc_nr en L)
inductive Rt2 (P:Program):Gst->List ResultVar->List AV->List AV->Gst->Prop
 | nil {g:Gst}:Rt2 P g [] [] [] g
 | f {g g':Gst}{t:Nat}{x:AV}{rs:List ResultVar}{ys xs:List AV}(h:g t=some x) (hf:flatB x=true) [hn:NRc x] (ht:Rt2 P g rs ys xs g'):Rt2 P g (.tmp t::rs) (x::ys) (x::xs) g'
 | o {α:Type}{g g':Gst}{t:Nat}{en:En α}{L:List α}{rs:List ResultVar}{ys xs:List AV}(h:g t=some (oR en L)) (ht:Rt2 P (setP g ⟨t,[]⟩ .dead) rs ys xs g'):Rt2 P g (.tmp t::rs) (.brw en.z ⟨t,[]⟩ L.length::ys) (oR en L::xs) g'
 | c {g g' g'':Gst}{t z:Nat}{ty:TypeId}{cs ys0:List AV}{rs:List ResultVar}{ys xs:List AV}(h:g t=some (.obj cs)) (ht:aggT P ty z=true) (hz:cs.length=z) (h0:Nat.blt 0 z=true) (hy:(cs.mapIdx fun i x=>refIn 0 ⟨t,[i]⟩ x)=ys0) (hk:TkB t g 0 ys0 cs g'') (hr:Rt2 P g'' rs ys xs g'):Rt2 P g (.cell t ty::rs) (.agg ys0::ys) (.agg cs::xs) g'
def Dies (g0 g:Gst):Prop:=∀ t x,g t=some x->(flatB x=true\/(∃ z n cs,x=.own z n cs))->g0 t=some x
theorem Dies.set {g0:Gst}{t:Nat}{pp:List Nat}(h:Dies g0 g) (ho:pp=[]\/∃ cs,g t=some (.obj cs)):Dies g0 (setP g ⟨t,pp⟩ .dead):=by
 intro s x hx hf
 unfold setP at hx
 split at hx
 ·rename_i hs
  simp only at hs hx
  subst hs
  exfalso
  cases hg:g s with
  | none=>rw [hg] at hx; cases hx
  | some y =>
   rw [hg] at hx
   simp only [Option.map_some,Option.some.injEq] at hx
   rcases ho with rfl | ⟨cs,hc⟩
   ·simp only [AV.setAt] at hx
    subst hx
    rcases hf with hf | ⟨_,_,_,hf⟩ <;> cases hf
   ·rw [hg] at hc
    cases hc
    have:∃ cs',x=.obj cs':=by
     subst hx
     cases pp with
     | nil=>simp only [AV.setAt] at hf; rcases hf with hf | ⟨_,_,_,hf⟩ <;> cases hf
     | cons k pp =>
      simp only [AV.setAt,AV.kids]
      split
      ·exact ⟨_,rfl⟩
      ·exact ⟨_,rfl⟩
    obtain ⟨cs',rfl⟩:=this
    rcases hf with hf | ⟨_,_,_,hf⟩ <;> cases hf
 ·exact h s x hx hf
theorem TkB.dies {g0:Gst}{s i:Nat}{ys xs:List AV}(h:TkB s g i ys xs g'):(∃ cs,g s=some (.obj cs))->Dies g0 g->Dies g0 g':=by
 induction h with
 | nil=>exact fun _ h=>h
 | f _ _ ih=>exact ih
 | @o α g g' i en L ys xs hp _ ih =>
  intro ho hd
  refine ih ?_ (hd.set (.inr ho))
  obtain ⟨cs,hc⟩:=ho
  unfold setP
  simp only [if_pos,hc,Option.map_some,AV.setAt,AV.kids]
  split
  ·exact ⟨_,rfl⟩
  ·exact ⟨_,rfl⟩
theorem TkB.out {s i:Nat}{ys xs:List AV}(h:TkB s g i ys xs g'):∀ t,t≠s->g' t=g t:=by
 induction h with
 | nil=>exact fun _ _=>rfl
 | f _ _ ih=>exact ih
 | o _ _ ih=>exact fun t ht=>by rw [ih t ht,setP_out ht]
theorem Rt2.take {rs:List ResultVar}{ys xs:List AV}(h:Rt2 P g rs ys xs g'):Take g ys xs g':=by
 induction h with
 | nil=>exact .nr (by simp)
 | @f g g' t x rs ys xs h hf hn _ ih=>exact .cons hn.nr ih
 | @o α g g' t en L rs ys xs h _ ih =>
  have hp:atP g ⟨t,[]⟩=some (oR en L):=by simp [atP,h,AV.at]
  refine .brw hp (Nat.le_refl _) ?_ ih
  rw [rowc_take_all]; exact .nr (rowc_nr en L)
 | @c g g' g'' t z ty cs ys0 rs ys xs h ht hz h0 hy hk _ ih=>exact .agg hk.take ih
theorem Rt2.vs {rs:List ResultVar}{ys xs:List AV}(h:Rt2 P g rs ys xs g'):∀ g0:Gst,Dies g0 g->(∀ t ty,ResultVar.cell t ty∈rs->∀ cs,g t=some (.obj cs)->g0 t=some (.obj cs))->(rs.filterMap fun | .cell t _=>some t | _=>none).Nodup->ResVs P g0 rs ys:=by
 induction h with
 | nil=>exact fun _ _ _ _=>.nil
 | @f g g' t x rs ys xs h hf hn _ ih =>
  intro g0 hd hb hnd
  exact .cons (.tmp (Rd.f (hd t x h (.inl hf)) hf)) (ih g0 hd (fun t ty hm=>hb t ty (List.mem_cons_of_mem _ hm)) (by simpa using hnd))
 | @o α g g' t en L rs ys xs h _ ih =>
  intro g0 hd hb hnd
  refine .cons (.tmp ?_) (ih g0 (hd.set (.inl rfl)) (fun s ty hm cs hc=>?_) (by simpa using hnd))
  ·have:=hd t _ h (.inr ⟨_,_,_,rfl⟩)
   simp [Own.opd,this,refTop,refIn]
  ·by_cases hs:s=t
   ·subst hs; simp [setP,h,AV.setAt] at hc
   ·rw [setP_out hs] at hc; exact hb s ty (List.mem_cons_of_mem _ hm) cs hc
 | @c g g' g'' t z ty cs ys0 rs ys xs h ht hz h0 hy hk _ ih =>
  intro g0 hd hb hnd
  have h1:=hb t ty (by simp) cs h
  simp only [List.filterMap_cons,List.nodup_cons] at hnd
  refine .cons ?_ (ih g0 (hk.dies ⟨cs,h⟩ hd) (fun s ty' hm cs' hc=>?_) hnd.2)
  ·have hz':0<z:=by simpa using h0
   have hx:Own.opd g0 (.tmp t)=some (.ptr ⟨t,[]⟩ 0):=by
    cases cs with
    | nil=>simp at hz; omega
    | cons c cs=>simp [Own.opd,h1,refTop,refIn]
   have:=PS1.loadN (P:=P) (ty:=ty) (p:=⟨t,[]⟩) (n:=0) (z:=0) hx ht (by simp only [atP,h1,AV.at]) (.inr rfl) (show 0+z<=cs.length by omega)
   have hall:((cs.drop 0).take z).mapIdx (fun i x=>refIn 0 (Place.push ⟨t,[]⟩ (0+i)) x)=ys0:=by
    rw [List.drop_zero,List.take_of_length_le (by omega),<- hy]
    congr 1
    funext i x
    simp [Place.push]
   rw [hall] at this
   exact .cell this
  ·have hst:s≠t:=by
    rintro rfl
    exact hnd.1 (List.mem_filterMap.2 ⟨.cell s ty',hm,rfl⟩)
   have:=hk.out s hst
   rw [this] at hc
   exact hb s ty' (List.mem_cons_of_mem _ hm) cs' hc
inductive Ots (g:Gst) (pins:List Nat):Nat->List (Option AV)->Prop
 | nil {i:Nat}:Ots g pins i []
 | no {i:Nat}{os:List (Option AV)}(t:Ots g pins (i+1) os):Ots g pins i (none::os)
 | so {i:Nat}{x:AV}{os:List (Option AV)}(h:g i=some x) [hn:NRc x] (hp:pins.elem i=true) (t:Ots g pins (i+1) os):Ots g pins i (some x::os)
theorem Ots.spec {pins:List Nat}{i:Nat}{os:List (Option AV)}(h:Ots g pins i os):∀ k x,os[k]?=some (some x)->g (i+k)=some x/\NR x/\i+k∈pins:=by
 induction h with
 | nil=>intro k x hk; simp at hk
 | no _ ih =>
  intro k x hk
  cases k with
  | zero=>simp at hk
  | succ k=>have:=ih k x (by simpa using hk); rw [Nat.add_assoc,Nat.add_comm 1 k] at this; exact this
 | @so i y os h hn hp _ ih =>
  intro k x hk
  cases k with
  | zero=>simp at hk; subst hk; exact ⟨h,hn.nr,by simpa using hp⟩
  | succ k=>have:=ih k x (by simpa using hk); rw [Nat.add_assoc,Nat.add_comm 1 k] at this; exact this
theorem Fin.ro {rs:List ResultVar}{ys xs:List AV}{res:AV}{outs:List (Option AV)}{n:Nat}(h:Rt2 P g rs ys xs g') (he:resAV xs=res) (hnd:(rs.filterMap fun | .cell t _=>some t | _=>none).Nodup) (ho:Ots g' N.pins 0 outs) (hl:outs.length=n) (hx:e=.normal\/e=.ret):Fin P N rs n outs res e g :=
 ⟨hx,⟨ys,xs,g',h.vs g (fun _ _ h _=>h) (fun _ _ _ _ h=>h) hnd,h.take,he.symm,fun k x hk=>by have:=ho.spec k x hk; rw [Nat.zero_add] at this; exact this⟩,hl⟩
class Vw (x y:AV):Prop where v:∀ g,View g x y
class Vws (xs ys:List AV):Prop where
 l:ys.length=xs.length
 v:∀ (g:Gst) (k:Nat) (x y:AV),xs[k]?=some x->ys[k]?=some y->View g x y
class Tw (e e':En α):Prop where
 z:e.z=e'.z
 v:∀ a,Vws (e.cells a) (e'.cells a)
instance {v:Value}:Vw (.lit v) (.lit v):=⟨fun _=>.self .lit (by simp) (by simp) (by simp) (by simp) (by simp)⟩
instance:Vw .nils .nils:=⟨fun _=>.self .nils (by simp) (by simp) (by simp) (by simp) (by simp)⟩
instance {z n:Nat}{cs:List AV} [h:NRl cs]:Vw (.imm z n cs) (.imm z n cs):=⟨fun _=>.self (.imm h.nr) (by simp) (by simp) (by simp) (by simp) (by simp)⟩
instance {cs:List AV} [h:NRl cs]:Vw (.iptr cs) (.iptr cs):=⟨fun _=>.self (.iptr h.nr) (by simp) (by simp) (by simp) (by simp) (by simp)⟩
instance {e:En α}:Vw .nils (iR e []):=⟨fun _=>.nilI⟩
instance:Vws [] []:=⟨rfl,by simp⟩
instance {x y:AV}{xs ys:List AV} [h:Vw x y] [h':Vws xs ys]:Vws (x::xs) (y::ys):=⟨by simp [h'.l],fun g k a b ha hb=>by
 cases k with
 | zero=>simp at ha hb; subst ha hb; exact h.v g
 | succ k=>exact h'.v g k a b (by simpa using ha) (by simpa using hb)⟩
theorem vws_rowc (e e':En α) [h:Tw e e']:∀ L:List α,(rowc e' L).length=(rowc e L).length/\∀ (g:Gst) (k:Nat) (x y:AV),(rowc e L)[k]?=some x->(rowc e' L)[k]?=some y->View g x y
 | []=>⟨rfl,by simp [rowc]⟩
 | a::L=>by
  obtain ⟨h1,h2⟩:=vws_rowc e e' L
  have ec:∀ e:En α,rowc e (a::L)=e.cells a++rowc e L:=fun e=>by simp [rowc]
  refine ⟨by rw [rowc_len,rowc_len,h.z],fun g k x y hx hy=>?_⟩
  rw [ec] at hx hy
  by_cases hk:k<e.z
  ·rw [List.getElem?_append_left (by rw [e.len]; exact hk)] at hx
   rw [List.getElem?_append_left (by rw [e'.len,<- h.z]; exact hk)] at hy
   exact (h.v a).v g k x y hx hy
  ·rw [List.getElem?_append_right (by rw [e.len]; omega),e.len] at hx
   rw [List.getElem?_append_right (by rw [e'.len,<- h.z]; omega),e'.len,<- h.z] at hy
   exact h2 g _ x y hx hy
instance {e e':En α}{L:List α} [h:Tw e e']:Vw (oR e L) (iR e' L):=⟨fun g=>by
 have:=vws_rowc e e' L
 show View g (.own e.z L.length (rowc e L)) (.imm e'.z L.length (rowc e' L))
 rw [<- h.z]
 exact .own this.1 (this.2 g)⟩
instance:Tw eI eI:=⟨rfl,fun a=>(inferInstance:Vws [I64 a] [I64 a])⟩
instance:Tw eU eU:=⟨rfl,fun a=>(inferInstance:Vws [U8 a] [U8 a])⟩
instance:Tw eB eB:=⟨rfl,fun a=>(inferInstance:Vws [BB a] [BB a])⟩
instance:Tw eS eS:=⟨rfl,fun a=>(inferInstance:Vws [SS a] [SS a])⟩
instance {e e':En α} [h:Tw e e']:Tw (eO e) (eM e'):=⟨rfl,fun a=>(inferInstance:Vws [oR e a] [iR e' a])⟩
instance {e:En α}:Tw (eM e) (eM e):=⟨rfl,fun a=>(inferInstance:Vws [iR e a] [iR e a])⟩
theorem View.row {e e':En α}{L:List α} [h:Tw e e'] (hp:atP g p=some (oR e L)):View g (.brw e.z p L.length) (iR e' L):=by
 have:=vws_rowc e e' L
 show View g _ (.imm e'.z L.length (rowc e' L))
 rw [<- h.z]
 refine .brw hp (Nat.le_refl _) (by rw [rowc_take_all]; exact this.1) (fun k x y hx hy=>?_)
 rw [rowc_take_all] at hx
 exact this.2 g k x y hx hy
inductive VwL (g:Gst):List AV->List AV->Prop
 | nil:VwL g [] []
 | s {x y:AV}{xs ys:List AV} [h:Vw x y] (t:VwL g xs ys):VwL g (x::xs) (y::ys)
 | c {x y:AV}{xs ys:List AV}(h:View g x y) (t:VwL g xs ys):VwL g (x::xs) (y::ys)
theorem VwL.len {xs ys:List AV}(h:VwL g xs ys):ys.length=xs.length:=by
 induction h with
 | nil=>rfl
 | s _ ih=>simp [ih]
 | c _ _ ih=>simp [ih]
theorem VwL.get {xs ys:List AV}(h:VwL g xs ys):∀ (k:Nat) (x y:AV),xs[k]?=some x->ys[k]?=some y->View g x y:=by
 induction h with
 | nil=>intro k x y hx; simp at hx
 | @s x y xs ys h _ ih =>
  intro k a b ha hb
  cases k with
  | zero=>simp at ha hb; subst ha hb; exact h.v g
  | succ k=>exact ih k a b (by simpa using ha) (by simpa using hb)
 | @c x y xs ys h _ ih =>
  intro k a b ha hb
  cases k with
  | zero=>simp at ha hb; subst ha hb; exact h
  | succ k=>exact ih k a b (by simpa using ha) (by simpa using hb)
theorem View.ag {xs ys:List AV}(h:VwL g xs ys):View g (.agg xs) (.agg ys):=.agg h.len h.get
class OOc (x:AV):Prop where oo:OO x
class OOl (cs:List AV):Prop where oo:∀ x∈cs,OO x
class OOe (e:En α):Prop where oo:∀ a,OOl (e.cells a)
instance {v:Value}:OOc (.lit v):=⟨.lit⟩
instance:OOc .nils:=⟨.nils⟩
instance {k:Nat × Nat}:OOc (.self k):=⟨.self⟩
instance {t:Nat}{us:List Value}:OOc (.brow t us):=⟨.brow⟩
instance:OOl []:=⟨by simp⟩
instance {x:AV}{xs:List AV} [h:OOc x] [h':OOl xs]:OOl (x::xs):=⟨fun y hy=>by
 rcases List.mem_cons.1 hy with rfl | hy
 ·exact h.oo
 ·exact h'.oo y hy⟩
instance {e:En α}{L:List α} [h:OOe e]:OOl (rowc e L):=⟨fun x hx=>by
 obtain ⟨a,_,ha⟩:=List.mem_flatMap.1 hx
 exact (h.oo a).oo x ha⟩
instance {z n:Nat}{cs:List AV} [h:OOl cs]:OOc (.own z n cs):=⟨.own h.oo⟩
instance {cs:List AV} [h:OOl cs]:OOc (.obj cs):=⟨.obj h.oo⟩
instance {cs:List AV} [h:OOl cs]:OOc (.agg cs):=⟨.agg h.oo⟩
instance {cs:List AV} [h:OOl cs]:OOc (.tup cs):=⟨.tup h.oo⟩
instance {e:En α}{a:α} [h:OOe e]:OOl (e.cells a):=h.oo a
instance:OOe eI:=⟨fun a=>(inferInstance:OOl [I64 a])⟩
instance:OOe eU:=⟨fun a=>(inferInstance:OOl [U8 a])⟩
instance:OOe eB:=⟨fun a=>(inferInstance:OOl [BB a])⟩
instance:OOe eS:=⟨fun a=>(inferInstance:OOl [SS a])⟩
instance {e:En α} [h:OOe e]:OOe (eO e):=⟨fun a=>(inferInstance:OOl [oR e a])⟩
theorem noneB_map {outs:List (Option AV)}{args:List AV}(ho:noneB outs=true) (hl:outs.length=args.length):outs=args.map fun _=>none:=by
 apply List.ext_getElem?
 intro k
 rw [List.getElem?_map]
 cases hy:args[k]? with
 | none=>rw [List.getElem?_eq_none (by rw [hl]; exact List.getElem?_eq_none_iff.1 hy)]; rfl
 | some y =>
  have hk:k<outs.length:=by rw [hl]; exact (List.getElem?_eq_some_iff.1 hy).1
  have h1:=List.getElem?_eq_getElem hk
  rw [h1]
  cases h2:outs[k] with
  | none=>rfl
  | some x=>rw [h2] at h1; exact absurd h1 (noneB_spec ho k x)
theorem PC.vw {xs:List Operand}{tys:Array TypeId}{f:FuncId}{ys args:List AV}{outs:List (Option AV)}{res:AV}(hx:opds g xs=some ys) (hv:VwL g ys args) (hcon:Con P f args outs res) (hf:callT P f=true) (ho:noneB outs=true) [hr:OOc res] :
  PC P g (.call { callee:=.value (.func f),args:=xs.toArray,argTypes:=tys }) res:=by
 have e:=noneB_map ho hcon.1
 refine .lent (first:=[]) (caps:=[]) (ys:=ys) (args:=args) rfl (by simpa using hx) hf (by simpa using hv.len) (fun k x y hx hy=>hv.get k x y (by simpa using hx) hy) ?_ hr.oo
 rw [<- e]; exact hcon
end
end Go.Own
namespace Go.Own
open Go
set_option linter.unusedSectionVars false
variable [TB]
variable {α β:Type}
section
variable {P:Program}{N:Rm}{ops:Array Oper}{g g' g1 g2:Gst}{K:Gst->Prop}{l:List Oper}{d r:Nat}{op:Op}{ty t t2:TypeId}{pos:String}{after:Array Edge}{gd:Option (Nat × Bool)}{a b c:Operand}{p q:Place}{x y:AV}
variable {AT:List (List Nat)}{g0:Gst}{acc:Acc}{i:Nat}
instance {cs cs':List AV} [h:Vws cs cs']:Vw (.obj cs) (.iptr cs'):=⟨fun g=>.obj h.l (h.v g)⟩
instance {cs cs':List AV} [h:Vws cs cs']:Vw (.agg cs) (.agg cs'):=⟨fun g=>.agg h.l (h.v g)⟩
instance {z n:Nat}{cs cs':List AV} [h:Vws cs cs']:Vw (.own z n cs) (.imm z n cs'):=⟨fun g=>.own h.l (h.v g)⟩
theorem RunL.vi (hp:PS P g op ty y) [hn:NRc y] [hv:Vw y x] (hN:N.ok d=true) (hf:g d=none) (hg:Gd g ops gd) (hk:RunL P N ops l (upd g d x) K):RunL P N ops (⟨some d,op,ty,pos,after,gd⟩::l) g K :=
 .stepS rfl hN hf (r:=some x) (.inr (.inr ⟨hg.wanted,y,.inl hp,hn.nr,hv.v _⟩)) hk
theorem DL.vi (j0:Nat) (hp:PS P (vis AT g0 j0 acc) op ty y) [hn:NRc y] [hv:Vw y x] (hj:Nat.beq ops.size (j0+l.length+1)=true) (hf:g0 d=none) (hn0:acc.all (fun e=>!Nat.beq e.2.1 d)=true) (hN:N.ok d=true) (hg:Gd (vis AT g0 j0 acc) ops gd)
  (hk:DL P N ops AT g0 i ((j0,d,some x)::acc) l K):DL P N ops AT g0 i acc (⟨some d,op,ty,pos,after,gd⟩::l) K :=
 .st j0 (r:=some x) rfl (.inr (.inr ⟨hg.wanted,y,.inl hp,hn.nr,hv.v _⟩)) hj hf hn0 hN hk
inductive TrF (ex:List Nat) (g g2:Gst):List (Nat × AV)->Prop
 | nil:TrF ex g g2 []
 | n {s:Nat}{x:AV}{l:List (Nat × AV)}(hne:ex.elem s=false) (h:g s=some x) [hn:NRc x] (t:TrF ex g g2 l):TrF ex g g2 ((s,x)::l)
 | p {s q k:Nat}{l:List (Nat × AV)}{ct:List AV}(hne:ex.elem s=false) (h:g s=some (.ptr ⟨q,[]⟩ k)) (h2:g2 q=some (.obj ct)) (hk2:Nat.blt k ct.length=true) (t:TrF ex g g2 l):TrF ex g g2 ((s,.ptr ⟨q,[]⟩ k)::l)
 | z {s:Nat}{x y:AV}{l:List (Nat × AV)}(he:ex.elem s=true) (h:g s=some y) [hn:NRc y] (hv:Fz y x) [hx:NPc x] (t:TrF ex g g2 l):TrF ex g g2 ((s,x)::l)
theorem TrF.spec {ex:List Nat}{l:List (Nat × AV)}(h:TrF ex g g2 l):∀ t x,get l t=some x->((ex.elem t=false/\g t=some x/\RK g2 x)\/(ex.elem t=true/\∃ y,g t=some y/\NR y/\Fz y x))/\∀ z p n m new,x≠.pend z p n m new:=by
 induction h with
 | nil=>intro t x hx; cases hx
 | @n s x l hne h hn _ ih =>
  intro t y hy; simp only [get] at hy
  split at hy
  ·rename_i e; subst e; cases hy; exact ⟨.inl ⟨hne,h,.nr hn.nr⟩,by rintro z p n m new rfl; cases hn.nr⟩
  ·exact ih t y hy
 | @p s q k l ct hne h h2 hk2 _ ih =>
  intro t y hy; simp only [get] at hy
  split at hy
  ·rename_i e; subst e; cases hy; exact ⟨.inl ⟨hne,h,.ref rfl (refOk_obj h2 (by simpa using hk2))⟩,by simp⟩
  ·exact ih t y hy
 | @z s x y l he h hn hv hx _ ih =>
  intro t y' hy; simp only [get] at hy
  split at hy
  ·rename_i e; subst e; cases hy; exact ⟨.inr ⟨he,y,h,hn.nr,hv⟩,hx.np⟩
  ·exact ih t y' hy
theorem TrF.frz {ex:List Nat}{G2:List (Nat × AV)}(h:TrF ex g (get G2) G2):Frz (fun t=>ex.elem t) g (get G2):=by
 refine ⟨fun t x hx ht=>?_,fun t x hx ht=>?_,fun t z q n m new hx=>(h.spec t _ hx).2 _ _ _ _ _ rfl⟩
 ·rcases (h.spec t x hx).1 with ⟨_,h1,h2⟩ | ⟨h1,_⟩
  ·grind
  grind
 ·rcases (h.spec t x hx).1 with ⟨h1,_⟩ | ⟨_,h2⟩
  ·grind
  grind
theorem W.fz {cd:Code}{G G1:List (Nat × AV)}{Φ:Exit->Gst->Prop}(ex:List Nat) (h:TrF ex (get G) (get G1) G1) (hw:W P N cd (get G1) Φ):W P N cd (get G) Φ:=by
 intro Q a w I Fs hS hN hQ
 obtain ⟨I',Fs',hS',hst⟩:=hS.frz h.frz
 exact hw hS' hN fun e g' a' w' he hn=>hQ e g' a' w' he (Next'.trans rfl Hold.refl hst hn)
theorem RunL.fz {G1:List (Nat × AV)}(ex:List Nat) (h:TrF ex g (get G1) G1) (hk:RunL P N ops l (get G1) K):RunL P N ops l g K:=by
 intro i hi
 obtain ⟨g',hr,hK⟩:=hk i hi
 exact ⟨g',.frz h.frz hr,hK⟩
theorem Take.pre {xs xs':List AV}:∀ {ps:List AV},(∀ x∈ps,NR x)->Take g xs xs' g'->Take g (ps++xs) (ps++xs') g'
 | [],_,h=>h
 | x::ps,hn,h=>.cons (hn x (by simp)) (Take.pre (ps:=ps) (fun y hy=>hn y (List.mem_cons_of_mem _ hy)) h)
inductive TkL:Gst->List AV->List AV->Gst->Prop
 | nil {g:Gst}:TkL g [] [] g
 | ns {g:Gst}{xs:List AV} [hn:NRl xs]:TkL g xs xs g
 | f {g g':Gst}{x:AV}{xs xs':List AV} [hn:NRc x] (t:TkL g xs xs' g'):TkL g (x::xs) (x::xs') g'
 | r {α:Type}{g g':Gst}{p:Place}{en:En α}{L:List α}{xs xs':List AV}(hp:atP g p=some (oR en L)) (t:TkL (setP g p .dead) xs xs' g'):TkL g (.brw en.z p L.length::xs) (oR en L::xs') g'
 | l {g g1 g':Gst}{p:Place}{z n:Nat}{cs cs' xs xs':List AV}(hp:atP g p=some (.own z n cs)) (hl:cs.length=n * z) (h1:TkL (setP g p .dead) cs cs' g1) (t:TkL g1 xs xs' g'):TkL g (.brw z p n::xs) (.own z n cs'::xs') g'
 | pn {α:Type}{g g1 g':Gst}{q:Place}{s m:Nat}{en:En α}{L:List α}{new new' xs xs':List AV}(hs:g s=some (.pend en.z q L.length m new)) (hp:atP g q=some (oR en L)) (hq:Nat.beq q.root s=false) (h1:TkL (setP (setP g ⟨s,[]⟩ .dead) q .dead) new new' g1) (t:TkL g1 xs xs' g') :
   TkL g (.brw en.z ⟨s,[]⟩ (L.length+m)::xs) (.own en.z (L.length+m) (rowc en L++new')::xs') g'
 | ag {g g1 g':Gst}{cs cs' xs xs':List AV}(h1:TkL g cs cs' g1) (t:TkL g1 xs xs' g'):TkL g (.agg cs::xs) (.agg cs'::xs') g'
 | m {g g':Gst}{p:Place}{q:Array MapEntry->Nat->Prop}{xs xs':List AV}(hp:atP g p=some (.mp q)) (t:TkL (setP g p .dead) xs xs' g'):TkL g (.mref p::xs) (.mp q::xs') g'
 | b {g g1 g':Gst}{p:Place}{cs cs' xs xs':List AV}(hp:atP g p=some (.obj cs)) (h1:TkL (setP g p .dead) cs cs' g1) (t:TkL g1 xs xs' g'):TkL g (.ptr p 0::xs) (.obj cs'::xs') g'
theorem TkL.take {xs xs':List AV}(h:TkL g xs xs' g'):Take g xs xs' g':=by
 induction h with
 | m hp _ ih=>exact .mp hp (.nr (by simp)) ih
 | nil=>exact .nr (by simp)
 | @ns g xs hn=>exact .nr hn.nr
 | @f g g' x xs xs' hn _ ih=>exact .cons hn.nr ih
 | @r α g g' p en L xs xs' hp _ ih =>
  refine .brw hp (Nat.le_refl _) ?_ ih
  rw [rowc_take_all]
  exact .nr (rowc_nr en L)
 | @l g g1 g' p z n cs cs' xs xs' hp hl _ _ ih1 ih2 =>
  refine .brw hp (Nat.le_refl _) ?_ ih2
  grind
 | @pn α g g1 g' q s m en L new new' xs xs' hs hp hq _ _ ih1 ih2=>exact .pend hs hp (Nat.ne_of_beq_eq_false hq) (.pre (rowc_nr en L) ih1) ih2
 | @ag g g1 g' cs cs' xs xs' _ _ ih1 ih2=>exact .agg ih1 ih2
 | @b g g1 g' p cs cs' xs xs' hp _ _ ih1 ih2=>exact .obj hp ih1 ih2
inductive FzL:List AV->List AV->Prop
 | nil:FzL [] []
 | rf {xs:List AV}:FzL xs xs
 | f {x:AV}{xs ys:List AV}(t:FzL xs ys):FzL (x::xs) (x::ys)
 | o {z:Nat}{xs ys:List AV}(t:FzL xs ys):FzL (.nils::xs) (.own z 0 []::ys)
 | z {x y:AV}{xs ys:List AV} [hn:NRc x] [hv:Vw x y] (t:FzL xs ys):FzL (x::xs) (y::ys)
 | g {x y:AV}{xs ys:List AV}(h:Fz x y) (t:FzL xs ys):FzL (x::xs) (y::ys)
theorem FzL.len {xs ys:List AV}(h:FzL xs ys):ys.length=xs.length:=by
 induction h with
 | nil=>rfl
 | rf=>rfl
 | f _ ih=>simp [ih]
 | o _ ih=>simp [ih]
 | z _ ih=>simp [ih]
 | g _ _ ih=>simp [ih]
theorem FzL.get {xs ys:List AV}(h:FzL xs ys):∀ (k:Nat) (x y:AV),xs[k]?=some x->ys[k]?=some y->Fz x y:=by
 induction h with
 | nil=>intro k x y hx; simp at hx
 | rf=>intro k x y hx hy; rw [hx] at hy; cases hy; exact .refl
 | @f x xs ys _ ih =>
  intro k a b ha hb
  cases k with
  | zero=>simp at ha hb; subst ha hb; exact .refl
  | succ k=>exact ih k a b (by simpa using ha) (by simpa using hb)
 | @o z xs ys _ ih =>
  intro k a b ha hb
  cases k with
  | zero=>simp at ha hb; subst ha hb; exact .nilO
  | succ k=>exact ih k a b (by simpa using ha) (by simpa using hb)
 | @z x y xs ys hn hv _ ih =>
  intro k a b ha hb
  cases k with
  | zero=>simp at ha hb; subst ha hb; exact .ice hn.nr (hv.v _)
  | succ k=>exact ih k a b (by simpa using ha) (by simpa using hb)
 | @g x y xs ys h _ ih =>
  grind
theorem FzL.pre {xs ys:List AV}(h:FzL xs ys):∀ ps:List AV,FzL (ps++xs) (ps++ys)
 | []=>h
 | _::ps=>.f (FzL.pre h ps)
theorem FzL.own {z n:Nat}{xs ys:List AV}(h:FzL xs ys):Fz (.own z n xs) (.own z n ys):=.own h.len h.get
theorem FzL.obj {xs ys:List AV}(h:FzL xs ys):Fz (.obj xs) (.obj ys):=.obj h.len h.get
theorem FzL.agg {xs ys:List AV}(h:FzL xs ys):Fz (.agg xs) (.agg ys):=.agg h.len h.get
theorem Fz.zz [hn:NRc x] [hv:Vw x y]:Fz x y:=.ice hn.nr (hv.v _)
theorem EO.aG {o:Oper}{x:Operand}{y y1 y':AV}{G2:List (Nat × AV)}(ho:o.op=.assign x) (hd:o.dst=some d) (hx:Rd g x y) (ht:TkL g [y] [y1] g1) (hz:Fz y1 y') (hG:Trim false g1 (get G2) G2) (hg:get G2 d=none) (hN:N.ok d=true):EO P N g o (upd (get G2) d y') :=
 .assign ho hd hx.opd ht.take hz hG.keep hg hN
theorem EO.apG {o:Oper}{x:Operand}{en:En α}{L M R:List α}{s m:Nat}{new new':List AV}{G2:List (Nat × AV)}(ho:o.op=.assign x) (hd:o.dst=some d) (hx:Rd g x (.brw en.z ⟨s,[]⟩ (L.length+m))) (hs:g s=some (.pend en.z q L.length m new)) (hp:atP g q=some (oR en L)) (hq:Nat.beq q.root s=false)
  (h1:TkL (setP (setP g ⟨s,[]⟩ .dead) q .dead) new new' g1) (hz:FzL new' (rowc en M)) (hm:M.length=m) (hr:L++M=R) (hG:Trim false g1 (get G2) G2) (hg:get G2 d=none) (hN:N.ok d=true):EO P N g o (upd (get G2) d (oR en R)):=by
 subst hm hr
 have ht:=TkL.pn (xs:=[]) (xs':=[]) hs hp hq h1 .nil
 rw [<- oR_app]
 exact .assign ho hd hx.opd ht.take (hz.pre _).own hG.keep hg hN
theorem EO.stB {o:Oper}{k0:Nat}{cs1 cs' cs2:List AV}{y y1 y':AV}{G2:List (Nat × AV)}(ho:o.op=.store t a b) (hd:o.dst=none) (ha:Rd g a (.ptr ⟨r,[]⟩ k0)) (hb:Rd g b y) (ht:TkL g [y] [y1] g1) (hfz:Fz y1 y') (hc:cellsP y'=some cs') (hz:sizeT P t cs'.length=true)
  (hs:g1 r=some (.obj cs1)) (hk:Nat.ble (k0+cs'.length) cs1.length=true) (h0:Nat.blt 0 cs'.length=true) (he:splice cs1 k0 cs'=cs2) [hno:NRl cs1] (hr:(get G2 r).isSome=true) (hG:TrS g1 (get G2) r cs2 G2):EO P N g o (get G2):=by
 subst he
 refine .store ho hd ha.opd hb.opd ht.take hfz hc hz (p:=⟨r,[]⟩) (nd:=.obj cs1) (z:=0) (n:=0) (by simp [atP,hs,AV.at]) (.inr rfl) (Nat.le_of_ble_eq_true hk) (by simpa using h0) (fun t x hx=>?_) (fun t x hx y hy=>?_) (fun t z q n m new hx=>?_) (by intro e; rw [e] at hr; cases hr)
 ·rcases hG.spec t x hx with ⟨h1,h2,_⟩ | ⟨h1,h2,_⟩
  all_goals grind [setP,AV.setAt,AV.splice]
 ·rcases hG.spec t x hx with ⟨h1,h2,h3⟩ | ⟨h1,h2,h3⟩
  ·rw [h2] at hy
   cases hy
   exact h3.rkp
  ·subst h1
   rw [hs] at hy
   cases hy
   exact .nr (.obj hno.nr)
 ·rcases hG.spec t _ hx with ⟨_,_,h3⟩ | ⟨_,h2,_⟩
  ·exact h3.np _ _ _ _ _ rfl
  grind
theorem EO.stP {o:Oper}{k0 s m:Nat}{en:En α}{L M R:List α}{new new':List AV}{cs1 cs2:List AV}{G2:List (Nat × AV)}(ho:o.op=.store t a b) (hd:o.dst=none) (ha:Rd g a (.ptr ⟨r,[]⟩ k0)) (hb:Rd g b (.brw en.z ⟨s,[]⟩ (L.length+m))) (hps:g s=some (.pend en.z q L.length m new)) (hp:atP g q=some (oR en L)) (hq:Nat.beq q.root s=false)
  (h1:TkL (setP (setP g ⟨s,[]⟩ .dead) q .dead) new new' g1) (hfz:FzL new' (rowc en M)) (hm:M.length=m) (hR:L++M=R) (hz:sizeT P t 1=true)
  (hs:g1 r=some (.obj cs1)) (hk:Nat.ble (k0+1) cs1.length=true) (he:splice cs1 k0 [oR en R]=cs2) [hno:NRl cs1] (hr:(get G2 r).isSome=true) (hG:TrS g1 (get G2) r cs2 G2):EO P N g o (get G2):=by
 subst hm hR
 have ht:=TkL.pn (xs:=[]) (xs':=[]) hps hp hq h1 .nil
 refine .stB (y':=oR en (L++M)) ho hd ha hb ht ?_ rfl hz hs hk rfl he hr hG
 rw [<- oR_app]; exact (hfz.pre _).own
inductive LnA (r:Nat) (cs:List AV) (k0:Nat):Nat->List AV->List AV->Prop
 | nil {i:Nat}:LnA r cs k0 i [] []
 | b {i:Nat}{xs ys:List AV}(hi:Nat.beq i k0=true) (t:LnA r cs k0 (i+1) xs ys):LnA r cs k0 i (.ptr ⟨r,[]⟩ 0::xs) (.obj cs::ys)
 | n {i:Nat}{x:AV}{xs ys:List AV}(hi:Nat.beq i k0=false) [hn:NRc x] (t:LnA r cs k0 (i+1) xs ys):LnA r cs k0 i (x::xs) (x::ys)
theorem LnA.len {cs:List AV}{k0 i:Nat}{xs ys:List AV}(h:LnA r cs k0 i xs ys):ys.length=xs.length:=by
 induction h with
 | nil=>rfl
 | b _ _ ih=>simp [ih]
 | n _ _ ih=>simp [ih]
theorem LnA.nrs {cs:List AV}{k0 i:Nat}{xs ys:List AV}(h:LnA r cs k0 i xs ys) (hi:k0<i):xs=ys/\∀ x∈xs,NR x:=by
 induction h with
 | nil=>exact ⟨rfl,by simp⟩
 | @b i _ _ h _ _=>have:=Nat.eq_of_beq_eq_true h; omega
 | @n i x xs ys _ hn _ ih =>
  obtain ⟨h1,h2⟩:=ih (by omega)
  exact ⟨by rw [h1],nr_cons hn.nr h2⟩
theorem LnA.take {cs:List AV}{k0 i:Nat}{xs ys:List AV}(h:LnA r cs k0 i xs ys) (hs:g r=some (.obj cs)) (hn:∀ x∈cs,NR x):i<=k0->k0<i+xs.length->Take g xs ys (setP g ⟨r,[]⟩ .dead):=by
 induction h with
 | nil=>intro h1 h2; simp at h2; omega
 | @b i xs ys hi t _ =>
  intro h1 h2
  have:=Nat.eq_of_beq_eq_true hi
  obtain ⟨e,hnr⟩:=t.nrs (by omega)
  subst e
  exact .obj (by simp [atP,hs,AV.at]) (.nr hn) (.nr hnr)
 | @n i x xs ys hi hx _ ih =>
  intro h1 h2
  have:=Nat.ne_of_beq_eq_false hi
  simp only [List.length_cons] at h2
  exact .cons hx.nr (ih (by omega) (by omega))
theorem LnA.at0 {cs:List AV}{k0 i:Nat}{xs ys:List AV}(h:LnA r cs k0 i xs ys):i<=k0->k0<i+xs.length->xs[k0 - i]?=some (.ptr ⟨r,[]⟩ 0):=by
 induction h with
 | nil=>intro h1 h2; simp at h2; omega
 | @b i xs ys hi _ _=>intro _ _; have:=Nat.eq_of_beq_eq_true hi; subst this; simp
 | @n i x xs ys hi _ _ ih =>
  grind [Nat.ne_of_beq_eq_false]
def out1 (n k0:Nat) (x:AV):List (Option AV):=(List.range n).map fun i=>if i=k0 then some x else none
inductive BkL (g:Gst) (d r:Nat) (n:Nat) (G4:List (Nat × AV)):List (Nat × AV)->Prop
 | nil:BkL g d r n G4 []
 | c {s k:Nat}{l:List (Nat × AV)}(h:g s=some (.ptr ⟨r,[]⟩ k)) (hk:Nat.blt k n=true) (hd:Nat.beq s d=false) (h4:get G4 s=none) (t:BkL g d r n G4 l):BkL g d r n G4 ((s,.ptr ⟨r,[]⟩ k)::l)
theorem get_app {A B:List (Nat × AV)}{t:Nat}:get (A++B) t=match get A t with | some x=>some x | none=>get B t:=by
 induction A with
 | nil=>rfl
 | cons p A ih =>
  grind [get]
theorem BkL.spec {n:Nat}{G4 A:List (Nat × AV)}(h:BkL g d r n G4 A):∀ t x,get A t=some x->get G4 t=none/\t≠d/\g t=some x/\∃ k,x=.ptr ⟨r,[]⟩ k/\k<n:=by
 induction h with
 | nil=>intro t x hx; cases hx
 | @c s k l h hk hd h4 _ ih =>
  intro t x hx
  simp only [get] at hx
  split at hx
  ·rename_i e
   subst e
   cases hx
   simp_all [Nat.ne_of_beq_eq_false]
  grind
theorem CallOk.ln {o:Oper}{xs:List Operand}{tys:Array TypeId}{f:FuncId}{ys args:List AV}{res:AV}{cs cs':List AV}{k0:Nat}{G2 A:List (Nat × AV)}(ho:o.op=.call { callee:=.value (.func f),args:=xs.toArray,argTypes:=tys }) (hd:o.dst=some d) (hx:Own.opds g xs=some ys)
  (hs:g r=some (.obj cs)) [hno:NRl cs] (ha:LnA r cs k0 0 ys args) (hk0:Nat.blt k0 ys.length=true) (hcon:Con P f args (out1 args.length k0 (.obj cs')) res) (hf:callT P f=true) [hr:NRc res] [hno':NRl cs']
  (hG:Trim false (setP g ⟨r,[]⟩ .dead) (get ((r,.dead)::G2)) G2) (hg:get G2 d=none) (hrd:Nat.beq r d=false) (hG4:Trim false (get ((r,.obj cs')::G2)) (get ((r,.obj cs')::G2)) G2) (hA:BkL g d r cs'.length ((r,.obj cs')::G2) A) (hN:N.ok d=true) :
  CallOk P N g o d (get (A++(d,res)::(r,.obj cs')::G2)):=by
 have hk0':k0<ys.length:=by simpa using hk0
 have hrd':r≠d:=Nat.ne_of_beq_eq_false hrd
 have hal:args.length=ys.length:=ha.len
 have hout:(out1 args.length k0 (.obj cs'))[k0]?=some (some (.obj cs')):=by
  unfold out1
  rw [List.getElem?_map,List.getElem?_range (by omega)]
  simp
 have houtn:∀ (k:Nat) (x:AV),(out1 args.length k0 (.obj cs'))[k]?=some (some x)->x=.obj cs':=by
  intro k x h
  unfold out1 at h
  rw [List.getElem?_map] at h
  cases hk:(List.range args.length)[k]? with
  | none=>rw [hk] at h; cases h
  | some j =>
   rw [hk] at h
   simp only [Option.map_some,Option.some.injEq] at h
   split at h
   ·exact (Option.some.inj h).symm
   ·cases h
 have dead2:get ((r,AV.dead)::G2) r=some .dead:=by simp [get]
 have keep2:Keep (setP g ⟨r,[]⟩ .dead) (get ((r,.dead)::G2)):=by
  refine ⟨fun t x h=>?_,fun t x h=>?_,fun t z q n m new h=>?_⟩
  all_goals
   simp only [get] at h
   split at h
  ·rename_i e; subst e; cases h; simp [setP,hs,AV.setAt]
  ·obtain ⟨⟨y,h1,_,h3⟩,_⟩:=hG.spec t x h; rw [<- h3 rfl]; exact h1
  ·cases h; exact .nr .dead
  ·exact (hG.spec t x h).2.1
  ·cases h
  ·exact (hG.spec t _ h).2.2 _ _ _ _ _ rfl
 have put:putAll (get ((r,.dead)::G2)) [(⟨r,[]⟩,.obj cs')]=get ((r,.obj cs')::G2):=by
  funext t
  simp only [putAll,setP,get]
  by_cases h:t=r
  ·simp [h,AV.setAt]
  ·simp [h]
 have keep4:Keep (get ((r,.obj cs')::G2)) (get ((r,.obj cs')::G2)):=by
  refine ⟨fun t x h=>h,fun t x h=>?_,fun t z q n m new h=>?_⟩
  all_goals
   simp only [get] at h
   split at h
  ·cases h; exact .nr (.obj hno'.nr)
  ·exact (hG4.spec t x h).2.1
  ·cases h
  ·exact (hG4.spec t _ h).2.2 _ _ _ _ _ rfl
 refine ECall.ok (first:=[]) (caps:=[]) (ys:=ys) (tk:=fun _=>true) (vw:=false) (outs:=out1 args.length k0 (.obj cs')) (g1:=setP g ⟨r,[]⟩ .dead) (g2:=get ((r,.dead)::G2)) (g4:=get ((r,.obj cs')::G2)) (l:=[(⟨r,[]⟩,.obj cs')]) (ks:=fun _=>k0) (xs0:=ys) (xs1:=args) (args:=args) (res:=res) ho hd rfl (by simpa using hx)
  ⟨hf,by simp,by simpa using hal,fun k x h=>.inl (by simpa using h),ha.take hs hno.nr (Nat.zero_le _) (by omega),keep2,fun k x y _ hy=>by simpa using hy,hcon,by simpa using hr.nr,fun k x h=>by rw [houtn k x h]; simpa using NR.obj hno'.nr,fun j p x hj=>?_,by simp,fun i j hi hj _=>by simp at hi hj; omega,by rw [put]; exact keep4⟩ ?_ hN ?_
 ·cases j with
  | succ j=>simp at hj
  | zero =>
   simp only [List.getElem?_cons_zero,Option.some.injEq,Prod.mk.injEq] at hj
   obtain ⟨rfl,rfl⟩:=hj
   refine ⟨hout,by simp [atP,dead2,AV.at],.inr ⟨cs,?_,by simp [atP,hs,AV.at]⟩,fun _ h=>by cases h⟩
   have:=ha.at0 (Nat.zero_le _) (by omega)
   simpa using this
 ·simp only [get,if_neg (Ne.symm hrd')]; exact hg
 ·refine ⟨fun t x h=>?_,fun t x h=>?_⟩
  ·rw [get_cons] at h
   rw [get_app]
   cases hA':get A t with
   | none=>exact h
   | some y =>
    obtain ⟨h1,h2,_⟩:=hA.spec t y hA'
    simp only [get,if_neg h2] at h
    simp only [get] at h1
    rw [h1] at h; cases h
  ·rw [get_cons]
   rw [get_app] at h
   cases hA':get A t with
   | none=>rw [hA'] at h; exact .inl h
   | some y =>
    rw [hA'] at h
    cases h
    obtain ⟨h1,h2,h3,k,rfl,hk⟩:=hA.spec t x hA'
    refine .inr ⟨?_,h2,h3,r,k,cs',rfl,hrd',?_,hk⟩
    ·simp only [get,if_neg h2]; exact h1
    ·simp only [get,if_neg hrd',if_true]
end
end Go.Own
namespace Go.Own
open Go
set_option linter.unusedSectionVars false
variable [TB]
variable {α β:Type}
def eK (k:IntKind):En Int:=.one (fun n=>.lit (.int k n)) fun _=>.lit
instance {k:IntKind}:Flat (eK k):=⟨fun _=>rfl⟩
instance {k:IntKind}:Tw (eK k) (eK k):=⟨rfl,fun a=>(inferInstance:Vws [.lit (.int k a)] [.lit (.int k a)])⟩
instance {k:IntKind}:OOe (eK k):=⟨fun a=>(inferInstance:OOl [.lit (.int k a)])⟩
instance {cs:List AV}{n:Nat}{x:AV} [h:NRl cs] [hx:NRc x]:NRl (cs.set n x):=⟨fun y hy=>by
 rcases List.mem_or_eq_of_mem_set hy with h' | h'
 ·exact h.nr y h'
 ·rw [h']; exact hx.nr⟩
instance {x y:AV} [h:NRc y]:NRc (x.setAt [] y):=⟨by simpa [AV.setAt] using h.nr⟩
def quoU (m n:Int):Option Int:=if n=0 then none else some (IntKind.u64.wrap (m.tdiv n))
def remU (m n:Int):Option Int:=if n=0 then none else some (m.tmod n)
inductive WkL:List AV->List AV->Prop
 | nil:WkL [] []
 | f {x:AV}{xs ys:List AV}(t:WkL xs ys):WkL (x::xs) (x::ys)
 | o {z:Nat}{xs ys:List AV}(t:WkL xs ys):WkL (.nils::xs) (.own z 0 []::ys)
 | i {z:Nat}{xs ys:List AV}(t:WkL xs ys):WkL (.nils::xs) (.imm z 0 []::ys)
theorem WkL.len {xs ys:List AV}(h:WkL xs ys):ys.length=xs.length:=by
 induction h with
 | nil=>rfl
 | f _ ih=>simp [ih]
 | o _ ih=>simp [ih]
 | i _ ih=>simp [ih]
theorem WkL.get {xs ys:List AV}(h:WkL xs ys):∀ (k:Nat) (x y:AV),xs[k]?=some x->ys[k]?=some y->WkV x y:=by
 induction h with
 | nil=>intro k x y hx; simp at hx
 | f _ ih =>
  intro k a b ha hb
  cases k with
  | zero=>simp at ha hb; subst ha hb; exact .refl
  | succ k=>exact ih k a b (by simpa using ha) (by simpa using hb)
 | o _ ih =>
  intro k a b ha hb
  cases k with
  | zero=>simp at ha hb; subst ha hb; exact .nilOwn
  | succ k=>exact ih k a b (by simpa using ha) (by simpa using hb)
 | i _ ih =>
  intro k a b ha hb
  cases k with
  | zero=>simp at ha hb; subst ha hb; exact .nilImm
  | succ k=>exact ih k a b (by simpa using ha) (by simpa using hb)
theorem WkL.obj {xs ys:List AV}(h:WkL xs ys):WkV (.obj xs) (.obj ys):=.obj h.len h.get
section
variable {P:Program}{N:Rm}{ops:Array Oper}{g g' g1 g2:Gst}{K:Gst->Prop}{l:List Oper}{d r:Nat}{op:Op}{ty t t2:TypeId}{pos:String}{after:Array Edge}{gd:Option (Nat × Bool)}{a b c:Operand}{p q:Place}{x y:AV}{k:IntKind}{m n:Int}
variable {AT:List (List Nat)}{g0:Gst}{acc:Acc}{i:Nat}
def ndr:List Nat->Bool
 | []=>true
 | x::l=>l.all (fun y=>!Nat.beq x y)&&ndr l
theorem ndr_spec:∀ {l:List Place},ndr (l.map Place.root)=true->l.Nodup
 | [],_=>List.nodup_nil
 | p::l,h=>by
  simp only [List.map_cons,ndr,Bool.and_eq_true,List.all_eq_true] at h
  refine List.nodup_cons.2 ⟨fun hm=>?_,ndr_spec h.2⟩
  have:=h.1 p.root (List.mem_map.2 ⟨p,hm,rfl⟩)
  simp at this
theorem DL.bp (j0:Nat) {G G2:List (Nat × AV)}{o:Oper}(he:EO P N (visG (get G) (fun _=>true) acc) o (get G2)) (hg:o.guard=none) (hpd:ndr ((acc.filterMap pendPlace).map Place.root)=true) (hp0:npB G=true) (hj:Nat.beq ops.size (j0+l.length+1)=true)
  (ha:(List.range j0).all (fun k=>(AT.getD j0 []).contains k)=true) (hb:(List.range ops.size).all (fun k=>Nat.ble k j0||(AT.getD k []).contains j0)=true) (hk:DL P N ops AT (get G2) (j0+1) [] l K):DL P N ops AT (get G) i acc (o::l) K:=by
 intro U0 j hP hseg hdrop
 have:=drop_at hdrop hj
 subst this
 obtain ⟨h1,h2⟩:=drop_cons hdrop
 obtain ⟨g',hr,hK⟩:=hk [] (j+1) .nil .nil h2
 refine ⟨g',.bar0 hP hseg (ndr_spec hpd) (npB_spec hp0) h1 ?_ he ha ?_ hr,hK⟩
 ·grind [Wanted]
 simp_all
theorem DL.bv (j0:Nat) {G G2:List (Nat × AV)}{o:Oper}{x:AV}(he:EO P N (visG (get G) (fun _=>true) acc) o (upd (get G2) d x)) (hg:o.guard=none) (hpd:ndr ((acc.filterMap pendPlace).map Place.root)=true) (hp0:npB G=true) (hj:Nat.beq ops.size (j0+l.length+1)=true)
  (ha:(List.range j0).all (fun k=>(AT.getD j0 []).contains k)=true) (hb:(List.range ops.size).all (fun k=>Nat.ble k j0||(AT.getD k []).contains j0)=true) (hk:DL P N ops AT (get ((d,x)::G2)) (j0+1) [] l K):DL P N ops AT (get G) i acc (o::l) K :=
 .bp j0 (get_cons ▸ he) hg hpd hp0 hj ha hb hk
class NoPe (s:Nat) (g:Gst):Prop where np:∀ t,t≠s->∀ z q n m new,g t≠some (.pend z q n m new)
instance (priority:=low) {s:Nat}{g:Gst} [h:NoPd g]:NoPe s g:=⟨fun t _=>h.np t⟩
instance {s:Nat}{g:Gst}{x:AV} [h:NoPe s g]:NoPe s (upd g s x):=⟨fun t ht z q n m new e=>by
 unfold upd at e
 rw [if_neg ht] at e
 exact h.np t ht _ _ _ _ _ e⟩
instance {s d:Nat}{g:Gst}{x:AV} [h:NoPe s g] [hx:NPc x]:NoPe s (upd g d x):=⟨fun t ht z q n m new e=>by
 unfold upd at e
 split at e
 ·cases e; exact hx.np _ _ _ _ _ rfl
 ·exact h.np t ht _ _ _ _ _ e⟩
class NPe (s:Nat) (acc:Acc):Prop where np:∀ e∈acc,e.2.1≠s->∀ z q n m new,e.2.2≠some (.pend z q n m new)
instance {s:Nat}:NPe s []:=⟨by simp⟩
instance {s j d:Nat}{x:AV}{acc:Acc} [hx:NPc x] [h:NPe s acc]:NPe s ((j,d,some x)::acc):=⟨fun e he hs z q n m new hh=>by
 rcases List.mem_cons.1 he with rfl | he
 ·exact hx.np z q n m new (Option.some.inj hh)
 ·exact h.np e he hs z q n m new hh⟩
instance {s j:Nat}{x:Option AV}{acc:Acc} [h:NPe s acc]:NPe s ((j,s,x)::acc):=⟨fun e he hs z q n m new hh=>by
 rcases List.mem_cons.1 he with rfl | he
 ·exact absurd rfl hs
 ·exact h.np e he hs z q n m new hh⟩
instance {s:Nat}{G:List (Nat × AV)}{A:Nat->Bool}{acc:Acc} [hg:NoPd (get G)] [h:NPe s acc]:NoPe s (visG (get G) A acc):=⟨fun t ht z q n m new e=>by
 rcases visG_some e with ⟨e',he,h1,_,h2⟩ | ⟨_,h2⟩
 ·exact h.np e' he (by rw [h1]; exact ht) _ _ _ _ _ h2
 ·exact hg.np _ _ _ _ _ _ h2⟩
namespace O
theorem quoU {r:Int}(hx:Rd g a (.lit (.int .u64 m))) (hy:Rd g b (.lit (.int .u64 n))) (h:Own.quoU m n=some r):PS P g (.binOp .quo t a b t2) ty (.lit (.int .u64 r)):=by
 unfold Own.quoU at h
 split at h
 ·cases h
 ·cases h; exact .p1 (.quo hx hy (by assumption))
theorem remU {r:Int}(hx:Rd g a (.lit (.int .u64 m))) (hy:Rd g b (.lit (.int .u64 n))) (h:Own.remU m n=some r):PS P g (.binOp .rem t a b t2) ty (.lit (.int .u64 r)):=by
 unfold Own.remU at h
 split at h
 ·cases h
 ·cases h; exact .p1 (.rem hx hy (by assumption))
theorem cvC {L:List Int}(hx:Rd g a (.imm eU.z L.length (rowc eU L))) (ht:bytT P t t2=true):PS P g (.convert t t2 a) ty (SS (strOfNums L)):=by
 have h:=hx.opd
 rw [rowc_map_U] at h
 exact .p1 (.convI h ht)
theorem bsL {e nn:Nat}{parts:Array (Nat × Operand)}{ys cs:List AV}{z:Nat}(ht:slT P t e z=true) (hx:opds g (parts.toList.map (·.2))=some ys) (hc:boxAll ys=some cs) (hz:ys.all (fun y=>match boxCells y with | some c=>Nat.beq c.length z | none=>false)=true)
  (hp:parts.toList=(parts.toList.map (·.2)).mapIdx (fun i x=>(i,x))) (hn:(parts.toList.map (·.2)).length=nn) (hzero:zeroT P e z=true) (hb:Nat.ble (nn * z) 16777216=true) (hb2:Nat.ble nn 16777216=true):PS P g (.buildSlice t nn parts) ty (.own z nn cs):=by
 subst hn
 exact .p2 (.buildSlice ht hp hx (fun y hy=>by
  grind [Nat.eq_of_beq_eq_true]) hc (Nat.le_of_ble_eq_true hb) (Nat.le_of_ble_eq_true hb2) (.inr (zeroT_spec hzero)))
theorem src_lit {z m:Nat}{cs:List AV}(hq:atP g q=some (.own z m cs)) (hl:cs.length=m * z) (hf:cs.all flatB=true):Src g (.brw z q m) z m cs:=by
 have:=Src.brw (g:=g) (m:=m) hq (Nat.le_refl _)
 simp_all [List.take_of_length_le,flat_map]
theorem apL {en:En α}{L M r:List α}{e b0 m:Nat}{cs:List AV}(hs:Rd g a (.brw en.z p L.length)) (hp:atP g p=some (oR en L)) (hx:Rd g b (.brw en.z q m)) (hq:atP g q=some (.own en.z m cs)) (hl:cs.length=m * en.z) (hf:cs.all flatB=true) (hm:M.length=m) (ht:appT P t e en.z b0=true) (hb:Nat.ble b0 128=true) (h:appO L M=some r) [hno:NoPd g] :
  PS P g (.call { callee:=.builtin .append,args:=#[a,b],argTypes:=#[t,t] }) ty (.pend en.z p L.length m cs):=by
 subst hm
 obtain ⟨h1,h2,_⟩:=app_bound h hb
 exact .pa (.grow hs.opd (.inl ⟨_,hp⟩) (fun t z' n' m' new' e=>hno.np _ _ _ _ _ _ e) hx.opd (src_lit hq hl hf) ht h1 h2)
theorem ap2 {en:En α}{L M M2 r:List α}{y:AV}{e b0 s:Nat}(hs:Rd g a (.brw en.z ⟨s,[]⟩ (L.length+M.length))) (hps:g s=some (.pend en.z q L.length M.length (rowc en M))) (hp:atP g q=some (oR en L)) (hx:Rd g b y) (hm:Sr g en y M2) (ht:appT P t e en.z b0=true) (hb:Nat.ble b0 128=true) (h:appO (L++M) M2=some r) [hno:NoPe s g] :
  PS P g (.call { callee:=.builtin .append,args:=#[a,b],argTypes:=#[t,t] }) ty (.pend en.z ⟨s,[]⟩ (L.length+M.length) M2.length (rowc en M2)):=by
 obtain ⟨h1,h2,_⟩:=app_bound h hb
 rw [List.length_append] at h1 h2
 refine .pa (.grow hs.opd (.inr ⟨rfl,q,L.length,M.length,rowc en M,_,hps,rfl,hp⟩) (fun t z' n' m' new' e=>?_) hx.opd hm.src ht h1 h2)
 by_cases hts:t=s
 ·grind [atP,AV.at]
 ·exact hno.np t hts _ _ _ _ _ e
theorem mkG {en:En α}{z0:α}{r:List α}{e b0:Nat}{zv:Value}(ht:slT P t e en.z=true) (hx:Rd g a (.lit (.int k m))) (hy:Rd g b (.lit (.int .i64 m))) (hzero:(P.info? e).bind (·.zero)=some zv) (h1:zv.cells.toList.all Value.oneCell'=true) (hcl:(en.cells z0).length=zv.cells.size) (hco:∀ (k:Nat) (u:Value) (x:AV),zv.cells[k]?=some u->(en.cells z0)[k]?=some x->x=ofCell u\/(ofCell u=.nils/\∃ z',x=.imm z' 0 [])) (h:mkO m z0=some r) (hbb:(P.info? e).map (·.bytes)=some b0) (hb:Nat.ble b0 128=true) :
  PS P g (.makeSlice t a b) ty (oR en r):=by
 unfold mkO at h
 split at h
 ·rename_i hm
  have hlim:lim=1099511627776:=rfl
  have hb':=Nat.le_of_ble_eq_true hb
  obtain ⟨j,rfl⟩:=Int.eq_ofNat_of_zero_le hm.1
  cases h
  have hj:j<=1099511627776:=by omega
  have hsz:zv.cells.size=en.z:=by rw [<- hcl,en.len]
  have:=PS2.makeSlice (P:=P) (ty:=ty) ht hx.opd hy.opd hzero (by rw [<- Array.all_toList]; exact h1) hsz hbb (by
   calc j * b0<=1099511627776 * 128:=Nat.mul_le_mul hj hb'
    _=140737488355328:=by decide) (by omega) hcl hco
  have e1:(List.replicate j (en.cells z0)).flatten=rowc en (List.replicate j z0):=by simp [rowc,List.flatMap_def]
  unfold oR
  rw [Int.toNat_natCast,List.length_replicate,<- e1]
  exact .p2 this
 ·cases h
theorem mk {en:En α}{z0:α}{r:List α}{e b0:Nat}{zv:Value}(ht:slT P t e en.z=true) (hx:Rd g a (.lit (.int k m))) (hy:Rd g b (.lit (.int .i64 m))) (hzero:(P.info? e).bind (·.zero)=some zv) (h1:zv.cells.toList.all Value.oneCell'=true) (hc:zv.cells.toList.map ofCell=en.cells z0) (h:mkO m z0=some r) (hbb:(P.info? e).map (·.bytes)=some b0) (hb:Nat.ble b0 128=true) :
  PS P g (.makeSlice t a b) ty (oR en r):=by
 grind [mkG]
theorem mkN {e:En β}{r:List (List β)}{m:Int}{k:IntKind}{a b:Operand}{t ty:TypeId}{et b0:Nat}{zv:Value}(ht:slT P t et (eM e).z=true) (hx:Rd g a (.lit (.int k m))) (hy:Rd g b (.lit (.int .i64 m))) (hzero:(P.info? et).bind (·.zero)=some zv) (h1:zv.cells.toList.all Value.oneCell'=true) (hc:zv.cells.toList.map ofCell=[.nils]) (h:mkO m ([]:List β)=some r) (hbb:(P.info? et).map (·.bytes)=some b0) (hb:Nat.ble b0 128=true) :
  PS P g (.makeSlice t a b) ty (oR (eM e) r):=by
 refine mkG ht hx hy hzero h1 ?_ (fun k u x hu hx=>.inr ?_) h hbb hb
 ·grind [List.length_map,eM]
 ·have hl:=congrArg List.length hc
  rw [List.length_map] at hl
  have hk:k=0:=by
   grind
  subst hk
  have hu':zv.cells.toList[0]?=some u:=by simpa using hu
  have h2:=congrArg (fun l=>l[0]?) hc
  simp only [List.getElem?_map,hu',Option.map_some] at h2
  have h2:=Option.some.inj h2
  refine ⟨h2,e.z,?_⟩
  have hx:([iR e []]:List AV)[0]?=some x:=hx
  have:x=iR e []:=(Option.some.inj hx).symm
  rw [this]
  rfl
theorem min' (hx:Rd g a (I64 m)) (hy:Rd g b (I64 n)):PS P g (.call { callee:=.builtin .min,args:=#[a,b],argTypes:=#[t,t2] }) ty (I64 (min m n)):=.p1 (.lits (vs:=[.int .i64 m,.int .i64 n]) (by simp [hx.opd,hy.opd]) rfl fun w cs=>by
 have:(if n<m then n else m)=min m n:=by omega
 simp [builtin,Builtin.min_,Builtin.min2,this])
theorem max' (hx:Rd g a (I64 m)) (hy:Rd g b (I64 n)):PS P g (.call { callee:=.builtin .max,args:=#[a,b],argTypes:=#[t,t2] }) ty (I64 (max m n)):=.p1 (.lits (vs:=[.int .i64 m,.int .i64 n]) (by simp [hx.opd,hy.opd]) rfl fun w cs=>by
 have:(if m<n then n else m)=max m n:=by omega
 simp [builtin,Builtin.max_,Builtin.max2,this])
end O
theorem row_set (en:En α) {L:List α}{y y2:α}{o:Nat}{cs':List AV}(h:idx L m=some y) (he:splice (en.cells y) o cs'=en.cells y2) (hlen:o+cs'.length<=en.z):splice (rowc en L) (m.toNat * en.z+o) cs'=rowc en (L.set m.toNat y2):=by
 obtain ⟨h0,h1,h2⟩:=idx_spec h
 have hlt:m.toNat<L.length:=(List.getElem?_eq_some_iff.1 h2).1
 have hy:L[m.toNat]=y:=(List.getElem?_eq_some_iff.1 h2).2
 have e1:rowc en L=rowc en (L.take m.toNat)++(en.cells y++rowc en (L.drop (m.toNat+1))):=by
  grind [rowc,List.take_append_drop,List.drop_eq_getElem_cons]
 have e2:rowc en (L.set m.toNat y2)=rowc en (L.take m.toNat)++(en.cells y2++rowc en (L.drop (m.toNat+1))):=by
  grind [List.set_eq_take_append_cons_drop,rowc]
 have hl:(rowc en (L.take m.toNat)).length=m.toNat * en.z:=by rw [rowc_len,List.length_take]; congr 1; omega
 rw [e1,e2,<- he]
 unfold splice
 generalize rowc en (L.take m.toNat)=A at *
 generalize rowc en (L.drop (m.toNat+1))=B at *
 rw [<- hl]
 have hyl:=en.len y
 rw [List.take_append,List.take_of_length_le (by omega),show A.length+o - A.length=o by omega,List.take_append_of_le_length (by omega)]
 rw [List.drop_append,List.drop_eq_nil_of_le (by omega),show A.length+o+cs'.length - A.length=o+cs'.length by omega,List.drop_append_of_le_length (by omega)]
 simp
theorem el_lt {en:En α}{L:List α}{i:Int}{off:Nat}{y:α}(h:idx L i=some y) (ho:Nat.blt off en.z=true):i.toNat * en.z+off<(rowc en L).length:=by
 obtain ⟨q0,q1,_⟩:=idx_spec h
 have ho':off<en.z:=by simpa using ho
 rw [rowc_len]
 have h2:i.toNat+1<=L.length:=by omega
 calc i.toNat * en.z+off<i.toNat * en.z+en.z:=by omega
  _=(i.toNat+1) * en.z:=by rw [Nat.add_mul]; omega
  _<=L.length * en.z:=Nat.mul_le_mul_right _ h2
theorem idx_set_same {L:List α}{i:Int}{y y2:α}(h:idx L i=some y):idx (L.set i.toNat y2) i=some y2:=by
 grind [idx]
inductive El (g g2:Gst):AV->Prop
 | mk {α:Type}{en:En α}{L L2:List α}{r j off:Nat}{i:Int}{y y2:α}(h1:atP g ⟨r,[j]⟩=some (oR en L)) (hi:idx L i=some y) (h2:atP g2 ⟨r,[j]⟩=some (oR en L2)) (hi2:idx L2 i=some y2) (ho:Nat.blt off en.z=true):El g g2 (.ptr ⟨r,[j]⟩ (i.toNat * en.z+off))
theorem El.ok1 {x:AV}(h:El g g2 x):RefOk g x:=by
 cases h with
 | mk h1 hi h2 hi2 ho=>exact ⟨_,h1,_,_,_,.inl rfl,el_lt hi ho⟩
theorem El.ok2 {x:AV}(h:El g g2 x):RefOk g2 x:=by
 cases h with
 | mk h1 hi h2 hi2 ho=>exact ⟨_,h2,_,_,_,.inl rfl,el_lt hi2 ho⟩
theorem El.rk {x:AV}(h:El g g2 x):RK g2 x:=by
 have:=h.ok2
 cases h with
 | mk=>exact .ref rfl this
theorem El.np {x:AV}(h:El g g2 x):∀ z p n m new,x≠.pend z p n m new:=by
 cases h with
 | mk=>simp
theorem El.clear {x:AV}{k0 m0:Nat}(h:El g g2 x) (hp:p.path≠[]):Clear p k0 m0 x:=by
 cases h with
 | mk =>
  intro q hq _ j r' e
  simp only [refPlace,Option.some.injEq] at hq
  subst hq
  cases hpp:p.path with
  | nil=>exact absurd hpp hp
  | cons a b=>rw [hpp] at e; simp at e
inductive TrX (g g2:Gst) (r:Nat) (x2:AV):List (Nat × AV)->Prop
 | nil:TrX g g2 r x2 []
 | n {s:Nat}{x:AV}{l:List (Nat × AV)}(hne:Nat.beq s r=false) (h:g s=some x) [hn:NRc x] (t:TrX g g2 r x2 l):TrX g g2 r x2 ((s,x)::l)
 | p {s q k:Nat}{l:List (Nat × AV)}{cs ct:List AV}(hne:Nat.beq s r=false) (h:g s=some (.ptr ⟨q,[]⟩ k)) (h1:g q=some (.obj cs)) (hk:Nat.blt k cs.length=true) (h2:g2 q=some (.obj ct)) (hk2:Nat.blt k ct.length=true) (t:TrX g g2 r x2 l):TrX g g2 r x2 ((s,.ptr ⟨q,[]⟩ k)::l)
 | e {s:Nat}{x:AV}{c2:List AV}{l:List (Nat × AV)}(hne:Nat.beq s r=false) (h:g s=some x) (he:El g g2 x) (hx2:x2=.obj c2) (t:TrX g g2 r x2 l):TrX g g2 r x2 ((s,x)::l)
 | w {α:Type}{s q:Nat}{en:En α}{L:List α}{l:List (Nat × AV)}(hne:Nat.beq s r=false) (h:g s=some (.brw en.z ⟨q,[]⟩ L.length)) (h1:g q=some (oR en L)) (h2:g2 q=some (oR en L)) (t:TrX g g2 r x2 l):TrX g g2 r x2 ((s,.brw en.z ⟨q,[]⟩ L.length)::l)
 | b {l:List (Nat × AV)}{x:AV}(e:x=x2) [hn:NRc x2] (t:TrX g g2 r x2 l):TrX g g2 r x2 ((r,x)::l)
theorem TrX.spec {x2:AV}{l:List (Nat × AV)}(h:TrX g g2 r x2 l):∀ t x,get l t=some x->(t≠r/\g t=some x/\(SK g g2 x\/El g g2 x/\∃ c2,x2=.obj c2))\/(t=r/\x=x2/\NR x):=by
 induction h with
 | nil=>intro t x hx; cases hx
 | @n s x l hne h hn _ ih =>
  intro t y hy
  simp only [get] at hy
  split at hy
  ·rename_i e
   subst e
   cases hy
   exact .inl ⟨Nat.ne_of_beq_eq_false hne,h,.inl (.n hn.nr)⟩
  grind
 | @p s q k l cs ct hne h h1 hk h2 hk2 _ ih =>
  intro t y hy
  simp only [get] at hy
  split at hy
  ·rename_i e
   subst e
   cases hy
   exact .inl ⟨Nat.ne_of_beq_eq_false hne,h,.inl (.p h1 (by simpa using hk) h2 (by simpa using hk2))⟩
  grind
 | @e s x c2 l hne h he hx2 _ ih =>
  grind [get,Nat.ne_of_beq_eq_false]
 | @w α s q en L l hne h h1 h2 _ ih =>
  intro t y hy
  simp only [get] at hy
  split at hy
  ·rename_i e
   subst e
   cases hy
   exact .inl ⟨Nat.ne_of_beq_eq_false hne,h,.inl (.r h1 (Nat.le_refl _) h2 (Nat.le_refl _))⟩
  grind
 | @b l x e hn _ ih =>
  intro t y hy
  simp only [get] at hy
  split at hy
  ·rename_i e'
   subst e'
   cases hy
   subst e
   exact .inr ⟨rfl,rfl,hn.nr⟩
  grind
theorem SK.rkq {x:AV}{k0 m0:Nat}(h:SK g g2 x):RKp (fun r=>RefOk g r/\Clear p k0 m0 r/\RefOk g2 r) x:=by
 cases h with
 | n h=>exact .nr h
 | p h hk h2 hk2 =>
  refine .ref rfl ⟨refOk_obj h hk,?_,refOk_obj h2 hk2⟩
  intro q hq _ j r' e
  simp only [refPlace,Option.some.injEq] at hq
  subst hq
  simp at e
 | r h hk h2 hk2 =>
  refine .ref rfl ⟨refOk_own h hk,?_,refOk_own h2 hk2⟩
  intro q hq _ j r' e
  simp only [refPlace,Option.some.injEq] at hq
  subst hq
  simp at e
theorem EO.stE {o':Oper}{en:En α}{L:List α}{yy y2:α}{o:Nat}{cs':List AV}{x2:AV}{G2:List (Nat × AV)}(ho:o'.op=.store t a b) (hd:o'.dst=none) (ha:Rd g a (.ptr p (m.toNat * en.z+o))) (hb:Rd g b y) (hp:atP g p=some (oR en L)) (h:idx L m=some yy) (hz:sizeT P t cs'.length=true)
  (hc:cellsP y=some cs') (he:splice (en.cells yy) o cs'=en.cells y2) (hlen:Nat.ble (o+cs'.length) en.z=true) (h0:Nat.blt 0 cs'.length=true) (hx2:setP g p (oR en (L.set m.toNat y2)) p.root=some x2) (hr:(get G2 p.root).isSome=true) [hn:NRc y] {y0:AV}(hy0:g p.root=some y0) [hno:NRc y0] (hG:TrX g (get G2) p.root x2 G2):EO P N g o' (get G2):=by
 have hlen':=Nat.le_of_ble_eq_true hlen
 have hsp:=row_set en h he hlen'
 have hl2:(L.set m.toNat y2).length=L.length:=List.length_set
 refine .store ho hd ha.opd hb.opd (.nr (by simpa using hn.nr)) .refl hc hz (p:=p) (nd:=oR en L) (z:=en.z) (n:=L.length) (cs:=rowc en L) hp (.inl rfl) ?_ (by simpa using h0) (fun t x hx=>?_) (fun t x hx y hy=>?_) (fun t z q n m new hx=>?_) (by intro e; rw [e] at hr; cases hr)
 ·obtain ⟨q0,q1,_⟩:=idx_spec h
  rw [rowc_len]
  have h2:m.toNat+1<=L.length:=by omega
  calc m.toNat * en.z+o+cs'.length<=m.toNat * en.z+en.z:=by omega
   _=(m.toNat+1) * en.z:=by rw [Nat.add_mul]; omega
   _<=L.length * en.z:=Nat.mul_le_mul_right _ h2
 ·have hnd:(oR en L).splice (m.toNat * en.z+o) cs'=oR en (L.set m.toNat y2):=by
   show AV.own en.z L.length (splice (rowc en L) (m.toNat * en.z+o) cs')=_
   grind
  rw [hnd]
  rcases hG.spec t x hx with ⟨h1,h2,_⟩ | ⟨h1,h2,_⟩
  ·grind [setP_slot]
  grind
 ·rcases hG.spec t x hx with ⟨h1,h2,h3⟩ | ⟨h1,h2,h3⟩
  ·rw [h2] at hy
   cases hy
   rcases h3 with h3 | ⟨h3,c2,rfl⟩
   ·exact h3.rkq
   ·refine RKp.ref (by cases h3; rfl) ⟨h3.ok1,h3.clear ?_,h3.ok2⟩
    grind [setP,AV.setAt]
  ·subst h1
   rw [hy0] at hy
   cases hy
   exact .nr hno.nr
 ·rcases hG.spec t _ hx with ⟨_,_,h3 | ⟨h3,_⟩⟩ | ⟨_,_,h3⟩
  ·exact h3.np _ _ _ _ _ rfl
  ·exact h3.np _ _ _ _ _ rfl
  ·cases h3
end
end Go.Own
namespace Go.Own
open Go
set_option linter.unusedSectionVars false
variable [TB]
theorem beqS (a b:ByteArray):(a == b)=decide (a=b):=by
 obtain ⟨a⟩:=a
 obtain ⟨b⟩:=b
 have:(({ data:=a }:ByteArray) == { data:=b })=(a == b):=rfl
 rw [this,Bool.eq_iff_iff]
 simp
inductive Sh where
 | b | s | i (k:IntKind)
 deriving DecidableEq
def shOf:Value->Option Sh
 | .bool _=>some .b
 | .string _=>some .s
 | .int k _=>some (.i k)
 | _=>none
def eqTgo (P:Program) (rc:TypeId->List Sh->Bool):List Field->Nat->List Sh->Bool
 | [],_,sh=>sh.isEmpty
 | f :: fs, o, sh => f.name != "_" && f.offset == o && (match P.info? f.type with
   | some i=>i.size<=sh.length&&rc f.type (sh.take i.size)&&eqTgo P rc fs (o+i.size) (sh.drop i.size)
   | none=>false)
def eqT (P:Program):Nat->TypeId->List Sh->Bool
 | 0,_,_=>false
 | d+1,t,sh=>match P.underlying t with
  | some .bool=>sh == [.b]&&cellT P t
  | some (.int k)=>sh == [.i k]&&cellT P t
  | some .string=>sh == [.s]&&cellT P t
  | some (.struct fs)=>aggT P t sh.length&&!P.stoodInHeld t&&eqTgo P (eqT P d) fs.toList 0 sh
  | _=>false
def eqV:Value->Value->Bool
 | .bool a,.bool b=>a == b
 | .int _ a,.int _ b=>decide (a=b)
 | .string a,.string b=>decide (a=b)
 | _,_=>false
def eqVs:List Value->List Value->Bool
 | a::az,b::bs=>eqV a b&&eqVs az bs
 | _,_=>true
theorem eqVs_append:∀ (az bs cs ds:List Value),az.length=bs.length->eqVs (az++cs) (bs++ds)=(eqVs az bs&&eqVs cs ds)
 | [],[],cs,ds,_=>by simp [eqVs]
 | [],_::_,_,_,h=>by simp at h
 | _::_,[],_,_,h=>by simp at h
 | a::az,b::bs,cs,ds,h=>by
  simp only [List.cons_append,eqVs,eqVs_append az bs cs ds (by simpa using h),Bool.and_assoc]
def pack (P:Program) (t:TypeId) (vs:List Value):Value :=
 match P.underlying t,vs with
 | some (.struct _),_=>.agg vs.toArray
 | _,v::_=>v
 | _,[]=>.agg #[]
theorem run_part {P:Program}{w:World}{t:TypeId}{d:Nat}{sh:List Sh}(h:eqT P (d+1) t sh=true) {cs:List Value}{o:Nat}{vs:List Value}(hv:(cs.drop o).take sh.length=vs) (hl:vs.length=sh.length) :
  (part t cs.toArray o).run P w=.ok (pack P t vs) w:=by
 unfold eqT at h
 split at h
 case h_4 fs hu =>
  simp only [Bool.and_eq_true] at h
  obtain ⟨h1,h2⟩:=aggT_spec (w:=w) h.1.1
  simp [part,h1,h2,pack,hu,<- hv,List.take_drop]
 case h_5=>cases h
 all_goals
  rename_i hu
  simp only [Bool.and_eq_true,beq_iff_eq] at h
  obtain ⟨rfl,hc⟩:=h
  obtain ⟨h1,h2⟩:=cellT_spec (w:=w) hc
  obtain ⟨v,rfl⟩:∃ v,vs=[v]:=by
   rcases vs with _ | ⟨v,_ | _⟩ <;> simp at hl
   exact ⟨v,rfl⟩
  have:cs[o]?=some v:=by
   have:=congrArg List.head? hv
   simpa [List.head?_take] using this
  simp [part,h1,pack,hu,this]
theorem run_eqIn {P:Program}(w:World):∀ (d:Nat) (t:TypeId) (sh:List Sh),eqT P d t sh=true->∀ (D:Nat),d<=D->∀ (az bs:List Value),az.map shOf=sh.map some->bs.map shOf=sh.map some ->
  (Op.equalIn D t (pack P t az) (pack P t bs)).run P w=.ok (eqVs az bs) w
 | 0,_,_,h,_,_,_,_,_,_=>by simp [eqT] at h
 | d+1,t,sh,h,D,hD,az,bs,ha,hb=>by
  obtain ⟨D,rfl⟩:∃ E,D=E+1:=⟨D - 1,by omega⟩
  have h0:=h
  unfold eqT at h
  split at h
  case h_5=>cases h
  case h_4 fs hu =>
   simp only [Bool.and_eq_true,Bool.not_eq_true'] at h
   obtain ⟨⟨h1,h2⟩,h3⟩:=h
   have key:∀ (fs:List Field) (o:Nat) (sh:List Sh) (as' bs':List Value),eqTgo P (eqT P d) fs o sh=true->az.drop o=as'->bs.drop o=bs'->as'.map shOf=sh.map some->bs'.map shOf=sh.map some ->
     (forIn (m:=Sem) (β:=Option Bool × Unit) fs (none,()) fun f _ =>
      if f.name = "_" then pure (.yield (none, ()))
      else do
       let x <- part f.type az.toArray f.offset
       let y <- part f.type bs.toArray f.offset
       let c <- Op.equalIn D f.type x y
       if c=false then pure (.done (some false,())) else pure (.yield (none,()))).run P w=.ok (if eqVs as' bs' then (none,()) else (some false,())) w:=by
    intro fs
    induction fs with
    | nil =>
     intro o sh as' bs' hg _ _ ha hb
     have hs:sh=[]:=by simpa [eqTgo] using hg
     subst hs
     have h1:as'=[]:=by simpa using ha
     have h2:bs'=[]:=by simpa using hb
     subst h1 h2
     simp [eqVs]
    | cons f fs ih =>
     intro o sh as' bs' hg hda hdb ha hb
     unfold eqTgo at hg
     cases hi:P.info? f.type with
     | none=>simp [hi] at hg
     | some i =>
      simp only [hi,Bool.and_eq_true,bne_iff_ne,beq_iff_eq,decide_eq_true_eq] at hg
      obtain ⟨⟨hn,rfl⟩,⟨hle,he⟩,hgo⟩:=hg
      obtain ⟨e,rfl⟩:∃ e,d=e+1:=by
       cases d with
       | zero=>simp [eqT] at he
       | succ e=>exact ⟨e,rfl⟩
      have la:as'.length=sh.length:=by simpa using congrArg List.length ha
      have lb:bs'.length=sh.length:=by simpa using congrArg List.length hb
      have ta:(as'.take i.size).map shOf=(sh.take i.size).map some:=by rw [List.map_take,List.map_take,ha]
      have tb:(bs'.take i.size).map shOf=(sh.take i.size).map some:=by rw [List.map_take,List.map_take,hb]
      have da:(as'.drop i.size).map shOf=(sh.drop i.size).map some:=by rw [List.map_drop,List.map_drop,ha]
      have db:(bs'.drop i.size).map shOf=(sh.drop i.size).map some:=by rw [List.map_drop,List.map_drop,hb]
      have lt:(sh.take i.size).length=i.size:=by simp; omega
      have pa:=run_part (w:=w) he (cs:=az) (o:=f.offset) (vs:=as'.take i.size) (by rw [hda,lt]) (by simp; omega)
      have pb:=run_part (w:=w) he (cs:=bs) (o:=f.offset) (vs:=bs'.take i.size) (by rw [hdb,lt]) (by simp; omega)
      have ee:=run_eqIn w (e+1) f.type _ he D (by omega) _ _ ta tb
      have ih:=ih (f.offset+i.size) (sh.drop i.size) (as'.drop i.size) (bs'.drop i.size) hgo (by rw [<- hda,List.drop_drop]) (by rw [<- hdb,List.drop_drop]) da db
      have sp:eqVs as' bs'=(eqVs (as'.take i.size) (bs'.take i.size)&&eqVs (as'.drop i.size) (bs'.drop i.size)):=by
       have:=eqVs_append (as'.take i.size) (bs'.take i.size) (as'.drop i.size) (bs'.drop i.size) (by simp; omega)
       rwa [List.take_append_drop,List.take_append_drop] at this
      rw [List.forIn_cons]
      cases hc:eqVs (as'.take i.size) (bs'.take i.size) with
      | false=>simp [hn,pa,pb,ee,hc,sp]
      | true =>
       simp only [hc] at ee
       simp [hn,pa,pb,ee,hc,sp]
       simpa using ih
   have hk:=key fs.toList 0 sh az bs h3 rfl rfl ha hb
   unfold Op.equalIn
   simp [pack,hu,run_underlying hu,h2]
   rw [<- Array.forIn_toList,hk]
   cases eqVs az bs <;> simp
  all_goals
   rename_i hu
   simp only [Bool.and_eq_true,beq_iff_eq] at h
   obtain ⟨rfl,hc⟩:=h
   obtain ⟨a,rfl⟩:∃ v,az=[v]:=by
    rcases az with _ | ⟨v,_ | _⟩ <;> simp at ha
    exact ⟨v,rfl⟩
   obtain ⟨b,rfl⟩:∃ v,bs=[v]:=by
    rcases bs with _ | ⟨v,_ | _⟩ <;> simp at hb
    exact ⟨v,rfl⟩
   cases a <;> simp [shOf] at ha <;> cases b <;> simp [shOf] at hb
   simp [Op.equalIn,pack,hu,run_underlying hu,eqVs,eqV,ha,hb,beqS] <;> rfl
end Go.Own
namespace Go.Own
open Go
set_option linter.unusedSectionVars false
variable [TB]
def eqAT (P:Program) (t:TypeId) (sh:List Sh):Bool :=
 eqT P 100 t sh&&(match P.underlying t with | some (.struct _)=>true | _=>false)&&!P.eqGuardType P.depth t
section
variable {P:Program}{g:Gst}{t t2:TypeId}{ty:TypeId}{a b:Operand}
theorem run_eqA {az bs:List Value}{sh:List Sh}(ha:az.map shOf=sh.map some) (hb:bs.map shOf=sh.map some) (ht:eqAT P t sh=true) (w:World) :
  (do eqGuard .eql t a b (.agg az.toArray) (.agg bs.toArray); binOp .eql t (.agg az.toArray) (.agg bs.toArray):Sem Value).run P w=.ok (.bool (eqVs az bs)) w:=by
 simp only [eqAT,Bool.and_eq_true,Bool.not_eq_true'] at ht
 obtain ⟨⟨h1,h2⟩,h3⟩:=ht
 have h:=run_eqIn w 100 t sh h1 Op.maxDepth (by decide) az bs ha hb
 split at h2
 ·rename_i fs hu
  simp only [pack,hu] at h
  simp [eqGuard,binOp,h3,Op.equal,h]
 ·cases h2
theorem run_neA {az bs:List Value}{sh:List Sh}(ha:az.map shOf=sh.map some) (hb:bs.map shOf=sh.map some) (ht:eqAT P t sh=true) (w:World) :
  (do eqGuard .neq t a b (.agg az.toArray) (.agg bs.toArray); binOp .neq t (.agg az.toArray) (.agg bs.toArray):Sem Value).run P w=.ok (.bool (!eqVs az bs)) w:=by
 simp only [eqAT,Bool.and_eq_true,Bool.not_eq_true'] at ht
 obtain ⟨⟨h1,h2⟩,h3⟩:=ht
 have h:=run_eqIn w 100 t sh h1 Op.maxDepth (by decide) az bs ha hb
 split at h2
 ·rename_i fs hu
  simp only [pack,hu] at h
  simp [eqGuard,binOp,h3,Op.equal,h]
 ·cases h2
namespace O
theorem eqlA {va vb:List Value}{sh:List Sh}(hx:Rd g a (.agg (va.map .lit))) (hy:Rd g b (.agg (vb.map .lit))) (ha:va.map shOf=sh.map some) (hb:vb.map shOf=sh.map some) (ht:eqAT P t sh=true) :
  PS P g (.binOp .eql t a b t2) ty (BB (eqVs va vb)):=.p1 (.binA hx.opd hy.opd rfl fun w=>run_eqA ha hb ht w)
theorem neqA {va vb:List Value}{sh:List Sh}(hx:Rd g a (.agg (va.map .lit))) (hy:Rd g b (.agg (vb.map .lit))) (ha:va.map shOf=sh.map some) (hb:vb.map shOf=sh.map some) (ht:eqAT P t sh=true) :
  PS P g (.binOp .neq t a b t2) ty (BB (!eqVs va vb)):=.p1 (.binA hx.opd hy.opd rfl fun w=>run_neA ha hb ht w)
end O
end
end Go.Own
namespace Go.Own
open Go
set_option linter.unusedSectionVars false
variable [TB]
section
variable {P:Program}{N:Rm}{g g2:Gst}{d r k0:Nat}{α:Type}
theorem View.p0 {p:Place}{cs cs':List AV}(hp:atP g p=some (.obj cs)) (hk:Nat.blt 0 cs.length=true) [h:Vws cs cs']:View g (.ptr p 0) (.iptr cs') :=
 .ptr hp (z:=0) (n:=0) (.inr rfl) (by simpa using hk) (by simpa using h.l) fun k x y hx hy=>h.v g k x y (by simpa using hx) hy
theorem RK.el {en:En α}{L:List α}{j off:Nat}{i:Int}{y:α}(h2:atP g2 ⟨r,[j]⟩=some (oR en L)) (hi:idx L i=some y) (ho:Nat.blt off en.z=true):RK g2 (.ptr ⟨r,[j]⟩ (i.toNat * en.z+off)) :=
 (El.mk (g:=g2) h2 hi h2 hi ho).rk
theorem npPtr {p:Place}{k:Nat}:∀ z q n m new,AV.ptr p k≠.pend z q n m new:=by simp
inductive BkE (g:Gst) (d r k0:Nat) (G4:List (Nat × AV)):List (Nat × AV)->Prop
 | nil:BkE g d r k0 G4 []
 | c {α:Type}{en:En α}{L:List α}{s off:Nat}{i:Int}{y:α}{l:List (Nat × AV)}(h:g s=some (.ptr ⟨r,[k0]⟩ (i.toNat * en.z+off))) (hp:atP (get G4) ⟨r,[k0]⟩=some (oR en L)) (hi:idx L i=some y) (ho:Nat.blt off en.z=true) (hd:Nat.beq s d=false) (h4:get G4 s=none) (t:BkE g d r k0 G4 l):BkE g d r k0 G4 ((s,.ptr ⟨r,[k0]⟩ (i.toNat * en.z+off))::l)
theorem BkE.spec {G4 l:List (Nat × AV)}(h:BkE g d r k0 G4 l):∀ t x,get l t=some x->get G4 t=none/\t≠d/\g t=some x/\∃ m z n cs,x=.ptr ⟨r,[k0]⟩ m/\atP (get G4) ⟨r,[k0]⟩=some (.own z n cs)/\m<cs.length:=by
 induction h with
 | nil=>intro t x hx; cases hx
 | @c α en L s off i y l h hp hi ho hd h4 _ ih =>
  intro t x hx; simp only [get] at hx
  split at hx
  ·rename_i e; subst e; cases hx; exact ⟨h4,Nat.ne_of_beq_eq_false hd,h,_,_,_,_,rfl,hp,el_lt hi ho⟩
  ·exact ih t x hx
theorem TrX.keep {g':Gst}{x2:AV}{G2:List (Nat × AV)}(hG:TrX g (get G2) r x2 G2) (h1:∀ t,t≠r->g' t=g t) (h2:g' r=some x2):Keep g' (get G2):=by
 refine ⟨fun t x hx=>?_,fun t x hx=>?_,fun t z q n m new hx=>?_⟩
 ·rcases hG.spec t x hx with ⟨a,b,_⟩ | ⟨rfl,rfl,_⟩
  ·grind
  grind
 ·rcases hG.spec t x hx with ⟨_,_,h3 | ⟨h3,_⟩⟩ | ⟨_,_,h3⟩
  ·exact h3.rk
  ·exact h3.rk
  ·exact .nr h3
 ·rcases hG.spec t _ hx with ⟨_,_,h3 | ⟨h3,_⟩⟩ | ⟨_,_,h3⟩
  ·exact h3.np _ _ _ _ _ rfl
  ·exact h3.np _ _ _ _ _ rfl
  ·cases h3
theorem setP_box {cs:List AV}{y x:AV}(h:g r=some (.obj cs)) (hk:cs[k0]?=some x):setP g ⟨r,[k0]⟩ y r=some (.obj (cs.set k0 y)):=by
 grind [setP,AV.setAt,AV.kids,AV.setKid]
theorem EO.fr {o:Oper}{y:AV}{cs cs5:List AV}{G1 G4:Value->List (Nat × AV)}{c4:Value->List AV}{G5 A:List (Nat × AV)}(hd:o.dst=some d) (hN:N.ok d=true) (hr:g r=some (.obj cs)) (hy:cs[k0]?=some y) [hyn:NRc y]
  (h1:∀ v,TrX g (get (G1 v)) r (.obj (cs.set k0 (.lit v))) (G1 v)) (hc:∀ v,CallOk P N (get (G1 v)) o d (get (G4 v))) (h4r:∀ v,get (G4 v) r=some (.obj (c4 v))) (h4k:∀ v,(c4 v)[k0]?=some (.lit v)) (h4s:∀ v,(c4 v).set k0 y=cs5)
  (h5:∀ v,TrX (get (G4 v)) (get G5) r (.obj cs5) G5) (h5r:atP (get G5) ⟨r,[k0]⟩=some y) (hA:BkE g d r k0 G5 A) (hns:∀ i,y≠.self i:=by exact fun _ h=>by cases h):EO P N g o (get (A++G5)):=by
 refine .call hd hN (CallOk.framed hr hy hyn.nr hns fun v hv=>⟨get (G1 v),get (G4 v),get G5,?_,hc v,?_,?_,h5r,?_⟩)
 ·exact (h1 v).keep (fun t ht=>setP_slot ht) (setP_box hr hy)
 ·have:=h4r v
  simp only [atP,this,AV.at,AV.kids,h4k v]
 ·refine (h5 v).keep (fun t ht=>setP_slot ht) ?_
  rw [setP_box (h4r v) (h4k v),h4s v]
 ·refine ⟨fun t x h=>?_,fun t x h=>?_⟩
  ·rw [get_app]
   cases hA':get A t with
   | none=>exact h
   | some z =>
    obtain ⟨q1,_⟩:=hA.spec t z hA'
    rw [q1] at h; cases h
  ·rw [get_app] at h
   cases hA':get A t with
   | none=>rw [hA'] at h; exact .inl h
   | some z =>
    rw [hA'] at h
    cases h
    exact .inr (hA.spec t x hA')
end
end Go.Own
namespace Go.Own
open Go
set_option linter.unusedSectionVars false
variable [TB]
section
variable {P:Program}{N:Rm}{ops:Array Oper}{g g1 gA:Gst}{K:Gst->Prop}{l:List Oper}{d r:Nat}{t:TypeId}{a b:Operand}{x y:AV}
variable {AT:List (List Nat)}{acc:Acc}{i:Nat}
theorem of_blt {a b:Nat}(h:Nat.blt a b=true):a<b:=by simpa using h
def neD:Option Nat->Nat->Bool
 | none,_=>true
 | some a,d=>!Nat.beq a d
theorem neD_spec {o:Option Nat}{d:Nat}(h:neD o d=true):o≠some d:=by
 rintro rfl
 simp [neD] at h
inductive UL (P:Program) (N:Rm) (ops:Array Oper) (AT:List (List Nat)) (rs:Place->Prop) (gA g1:Gst) (o:Oper) (U:Acc):Acc->Prop
 | nil:UL P N ops AT rs gA g1 o U []
 | c {k d:Nat}{x:AV}{o':Oper}{V:Acc}(hst:Stab rs gA g1 o x) (h1:g1 d=none) (hne:neD o.dst d=true) (ho:ops[k]?=some o') (hod:o'.dst=some d) (hN:N.ok d=true) (hw:Wanted (visG g1 (fun m=>(AT.getD k []).contains m) U) ops o' true)
   (hs:PS P (visG g1 (fun m=>(AT.getD k []).contains m) U) o'.op o'.type x) (t:UL P N ops AT rs gA g1 o U V):UL P N ops AT rs gA g1 o U ((k,d,some x)::V)
theorem UL.spec {o:Oper}{U V:Acc}{rs:Place->Prop}(h:UL P N ops AT rs gA g1 o U V):∀ e∈V,(∃ x,e.2.2=some x/\Stab rs gA g1 o x)/\(g1 e.2.1=none/\o.dst≠some e.2.1)/\∃ o',ops[e.1]?=some o'/\o'.dst=some e.2.1/\N.ok e.2.1=true/\StepOk P (visG g1 (fun m=>(AT.getD e.1 []).contains m) U) ops o' e.2.2:=by
 induction h with
 | nil=>intro e he; cases he
 | c hst h1 hne ho hod hN hw hs _ ih =>
  intro e he
  rcases List.mem_cons.1 he with rfl | he
  ·exact ⟨⟨_,rfl,hst⟩,⟨h1,neD_spec hne⟩,_,ho,hod,hN,.inl ⟨hw,.inl hs⟩⟩
  ·exact ih e he
theorem DL.bu (j0:Nat) {G G2:List (Nat × AV)}{U:Acc}{o:Oper}{rs:List Nat}(he:EffV P N (rsV rs) (visG (get G) (fun m=>(AT.getD j0 []).contains m) acc) o (get G2)) (hrs:rs.all (fun r=>(get G r).isSome)=true) (hg:o.guard=none) (hpd:ndr ((acc.filterMap pendPlace).map Place.root)=true) (hp0:npB G=true) (hj:Nat.beq ops.size (j0+l.length+1)=true)
  (hU:acc.filter (fun e=>!(AT.getD j0 []).contains e.1)=U) (hul:UL P N ops AT (rsV rs) (visG (get G) (fun m=>(AT.getD j0 []).contains m) acc) (get G2) o U U)
  (hb:(List.range ops.size).all (fun k=>Nat.ble k j0||(AT.getD k []).contains j0)=true) (hk:DL P N ops AT (get G2) (j0+1) U l K):DL P N ops AT (get G) i acc (o::l) K:=by
 intro U0 j hP hseg hdrop
 have:=drop_at hdrop hj
 subst this
 obtain ⟨h1,h2⟩:=drop_cons hdrop
 have hmem:∀ e∈U,e∈acc:=fun e he=>by rw [<- hU] at he; exact (List.mem_filter.1 he).1
 have hP1:PendOk P N ops AT (get G2) (j+1) U:=⟨fun e he=>by have:=(hseg.le hP).2 e (hmem e he); omega,fun e he=>(hul.spec e he).2.1.1,by rw [<- hU]; exact (List.filter_sublist.map _).nodup (hseg.nodup hP),fun e he e' he' h=>hseg.uniq hP (hmem e he) (hmem e' he') h,fun e he=>(hul.spec e he).2.2⟩
 obtain ⟨g',hr,hK⟩:=hk U (j+1) hP1 .nil h2
 refine ⟨g',.bar hseg (ndr_spec hpd) (npB_spec hp0) h1 ?_ he (fun r hr e=>by have:=List.all_eq_true.1 hrs r.root hr; rw [e] at this; cases this) hU.symm (fun e h=>(hul.spec e h).1) (fun e h=>(hul.spec e h).2.1) (fun e h=>(hul.spec e h).2.2) ?_ hr,hK⟩
 ·unfold Wanted; rw [hg]
 ·refine List.all_eq_true.2 fun k hk=>?_
  have:=List.all_eq_true.1 hb k hk
  simp only [Bool.or_eq_true,decide_eq_true_eq,Nat.ble_eq] at this ⊢
  exact this
theorem DL.bz (j0:Nat) {G G2:List (Nat × AV)}{U:Acc}{o:Oper}{ps:List Place}(he:EffV P N (fun p=>p∈ps) (visG (get G) (fun m=>(AT.getD j0 []).contains m) acc) o (get G2)) (hrs:ps.all (fun r=>(get G r.root).isSome)=true) (hg:o.guard=none) (hpd:ndr ((acc.filterMap pendPlace).map Place.root)=true) (hp0:npB G=true) (hj:Nat.beq ops.size (j0+l.length+1)=true)
  (hU:acc.filter (fun e=>!(AT.getD j0 []).contains e.1)=U) (hul:UL P N ops AT (fun p=>p∈ps) (visG (get G) (fun m=>(AT.getD j0 []).contains m) acc) (get G2) o U U)
  (hb:(List.range ops.size).all (fun k=>Nat.ble k j0||(AT.getD k []).contains j0)=true) (hk:DL P N ops AT (get G2) (j0+1) U l K):DL P N ops AT (get G) i acc (o::l) K:=by
 intro U0 j hP hseg hdrop
 have:=drop_at hdrop hj
 subst this
 obtain ⟨h1,h2⟩:=drop_cons hdrop
 have hmem:∀ e∈U,e∈acc:=fun e he=>by rw [<- hU] at he; exact (List.mem_filter.1 he).1
 have hP1:PendOk P N ops AT (get G2) (j+1) U:=⟨fun e he=>by have:=(hseg.le hP).2 e (hmem e he); omega,fun e he=>(hul.spec e he).2.1.1,by rw [<- hU]; exact (List.filter_sublist.map _).nodup (hseg.nodup hP),fun e he e' he' h=>hseg.uniq hP (hmem e he) (hmem e' he') h,fun e he=>(hul.spec e he).2.2⟩
 obtain ⟨g',hr,hK⟩:=hk U (j+1) hP1 .nil h2
 refine ⟨g',.bar hseg (ndr_spec hpd) (npB_spec hp0) h1 ?_ he (fun r hr e=>by have:=List.all_eq_true.1 hrs r hr; rw [e] at this; cases this) hU.symm (fun e h=>(hul.spec e h).1) (fun e h=>(hul.spec e h).2.1) (fun e h=>(hul.spec e h).2.2) ?_ hr,hK⟩
 ·unfold Wanted; rw [hg]
 ·refine List.all_eq_true.2 fun k hk=>?_
  have:=List.all_eq_true.1 hb k hk
  simp only [Bool.or_eq_true,decide_eq_true_eq,Nat.ble_eq] at this ⊢
  exact this
theorem EffV.box {o:Oper}{r:Nat}{x:AV}{G1 G2:List (Nat × AV)}(he:EO P N (get G1) o (get G2)) (hr:g r=some x) [hx:NRc x] (hk:Trim false g (get G1) G1) (h0:get G1 r=none) (h1:get G2 r=none) (hd:neD o.dst r=true):EffV P N (rsV [r]) g o (get ((r,x)::G2)):=by
 rw [<- get_cons]
 exact he.eff.frame hr hx.nr hk.keep h0 h1 (neD_spec hd)
theorem EO.sO {o:Oper}{k0:Nat}{cs cs' cs2:List AV}{G2:List (Nat × AV)}(ho:o.op=.store t a b) (hd:o.dst=none) (hs:g r=some (.obj cs)) (ha:Rd g a (.ptr ⟨r,[]⟩ k0)) (hb:Rd g b y) [hn:NRc y] (hc:cellsP y=some cs') (hz:sizeT P t cs'.length=true)
  (hk:Nat.ble (k0+cs'.length) cs.length=true) (h0:Nat.blt 0 cs'.length=true) (he:splice cs k0 cs'=cs2) [hno:NRl cs] (hr:(get G2 r).isSome=true) (hG:TrS g (get G2) r cs2 G2):EO P N g o (get G2) :=
 .box ho hd hs ha hb hn.nr hc hz (Nat.le_of_ble_eq_true hk) (by simpa using h0) he (by intro e; rw [e] at hr; cases hr) hG
end
end Go.Own
namespace Go.Own
open Go
set_option linter.unusedSectionVars false
variable [TB]
section
variable {α:Type}
theorem Vws.app {xs ys xs' ys':List AV}(h:Vws xs ys) (h':Vws xs' ys'):Vws (xs++xs') (ys++ys'):=⟨by simp [h.l,h'.l],fun g k a b ha hb=>by
 by_cases hk:k<xs.length
 ·rw [List.getElem?_append_left hk] at ha
  rw [List.getElem?_append_left (by rw [h.l]; exact hk)] at hb
  exact h.v g k a b ha hb
 ·rw [List.getElem?_append_right (by omega)] at ha
  rw [List.getElem?_append_right (by rw [h.l]; omega),h.l] at hb
  exact h'.v g _ a b ha hb⟩
instance {e e':En α}{L:List α} [h:Tw e e']:Vws (rowc e L) (rowc e' L):=⟨(vws_rowc e e' L).1,(vws_rowc e e' L).2⟩
theorem Vw.rl {en:En α}{L:List α}{n:Nat}{cs cs':List AV}(h:rowc en L=cs') (hl:L.length=n) [hv:Vws cs cs']:Vw (.own en.z n cs) (iR en L):=⟨fun g=>by
 subst h hl
 exact .own hv.l (hv.v g)⟩
theorem Vw.pn {en en':En α}{L M:List α}{m:Nat}{new new':List AV} [h:Tw en en'] (hn:rowc en' M=new') (hm:M.length=m) [h':Vws new new']:Vw (.own en.z (L.length+m) (rowc en L++new)) (iR en' (L++M)):=⟨fun g=>by
 subst hn hm
 have hv:=Vws.app (inferInstance:Vws (rowc en L) (rowc en' L)) h'
 show View g (.own en.z (L.length+M.length) (rowc en L++new)) (.imm en'.z (L++M).length (rowc en' (L++M)))
 have e:rowc en' (L++M)=rowc en' L++rowc en' M:=by simp [rowc]
 rw [e,List.length_append,<- h.z]
 exact .own hv.l (hv.v g)⟩
end
end Go.Own
namespace Go.Own
open Go
set_option linter.unusedSectionVars false
variable [TB]
section
variable {α:Type}{g g2:Gst}{p q:Place}{P:Program}{a b:Operand}{t:TypeId}{ty:TypeId}
theorem RK.brw {en:En α}{L:List α}(h:atP g2 p=some (oR en L)):RK g2 (.brw en.z p L.length):=.ref rfl (.inl ⟨_,_,h,Nat.le_refl _⟩)
theorem npBrw {z n:Nat}:∀ z' q n' m new,AV.brw z p n≠.pend z' q n' m new:=by simp
namespace O
theorem apL' {en:En α}{L M r:List α}{e b0 m:Nat}{cs:List AV}(hs:Rd g a (.brw en.z p L.length)) (hp:atP g p=some (oR en L)) (hx:Rd g b (.brw en.z q m)) (hq:atP g q=some (.own en.z m cs)) (hl:cs.length=m * en.z) (hf:cs.all flatB=true) (hm:M.length=m) (ht:appT P t e en.z b0=true) (hb:Nat.ble b0 128=true) (h:appO L M=some r)
  (hno:∀ t z n m new,g t≠some (.pend z p n m new)):PS P g (.call { callee:=.builtin .append,args:=#[a,b],argTypes:=#[t,t] }) ty (.pend en.z p L.length m cs):=by
 subst hm
 obtain ⟨h1,h2,_⟩:=app_bound h hb
 exact .pa (.grow hs.opd (.inl ⟨_,hp⟩) (fun t z' n' m' new' e=>hno _ _ _ _ _ e) hx.opd (src_lit hq hl hf) ht h1 h2)
end O
end
end Go.Own
namespace Go.Own
open Go Go.RowKit Go.ChangeShapes Go.WideShapes Go.Deep
set_option linter.unusedSectionVars false
variable [TB]
variable {α β σ:Type}{P:Program}
abbrev R0 (w:World) (y:AV) (u:Value):Prop:=R w (fun b=>b<w.heap.size) (fun _ _=>False) y u (fun _=>False)
def RL (w:World) (ys:List AV) (cs:List Value):Prop :=
 ys.length=cs.length/\∀ (k:Nat) (y:AV) (u:Value),ys[k]?=some y->cs[k]?=some u->u.oneCell'=true/\R0 w y u
theorem RL.nil {w:World}:RL w [] []:=⟨rfl,fun _ _ _ h=>by simp at h⟩
theorem RL.one {w:World}{y:AV}{u:Value}(h1:u.oneCell'=true) (h:R0 w y u):RL w [y] [u] :=
 ⟨rfl,fun k y' u' hy hu=>by
  cases k with
  | zero=>simp at hy hu; subst hy hu; exact ⟨h1,h⟩
  | succ k=>simp at hy⟩
theorem RL.app {w:World}{ys zs:List AV}{cs ds:List Value}(h:RL w ys cs) (h2:RL w zs ds):RL w (ys++zs) (cs++ds):=by
 refine ⟨by simp [h.1,h2.1],fun k y u hy hu=>?_⟩
 by_cases hk:k<ys.length
 ·rw [List.getElem?_append_left hk] at hy
  rw [List.getElem?_append_left (h.1 ▸ hk)] at hu
  exact h.2 k y u hy hu
 ·rw [List.getElem?_append_right (by omega)] at hy
  rw [List.getElem?_append_right (by have:=h.1; omega),<- h.1] at hu
  exact h2.2 _ y u hy hu
structure Ar (P:Program) (e:En α) (t:TypeId) (ok:α->Prop):Prop where
 z:P.cellsOf t=e.z
 go:∀ {H:Type}{enc:TypeId × Value->H}{w:World}{n:Nat}{cs:List Value}{x:DataW H × List MemPlace},
  DataW.trod enc P w 0 (fun _=>true) true n t cs=some x->∃ a,ok a/\RL w (e.cells a) cs
theorem Ar.int {e:En Int}{t:TypeId}{k:IntKind}(ht:P.underlying t=some (.int k)) (hz:P.cellsOf t=e.z) (he:∀ n,e.cells n=[.lit (.int k n)]) :
  Ar P e t (fun n=>(Lit.int k n).wf=true):=by
 refine ⟨hz,fun h=>?_⟩
 obtain ⟨n,rfl,_,hw⟩:=DataW.trod_int ht h
 exact ⟨n,hw,he n ▸ RL.one rfl (.lit rfl fun _ h=>h)⟩
theorem Ar.bool {e:En Bool}{t:TypeId}(ht:P.underlying t=some .bool) (hz:P.cellsOf t=e.z) (he:∀ n,e.cells n=[.lit (.bool n)]) :
  Ar P e t (fun _=>True):=by
 refine ⟨hz,fun h=>?_⟩
 obtain ⟨n,rfl,_⟩:=DataW.trod_bool ht h
 exact ⟨n,trivial,he n ▸ RL.one rfl (.lit rfl fun _ h=>h)⟩
theorem rowc_nth (e:En α) (hz:0<e.z):∀ (l:List α) (k:Nat) (y:AV),(rowc e l)[k]?=some y->∃ a,l[k / e.z]?=some a/\(e.cells a)[k % e.z]?=some y
 | [],k,y,h=>by simp [rowc] at h
 | a::l,k,y,h=>by
  have he:rowc e (a::l)=e.cells a++rowc e l:=by simp [rowc]
  rw [he] at h
  by_cases hk:k<e.z
  ·rw [List.getElem?_append_left (by rw [e.len]; exact hk)] at h
   exact ⟨a,by simp [Nat.div_eq_of_lt hk],by rw [Nat.mod_eq_of_lt hk]; exact h⟩
  ·rw [List.getElem?_append_right (by rw [e.len]; omega),e.len] at h
   obtain ⟨b,h1,h2⟩:=rowc_nth e hz l (k - e.z) y h
   have hd:k / e.z=(k - e.z) / e.z+1:=by rw [Nat.div_eq_sub_div hz (by omega)]
   refine ⟨b,by rw [hd]; simpa using h1,?_⟩
   rw [Nat.mod_eq_sub_mod (by omega)]; exact h2
theorem Ar.slice {e:En α}{t te:TypeId}{ok:α->Prop}(h:Ar P e te ok) (ht:P.underlying t=some (.slice te)) (hz:P.cellsOf t=1) (hpos:0<e.z) :
  Ar P (eM e) t (fun l=>l.length<=maxLen/\∀ x∈l,ok x):=by
 classical
 refine ⟨hz,fun {H enc w n cs x} hr=>?_⟩
 rcases open_slice ht hr with ⟨rfl,rfl⟩ | ⟨a,len,cap,m,n',D,Pl,rfl,hb,hl,hm,hmm,rfl,hx⟩
 ·exact ⟨[],⟨by simp,by simp⟩,RL.one rfl (.imm0 fun _ h=>h)⟩
 ·have hmc:m=cap:=by simpa using hmm
  subst hmc
  have hex:∀ i,i<len->∃ q:α × List Value,ok q.1/\RL w (e.cells q.1) q.2/\w.cells? 0 (a.add (i * P.cellsOf te)) (P.cellsOf te)=some q.2:=fun i hi=>by
   obtain ⟨cs',h1,h2⟩:=hx i (by omega)
   obtain ⟨b,hb1,hb2⟩:=h.go h2
   exact ⟨(b,cs'),hb1,hb2,h1⟩
  by_cases h0:len=0
  ·subst h0
   exact ⟨[],⟨by simp,by simp⟩,RL.one rfl (.imm0 fun _ h=>h)⟩
  ·obtain ⟨q0,_⟩:=hex 0 (by omega)
   haveI:Inhabited (α × List Value):=⟨q0⟩
   obtain ⟨f,hf⟩:=choose_lt hex
   have hlen:((List.range len).map fun i=>(f i).1).length=len:=by simp
   have hget:∀ (i:Nat) (b:α),((List.range len).map fun i=>(f i).1)[i]?=some b->i<len/\b=(f i).1:=fun i b hi=>by
    have hlt:=(List.getElem?_eq_some_iff.1 hi).1
    simp at hlt
    simp [hlt] at hi
    exact ⟨hlt,hi.symm⟩
   have hsp:a.spot=none/\a.block<w.heap.size:=by
    obtain ⟨_,_,h3⟩:=hf 0 (by omega)
    obtain ⟨_,hl3,h5⟩:=World.cells?_some h3
    have h6:=h5 0 (by rw [h.z]; exact hpos)
    simp only [Nat.zero_mul,Addr.add,if_true] at h6
    have:0<(f 0).2.length:=by rw [hl3,h.z]; exact hpos
    rw [List.getElem?_eq_getElem this] at h6
    unfold World.cell? at h6
    split at h6
    ·rename_i hh
     refine ⟨?_,(Array.getElem?_eq_some_iff.1 hh).1⟩
     cases hs:a.spot with
     | none=>rfl
     | some s=>simp [hs] at h6
    ·cases h6
   have key:∀ (k:Nat) (y:AV),(rowc e ((List.range len).map fun i=>(f i).1))[k]?=some y->∃ u,w.cell? ⟨a.block,a.off+k,none⟩=some u/\u.oneCell'=true/\R0 w y u:=fun k y hk=>by
    obtain ⟨b,hb1,hb2⟩:=rowc_nth e hpos _ k y hk
    obtain ⟨hi,rfl⟩:=hget _ _ hb1
    obtain ⟨_,h2,h3⟩:=hf _ hi
    obtain ⟨_,hl3,h5⟩:=World.cells?_some h3
    have hmod:k % e.z<e.z:=Nat.mod_lt _ hpos
    have h6:=h5 (k % e.z) (by rw [h.z]; exact hmod)
    rw [Deep.add_add,h.z] at h6
    have hk2:k / e.z * e.z+k % e.z=k:=by rw [Nat.mul_comm]; exact Nat.div_add_mod k e.z
    rw [hk2] at h6
    have hlt:k % e.z<(f (k / e.z)).2.length:=by rw [hl3,h.z]; exact hmod
    rw [List.getElem?_eq_getElem hlt] at h6
    have ha:a.add k=⟨a.block,a.off+k,none⟩:=by
     unfold Addr.add
     split
     ·rename_i h00; subst h00; cases a; simp at hsp ⊢; exact hsp.1
     ·rfl
    rw [ha] at h6
    exact ⟨_,h6,h2.2 _ _ _ hb2 (List.getElem?_eq_getElem hlt)⟩
   refine ⟨(List.range len).map fun i=>(f i).1,⟨by rw [hlen]; omega,fun y hy=>?_⟩,RL.one rfl ?_⟩
   ·obtain ⟨i,hi,rfl⟩:=List.mem_map.1 hy
    exact (hf i (List.mem_range.1 hi)).1
   ·show R0 w (.imm e.z _ _) _
    rw [hlen]
    refine .imm (us:=fun k=>(w.cell? ⟨a.block,a.off+k,none⟩).getD .nilFunc) (fun _ h=>h) hl hsp.2 hsp.1 (by rw [rowc_len,hlen]) (fun k y hk=>?_) (fun k y hk=>?_) (fun k y hk=>?_)
    ·obtain ⟨u,h1,h2,h3⟩:=key k y hk
     simp only [h1,Option.getD_some]; exact h2
    ·obtain ⟨u,h1,h2,h3⟩:=key k y hk
     simp only [h1,Option.getD_some]
    ·obtain ⟨u,h1,h2,h3⟩:=key k y hk
     simp only [h1,Option.getD_some]; exact h3
def fieldsB (P:Program):Nat->List Field->List TypeId->Bool
 | _,[],[]=>true
 | off,f::fs,t::ts=>decide (f.type=t)&&decide (f.offset=off)&&fieldsB P (off+P.cellsOf t) fs ts
 | _,_,_=>false
def strB (P:Program) (t:TypeId) (ts:List TypeId):Bool :=
 match P.underlying t with
 | some (.struct fs)=>fieldsB P 0 fs.toList ts&&decide (P.cellsOf t=(ts.map P.cellsOf).sum)
 | _=>false
structure ArL (P:Program) (cells:β->List AV) (ts:List TypeId) (ok:β->Prop):Prop where
 go:∀ {H:Type}{enc:TypeId × Value->H}{w:World}{n:Nat}{cs:List Value}{fs:List Field}{off:Nat},fieldsB P off fs ts=true->cs.length=off+(ts.map P.cellsOf).sum ->
  (∀ (i:Nat) (f:Field),fs[i]?=some f->∃ x,DataW.trod enc P w 0 (fun _=>true) true n f.type ((cs.drop f.offset).take (P.cellsOf f.type))=some x) ->
  ∃ b,ok b/\RL w (cells b) (cs.drop off)
theorem ArL.nil:ArL P (fun _:Unit=>[]) [] (fun _=>True) :=
 ⟨fun {H enc w n cs fs off} _ hl _=>⟨(),trivial,by rw [List.drop_eq_nil_of_le (by simp at hl; omega)]; exact RL.nil⟩⟩
theorem ArL.cons {e:En α}{t:TypeId}{ts:List TypeId}{ok:α->Prop}{cells:β->List AV}{okl:β->Prop}(h:Ar P e t ok) (hl:ArL P cells ts okl) :
  ArL P (fun p:α × β=>e.cells p.1++cells p.2) (t::ts) (fun p=>ok p.1/\okl p.2):=by
 refine ⟨fun {H enc w n cs fs off} hB hlen hr=>?_⟩
 cases fs with
 | nil=>simp [fieldsB] at hB
 | cons f fs =>
  simp only [fieldsB,Bool.and_eq_true,decide_eq_true_eq] at hB
  obtain ⟨⟨rfl,rfl⟩,hB⟩:=hB
  obtain ⟨x,hx⟩:=hr 0 f rfl
  obtain ⟨a,ha,hR⟩:=h.go hx
  obtain ⟨b,hb,hRb⟩:=hl.go (off:=f.offset+P.cellsOf f.type) (cs:=cs) hB (by rw [hlen]; simp [Nat.add_assoc]) (fun i f' hf'=>hr (i+1) f' (by simpa using hf'))
  refine ⟨(a,b),⟨ha,hb⟩,?_⟩
  have:cs.drop f.offset=(cs.drop f.offset).take (P.cellsOf f.type)++cs.drop (f.offset+P.cellsOf f.type):=by
   rw [<- List.drop_drop]; exact (List.take_append_drop _ _).symm
  rw [this]
  exact hR.app hRb
theorem Ar.struct {e:En σ}{t:TypeId}{ts:List TypeId}{cells:β->List AV}{ok:β->Prop}(h:ArL P cells ts ok) (mk:β->σ) (un:σ->β) (hun:∀ b,un (mk b)=b) (hc:∀ b,e.cells (mk b)=cells b) (ht:strB P t ts=true) (hz:P.cellsOf t=e.z) :
  Ar P e t (fun s=>ok (un s)):=by
 refine ⟨hz,fun {H enc w n cs x} hr=>?_⟩
 unfold strB at ht
 split at ht
 ·rename_i fs hu
  simp only [Bool.and_eq_true,decide_eq_true_eq] at ht
  obtain ⟨xs,n',rfl,rfl,hl,hxl,hx⟩:=DataW.trod_struct hu hr
  obtain ⟨b,hb,hR⟩:=h.go (w:=w) (off:=0) (cs:=cs) (fs:=fs.toList) (n:=n') (enc:=enc) ht.1 (by rw [hl,ht.2]; simp) (fun i f hf=>by
   have hf':fs[i]?=some f:=by simpa using hf
   have hi:i<xs.length:=by rw [hxl]; exact (Array.getElem?_eq_some_iff.1 hf').1
   exact ⟨xs[i],by rw [hx i f hf',List.getElem?_eq_getElem hi]⟩)
  exact ⟨mk b,by rw [hun]; exact hb,by rw [hc]; simpa using hR⟩
 ·cases ht
inductive ArgR (w:World):AV->Value->Prop
 | mk {y:AV}{v:Value}(h:R0 w y v):ArgR w y v
theorem Ar.one {e:En α}{t:TypeId}{ok:α->Prop}{g:α->AV}(h:Ar P e t ok) (he:∀ a,e.cells a=[g a]) {H:Type}{enc:TypeId × Value->H}{w:World}{v:Value}{d:DataW H}{p:List MemPlace}(hv:v.cells.toList=[v])
  (ht:DataW.Trod enc P w 0 (fun _=>true) true t v d p):∃ a,ok a/\ArgR w (g a) v:=by
 obtain ⟨n,hn⟩:=ht
 obtain ⟨a,ha,hR⟩:=h.go hn
 refine ⟨a,ha,.mk ?_⟩
 rw [hv,he] at hR
 exact (hR.2 0 _ _ rfl rfl).2
theorem Ar.oneS {e:En α}{t te:TypeId}{ok:List α->Prop}(h:Ar P (eM e) t ok) (hu:P.underlying t=some (.slice te)) {H:Type}{enc:TypeId × Value->H}{w:World}{v:Value}{d:DataW H}{p:List MemPlace}{base:Nat}(hv:Value.okWide P w .any base t v)
  (ht:DataW.Trod enc P w 0 (fun _=>true) true t v d p):∃ a,ok a/\ArgR w (iR e a) v:=by
 obtain ⟨a,l,c,rfl⟩:=okWide_slice hu hv
 exact h.one (fun _=>rfl) rfl ht
inductive ArgsR (w:World):List AV->List Value->Prop
 | nil:ArgsR w [] []
 | cons {y:AV}{v:Value}{ys:List AV}{vs:List Value}(h:ArgR w y v) (hs:ArgsR w ys vs):ArgsR w (y::ys) (v::vs)
theorem ArgsR.get {w:World}{ys:List AV}{vs:List Value}(h:ArgsR w ys vs):ys.length=vs.length/\∀ (k:Nat) (y:AV),ys[k]?=some y->∃ v,vs[k]?=some v/\R0 w y v:=by
 induction h with
 | nil=>exact ⟨rfl,fun k y h=>by simp at h⟩
 | cons h _ ih =>
  refine ⟨by simp [ih.1],fun k y hy=>?_⟩
  cases k with
  | zero =>
   simp at hy; subst hy
   obtain ⟨h⟩:=h
   exact ⟨_,rfl,h⟩
  | succ k=>simpa using ih.2 k y (by simpa using hy)
theorem ArgsR.sr {w:World}{ys:List AV}{vs:List Value}(h:ArgsR w ys vs) (hp:ys.all (fun y=>match y with | .pend ..=>false | _=>true)=true) (htb:TB.q w fun b=>b<w.heap.size) :
  SR w (fun b=>b<w.heap.size) vs.toArray (argG ys) (fun _=>E0):=by
 refine ⟨fun t x hx=>?_,fun _ _ _ h=>h,fun _ _ _ h=>h.elim,fun _ _ h=>h.elim,fun _ h=>h,fun t t' z p n m new z' n' m' new' h1 _=>?_,htb⟩
 ·obtain ⟨v,hv,hR⟩:=h.get.2 t x hx
  exact ⟨v,by simpa using hv,.tree (hR.frame (fun _ _=>rfl) (fun _ h=>h) (fun _ _ h=>h.elim) (fun _ _=>rfl))⟩
 ·have:=List.all_eq_true.1 hp _ (List.mem_of_getElem? h1)
  cases this
structure Kp (w w':World):Prop where
 kept:∀ may:MemPlace->Prop,w.keptBut w' may
 fz:∀ a,a.block<w.heap.size->w'.frozen? a=w.frozen? a
theorem Con.walkA {f:FuncId}{ys:List AV}{vs:List Value}{outs:List (Option AV)}{r:Value}(hc:Con P f ys outs (.lit r)) (w:World) (h:ArgsR w ys vs) (hp:ys.all (fun y=>match y with | .pend ..=>false | _=>true)=true) (htb:TB.q w fun b=>b<w.heap.size) :
  Calls P f vs.toArray w fun e w'=>e=.returned r/\Kp w w'/\∀ i:Nat,i<w.heap.size->w'.heap[i]?=w.heap[i]?:=by
 have:=hc.2 w _ vs _ h.get.1.symm (h.sr hp htb)
 refine this.mono ?_
 rintro e w' ⟨v,I',Fs',rfl,hS,hst⟩
 obtain ⟨u,hu,hR⟩:=hS.rel outs.length (.lit r) (by simp [outG])
 have hl:outs.length=vs.length:=by rw [hc.1]; exact h.get.1
 have huv:u=v:=by
  rw [hl] at hu
  simpa using hu.symm
 subst huv
 have hv:=(hR.isTree (by simp)).inv_lit.1
 subst hv
 have hb:∀ i:Nat,i<w.heap.size->w'.heap[i]?=w.heap[i]?:=fun i hi=>hst.fr.block i hi fun ⟨_,h⟩=>h
 have hk:World.keptBut w w' (fun _=>False):=⟨hst.fr.os,hst.fr.output,fun i hi=>by
  rw [hb i hi]
  exact (World.keptBut_refl w (fun _=>False)).2.2 i hi⟩
 exact ⟨rfl,⟨fun may=>World.keptBut_mono (fun _ f=>f.elim) hk,fun a ha=>hst.fr.fz a ha fun ⟨_,h⟩=>h⟩,hb⟩
theorem trodAll_old {H:Type}{enc:TypeId × Value->H}{w w':World}{base:Nat}{sp:Nat->Bool}{held:Bool}(hb:∀ i:Nat,i<w.heap.size->w'.heap[i]?=w.heap[i]?) :
  ∀ {ts:List TypeId}{vs:List Value}{ds:List (DataW H)}{ps:List MemPlace},DataW.TrodAll enc P w base sp held ts vs ds ps->DataW.TrodAll enc P w' base sp held ts vs ds ps
 | [],[],[],_,h=>h
 | _::_,_::_,_::_,_,⟨p,q,⟨n,hn⟩,h2,e⟩=>by
  refine ⟨p,q,⟨n,DataW.trod_carry n _ _ _ hn fun x hx=>?_⟩,trodAll_old hb h2,e⟩
  have hlt:=DataW.trod_lt n _ _ _ hn x hx
  cases x with
  | cell b off =>
   show w'.cell? _=w.cell? _
   exact World.cell?_of_block (hb b hlt)
  | map b=>exact hb b hlt
theorem args_again {H:Type}{enc:TypeId × Value->H}{w w':World}(hl:laidOutB P=true) (hm:mapsRowed P=true)
  (hz:((List.range P.types.size).all fun t=>match P.underlying t with | some (.slice e)=>decide (0<P.cellsOf e) | _=>true)=true)
  (hb:∀ i:Nat,i<w.heap.size->w'.heap[i]?=w.heap[i]?) {ts:List TypeId}{vs:List Value}{ds:List (DataW H)}{ps:List MemPlace}(ht:ts.all (fun t=>decide (t<P.types.size))=true)
  (h:DataW.TrodAll enc P w 0 (fun _=>true) true ts vs ds ps) {sp:Nat->Bool}(hsp:∀ p∈ps,sp p.block=true):DataW.TrodAll enc P w' 0 sp true ts vs ds ps :=
 (trodAll_old hb h).respare (kids_rows hl hm) (slices_full_of P hz) (fun t h=>of_decide_eq_true (List.all_eq_true.1 ht t h)) hsp
end Go.Own
