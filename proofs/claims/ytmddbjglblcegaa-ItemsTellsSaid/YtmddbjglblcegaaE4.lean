/-
  What is proved here: parts of the proof that the last text states: rules for walks through code, and of this program's functions what they answer. No condition of their own.
-/
import Derived.KernelRfl
import Derived.Test.YtmddbjglblcegaaE3
namespace Go.Proofs
open Go Go.Own
set_option maxRecDepth 100000
set_option linter.unusedVariables false
def tn:Nat→ByteArray
 | 0=>⟨#[116,48]⟩ | 1=>⟨#[116,49]⟩ | 2=>⟨#[116,50]⟩ | 3=>⟨#[116,51]⟩ | 4=>⟨#[116,52]⟩ | 5=>⟨#[116,53]⟩ | 6=>⟨#[116,54]⟩ | 7=>⟨#[116,55]⟩ | _=>⟨#[116,56]⟩
abbrev nE:ByteArray:={ data:=#[] }
abbrev cE:ByteArray:={ data:=#[101] }
def sy (i:Nat):Sym:=⟨tn i,false,0,0⟩
def syE:Sym:=⟨cE,false,0,0⟩
def dc (i:Nat) (w:Int):Decl:=⟨w64 (2+w),nE,[sy i],0⟩
def ds:Nat→List Int→List Decl
 | _,[]=>[]
 | i,w::ws=>dc i w::ds (i+1) ws
def al (i:Nat):Alt:=⟨[⟨syE,nE,0⟩,⟨sy i,nE,0⟩,⟨syE,nE,0⟩],⟨nE,false,0,0⟩,0⟩
def als:Nat→List Alt
 | 0=>[]
 | n+1=>als n++[al n]
def xal:Alt:=⟨[⟨⟨⟨#[120]⟩,true,0,0⟩,nE,0⟩],⟨nE,false,0,0⟩,0⟩
def lal (o s:Nat):Alt:=⟨[⟨sy o,nE,0⟩,⟨syE,nE,0⟩],sy s,0⟩
def src (ws:List Int) (o s:Nat):Source:=⟨nE,ds 0 ws,[⟨cE,(als ws.length++[xal])++[lal o s],0⟩],nE⟩
def T3:List Tok:=[⟨{ data:=#[36,101,110,100] },false,0,0,0,nE⟩,⟨{ data:=#[101,114,114,111,114] },false,(-1),0,0,nE⟩,⟨{ data:=#[36,117,110,107] },false,(-1),0,0,nE⟩]
def pr (i:Nat):Prod:=⟨1,[1001,i+3,1001],i+3,nE,[1001,i+3,1001],0⟩
def pl (o s:Nat):Prod:=⟨1,[o+3,1001],s+3,nE,[o+3,1001],0⟩
def In3 (w:Int):Prop:=w=0∨w=1∨w=2
end Go.Proofs
namespace Go.Proofs
open Go Go.Own
set_option maxRecDepth 100000
set_option linter.unusedVariables false
end Go.Proofs
namespace Go.Proofs
open Go Go.Own
set_option maxRecDepth 100000
set_option linter.unusedVariables false
structure Lv (ws:List Int) (o s:Nat):Prop where
 n:ws.length≤9
 k:∀ w∈ws,In3 w
 o:o<ws.length
 s:s<ws.length
end Go.Proofs
namespace Go.Proofs
open Go Go.Own
set_option maxRecDepth 100000
set_option linter.unusedVariables false
abbrev nErr:ByteArray:={ data:=#[101,114,114,111,114] }
abbrev cod1:ByteArray:={ data:=#[123,36,36,32,61,32,36,49,125] }
abbrev cod2:ByteArray:={ data:=#[123,102,40,36,36,41,125] }
def Ltr:List ByteArray:=[⟨#[112]⟩,⟨#[113]⟩,⟨#[114]⟩,⟨#[115]⟩]
def NT4:List ByteArray:=[⟨#[97]⟩,⟨#[98]⟩,⟨#[99]⟩,⟨#[100]⟩]
def LT:List Sym:=[⟨⟨#[112]⟩,true,0,0⟩,⟨⟨#[113]⟩,true,0,0⟩,⟨⟨#[114]⟩,true,0,0⟩,⟨⟨#[115]⟩,true,0,0⟩]
def NT:List Sym:=[⟨⟨#[97]⟩,false,0,0⟩,⟨⟨#[98]⟩,false,0,0⟩,⟨⟨#[99]⟩,false,0,0⟩,⟨⟨#[100]⟩,false,0,0⟩,⟨nErr,false,0,0⟩]
abbrev syN:Sym:=⟨nE,false,0,0⟩
def PartN (L:List ByteArray) (p:Part):Prop :=
 (∃ x,x∈LT∧p=⟨x,nE,0⟩)∨(∃ x,x∈NT∧p=⟨x,nE,0⟩∧x.Name∈nErr::L)∨p=⟨syN,cod1,0⟩∨p=⟨syN,cod2,0⟩
structure AltN (L:List ByteArray) (a:Alt):Prop where
 n:a.Parts.length≤6
 parts:∀ p∈a.Parts,PartN L p
 prec:a.Prec=syN
structure RuleN (L:List ByteArray) (r:Rule):Prop where
 left:r.Left∈L
 n:1≤r.Alts.length∧r.Alts.length≤13
 alts:∀ a∈r.Alts,AltN L a
structure DeclN (d:Decl):Prop where
 kind:2≤d.Kind∧d.Kind≤4
 tag:d.Tag=nE
 n:1≤d.Syms.length∧d.Syms.length≤4
 syms:∀ x∈d.Syms,x∈LT
def codes (l:List Part):Nat:=(l.filter fun p=>!decide (p.Code=nE)).length
def cA (l:List Alt):Nat:=(l.map fun a=>codes a.Parts).sum
def nA (l:List Rule):Nat:=(l.map fun r=>r.Alts.length).sum
def nC (l:List Rule):Nat:=(l.map fun r=>cA r.Alts).sum
def names (l:List Decl):List ByteArray:=(l.flatMap (·.Syms)).map (·.Name)
structure SrcN (s:Source):Prop where
 pro:s.Pro=nE
 decls:∀ d∈s.Decls,DeclN d
 dn:s.Decls.length≤4
 nd:(names s.Decls).Nodup
 rules:∀ r∈s.Rules,RuleN (s.Rules.map (·.Left)) r
 lefts:∀ r∈s.Rules,r.Left∈NT4
 rn:1≤s.Rules.length∧s.Rules.length≤4
 na:nA s.Rules≤13
 nc:nC s.Rules≤18
theorem n133:pf133 syN=some true:=by kernel_rfl
end Go.Proofs
namespace Go.Proofs
open Go Go.Own
set_option maxRecDepth 100000
set_option linter.unusedVariables false
theorem nd_len {α:Type} [DecidableEq α]:∀ (l m:List α),l.Nodup→(∀ x∈l,x∈m)→l.length≤m.length
 | [],_,_,_=>Nat.zero_le _
 | x::l,m,hd,hm=>by
  have hx:=hm x (by simp)
  have hd':=List.nodup_cons.1 hd
  have:=nd_len l (m.erase x) hd'.2 fun y hy=>by
   have hne:y≠x:=fun e=>hd'.1 (e ▸ hy)
   exact (List.mem_erase_of_ne hne).2 (hm y (by simp [hy]))
  have hl:=List.length_erase_of_mem hx
  have hp:=List.length_pos_of_mem hx
  simp only [List.length_cons]
  omega
structure K0 (m:Mk) (ns:List ByteArray):Prop where
 e:m.f_e=0
 tk:∃ l:List Tok,m.f_g.Toks=T3++l∧l.map (·.Name)=ns∧∀ t∈l,t.Lit=true∧t.Name∈Ltr∧t.Num=byteAt t.Name 0∧t.Tag=nE
 gv:m.f_given.length=m.f_g.Toks.length
 nd:ns.Nodup
theorem K0.mem {m:Mk}{ns:List ByteArray}(h:K0 m ns):∀ n∈ns,n∈Ltr:=by
 obtain ⟨l,_,rfl,hl⟩:=h.tk
 intro n hn
 obtain ⟨t,ht,rfl⟩:=List.mem_map.1 hn
 exact (hl t ht).2.1
theorem K0.len {m:Mk}{ns:List ByteArray}(h:K0 m ns):m.f_g.Toks.length=3+ns.length∧ns.length≤4:=by
 have h4:=nd_len ns Ltr h.nd h.mem
 obtain ⟨l,e,rfl,hl⟩:=h.tk
 refine ⟨by rw [e]; simp [T3]; omega,h4⟩
structure Rs (m m':Mk):Prop where
 lf:m'.f_lefts=m.f_lefts
 pr:m'.f_g.Prods=m.f_g.Prods
 inn:m'.f_inner=m.f_inner
 ty:m'.f_types=m.f_types
 lvl:m'.f_level=m.f_level
theorem Rs.rf (m:Mk):Rs m m:=⟨rfl,rfl,rfl,rfl,rfl⟩
end Go.Proofs
namespace Go.Proofs
open Go Go.Own
set_option maxRecDepth 100000
set_option linter.unusedVariables false
structure KA (m:Mk) (lf:List ByteArray) (Q I:Nat):Prop where
 k:∃ ns,K0 m ns
 lf:m.f_lefts=lf
 q:m.f_g.Prods.length≤Q
 i:0≤m.f_inner∧m.f_inner≤I
 r:∀ p∈m.f_g.Prods,p.Right.length≤8
 ty:m.f_types.length≤100
theorem KA.mono {m:Mk}{lf:List ByteArray}{Q I Q' I':Nat}(h:KA m lf Q I) (hQ:Q≤Q') (hI:I≤I'):KA m lf Q' I' :=
 ⟨h.k,h.lf,Nat.le_trans h.q hQ,⟨h.i.1,by have:=h.i.2; omega⟩,h.r,h.ty⟩
end Go.Proofs
namespace Go.Proofs
open Go Go.Own
set_option maxRecDepth 100000
set_option linter.unusedVariables false
theorem K0.lvl {m:Mk}{ns:List ByteArray}(h:K0 m ns) (l:Int):K0 (⟨m.f_g,m.f_given,m.f_types,m.f_lefts,m.f_e,m.f_at,m.f_name,l,m.f_inner⟩:yuccaref9_maker) ns:=⟨h.e,h.tk,h.gv,h.nd⟩
structure KD (m:Mk) (ns:List ByteArray):Prop where
 k:K0 m ns
 lf:m.f_lefts=[]
 pr:m.f_g.Prods=[]
 inn:m.f_inner=0
 ty:m.f_types=[]
end Go.Proofs
namespace Go.Proofs
open Go Go.Own
set_option maxRecDepth 100000
set_option linter.unusedVariables false
structure DeclM (n:Nat) (d:Decl):Prop where
 kind:2≤d.Kind∧d.Kind≤4
 tag:d.Tag=nE
 n:1≤d.Syms.length∧d.Syms.length≤n
 syms:∀ x∈d.Syms,x∈LT
theorem DeclM.mono {n m:Nat}{d:Decl}(h:DeclM n d) (hm:n≤m):DeclM m d:=⟨h.kind,h.tag,⟨h.n.1,Nat.le_trans h.n.2 hm⟩,h.syms⟩
end Go.Proofs
namespace Go.Proofs
open Go Go.Own
set_option maxRecDepth 100000
set_option linter.unusedVariables false
theorem sum_set (f:Rule→Nat):∀ (l:List Rule) (k:Nat) (r r':Rule),l[k]?=some r→((l.set k r').map f).sum+f r=(l.map f).sum+f r'
 | x::l,0,r,r',h=>by
  simp only [List.getElem?_cons_zero,Option.some.injEq] at h
  subst h
  simp only [List.set_cons_zero,List.map_cons,List.sum_cons]
  omega
 | x::l,k+1,r,r',h=>by
  simp only [List.getElem?_cons_succ] at h
  have:=sum_set f l k r r' h
  simp only [List.set_cons_succ,List.map_cons,List.sum_cons]
  omega
theorem left_set:∀ (l:List Rule) (k:Nat) (r r':Rule),l[k]?=some r→r'.Left=r.Left→(l.set k r').map (·.Left)=l.map (·.Left)
 | x::l,0,r,r',h,e=>by
  simp only [List.getElem?_cons_zero,Option.some.injEq] at h
  subst h
  simp only [List.set_cons_zero,List.map_cons,e]
 | x::l,k+1,r,r',h,e=>by
  simp only [List.getElem?_cons_succ] at h
  simp only [List.set_cons_succ,List.map_cons,left_set l k r r' h e]
structure RM (l:List Rule) (n:Nat) (A C:Nat):Prop where
 lf:l.map (·.Left)=NT4.take n
 alts:∀ r∈l,∀ a∈r.Alts,AltN (NT4.take n) a
 a:nA l≤A
 c:nC l≤C
theorem RM.mono {l:List Rule}{n A C A' C':Nat}(h:RM l n A C) (hA:A≤A') (hC:C≤C'):RM l n A' C':=⟨h.lf,h.alts,Nat.le_trans h.a hA,Nat.le_trans h.c hC⟩
theorem RM.add {l:List Rule}{n A C k:Nat}{r:Rule}{a:Alt}{c:Nat}(h:RM l n A C) (hr:l[k]?=some r) (ha:AltN (NT4.take n) a) (hc:codes a.Parts≤c) :
  RM (l.set k ⟨r.Left,r.Alts++[a],r.At⟩) n (A+1) (C+c):=by
 have hm:=List.mem_of_getElem? hr
 refine ⟨?_,fun r' hr' b hb=>?_,?_,?_⟩
 ·rw [left_set l k r ⟨r.Left,r.Alts++[a],r.At⟩ hr rfl]; exact h.lf
 ·rcases mem_set2 hr' with h' | rfl
  ·exact h.alts r' h' b hb
  ·rcases List.mem_append.1 hb with hb | hb
   ·exact h.alts r hm b hb
   ·rw [List.mem_singleton.1 hb]; exact ha
 ·have:=sum_set (fun r=>r.Alts.length) l k r ⟨r.Left,r.Alts++[a],r.At⟩ hr
  have ha:=h.a
  unfold nA at ha ⊢
  simp only [List.length_append,List.length_singleton] at this
  omega
 ·have:=sum_set (fun r=>cA r.Alts) l k r ⟨r.Left,r.Alts++[a],r.At⟩ hr
  have hcc:=h.c
  unfold nC at hcc ⊢
  have e:cA (r.Alts++[a])=cA r.Alts+codes a.Parts:=by
   unfold cA
   rw [List.map_append,List.sum_append]; rfl
  simp only [e] at this
  omega
end Go.Proofs
namespace Go.Proofs
open Go Go.Own
set_option maxRecDepth 100000
set_option linter.unusedVariables false
theorem t20 (s:Source) (hb:SrcB s):Tot (pf20 s) fun r=>r.2=true→GOk r.1:=by
 unfold pf20
 exact .by' (t61 s hb) fun r hr=>.so fun h=>hr (of_decide_eq_true h)
end Go.Proofs
namespace Go.Proofs
open Go Go.Own
set_option maxRecDepth 100000
set_option linter.unusedVariables false
end Go.Proofs
namespace Go.Proofs
open Go Go.Own Go.Sort
set_option maxRecDepth 100000
set_option linter.unusedVariables false
theorem eq_item (x y:Item):(decide (x.Prod=y.Prod)&&(decide (x.Dot=y.Dot)&&true))=decide (x=y):=by
 obtain ⟨x1,x2⟩:=x
 obtain ⟨y1,y2⟩:=y
 simp
theorem c35 (a b:List Item) (h:a.length≤1000000):Tot (pf35 a b) fun c=>(c=true↔a=b):=by
 unfold pf35
 refine Tot.cn (fun hne=>.so ⟨fun h=>(by cases h),fun e=>absurd (by rw [e]) hne⟩) (fun he=>?_)
 have hl:a.length=b.length:=by omega
 refine Tot.by' (Ξ:=LR (fun _=>a=b) (fun x:Bool=>x=false∧a≠b)) ?_ fun x hx=>?_
 ·refine Tot.count (fun s=>s) a.length (fun s=>∃ k:Nat,k≤a.length∧s=(k:Int)∧∀ (j:Nat) (h:j<a.length),j<k→a[j]=b[j]) ⟨0,Nat.zero_le _,rfl,fun j _ hj=>absurd hj (Nat.not_lt_zero _)⟩ (by show (a.length:Int) - 0<_; omega) fun s hs=>?_
  obtain ⟨k,hk,rfl,hE⟩:=hs
  rw [w64n k (by omega)]
  refine Tot.cp (fun hlt=>?_) (fun hge=>.so ?_)
  ·have hlt:k<a.length:=by omega
   have hltb:k<b.length:=by omega
   rw [idx_nat hlt,idx_nat hltb]
   simp only [Option.bind_some,eq_item]
   refine Tot.cn (fun hne=>.so ⟨rfl,fun e=>hne (by subst e; rfl)⟩) (fun heq=>.so ⟨⟨k+1,by omega,rfl,fun j hj hjk=>?_⟩,by show (k:Int)<((k+1:Nat):Int); omega,by show ((k+1:Nat):Int)≤_; omega⟩)
   by_cases e:j=k
   ·subst e; exact heq
   ·exact hE j hj (by omega)
  ·exact List.ext_getElem hl fun i h1 h2=>hE i h1 (by omega)
 ·rcases x with _ | x
  ·exact .so ⟨fun _=>hx,fun _=>rfl⟩
  ·obtain ⟨rfl,hne⟩:x=false∧a≠b:=hx
   exact .so ⟨fun h=>(by cases h),fun h=>absurd h hne⟩
theorem c30 (g:Grammar) (hg:GOk g) (l:List Int) (n:Int) (h0:0≤n) (hn:n≤1000):Tot (pf30 g l n) fun r=>r.length≤1000:=by
 have hpn:=hg.pn
 unfold pf30
 refine .by' (Ξ:=fun r:List Item=>r.length≤1000) ?_ fun r hr=>.so hr
 refine Tot.count (fun s=>s.2) n (fun s=>0≤s.2∧s.2≤n∧(s.1.length:Int)=s.2) ⟨Int.le_refl _,h0,rfl⟩ (by show n - 0<_; omega) fun s hs=>?_
 obtain ⟨o,i⟩:=s
 obtain ⟨h1,h2,h3⟩:=hs
 simp only at h1 h2 h3 ⊢
 have hw:w64 (i+1)=i+1:=by rw [w64_eq]; omega
 have hw2:w64 (8 * (w64 ((g.Prods.length:Int)+1)))=8 * ((g.Prods.length:Int)+1):=by
  have:w64 ((g.Prods.length:Int)+1)=(g.Prods.length:Int)+1:=by rw [w64_eq]; omega
  rw [this,w64_eq]; omega
 rw [hw,hw2]
 refine .by' (Ξ:=fun c:Bool=>c=true→i<l.length∧i<n) (Tot.cp (fun h=>.so fun h'=>⟨h,of_decide_eq_true h'⟩) (fun h=>.so fun h'=>(by cases h'))) fun c hc=>Tot.cd (fun h=>?_) (fun h=>.so (show o.length≤1000 by omega))
 obtain ⟨hi,hin⟩:=hc h
 obtain ⟨y,hy,_⟩:=idx_some' h1 hi
 rw [hy]
 refine Tot.sm (.by' (t22 y (8 * ((g.Prods.length:Int)+1)) (by omega) (by omega)) fun z hz=>.by' (Ξ:=fun _=>True) (Tot.quo (by decide) trivial) fun _ _=>.by' (Ξ:=fun _=>True) (Tot.rem (by decide) trivial) fun _ _=>.by' (Ξ:=fun _=>True) (Tot.ap (by simp [lim]; omega) trivial) fun _ _=>.so ⟨⟨by show 0≤i+1; omega,by show i+1≤n; omega,?_⟩,by show i<i+1; omega,by show i+1≤n; omega⟩)
 show (((o++[_]).length:Nat):Int)=i+1
 simp; omega
theorem c31 (l:List Item):Tot (pf31 l 6) fun r=>r.length≤6:=by
 unfold pf31
 refine Tot.cp (fun h=>.by' (Ξ:=fun r:List Item=>r.length≤6) (Tot.sub ⟨by decide,by decide,by omega⟩ ?_) fun r hr=>.so hr) (fun h=>.so (by omega))
 rw [List.length_take]; exact Nat.min_le_left _ _
theorem c34 (g:Grammar) (hg:GOk g) (k:Int):Tot (pf34 g k) fun r=>((0≤r∧r<g.Toks.length)∨(1000≤r∧r<1000+g.Nons.length))∧(0≤k→k<g.Toks.length+g.Nons.length→r=if k<g.Toks.length then k else 1000+k - g.Toks.length):=by
 have htn:=hg.tn
 have hnn:=hg.nn
 unfold pf34
 have hw:w64 ((g.Toks.length:Int)+(g.Nons.length:Int))=(g.Toks.length:Int)+(g.Nons.length:Int):=by rw [w64_eq]; omega
 rw [hw]
 have h22:Tot (pf22 k ((g.Toks.length:Int)+(g.Nons.length:Int))) fun r=>(0≤r∧r<(g.Toks.length:Int)+(g.Nons.length:Int))∧(0≤k→k<(g.Toks.length:Int)+(g.Nons.length:Int)→r=k):=by
  obtain ⟨r,hr,h⟩:=t22 k ((g.Toks.length:Int)+(g.Nons.length:Int)) (by omega) (by omega)
  refine ⟨r,hr,h,fun h0 h1=>?_⟩
  unfold pf22 at hr
  have:remO k ((g.Toks.length:Int)+(g.Nons.length:Int))=some k:=by
   unfold remO
   rw [if_neg (by omega),Int.tmod_eq_emod_of_nonneg h0,Int.emod_eq_of_lt h0 h1]
  rw [this] at hr
  have hn:¬ k<0:=by omega
  simp [hn] at hr
  exact hr.symm
 refine .by' h22 fun x hx=>Tot.cp (fun h=>.so ?_) (fun h=>.so ⟨.inl ⟨hx.1.1,by omega⟩,fun h0 h1=>?_⟩)
 ·have hw2:w64 (w64 (1000+x) - (g.Toks.length:Int))=1000+x - g.Toks.length:=by
   have:w64 (1000+x)=1000+x:=by rw [w64_eq]; omega
   rw [this,w64_eq]; omega
  rw [hw2]
  refine ⟨.inr ⟨by omega,by omega⟩,fun h0 h1=>?_⟩
  have:=hx.2 h0 h1
  rw [if_neg (by omega)]; omega
 ·have:=hx.2 h0 h1
  rw [if_pos (by omega)]; exact this
end Go.Proofs
namespace Go.Proofs
open Go Go.Own Go.Sort
set_option maxRecDepth 100000
set_option linter.unusedVariables false
theorem two_idx {α:Type}(a b:α) {i:Int}(h0:0≤i) (h:i<(([a,b]:List α).length:Int)):∃ y,idx [a,b] i=some y∧(y=a∨y=b):=by
 obtain ⟨y,hy,hm⟩:=idx_some' h0 h
 exact ⟨y,hy,by simpa using hm⟩
theorem same36 (g:Grammar) (hg:GOk g) (l:List Item) (hl:l.length≤1000000):∃ r,pf36 g l=some r∧pf37 g l=some r∧r.length≤540:=by
 obtain ⟨r,hr,h1,h2⟩:=c36 g hg l hl
 obtain ⟨r',hr',h1',h2'⟩:=c37 g hg l hl
 have:r=r':=h1.uniq ordI h1' fun x=>(h2 x).trans (h2' x).symm
 subst this
 exact ⟨r,hr,hr',asc_len hg h1 fun x hx=>((h2 x).1 hx).isI⟩
theorem same38 (g:Grammar) (hg:GOk g) (l:List Item) (a:Int) (hl:l.length≤1000000):∃ r,pf38 g l a=some r∧pf39 g l a=some r∧r.length≤540:=by
 obtain ⟨r,hr,h1,h2⟩:=c38 g hg l a hl
 obtain ⟨r',hr',h1',h2'⟩:=c39 g hg l a hl
 have:r=r':=h1.uniq ordI h1' fun x=>(h2 x).trans (h2' x).symm
 subst this
 exact ⟨r,hr,hr',asc_len hg h1 fun x hx=>((h2 x).1 hx).isI hg⟩
theorem t6 (s:Source) (x:yuccalaw0_Gr) (l:List Int) (raw:List Item) (sym:Int):pf6 s x l raw sym=some true:=by
 suffices h:Tot (pf6 s x l raw sym) fun r=>r=true by
  obtain ⟨r,hr,e⟩:=h; rw [hr,e]
 unfold pf6
 rw [w29]
 refine Tot.sm (.by' (t18 s) fun x3 h3=>.by' (t19 x) fun x4 h4=>?_)
 refine Tot.by' (Ξ:=LR (fun _=>True) (fun _=>False)) ?_ fun r hr=>by
  rcases r with r | r
  ·exact .so rfl
  ·exact hr.elim
 refine Tot.count (fun s=>s) 2 (fun s=>0≤s) (Int.le_refl _) (by decide) fun i hi=>?_
 have up:∀ {n:Int},i<n→n≤2→(0≤w64 (i+1))∧i<w64 (i+1)∧w64 (i+1)≤n:=fun {n} h _=>by rw [w64_eq]; omega
 refine Tot.cp (fun hlt=>?_) (fun _=>.so trivial)
 obtain ⟨y,hy,hyc⟩:=two_idx x3 x4 hi hlt
 have hb:SrcB y:=by rcases hyc with rfl | rfl <;> assumption
 rw [hy]
 refine Tot.sm (.by' (t20 y hb) fun gg hgg=>Tot.cd (fun _=>.so ⟨(up hlt (Int.le_refl 2)).1,(up hlt (Int.le_refl 2)).2⟩) (fun hok=>?_))
 have hg:GOk gg.1:=hgg (by simpa using hok)
 generalize gg.1=g at hg
 refine .by' (c30 g hg l 8 (by decide) (by decide)) fun m1 hm1=>.by' (c31 raw) fun m2 hm2=>?_
 refine Tot.by' (Ξ:=LR (fun _=>True) (fun _=>False)) ?_ fun r hr=>by
  rcases r with r | r
  ·exact .so ⟨(up hlt (Int.le_refl 2)).1,(up hlt (Int.le_refl 2)).2⟩
  ·exact hr.elim
 refine Tot.count (fun s=>s) 2 (fun s=>0≤s) (Int.le_refl _) (by decide) fun j hj=>?_
 have up2:j<2→(0≤w64 (j+1))∧j<w64 (j+1)∧w64 (j+1)≤2:=fun h=>by rw [w64_eq]; omega
 refine Tot.cp (fun hlt2=>?_) (fun _=>.so trivial)
 obtain ⟨m,hm,hmc⟩:=two_idx m1 m2 hj hlt2
 have hml:m.length≤1000:=by rcases hmc with rfl | rfl <;> omega
 rw [hm]
 refine Tot.sm (Tot.by' (Ξ:=LR (fun _=>True) (fun _=>False)) ?_ fun r hr=>?_)
 ·refine Tot.use (Tot.scan m (fun _=>True) (fun _:Bool=>False) (by omega) (fun k z h0 h1 hi hm=>?_) (fun k hk=>by simp [hk])) fun r hr=>by
   rcases r with r | r
   ·exact trivial
   ·exact False.elim hr
  refine Tot.cp (fun _=>?_) (fun h=>absurd h1 h)
  rw [hi]
  simp only [Option.bind_some,e32,e33,decide_true,Bool.not_true,cond_false]
  refine .so ⟨?_,trivial⟩
  rw [w64_eq]; omega
 ·rcases r with r | r
  ·refine .by' (c34 g hg sym) fun a ha=>?_
   obtain ⟨r1,e1,e1',hl1⟩:=same36 g hg m (by omega)
   obtain ⟨r2,e2,e2',hl2⟩:=same38 g hg m a (by omega)
   obtain ⟨r3,e3,e3',hl3⟩:=same38 g hg m sym (by omega)
   rw [e1,e1',e2,e2',e3,e3']
   have key:∀ r:List Item,r.length≤540→pf35 r r=some true:=by
    intro r hr
    obtain ⟨c,hc,h⟩:=c35 r r (by omega)
    rw [hc,h.2 rfl]
   simp only [Option.bind_some,key _ hl1,key _ hl2,key _ hl3,Bool.not_true,cond_false]
   exact .so ⟨(up2 hlt2).1,(up2 hlt2).2⟩
  ·exact hr.elim
end Go.Proofs
