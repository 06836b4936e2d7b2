/-
  What is proved here: parts of the proof that the last text states: rules for walks through code, and of this program's functions what they answer. No condition of their own.
-/
import Derived.Test.YtmddbjglblcegaaE3
namespace Go.Own
open Go
variable {α β γ δ S T R Q:Type}
def Rel (x:Option α) (y:Option β) (Φ:α->β->Prop):Prop:=∃ a b,x=some a/\y=some b/\Φ a b
abbrev LL (p:S->T->Prop) (q:R->Q->Prop):S ⊕ R->T ⊕ Q->Prop
 | .inl a,.inl b=>p a b
 | .inr a,.inr b=>q a b
 | _,_=>False
namespace Rel
variable {Φ Ψ:α->β->Prop}
theorem so {a:α}{b:β}(h:Φ a b):Rel (some a) (some b) Φ:=⟨a,b,rfl,rfl,h⟩
theorem use {x:Option α}{y:Option β}(h:Rel x y Ψ) (hi:∀ a b,Ψ a b->Φ a b):Rel x y Φ:=by
 obtain ⟨a,b,ha,hb,hΨ⟩:=h
 exact ⟨a,b,ha,hb,hi a b hΨ⟩
theorem by' {x:Option γ}{y:Option δ}{f:γ->Option α}{g:δ->Option β}{Ξ:γ->δ->Prop}(h:Rel x y Ξ) (hk:∀ a b,Ξ a b->Rel (f a) (g b) Φ):Rel (x.bind f) (y.bind g) Φ:=by
 obtain ⟨a,b,rfl,rfl,hΞ⟩:=h
 exact hk a b hΞ
theorem l {x:Option γ}{y:Option β}{f:γ->Option α}{Ξ:γ->Prop}(h:Tot x Ξ) (hk:∀ a,Ξ a->Rel (f a) y Φ):Rel (x.bind f) y Φ:=by
 obtain ⟨a,rfl,hΞ⟩:=h
 exact hk a hΞ
theorem r {x:Option α}{y:Option δ}{g:δ->Option β}{Ξ:δ->Prop}(h:Tot y Ξ) (hk:∀ a,Ξ a->Rel x (g a) Φ):Rel x (y.bind g) Φ:=by
 obtain ⟨a,rfl,hΞ⟩:=h
 exact hk a hΞ
theorem cd {c d:Bool}{a b:Option α}{a' b':Option β}(hc:c=d) (ht:c=true->Rel a a' Φ) (hf:c=false->Rel b b' Φ):Rel (cond c a b) (cond d a' b') Φ:=by
 subst hc
 cases c
 ·exact hf rfl
 ·exact ht rfl
theorem cl {c:Bool}{a b:Option α}{y:Option β}(ht:c=true->Rel a y Φ) (hf:c=false->Rel b y Φ):Rel (cond c a b) y Φ:=by
 cases c
 ·exact hf rfl
 ·exact ht rfl
theorem tot {x:Option α}{y:Option β}{P:α->Prop}{Q:β->Prop}(h:Tot x P) (h':Tot y Q) (hi:∀ a b,P a->Q b->Φ a b):Rel x y Φ:=by
 obtain ⟨a,ha,hP⟩:=h
 obtain ⟨b,hb,hQ⟩:=h'
 exact ⟨a,b,ha,hb,hi a b hP hQ⟩
theorem loop {f:S->Option (S ⊕ R)}{g:T->Option (T ⊕ Q)}{s0:S}{t0:T}{Ψ:R->Q->Prop}(Inv:S->T->Prop) (μ:S->Nat) (h0:Inv s0 t0) (hμ:μ s0<fuel)
  (hs:∀ s t,Inv s t->Rel (f s) (g t) (LL (fun s' t'=>Inv s' t'/\μ s'<μ s) Ψ)):Rel (loopM f s0) (loopM g t0) Ψ:=by
 have key:∀ n s t,Inv s t->μ s<n->Rel (iter f n s) (iter g n t) Ψ:=by
  intro n
  induction n with
  | zero=>intro s t _ h; omega
  | succ n ih =>
   intro s t hI hm
   obtain ⟨x,y,hx,hy,hP⟩:=hs s t hI
   rcases x with s' | r <;> rcases y with t' | q
   ·obtain ⟨h1,h2⟩:=hP
    simp only [iter,hx,hy]
    exact ih s' t' h1 (by omega)
   ·exact hP.elim
   ·exact hP.elim
   ·simp only [iter,hx,hy]
    exact ⟨r,q,rfl,rfl,hP⟩
 exact key fuel s0 t0 h0 hμ
theorem upto {f:S->Option (S ⊕ R)}{g:T->Option (T ⊕ Q)}{s0:S}{t0:T}{Ψ:R->Q->Prop}(i:S->Int) (n:Nat) (Inv:Nat->S->T->Prop) (hi:i s0=0) (hn:n<=100000000000000000) (h0:Inv 0 s0 t0)
  (hs:∀ (k:Nat) (s:S) (t:T),k<=n->i s=(k:Int)->Inv k s t->Rel (f s) (g t) (LL (fun s' t'=>k<n/\i s'=((k+1:Nat):Int)/\Inv (k+1) s' t') Ψ)):Rel (loopM f s0) (loopM g t0) Ψ:=by
 refine loop (fun s t=>∃ k:Nat,k<=n/\i s=(k:Int)/\Inv k s t) (fun s=>(n - (i s).toNat)) ⟨0,Nat.zero_le _,hi,h0⟩ (by rw [hi]; show n - 0<1000000000000000000; omega) fun s t ⟨k,hk,he,hI⟩=>(hs k s t hk he hI).use fun x y hxy=>?_
 rcases x with s' | r <;> rcases y with t' | q
 ·obtain ⟨h1,h2,h3⟩:=hxy
  refine ⟨⟨k+1,by omega,h2,h3⟩,?_⟩
  show n - (i s').toNat<n - (i s).toNat
  rw [h2,he]; omega
 ·exact hxy
 ·exact hxy
 ·exact hxy
end Rel
end Go.Own
namespace Go.Proofs
open Go Go.Own
set_option maxRecDepth 100000
set_option linter.unusedVariables false
theorem cat_ok {a b:ByteArray}(h:a.size+b.size<=4611686018427387904):catO a b=some (a++b):=by unfold catO; rw [if_pos h]
open Go Go.Own Go.Sort
inductive Cl (g:Grammar) (l:List Item):Item->Prop
 | base {x:Item}(h:x∈l) (hi:isI g x):Cl g l x
 | step {x:Item}{q:Prod}{p:Nat}(h:Cl g l x) (hp:g.Prods[p]?=some q) (hn:nx g x=1000+q.Left) (h0:1000<=nx g x):Cl g l ⟨p,0⟩
def cnt (m:List Bool):Nat:=(m.filter fun b=>b).length
theorem cnt_set:∀ (m:List Bool) (i:Nat),i<m.length->m.getD i false=false->cnt (m.set i true)=cnt m+1
 | [],i,h,_=>by simp at h
 | b::m,0,_,h=>by
  have:b=false:=by simpa using h
  subst this
  simp [cnt]
 | b::m,i+1,h,h0=>by
  have:=cnt_set m i (by simpa using h) (by simpa using h0)
  unfold cnt at this ⊢
  simp only [List.set_cons_succ,List.filter_cons]
  cases b <;> simp [this]
theorem take_snoc' {α:Type}{r:List α}{k:Nat}(h:k<r.length):r.take (k+1)=r.take k++[r[k]]:=by
 rw [List.take_add_one,List.getElem?_eq_getElem h]; rfl
theorem c27z (l:List Int) (x:Int) (h:l.length<=1000000):∃ c,pf27 l x=some c/\(c=true↔x∈l):=by
 suffices h:Tot (pf27 l x) fun c=>(c=true↔x∈l) from h
 unfold pf27
 refine .by' (Ξ:=LR (fun _=>x∉l) (fun r:Bool=>r=true/\x∈l)) ?_ fun r hr=>?_
 ·refine Tot.upto (fun s=>s) l.length (fun k s=>x∉l.take k) rfl (by omega) (by simp) fun k s hk he hI=>?_
  subst he
  rw [w64c k (by omega)]
  refine Tot.cp (fun hlt=>?_) (fun hge=>.so ?_)
  ·have hlt:k<l.length:=by omega
   rw [idx_nat hlt]
   simp only [Option.bind_some]
   refine Tot.cp (fun e=>.so ⟨rfl,by rw [<- e]; exact List.getElem_mem hlt⟩) (fun e=>.so ⟨hlt,rfl,?_⟩)
   rw [take_snoc' hlt,List.mem_append,List.mem_singleton]
   exact fun h=>h.elim hI fun h=>e h.symm
  ·rw [List.take_of_length_le (by omega)] at hI
   exact hI
 ·rcases r with r | r
  ·exact .so ⟨fun h=>(by cases h),fun h=>absurd h hr⟩
  ·obtain ⟨rfl,h⟩:=hr
   exact .so ⟨fun _=>h,fun _=>rfl⟩
abbrev nErr':ByteArray:={ data:=#[101,114,114,111,114] }
abbrev nEnd:ByteArray:={ data:=#[36,101,110,100] }
abbrev nUnk:ByteArray:={ data:=#[36,117,110,107] }
abbrev syN':Sym:=⟨nE,false,0,0⟩
def nmk (k:Int):ByteArray:=({ data:=#[116] }:ByteArray)++((pf28 k).getD nE)
def syk (k:Int):Sym:=⟨nmk k,false,k,0⟩
def tkk (k:Int):Tok:=⟨nmk k,false,k,0,0,nE⟩
def okk (k:Int):Bool :=
 (match pf28 k with | some s=>Nat.ble s.size 100 | none=>false)&&(match pf131 (syk k) true true with | some b=>b | none=>false)&&!decide (nmk k=nS)&&!decide (nmk k=nErr')&&!decide (nmk k=nEnd)&&!decide (nmk k=nUnk)
theorem okk_all:(List.range 30).all (fun k=>okk ((k:Int)+1))=true:=by kernel_rfl
theorem inj_all:(List.range 30).all (fun k=>(List.range 30).all fun j=>decide (j=k)||!decide (nmk ((j:Int)+1)=nmk ((k:Int)+1)))=true:=by kernel_rfl
structure Okk (k:Int):Prop where
 d:∃ s,pf28 k=some s/\s.size<=100/\nmk k=({ data:=#[116] }:ByteArray)++s
 l:pf131 (syk k) true true=some true
 s:nmk k≠nS
 b:∀ t∈T3,t.Name≠nmk k
theorem okk_of {k:Int}(h1:1<=k) (h2:k<=30):Okk k:=by
 have h:=List.all_eq_true.1 okk_all (k - 1).toNat (by rw [List.mem_range]; omega)
 have e:(((k - 1).toNat:Nat):Int)+1=k:=by omega
 rw [e] at h
 unfold okk at h
 simp only [Bool.and_eq_true,Bool.not_eq_true',decide_eq_false_iff_not] at h
 obtain ⟨⟨⟨⟨⟨h1,h2⟩,h3⟩,h4⟩,h5⟩,h6⟩:=h
 refine ⟨?_,?_,h3,fun t ht=>?_⟩
 ·cases h7:pf28 k with
  | none=>rw [h7] at h1; cases h1
  | some s=>rw [h7] at h1; exact ⟨s,rfl,by simpa using h1,by unfold nmk; rw [h7]; rfl⟩
 ·cases h7:pf131 (syk k) true true with
  | none=>rw [h7] at h2; cases h2
  | some b =>
   rw [h7] at h2
   have h2:b=true:=h2
   rw [h2]
 ·simp only [T3,List.mem_cons,List.not_mem_nil,or_false] at ht
  rcases ht with rfl | rfl | rfl
  ·exact fun e=>h5 e.symm
  ·exact fun e=>h4 e.symm
  ·exact fun e=>h6 e.symm
theorem nmk_inj {j k:Int}(h1:1<=j) (h2:j<=30) (h3:1<=k) (h4:k<=30) (h:nmk j=nmk k):j=k:=by
 have a:=List.all_eq_true.1 (List.all_eq_true.1 inj_all (k - 1).toNat (by rw [List.mem_range]; omega)) (j - 1).toNat (by rw [List.mem_range]; omega)
 have e1:(((k - 1).toNat:Nat):Int)+1=k:=by omega
 have e2:(((j - 1).toNat:Nat):Int)+1=j:=by omega
 rw [e1,e2,h] at a
 simp only [decide_true,Bool.not_true,Bool.or_false,decide_eq_true_eq] at a
 omega
structure Own (ks:List Int):Prop where
 n:ks.length<=20
 r:∀ k∈ks,1<=k/\k<=30
 d:ks.Nodup
def dec (ks:List Int):List Decl:=if ks=[] then [] else [⟨1,nE,ks.map syk,0⟩]
abbrev aE:Alt:=⟨[],syN',0⟩
def grn (ks:List Int):Source:=⟨nE,dec ks,[⟨nS,[aE],0⟩],nE⟩
theorem x61 (ks:List Int) (h:Own ks):Par (pf61 (grn ks)) fun r=>r.2.1=0/\r.1.Toks=T3++ks.map tkk/\r.1.Prods=[P0,⟨1,[],-1,nE,[],0⟩]:=by
 have hn:=h.n
 have hfl:((dec ks).flatMap (·.Syms)).length=ks.length:=by
  unfold dec
  split
  ·rename_i e; rw [e]; rfl
  ·simp
 have hT:∀ j,(T3++(ks.take j).map tkk).length=3+min j ks.length:=fun j=>by
  rw [List.length_append,List.length_map,List.length_take]; rfl
 refine (p61x (Td:=fun j=>T3++(ks.take j).map tkk) (Gd:=fun j=>[false,false,false]++(ks.take j).map fun _=>true) (Ta:=fun _=>T3++ks.map tkk) (Ga:=fun _=>[false,false,false]++ks.map fun _=>true)
  (Pa:=fun j=>if j=0 then [P0] else [P0,⟨1,[],-1,nE,[],0⟩]) (ds:=dec ks) (A:=[aE]) ?_ ?_ ?_ (by simp) (by simp) ?_ ?_ rfl rfl ?_ ?_ ?_ rfl ?_ ?_ ?_ ?_ ?_ ?_).use fun r hr=>⟨hr.1,hr.2.1,hr.2.2.1⟩
 ·unfold dec
  split
  ·exact .inl rfl
  ·exact .inr ⟨_,rfl⟩
 ·intro d hd
  unfold dec at hd
  split at hd
  ·cases hd
  ·rw [List.mem_singleton.1 hd]
 ·intro d hd
  unfold dec at hd
  split at hd
  ·cases hd
  ·rename_i hne
   rw [List.mem_singleton.1 hd]
   unfold pf104
   have e2:decide (((ks.map syk).length:Int)=0)=false:=decide_eq_false fun e=>hne (List.eq_nil_of_length_eq_zero (by simpa using e))
   have c1:decide ((1:Int)<1)=false:=rfl
   have c2:decide ((6:Int)<1)=false:=rfl
   have c3:decide ((1:Int)=6)=false:=rfl
   have c4:decide ((1:Int)=5)=false:=rfl
   have c5:decide ((1:Int)=1)=true:=rfl
   have c6:decide ((1:Int)<5)=true:=rfl
   simp only [e2,c1,c2,c3,c4,c6,decide_true,cond_false,Bool.not_true,Option.bind_some]
   refine .by' (Ξ:=LR (fun _=>True) (fun _:Bool=>False)) ?_ fun x hx=>?_
   ·refine Par.loop (fun _=>True) trivial fun s _=>Par.cd (fun _=>.go fun y hy=>?_) (fun _=>.so trivial)
    obtain ⟨k,hk,rfl⟩:=List.mem_map.1 (idx_bd' hy)
    rw [(okk_of (h.r k hk).1 (h.r k hk).2).l]
    exact .so trivial
   ·rcases x with _ | r
    ·exact .so rfl
    ·exact hx.elim
 ·intro d hd
  unfold dec at hd
  split at hd
  ·cases hd
  ·rw [List.mem_singleton.1 hd]; simp; omega
 ·intro a ha
  rw [List.mem_singleton.1 ha]
  have:pf106 aE=some true:=by kernel_rfl
  rw [this]
  exact .so rfl
 ·intro d hd j x hx m hm
  unfold dec at hd
  split at hd
  ·cases hd
  ·rw [List.mem_singleton.1 hd] at hx ⊢
   rw [List.getElem?_map] at hx
   cases hk:ks[j]? with
   | none=>rw [hk] at hx; cases hx
   | some k =>
    rw [hk] at hx
    have hx:syk k=x:=Option.some.inj hx
    subst hx
    have hkm:=List.mem_of_getElem? hk
    have hjl:=(List.getElem?_eq_some_iff.1 hk).1
    have hr:=h.r k hkm
    have ok:=okk_of hr.1 hr.2
    have htk:ks.take (j+1)=ks.take j++[k]:=by rw [List.take_add_one,hk]; rfl
    have hnk:k∉ks.take j:=fun hm=>by
     obtain ⟨i,hi,e⟩:=List.mem_iff_getElem.1 hm
     rw [List.length_take] at hi
     rw [List.getElem_take] at e
     have h3:ks[j]'hjl=k:=by
      rw [List.getElem?_eq_getElem hjl] at hk
      exact Option.some.inj hk
     have:=(List.getElem_inj h.d).1 (e.trans h3.symm)
     omega
    rw [htk,List.map_append,List.map_append,<- List.append_assoc,<- List.append_assoc]
    refine p89x (x:=syk k) hm rfl rfl rfl (by show 0<k; omega) ⟨by rw [hT]; omega,by rw [hT]; omega⟩ (by rw [hT]; simp; omega) (fun t ht=>?_) (fun t ht=>?_)
    ·rcases List.mem_append.1 ht with ht | ht
     ·exact ok.b t ht
     ·obtain ⟨i,hi,rfl⟩:=List.mem_map.1 ht
      intro e
      have hri:=h.r i (List.mem_of_mem_take hi)
      have:=nmk_inj hri.1 hri.2 hr.1 hr.2 e
      subst this
      exact hnk hi
    ·rcases List.mem_append.1 ht with ht | ht
     ·simp only [T3,List.mem_cons,List.not_mem_nil,or_false] at ht
      rcases ht with rfl | rfl | rfl
      ·show (0:Int)≠k; omega
      ·show (-1:Int)≠k; omega
      ·show (-1:Int)≠k; omega
     ·obtain ⟨i,hi,rfl⟩:=List.mem_map.1 ht
      intro e
      have e:i=k:=e
      subst e
      exact hnk hi
 ·rw [hfl,List.take_length]
 ·rw [hfl,List.take_length]
 ·intro t ht
  rcases List.mem_append.1 ht with ht | ht
  ·simp only [T3,List.mem_cons,List.not_mem_nil,or_false] at ht
   rcases ht with rfl | rfl | rfl <;> decide
  ·obtain ⟨k,hk,rfl⟩:=List.mem_map.1 ht
   exact (okk_of (h.r k hk).1 (h.r k hk).2).s
 ·intro j a ha m hm
  have hj:j=0/\a=aE:=by
   cases j with
   | zero=>exact ⟨rfl,by cases ha; rfl⟩
   | succ j=>cases ha
  obtain ⟨rfl,rfl⟩:=hj
  unfold pf93
  refine .by' (p92s hm.lf) fun r hr=>?_
  subst hr
  refine .by' (Ξ:=fun r:Mk × List Int × ByteArray × Int=>r=(m,[],nE,0)) ?_ fun r hr=>?_
  ·refine Par.loop (fun z=>z=(m,[],nE,0,0)) rfl fun z hz=>?_
   subst hz
   have c:decide ((0:Int)<((([]:List Part).length:Nat):Int))=false:=rfl
   simp only [c,cond_false]
   exact .so rfl
  ·subst hr
   refine .by' (Ξ:=fun r:Int=>r=-1) ?_ fun r hr=>?_
   ·refine Par.loop (fun z=>z=(-1,0)) rfl fun z hz=>?_
    subst hz
    have c:decide ((0:Int)<((([]:List Int).length:Nat):Int))=false:=rfl
    simp only [c,cond_false]
    exact .so rfl
   ·subst hr
    simp only [cond_false]
    refine .by' (Ξ:=fun r:Mk × Int=>r=(m,-1)) (.so rfl) fun r hr=>?_
    subst hr
    refine Par.ap fun _=>Par.ap fun _=>.so ⟨hm.e,hm.t,hm.g,hm.ty,hm.lf,hm.inn,?_⟩
    show m.f_g.Prods++_=_
    rw [hm.pr]
    rfl
 ·intro i b hi hb
  rw [List.getElem?_append_right (by simp; omega),List.getElem?_map] at hb
  cases hx:ks[i - [false,false,false].length]? with
  | none=>rw [hx] at hb; cases hb
  | some k=>rw [hx] at hb; exact (Option.some.inj hb).symm
 ·have:=hT ks.length
  rw [List.take_length] at this
  rw [this]; omega
 ·show List.length _<=60
  decide
 ·intro p hp
  have hp:p∈[P0,⟨1,[],-1,nE,[],0⟩]:=hp
  simp only [List.mem_cons,List.not_mem_nil,or_false] at hp
  rcases hp with rfl | rfl <;> decide
theorem srcb (ks:List Int) (h:Own ks):SrcB (grn ks):=by
 have hn:=h.n
 refine ⟨by show (0:Nat)<=big; decide,?_,fun d hd=>?_,by show 1<=1000; decide,fun r hr=>?_⟩
 ·show (dec ks).length<=1000
  unfold dec
  split <;> simp
 ·have hd:d∈dec ks:=hd
  unfold dec at hd
  split at hd
  ·cases hd
  ·rw [List.mem_singleton.1 hd]
   refine ⟨by show (0:Nat)<=big; decide,by rw [List.length_map]; omega,fun x hx=>?_⟩
   obtain ⟨k,hk,rfl⟩:=List.mem_map.1 hx
   obtain ⟨s,_,e2,e3⟩:=(okk_of (h.r k hk).1 (h.r k hk).2).d
   show (nmk k).size<=big
   rw [e3,ByteArray.size_append]
   show 1+s.size<=big
   simp only [big]
   omega
 ·have hr:r∈[(⟨nS,[aE],0⟩:Rule)]:=hr
  rw [List.mem_singleton.1 hr]
  refine ⟨by decide,by decide,fun a ha=>?_⟩
  rw [List.mem_singleton.1 ha]
  exact ⟨by decide,fun p hp=>(by cases hp),by decide⟩
theorem x20 (ks:List Int) (h:Own ks):∃ g,pf20 (grn ks)=some (g,true)/\GOk g/\GTk g/\g.Toks=T3++ks.map tkk:=by
 obtain ⟨r,hr,h1⟩:=g20 (grn ks) (srcb ks h)
 have h2:r.2=true/\r.1.Toks=T3++ks.map tkk:=by
  have:Par (pf20 (grn ks)) fun r=>r.2=true/\r.1.Toks=T3++ks.map tkk:=by
   unfold pf20
   exact .by' (x61 ks h) fun r hr=>.so ⟨decide_eq_true hr.1,hr.2.1⟩
  exact this r hr
 obtain ⟨g,b⟩:=r
 obtain ⟨rfl,h2⟩:=h2
 exact ⟨g,hr,(h1 rfl).1,(h1 rfl).2,h2⟩
theorem t5 (gv:List Int) (n:Int):pf5 gv n=some true:=by
 suffices h:Tot (pf5 gv n) fun r=>r=true by
  obtain ⟨r,hr,e⟩:=h; rw [hr,e]
 unfold pf5
 rw [w17]
 refine Tot.sm (.by' (Ξ:=fun r:List Sym × List Int=>Own r.2/\r.1=r.2.map syk) ?_ fun r hr=>?_)
 ·refine Tot.upto (fun s=>s.2.2) 20 (fun k s=>Own s.2.1/\s.2.1.length<=k/\s.1=s.2.1.map syk) rfl (by omega) ⟨⟨Nat.zero_le _,fun k hk=>(by cases hk),List.nodup_nil⟩,Nat.le_refl 0,rfl⟩ fun k s hk he hI=>?_
  obtain ⟨sy,ks,i⟩:=s
  obtain ⟨h1,h2,h3⟩:=hI
  simp only at he h1 h2 h3 ⊢
  subst he h3
  rw [w64c k (by omega)]
  refine .by' (Ξ:=fun c:Bool=>c=true->k<gv.length/\k<20) (Tot.cp (fun h=>.so fun h'=>⟨by omega,by have:=of_decide_eq_true h'; omega⟩) (fun h=>.so fun h=>by cases h)) fun c hc=>Tot.cd (fun h=>?_) (fun h=>.so ⟨h1,rfl⟩)
  obtain ⟨g1,g2⟩:=hc h
  rw [idx_nat g1]
  simp only [Option.bind_some]
  refine .by' (Ξ:=fun j:List Sym × List Int=>Own j.2/\j.2.length<=k+1/\j.1=j.2.map syk) ?_ fun j hj=>.so ⟨g2,rfl,hj⟩
  refine .by' (t22 _ 30 (by decide) (by decide)) fun v hv=>?_
  have hw:w64 (1+v)=1+v:=by rw [w64_eq]; omega
  obtain ⟨c,ec,hc⟩:=c27z ks (1+v) (by omega)
  rw [hw,ec]
  simp only [Option.bind_some]
  refine .by' (Ξ:=fun j:List Sym × List Int=>Own j.2/\j.2.length<=k+1/\j.1=j.2.map syk) ?_ fun j hj=>.so hj
  cases c with
  | true=>exact .so ⟨h1,by show ks.length<=k+1; omega,rfl⟩
  | false =>
   have ok:=okk_of (k:=1+v) (by omega) (by omega)
   obtain ⟨s,e1,e2,e3⟩:=ok.d
   have hcat:catO ({ data:=#[116] }:ByteArray) s=some (nmk (1+v)):=by
    rw [e3,cat_ok (by show 1+s.size<=_; omega)]
   simp only [Bool.not_false,cond_true]
   refine .by' (Ξ:=fun _=>True) (Tot.ap (by show ks.length+1<=lim; unfold lim; omega) trivial) fun _ _=>?_
   rw [e1]
   simp only [Option.bind_some,hcat]
   refine .by' (Ξ:=fun _=>True) (Tot.ap (by show (ks.map syk).length+1<=lim; rw [List.length_map]; unfold lim; omega) trivial) fun _ _=>.so ⟨⟨by show (ks++[_]).length<=20; simp; omega,fun x hx=>?_,?_⟩,by show (ks++[_]).length<=k+1; simp; omega,by simp [syk]⟩
   ·rcases List.mem_append.1 hx with hx | hx
    ·exact h1.r x hx
    ·rw [List.mem_singleton.1 hx]; omega
   ·refine List.nodup_append.2 ⟨h1.d,by simp,fun a ha b hb=>?_⟩
    rw [List.mem_singleton.1 hb]
    intro e
    subst e
    have:=hc.2 ha
    cases this
 ·obtain ⟨sy,ks⟩:=r
  obtain ⟨hO,hsy⟩:=hr
  simp only at hO hsy ⊢
  subst hsy
  obtain ⟨g,hgr,ho,hg,hT⟩:=x20 ks hO
  refine .by' (Ξ:=fun l:List Decl=>l=dec ks) (Tot.cp (fun h=>.so ?_) (fun h=>.so ?_)) fun l hl=>?_
  ·unfold dec
   rw [if_neg (fun e=>by rw [e] at h; simp at h)]
  ·unfold dec
   rw [if_pos (List.eq_nil_of_length_eq_zero (by omega))]
  ·subst hl
   have hgr:pf20 ⟨{ data:=#[] },dec ks,[⟨{ data:=#[115] },[⟨[],⟨{ data:=#[] },false,0,0⟩,0⟩],0⟩],{ data:=#[] }⟩=some (g,true):=hgr
   rw [hgr]
   simp only [Option.bind_some]
   have hTl:=ho.tn
   obtain ⟨l,hl,ha,hn,hm⟩:=c24 g hg (by omega)
   rw [hl]
   simp only [Option.bind_some]
   have own:∀ k∈ks,∃ i:Nat,3<=i/\g.Toks[i]?=some (tkk k):=fun k hk=>by
    obtain ⟨i,hi⟩:=List.getElem?_of_mem (List.mem_map.2 ⟨k,hk,rfl⟩:tkk k∈ks.map tkk)
    refine ⟨3+i,by omega,?_⟩
    rw [hT,List.getElem?_append_right (by show 3<=3+i; omega)]
    have:3+i - T3.length=i:=by show 3+i - 3=i; omega
    rw [this]; exact hi
   have back:∀ (i:Nat) (t:Tok),g.Toks[i]?=some t->0<t.Num->∃ k∈ks,t=tkk k:=fun i t ht h0=>by
    have hmem:=List.mem_of_getElem? ht
    rw [hT] at hmem
    rcases List.mem_append.1 hmem with h | h
    ·exfalso
     simp only [T3,List.mem_cons,List.not_mem_nil,or_false] at h
     rcases h with rfl | rfl | rfl
     ·exact absurd h0 (by decide)
     ·exact absurd h0 (by decide)
     ·exact absurd h0 (by decide)
    ·obtain ⟨k,hk,rfl⟩:=List.mem_map.1 h
     exact ⟨k,hk,rfl⟩
   refine .by' (Ξ:=LR (fun _=>True) (fun _:Bool=>False)) ?_ fun x hx=>?_
   ·refine Tot.count (fun s=>s) 34 (fun s=>-3<=s) (Int.le_refl _) (by decide) fun s hs=>?_
    refine Tot.cp (fun hlt=>?_) (fun _=>.so trivial)
    have up:(-3<=w64 (s+1))/\s<w64 (s+1)/\w64 (s+1)<=34:=by rw [w64_eq]; omega
    refine .by' (c25 g hg l s ha hn hm) fun v hv=>?_
    obtain ⟨c,ec,hc⟩:=c27z ks s (by have:=hO.n; omega)
    refine .by' (Ξ:=fun c=>c=false) ?_ fun c1 hc1=>?_
    ·refine Tot.cp (fun h=>?_) (fun h=>.so rfl)
     rcases hv with ⟨_,rfl⟩ | ⟨h1,_⟩
     ·exact .so rfl
     ·omega
    ·subst hc1
     simp only [cond_false]
     refine .by' (Ξ:=fun c=>c=false) ?_ fun c1 hc1=>?_
     ·refine Tot.cp (fun h=>?_) (fun h=>.so rfl)
      rw [ec]
      simp only [Option.bind_some]
      cases c with
      | true=>exact .so rfl
      | false =>
       have hno:s∉ks:=fun h=>by have:=hc.2 h; cases this
       rcases hv with ⟨h1,_⟩ | ⟨_,⟨k,t,h2,h3,_⟩ | ⟨_,rfl⟩⟩
       ·omega
       ·obtain ⟨k',hk',rfl⟩:=back k t h2 (by omega)
        have h3:k'=s:=h3
        subst h3
        exact absurd hk' hno
       ·exact .so rfl
     ·subst hc1
      simp only [cond_false]
      refine .by' (Ξ:=fun c=>c=false) ?_ fun c1 hc1=>?_
      ·rw [ec]
       simp only [Option.bind_some]
       cases c with
       | false=>exact .so rfl
       | true =>
        have hs':=hc.1 rfl
        have hr:=hO.r s hs'
        obtain ⟨i,hi3,hi⟩:=own s hs'
        have hvi:v=(i:Int):=by
         rcases hv with ⟨h1,_⟩ | ⟨_,⟨k,t,h2,h3,h4⟩ | ⟨h2,_⟩⟩
         ·omega
         ·have:=hg.un i k (tkk s) t hi h2 (by show 0<s; omega) h3.symm
          omega
         ·exact absurd rfl (h2 i (tkk s) hi)
        subst hvi
        have hil:=(List.getElem?_eq_some_iff.1 hi).1
        obtain ⟨sd,e1,e2,e3⟩:=(okk_of hr.1 hr.2).d
        have hcat:catO ({ data:=#[116] }:ByteArray) sd=some (nmk s):=by
         rw [e3,cat_ok (by show 1+sd.size<=_; omega)]
        have d1:decide ((i:Int)<3)=false:=decide_eq_false (by omega)
        have d2:decide ((g.Toks.length:Int)<=(i:Int))=false:=decide_eq_false (by omega)
        have hii:idx g.Toks (i:Int)=some (tkk s):=by simp [idx,hi]
        have hnm:(tkk s).Name=nmk s:=rfl
        simp only [cond_true,d1,d2,cond_false,hii,e1,hcat,hnm,Option.bind_some,decide_true,Bool.not_true]
        exact .so rfl
      ·subst hc1
       exact .so ⟨up.1,up.2⟩
   ·rcases x with x | x
    ·obtain ⟨v,hv,h1⟩:=c25 g hg l n ha hn hm
     rw [hv]
     simp only [cond_true,Option.bind_some]
     have:(decide (n<=0) == decide (v=0))=true:=by
      rcases h1 with ⟨h1,rfl⟩ | ⟨h1,⟨k,t,h2,h3,rfl⟩ | ⟨_,rfl⟩⟩
      ·rw [decide_eq_true h1]; rfl
      ·obtain ⟨k',hk',rfl⟩:=back k t h2 (by omega)
       have h4:k≠0:=by
        rintro rfl
        have:=hg.hd 0 (tkk k') (by omega) h2
        have h3:k'=n:=h3
        have h5:(tkk k').Num=k':=rfl
        omega
       rw [decide_eq_false (by omega),decide_eq_false (by omega)]; rfl
      ·rw [decide_eq_false (by omega)]; rfl
     rw [this]
     exact .so rfl
    ·exact hx.elim
end Go.Proofs
