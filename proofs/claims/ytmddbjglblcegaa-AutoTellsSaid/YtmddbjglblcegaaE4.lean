/-
  What is proved here: parts of the proof that the last text states: rules for walks through code, and of this program's functions what they answer. No condition of their own.
-/
import Derived.KernelRfl
import Derived.Test.YtmddbjglblcegaaE3
namespace Go.Proofs
open Go Go.Own Go.Sort
set_option maxRecDepth 100000
set_option linter.unusedVariables false
def Closed (g:Grammar) (out:List Item) (x:Item):Prop:=1000<=nx g x->∀ (p:Nat) (q:Prod),g.Prods[p]?=some q->q.Left=nx g x - 1000->(⟨p,0⟩:Item)∈out
theorem c37 (g:Grammar) (hg:GOk g) (l:List Item) (hl:l.length<=1000000):Tot (pf37 g l) fun r=>Asc ltI r/\∀ x,x∈r↔Cl g l x:=by
 have hpn:=hg.pn
 unfold pf37
 refine .by' (c73 g hg l hl) fun x1 h1=>.by' (Ξ:=fun r=>Asc ltI r/\∀ x,x∈r↔Cl g l x) ?_ fun r hr=>.so hr
 obtain ⟨ha1,hm1⟩:=h1
 refine Tot.loop (fun s=>Asc ltI s.1/\(∀ x∈s.1,Cl g l x)/\(∀ x∈l,isI g x->x∈s.1)/\(s.2=(s.1.length:Int)->∀ x∈s.1,Closed g s.1 x)) (fun s=>2 * (1000 - s.1.length)+(if s.2=(s.1.length:Int) then 0 else 1)) ⟨ha1,fun x hx=>.base ((hm1 x).1 hx).1 ((hm1 x).1 hx).2,fun x hx hi=>(hm1 x).2 ⟨hx,hi⟩,fun h=>by have h:(-1:Int)=_:=h; omega⟩ (by
  show 2 * (1000 - x1.length)+(if (-1:Int)=_ then 0 else 1)<1000000000000000000
  split <;> omega) fun s hs=>?_
 obtain ⟨out,n⟩:=s
 obtain ⟨ha,hsub,hbase,hcl⟩:=hs
 simp only at ha hsub hbase hcl ⊢
 have hol:=asc_len hg ha fun x hx=>(hsub x hx).isI
 refine Tot.cn (fun hne=>?_) (fun he=>.so ⟨ha,fun x=>⟨hsub x,fun hx=>?_⟩⟩)
 ·refine .by' (Ξ:=fun j:List Item × Int=>j.2=(out.length:Int)/\Asc ltI j.1/\(∀ x∈j.1,Cl g l x)/\(∀ x∈out,x∈j.1)/\(j.1.length=out.length->∀ x∈j.1,Closed g j.1 x)) ?_ fun j hj=>?_
  ·refine .by' (Ξ:=fun r:List Item=>Asc ltI r/\(∀ x∈r,Cl g l x)/\(∀ x∈out,x∈r)/\(r.length=out.length->∀ x∈r,Closed g r x)) ?_ fun r hr=>.so ⟨rfl,hr⟩
   refine .by' (Ξ:=fun r:List Item=>Asc ltI r/\(∀ x∈r,Cl g l x)/\(∀ x∈out,x∈r)/\(r.length=out.length->∀ x∈r,Closed g r x)) ?_ fun r hr=>.so hr
   refine Tot.count (fun s=>s.2) out.length (fun s=>∃ k:Nat,k<=out.length/\s.2=(k:Int)/\s.1=out/\∀ (j:Nat) (h:j<out.length),j<k->Closed g out out[j]) ⟨0,Nat.zero_le _,rfl,rfl,fun j _ hj=>absurd hj (Nat.not_lt_zero _)⟩ (by show (out.length:Int) - 0<_; omega) fun s hs=>?_
   obtain ⟨cur,k'⟩:=s
   obtain ⟨k,hk,rfl,rfl,hdone⟩:=hs
   simp only
   rw [w64n k (by omega)]
   refine Tot.cp (fun hlt=>?_) (fun hge=>.so ⟨ha,hsub,fun _ h=>h,fun _ x hx=>?_⟩)
   ·have hlt:k<cur.length:=by omega
    rw [idx_nat hlt]
    have hxm:=hsub _ (List.getElem_mem hlt)
    have hxe:∀ P:Item->Prop,P cur[k]->∀ (j:Nat) (h:j<cur.length),j=k->P cur[j]:=fun P hP j h e=>by subst e; exact hP
    generalize hx:cur[k]=x at *
    have hnb:=nx_bd hg x
    have hw:w64 (nx g x - 1000)=nx g x - 1000:=by rw [w64_eq]; omega
    simp only [Option.bind_some,e33 g x,hw]
    refine (.by' (Ξ:=fun r:List Item=>Asc ltI r/\(∀ x∈r,Cl g l x)/\(∀ x∈cur,x∈r)/\Closed g r x) ?_ fun r hr=>?_)
    ·refine Tot.count (fun s=>s.2) g.Prods.length (fun s=>∃ i:Nat,i<=g.Prods.length/\s.2=(i:Int)/\Asc ltI s.1/\(∀ x∈s.1,Cl g l x)/\(∀ x∈cur,x∈s.1)/\∀ (p:Nat) (q:Prod),p<i->g.Prods[p]?=some q->q.Left=nx g x - 1000->(⟨p,0⟩:Item)∈s.1) ⟨0,Nat.zero_le _,rfl,ha,hsub,fun _ h=>h,fun p q hp=>absurd hp (Nat.not_lt_zero _)⟩ (by show (g.Prods.length:Int) - 0<_; omega) fun s hs=>?_
     obtain ⟨o,i'⟩:=s
     obtain ⟨i,hi,rfl,hoa,hoc,hos,hop⟩:=hs
     simp only at hoa hoc hos hop ⊢
     rw [w64n i (by omega)]
     refine .by' (Ξ:=fun c:Bool=>(c=true->i<g.Prods.length/\1000<=nx g x)/\(c=false->g.Prods.length<=i\/nx g x<1000)) (Tot.cp (fun h=>.so ⟨fun h'=>⟨by omega,of_decide_eq_true h'⟩,fun h'=>.inr (by have:=of_decide_eq_false h'; omega)⟩) (fun h=>.so ⟨fun h'=>(by cases h'),fun _=>.inl (by omega)⟩)) fun c hc=>Tot.cd (fun h=>?_) (fun h=>.so ⟨hoa,hoc,hos,fun h0 p q hp=>?_⟩)
     ·obtain ⟨hlti,h0⟩:=hc.1 h
      have hpi:g.Prods[i]?=some g.Prods[i]:=List.getElem?_eq_getElem hlti
      rw [idx_nat hlti]
      refine .by' (Ξ:=fun o:List Item=>Asc ltI o/\(∀ x∈o,Cl g l x)/\(∀ x∈cur,x∈o)/\∀ (p:Nat) (q:Prod),p<i+1->g.Prods[p]?=some q->q.Left=nx g x - 1000->(⟨p,0⟩:Item)∈o) ?_ fun o ho=>.so ⟨⟨i+1,by omega,rfl,ho⟩,by show (i:Int)<((i+1:Nat):Int); omega,by show ((i+1:Nat):Int)<=_; omega⟩
      refine Tot.sm (.by' (Ξ:=fun o:List Item=>Asc ltI o/\(∀ x∈o,Cl g l x)/\(∀ x∈cur,x∈o)/\∀ (p:Nat) (q:Prod),p<i+1->g.Prods[p]?=some q->q.Left=nx g x - 1000->(⟨p,0⟩:Item)∈o) (Tot.cp (fun h=>?_) (fun h=>.so ⟨hoa,hoc,hos,fun p q hp hpq hq=>?_⟩)) fun o ho=>.so ho)
      ·have hll:=asc_len hg hoa fun x hx=>(hoc x hx).isI
       refine .by' (c74 o ⟨(i:Nat),0⟩ hoa (by omega)) fun r hr=>.so ⟨hr.1,fun y hy=>?_,fun y hy=>(hr.2 y).2 (.inl (hos y hy)),fun p q hp hpq hq=>?_⟩
       ·rcases (hr.2 y).1 hy with hy | rfl
        ·exact hoc y hy
        ·exact .step hxm hpi (by omega) h0
       ·by_cases e1:p=i
        ·subst e1; exact (hr.2 _).2 (.inr rfl)
        ·exact (hr.2 _).2 (.inl (hop p q (by omega) hpq hq))
      ·by_cases e1:p=i
       ·subst e1
        rw [hpi] at hpq; cases hpq
        exact absurd hq h
       ·exact hop p q (by omega) hpq hq
     ·rcases hc.2 h with h1 | h1
      ·exact hop p q (by have:=(List.getElem?_eq_some_iff.1 hp).1; omega) hp
      ·omega
    ·obtain ⟨hra,hrc,hrs,hrx⟩:=hr
     have hle:cur.length<=r.length:=nd_le (ha.nd ordI) hrs
     refine Tot.cn (fun hnl=>.so ⟨hra,hrc,hrs,fun e=>absurd (by omega) hnl⟩) (fun heq=>?_)
     have hrl:r.length=cur.length:=by omega
     have hsame:r=cur:=by
      have hmem:∀ y,y∈cur↔y∈r:=by
       intro y
       refine ⟨hrs y,fun hy=>Classical.byContradiction fun hn=>?_⟩
       have:=nd_le (l:=y::cur) (m:=r) (List.nodup_cons.2 ⟨hn,ha.nd ordI⟩) fun z hz=>by
        rcases List.mem_cons.1 hz with rfl | hz
        ·exact hy
        ·exact hrs z hz
       simp at this
       omega
      exact (Asc.uniq ordI ha hra hmem).symm
     subst hsame
     refine .so ⟨⟨k+1,by omega,rfl,rfl,fun j hj hjk=>?_⟩,by show (k:Int)<((k+1:Nat):Int); omega,by show ((k+1:Nat):Int)<=_; omega⟩
     by_cases e1:j=k
     ·exact hxe (Closed g r) hrx j hj e1
     ·exact hdone j hj (by omega)
   ·obtain ⟨j,hj,rfl⟩:=List.mem_iff_getElem.1 hx
    exact hdone j hj (by omega)
  ·obtain ⟨h1,h2,h3,h4,h5⟩:=hj
   have hle:out.length<=j.1.length:=nd_le (ha.nd ordI) h4
   have hjl:=asc_len hg h2 fun x hx=>(h3 x hx).isI
   refine .so ⟨⟨h2,h3,fun x hx hi=>h4 x (hbase x hx hi),fun e=>h5 (by show j.1.length=_; have e:j.2=(j.1.length:Int):=e; omega)⟩,?_⟩
   show 2 * (1000 - j.1.length)+(if j.2=(j.1.length:Int) then 0 else 1)<2 * (1000 - out.length)+(if n=(out.length:Int) then 0 else 1)
   rw [if_neg hne]
   split
   ·omega
   ·have:j.1.length≠out.length:=fun e=>by omega
    omega
 ·have hc:=hcl he
  induction hx with
  | base h hi=>exact hbase _ h hi
  | @step x q p h hp hn h0 ih=>exact hc x ih h0 p q hp (by omega)
def Ov (g:Grammar) (l:List Item) (a:Int) (y:Item):Prop:=∃ x,Cl g l x/\nx g x=a/\0<=a/\y=⟨x.Prod,x.Dot+1⟩
theorem isI_step {g:Grammar}(hg:GOk g) {x:Item}(h:0<=nx g x):isI g ⟨x.Prod,x.Dot+1⟩:=by
 obtain ⟨_,_,q,hq,hs⟩:=nx_ok hg h
 obtain ⟨h0,h1,_⟩:=idx_bd hs
 exact ⟨q,hq,by show 0<=x.Dot+1; omega,by show x.Dot+1<=_; omega⟩
theorem isI_dot {g:Grammar}(hg:GOk g) {x:Item}(h:isI g x):0<=x.Dot/\x.Dot<=8:=by
 obtain ⟨q,hq,h0,h1⟩:=h
 have:=hg.rn q (idx_bd hq).2.2
 omega
theorem ltI_succ {a b:Item}(h:ltI a b=true):ltI ⟨a.Prod,a.Dot+1⟩ ⟨b.Prod,b.Dot+1⟩=true:=by
 rw [ltI_iff] at h ⊢
 show a.Prod<b.Prod\/a.Prod=b.Prod/\a.Dot+1<b.Dot+1
 omega
theorem c75 (g:Grammar) (hg:GOk g) (l c:List Item) (a:Int) (hc:Asc ltI c/\∀ x,x∈c↔Cl g l x):Tot (pf75 g c a) fun r=>Asc ltI r/\∀ y,y∈r↔Ov g l a y:=by
 have hcl:=asc_len hg hc.1 fun x hx=>((hc.2 x).1 hx).isI
 unfold pf75
 refine .by' (Ξ:=fun r=>Asc ltI r/\∀ y,y∈r↔Ov g l a y) ?_ fun r hr=>.so hr
 refine Tot.count (fun s=>s.2) c.length (fun s=>∃ k:Nat,k<=c.length/\s.2=(k:Int)/\s.1=((c.take k).filter fun x=>decide (0<=nx g x/\nx g x=a)).map fun x=>(⟨x.Prod,x.Dot+1⟩:Item)) ⟨0,Nat.zero_le _,rfl,rfl⟩ (by show (c.length:Int) - 0<_; omega) fun s hs=>?_
 obtain ⟨o,k'⟩:=s
 obtain ⟨k,hk,rfl,ho⟩:=hs
 simp only at ho ⊢
 rw [w64n k (by omega)]
 have hol:o.length<=540:=by
  have hfl:=List.length_filter_le (fun x=>decide (0<=nx g x/\nx g x=a)) (c.take k)
  rw [List.length_take] at hfl
  rw [ho,List.length_map]; omega
 refine Tot.cp (fun hlt=>?_) (fun hge=>.so ?_)
 ·have hlt:k<c.length:=by omega
  have hxi:=((hc.2 _).1 (List.getElem_mem hlt)).isI
  have htk:c.take (k+1)=c.take k++[c[k]]:=take_snoc' hlt
  rw [idx_nat hlt]
  generalize c[k]=x at *
  have hd:=isI_dot hg hxi
  have hw:w64 (x.Dot+1)=x.Dot+1:=by rw [w64_eq]; omega
  refine .by' (Ξ:=fun o:List Item=>o=((c.take (k+1)).filter fun x=>decide (0<=nx g x/\nx g x=a)).map fun x=>(⟨x.Prod,x.Dot+1⟩:Item)) ?_ fun o ho=>.so ⟨⟨k+1,by omega,rfl,ho⟩,by show (k:Int)<((k+1:Nat):Int); omega,by show ((k+1:Nat):Int)<=_; omega⟩
  refine Tot.sm ?_
  rw [e32 g x,hw,htk,List.filter_append,List.map_append,<- ho]
  refine Tot.sm (.by' (Ξ:=fun b:Bool=>b=decide (0<=nx g x/\nx g x=a)) (Tot.cp (fun h=>.so (by simp [h])) (fun h=>.so (by simp [h]))) fun b hb=>?_)
  subst hb
  refine .by' (Ξ:=fun o':List Item=>o'=o++([x].filter fun x=>decide (0<=nx g x/\nx g x=a)).map fun x=>(⟨x.Prod,x.Dot+1⟩:Item)) (Tot.cp (fun h=>?_) (fun h=>.so ?_)) fun o ho=>.so ho
  ·refine .by' (Ξ:=fun _=>True) (Tot.ap (by simp [lim]; omega) trivial) fun _ _=>.so ?_
   rw [List.filter_cons,if_pos (by simpa using h)]; rfl
  ·rw [List.filter_cons,if_neg (by simpa using h)]; simp
 ·have:k=c.length:=by omega
  subst this
  rw [List.take_length] at ho
  rw [ho]
  refine ⟨?_,fun y=>?_⟩
  ·unfold Asc
   rw [List.pairwise_map]
   exact (List.Pairwise.sublist List.filter_sublist hc.1).imp fun h=>ltI_succ h
  ·rw [List.mem_map]
   constructor
   ·rintro ⟨x,hx,rfl⟩
    rw [List.mem_filter,decide_eq_true_eq] at hx
    exact ⟨x,(hc.2 x).1 hx.1,hx.2.2,by omega,rfl⟩
   ·rintro ⟨x,hx,h1,h2,rfl⟩
    exact ⟨x,by rw [List.mem_filter,decide_eq_true_eq]; exact ⟨(hc.2 x).2 hx,by omega,h1⟩,rfl⟩
theorem c38 (g:Grammar) (hg:GOk g) (l:List Item) (a:Int) (hl:l.length<=1000000):Tot (pf38 g l a) fun r=>Asc ltI r/\∀ y,y∈r↔Ov g l a y:=by
 unfold pf38
 exact .by' (c36 g hg l hl) fun c hc=>.by' (c75 g hg l c a hc) fun r hr=>.so hr
theorem Ov.isI {g:Grammar}(hg:GOk g) {l:List Item}{a:Int}{y:Item}(h:Ov g l a y):isI g y:=by
 obtain ⟨x,_,h1,h2,rfl⟩:=h
 exact isI_step hg (by omega)
theorem c39 (g:Grammar) (hg:GOk g) (l:List Item) (a:Int) (hl:l.length<=1000000):Tot (pf39 g l a) fun r=>Asc ltI r/\∀ y,y∈r↔Ov g l a y:=by
 unfold pf39
 refine .by' (c37 g hg l hl) fun c hc=>.by' (Ξ:=fun r=>Asc ltI r/\∀ y,y∈r↔Ov g l a y) ?_ fun r hr=>.so hr
 have hcl:=asc_len hg hc.1 fun x hx=>((hc.2 x).1 hx).isI
 refine Tot.count (fun s=>s.2) c.length (fun s=>∃ k:Nat,k<=c.length/\s.2=(k:Int)/\Asc ltI s.1/\∀ y,y∈s.1↔∃ x∈c.take k,nx g x=a/\0<=a/\y=⟨x.Prod,x.Dot+1⟩) ⟨0,Nat.zero_le _,rfl,List.Pairwise.nil,fun y=>by simp⟩ (by show (c.length:Int) - 0<_; omega) fun s hs=>?_
 obtain ⟨o,k'⟩:=s
 obtain ⟨k,hk,rfl,hoa,hom⟩:=hs
 simp only at hoa hom ⊢
 rw [w64n k (by omega)]
 refine Tot.cp (fun hlt=>?_) (fun hge=>.so ⟨hoa,fun y=>?_⟩)
 ·have hlt:k<c.length:=by omega
  have hxi:=((hc.2 _).1 (List.getElem_mem hlt)).isI
  have htk:c.take (k+1)=c.take k++[c[k]]:=take_snoc' hlt
  rw [idx_nat hlt]
  generalize c[k]=x at *
  have hd:=isI_dot hg hxi
  have hw:w64 (x.Dot+1)=x.Dot+1:=by rw [w64_eq]; omega
  refine .by' (Ξ:=fun o:List Item=>Asc ltI o/\∀ y,y∈o↔∃ x∈c.take (k+1),nx g x=a/\0<=a/\y=⟨x.Prod,x.Dot+1⟩) ?_ fun o ho=>.so ⟨⟨k+1,by omega,rfl,ho⟩,by show (k:Int)<((k+1:Nat):Int); omega,by show ((k+1:Nat):Int)<=_; omega⟩
  have hmem:∀ y,(∃ z∈c.take (k+1),nx g z=a/\0<=a/\y=(⟨z.Prod,z.Dot+1⟩:Item))↔(y∈o\/(nx g x=a/\0<=a/\y=⟨x.Prod,x.Dot+1⟩)):=by
   intro y
   rw [hom y,htk]
   constructor
   ·rintro ⟨z,hz,h⟩
    rcases List.mem_append.1 hz with hz | hz
    ·exact .inl ⟨z,hz,h⟩
    ·rw [List.mem_singleton.1 hz] at h; exact .inr h
   ·rintro (⟨z,hz,h⟩ | h)
    ·exact ⟨z,by simp [hz],h⟩
    ·exact ⟨x,by simp,h⟩
  simp only [Option.bind_some,e33 g x,hw]
  refine (.by' (Ξ:=fun b:Bool=>b=decide (0<=nx g x/\nx g x=a)) (Tot.cp (fun h=>.so (by simp [h])) (fun h=>.so (by simp [h]))) fun b hb=>?_)
  subst hb
  refine .by' (Ξ:=fun o:List Item=>Asc ltI o/\∀ y,y∈o↔∃ x∈c.take (k+1),nx g x=a/\0<=a/\y=⟨x.Prod,x.Dot+1⟩) (Tot.cp (fun h=>?_) (fun h=>.so ⟨hoa,fun y=>?_⟩)) fun o ho=>.so ho
  ·have hol:=asc_len hg hoa fun y hy=>by
    obtain ⟨z,_,h1,h2,rfl⟩:=(hom y).1 hy
    exact isI_step hg (by omega)
   refine (.by' (c74 o _ hoa (by omega)) fun r hr=>.so ⟨hr.1,fun y=>?_⟩)
   rw [hr.2 y,hmem y]
   constructor
   ·rintro (h1 | h1)
    ·exact .inl h1
    ·exact .inr ⟨h.2,by omega,h1⟩
   ·rintro (h1 | h1)
    ·exact .inl h1
    ·exact .inr h1.2.2
  ·rw [hmem y]
   exact ⟨.inl,fun h'=>h'.elim id fun h'=>absurd ⟨by omega,h'.1⟩ h⟩
 ·have:k=c.length:=by omega
  subst this
  rw [List.take_length] at hom
  rw [hom y]
  constructor
  ·rintro ⟨x,hx,h⟩
   exact ⟨x,(hc.2 x).1 hx,h⟩
  ·rintro ⟨x,hx,h⟩
   exact ⟨x,(hc.2 x).2 hx,h⟩
open Go Go.Own
theorem M0.mj {m:Mk}{T L:Nat}(h:M0 m T L):MJ m (3+T) m.f_lefts.length 0 0 :=
 ⟨h.gv,h.lo,h.hi,by have:=h.ty; omega,rfl,by rw [h.inn]; decide,by rw [h.pr]; exact Nat.le_refl 0,by rw [h.pr]; exact fun p hp=>absurd hp (by simp),h.lvl,h.lv⟩
theorem t61 (s:Source) (hb:SrcB s):Tot (pf61 s) fun r=>r.2.1=0->GOk r.1:=by
 unfold pf61
 refine .by' (t88 s hb) fun c hc=>Tot.cd (fun _=>.so fun h=>absurd h (by decide)) (fun hc1=>?_)
 have ok:SrcOk s:=hc (by simpa using hc1)
 refine .by' (Tot.mk (by decide) (rfl:List.replicate (3:Int).toNat false=List.replicate (3:Int).toNat false)) fun x3 hx3=>?_
 have hdn:=hb.dn
 have hrn:=hb.rn
 -- declarations
 refine Tot.by' (Ξ:=fun r=>M0 r.1 (1001 * 1000) 0) ?_ fun x5 h5=>?_
 ·refine Tot.count (fun z=>z.2.2) s.Decls.length (fun z=>0<=z.2.2/\z.2.2<=s.Decls.length/\M0 z.1 (1001 * z.2.2.toNat) 0/\z.1.f_level<=z.2.2) ⟨Int.le_refl 0,by show (0:Int)<=_; omega,⟨by show x3.length=3; rw [<- hx3]; rfl,Nat.le_refl 3,Nat.le_refl 3,Nat.le_refl 0,Nat.le_refl 0,rfl,rfl,Int.le_refl 0,by show ∀ t∈[_,_,_],0<=Tok.Level t; simp⟩,Int.le_refl 0⟩ (by show (s.Decls.length:Int) - 0<_; omega) fun z hz=>?_
  obtain ⟨m,st,i⟩:=z
  obtain ⟨h0,h1,hm,hlv⟩:=hz
  simp only at h0 h1 hm hlv ⊢
  have hw:w64 (i+1)=i+1:=by rw [w64_eq]; omega
  rw [hw]
  have hl0:=hm.lvl
  refine Tot.cp (fun hlt=>?_) (fun _=>.so (hm.mono (by omega) (Nat.le_refl _)))
  refine .by' (Tot.ix (Φ:=fun y=>y∈s.Decls) h0 hlt fun y _ hy=>hy) fun d hd=>?_
  have hD:=hb.decls d hd
  have hdk:=hD.n
  refine .by' (Ξ:=fun _=>True) (Tot.cd (fun _=>.so trivial) (fun _=>.so trivial)) fun c10 _=>.by' (Ξ:=fun j=>0<=j/\j<=i+1) (Tot.cd (fun _=>.so (by rw [w64_eq]; omega)) (fun _=>.so (by omega))) fun j11 h11=>?_
  refine Tot.by' (Ξ:=fun r=>M0 r.1 (1001 * i.toNat+1000) 0/\r.1.f_level<=i+1) ?_ fun x14 h14=>.so ⟨⟨?_,?_,?_,?_⟩,?_,?_⟩
  ·refine Tot.count (fun z=>z.2.2) d.Syms.length (fun z=>0<=z.2.2/\z.2.2<=d.Syms.length/\M0 z.1 (1001 * i.toNat+z.2.2.toNat) 0/\z.1.f_level<=i+1) ⟨Int.le_refl 0,by show (0:Int)<=_; omega,⟨hm.gv,hm.lo,hm.hi,hm.ty,hm.lf,hm.pr,hm.inn,h11.1,hm.lv⟩,h11.2⟩ (by show (d.Syms.length:Int) - 0<_; omega) fun z hz=>?_
   obtain ⟨m,st,k⟩:=z
   obtain ⟨g0,g1,hm,hlv⟩:=hz
   simp only at g0 g1 hm hlv ⊢
   have hwk:w64 (k+1)=k+1:=by rw [w64_eq]; omega
   rw [hwk]
   refine Tot.cp (fun hltk=>?_) (fun _=>.so ⟨hm.mono (by omega) (Nat.le_refl _),hlv⟩)
   have ixs:Tot (idx d.Syms k) fun y=>y∈d.Syms:=Tot.ix g0 hltk fun y _ hy=>hy
   refine Tot.by' (Ξ:=fun j=>M0 j.1 (1001 * i.toNat+k.toNat+1) 0/\j.1.f_level<=i+1) ?_ fun j hj=>.so ⟨⟨?_,?_,?_,hj.2⟩,?_,?_⟩
   ·refine Tot.cd (fun _=>?_) (fun _=>?_)
    ·refine .by' ixs fun x hx=>.by' (t89 m d x hm.gv (by have:=hm.hi; omega) (by have:=hm.ty; omega) (ok.decls d hd x hx)) fun m' hg=>.so ⟨hm.grow hg,by show m'.f_level<=_; rw [hg.lvl]; exact hlv⟩
    ·refine Tot.by' (Ξ:=fun j=>M0 j (1001 * i.toNat+k.toNat+1) 0/\j.f_level<=i+1) ?_ fun j hj=>.by' ixs fun _ _=>.so hj
     refine Tot.cd (fun _=>?_) (fun _=>.so ⟨hm.mono (by omega) (Nat.le_refl _),hlv⟩)
     exact .by' ixs fun _ _=>.by' ixs fun _ _=>.by' (t90 m _ _) fun m' hm'=>.so ⟨(hm.same hm'.1).mono (by omega) (Nat.le_refl _),by rw [hm'.1.lv]; exact hlv⟩
   ·show 0<=k+1; omega
   ·show k+1<=(d.Syms.length:Int); omega
   ·show M0 j.1 (1001 * i.toNat+(k+1).toNat) 0
    exact hj.1.mono (by omega) (Nat.le_refl _)
   ·show k<k+1; omega
   ·show k+1<=(d.Syms.length:Int); omega
  ·show 0<=i+1; omega
  ·show i+1<=(s.Decls.length:Int); omega
  ·show M0 x14.1 (1001 * (i+1).toNat) 0
   exact h14.1.mono (by omega) (Nat.le_refl _)
  ·exact h14.2
  ·show i<i+1; omega
  ·show i+1<=(s.Decls.length:Int); omega
 -- what stands on the left
 refine Tot.by' (Ξ:=fun r=>M0 r (1001 * 1000) 1000) ?_ fun x28 h28=>?_
 ·refine Tot.count (fun z=>z.2) s.Rules.length (fun z=>0<=z.2/\z.2<=s.Rules.length/\M0 z.1 (1001 * 1000) z.2.toNat) ⟨Int.le_refl 0,by show (0:Int)<=_; omega,h5⟩ (by show (s.Rules.length:Int) - 0<_; omega) fun z hz=>?_
  obtain ⟨m,i⟩:=z
  obtain ⟨h0,h1,hm⟩:=hz
  simp only at h0 h1 hm ⊢
  have hw:w64 (i+1)=i+1:=by rw [w64_eq]; omega
  rw [hw]
  refine Tot.cp (fun hlt=>?_) (fun _=>.so (hm.mono (Nat.le_refl _) (by omega)))
  have hhi:=hm.hi
  have hlf:=hm.lf
  refine Tot.by' (Ξ:=fun j=>M0 j (1001 * 1000) (i.toNat+1)) ?_ fun j hj=>.so ⟨⟨?_,?_,?_⟩,?_,?_⟩
  ·refine .by' (Tot.ix (Φ:=fun _=>True) h0 hlt fun y _ hy=>trivial) fun r hr=>.by' (t91 m _ (by simp only [big]; omega)) fun t _=>?_
   refine Tot.by' (Ξ:=fun j=>M0 j (1001 * 1000) i.toNat) ?_ fun j34 h34=>?_
   ·exact Tot.cd (fun _=>.by' (t90 m _ _) fun m' hm'=>.so (hm.same hm'.1)) (fun _=>.so hm)
   ·have hl34:=h34.lf
    refine .by' (t92 j34 _ (by simp only [big]; omega)) fun k _=>?_
    refine Tot.by' (Ξ:=fun l=>l.length<=i.toNat+1) ?_ fun l hl=>.so ⟨h34.gv,h34.lo,h34.hi,h34.ty,hl,h34.pr,h34.inn,h34.lvl,h34.lv⟩
    refine Tot.cd (fun _=>?_) (fun _=>.so (by omega))
    exact .by' (Ξ:=fun _=>True) (Tot.ap (by simp [lim]; omega) trivial) fun _ _=>.so (by simp; omega)
  ·show 0<=i+1; omega
  ·show i+1<=(s.Rules.length:Int); omega
  ·show M0 j (1001 * 1000) (i+1).toNat
   exact hj.mono (Nat.le_refl _) (by omega)
  ·show i<i+1; omega
  ·show i+1<=(s.Rules.length:Int); omega
 -- types and starts
 refine Tot.by' (Ξ:=fun r=>M0 r (1001 * 1000) 1000) ?_ fun x42 h42=>?_
 ·refine Tot.count (fun z=>z.2) s.Decls.length (fun z=>0<=z.2/\z.2<=s.Decls.length/\M0 z.1 (1001 * 1000) 1000) ⟨Int.le_refl 0,by show (0:Int)<=_; omega,h28⟩ (by show (s.Decls.length:Int) - 0<_; omega) fun z hz=>?_
  obtain ⟨m,i⟩:=z
  obtain ⟨h0,h1,hm⟩:=hz
  simp only at h0 h1 hm ⊢
  have hw:w64 (i+1)=i+1:=by rw [w64_eq]; omega
  rw [hw]
  refine Tot.cp (fun hlt=>?_) (fun _=>.so hm)
  refine Tot.by' (Ξ:=fun r=>M0 r (1001 * 1000) 1000) ?_ fun x46 h46=>.so ⟨⟨?_,?_,h46⟩,?_,?_⟩
  ·have hlt':i.toNat<s.Decls.length:=by omega
   have hi:idx s.Decls i=some s.Decls[i.toNat]:=by simp [idx,h0,hlt']
   rw [hi]
   generalize hd:s.Decls[i.toNat]=d
   have hdm:d∈s.Decls:=by rw [<- hd]; exact List.getElem_mem hlt'
   have hdk:=(hb.decls d hdm).n
   refine Tot.count (fun z=>z.2) d.Syms.length (fun z=>0<=z.2/\z.2<=d.Syms.length/\M0 z.1 (1001 * 1000) 1000) ⟨Int.le_refl 0,by show (0:Int)<=_; omega,hm⟩ (by show (d.Syms.length:Int) - 0<_; omega) fun z hz=>?_
   obtain ⟨m,k⟩:=z
   obtain ⟨g0,g1,hm⟩:=hz
   simp only at g0 g1 hm ⊢
   have hwk:w64 (k+1)=k+1:=by rw [w64_eq]; omega
   rw [hwk]
   refine Tot.sm (Tot.cp (fun hltk=>?_) (fun _=>.so hm))
   have hlf:=hm.lf
   refine Tot.by' (Ξ:=fun j=>M0 j (1001 * 1000) 1000) ?_ fun j hj=>.so ⟨⟨?_,?_,hj⟩,?_,?_⟩
   ·refine Tot.sm (.by' (Tot.ix (Φ:=fun _=>True) g0 hltk fun _ _ _=>trivial) fun x _=>?_)
    refine .by' (Ξ:=fun _=>True) (Tot.sm (Tot.cd (fun _=>.by' (t92 m _ (by simp only [big]; omega)) fun _ _=>.so trivial) (fun _=>.so trivial))) fun c _=>?_
    refine Tot.by' (Ξ:=fun j=>M0 j (1001 * 1000) 1000) ?_ fun j hj=>.so hj
    exact Tot.cd (fun _=>.by' (t90 m _ _) fun m' hm'=>.so (hm.same hm'.1)) (fun _=>.so hm)
   ·show 0<=k+1; omega
   ·show k+1<=(d.Syms.length:Int); omega
   ·show k<k+1; omega
   ·show k+1<=(d.Syms.length:Int); omega
  ·show 0<=i+1; omega
  ·show i+1<=(s.Decls.length:Int); omega
  ·show i<i+1; omega
  ·show i+1<=(s.Decls.length:Int); omega
 -- the start
 have hpos:=ok.pos
 refine Tot.by' (Ξ:=fun _=>True) (Tot.cd (fun _=>.by' (Ξ:=fun _=>True) (Tot.ix (by decide) (by omega) fun _ _ _=>trivial) fun _ _=>.so trivial) (fun _=>.so trivial)) fun j60 _=>?_
 have hlf42:=h42.lf
 refine .by' (t92 x42 j60 (by simp only [big]; omega)) fun x63 h63=>?_
 have h63':-1<=x63/\x63<x42.f_lefts.length:=by rcases h63 with h | h <;> omega
 -- the alternatives
 have hL:x42.f_lefts.length<=1000:=h42.lf
 generalize hLd:x42.f_lefts.length=L at hL h63'
 refine Tot.by' (Ξ:=fun r=>MJ r (3+1001 * 1000+1001 * 1000000) L (1001 * 1000000) (1+1001 * 1000000)/\1<=r.f_g.Prods.length) ?_ fun x65 h65p1=>?_
 ·have hmj:=h42.mj
  rw [hLd] at hmj
  refine Tot.count (fun z=>z.2) s.Rules.length (fun z=>0<=z.2/\z.2<=s.Rules.length/\MJ z.1 (3+1001 * 1000+1001 * (1000 * z.2.toNat)) L (1001 * (1000 * z.2.toNat)) (1+1001 * (1000 * z.2.toNat))/\1<=z.1.f_g.Prods.length) ⟨Int.le_refl 0,by show (0:Int)<=_; omega,⟨hmj.gv,hmj.lo,hmj.hi,hmj.ty,hmj.lf,hmj.inn,Nat.le_refl 1,fun p hp=>?_,hmj.lvl,hmj.lv⟩,Nat.le_refl 1⟩ (by show (s.Rules.length:Int) - 0<_; omega) fun z hz=>?_
  ·rw [List.mem_singleton.1 hp]
   have hi0:=h42.inn
   have hlo:=h42.lo
   refine ⟨⟨Int.le_refl 0,by show (0:Int)<=L+x42.f_inner; omega⟩,fun y hy=>?_,⟨by show (-1:Int)<=-1; omega,by show (-1:Int)<_; omega⟩⟩
   have hy:y∈[w64 (1001+x63)]:=hy
   rw [List.mem_singleton.1 hy]
   have:w64 (1001+x63)=1001+x63:=by rw [w64_eq]; omega
   rw [this]
   exact .inr (by show 1000<=1001+x63/\1001+x63<=1000+((L:Int)+x42.f_inner); omega)
  ·obtain ⟨m,i⟩:=z
   obtain ⟨h0,h1,hm,hp1⟩:=hz
   simp only at h0 h1 hm hp1 ⊢
   have hw:w64 (i+1)=i+1:=by rw [w64_eq]; omega
   rw [hw]
   refine Tot.cp (fun hlt=>?_) (fun _=>.so ⟨hm.mono (by omega) (by omega) (by omega),hp1⟩)
   refine Tot.by' (Ξ:=fun r=>MJ r (3+1001 * 1000+1001 * (1000 * (i.toNat+1))) L (1001 * (1000 * (i.toNat+1))) (1+1001 * (1000 * (i.toNat+1)))/\1<=r.f_g.Prods.length) ?_ fun x69 h69=>.so ⟨⟨?_,?_,?_,h69.2⟩,?_,?_⟩
   ·have hlt':i.toNat<s.Rules.length:=by omega
    have hi:idx s.Rules i=some s.Rules[i.toNat]:=by simp [idx,h0,hlt']
    rw [hi]
    generalize hd:s.Rules[i.toNat]=d
    have hdm:d∈s.Rules:=by rw [<- hd]; exact List.getElem_mem hlt'
    have hdk:=(hb.rules d hdm).n
    refine Tot.count (fun z=>z.2) d.Alts.length (fun z=>0<=z.2/\z.2<=d.Alts.length/\MJ z.1 (3+1001 * 1000+1001 * (1000 * i.toNat+z.2.toNat)) L (1001 * (1000 * i.toNat+z.2.toNat)) (1+1001 * (1000 * i.toNat+z.2.toNat))/\1<=z.1.f_g.Prods.length) ⟨Int.le_refl 0,by show (0:Int)<=_; omega,hm,hp1⟩ (by show (d.Alts.length:Int) - 0<_; omega) fun z hz=>?_
    obtain ⟨m,k⟩:=z
    obtain ⟨g0,g1,hm,hp1⟩:=hz
    simp only at g0 g1 hm hp1 ⊢
    have hwk:w64 (k+1)=k+1:=by rw [w64_eq]; omega
    rw [hwk]
    refine Tot.sm (Tot.cp (fun hltk=>?_) (fun _=>.so ⟨hm.mono (by omega) (by omega) (by omega),hp1⟩))
    refine Tot.sm (Tot.sm (.by' (Tot.ix (Φ:=fun y=>y∈d.Alts) g0 hltk fun _ _ h=>h) fun a ha=>?_))
    refine .by' (t93 m d.Left a hm (by omega) (by omega) (by omega) (by omega) ((hb.rules d hdm).alts a ha) (ok.rules d hdm a ha)) fun m' hm'=>.so ⟨⟨?_,?_,?_,hm'.2⟩,?_,?_⟩
    ·show 0<=k+1; omega
    ·show k+1<=(d.Alts.length:Int); omega
    ·show MJ m' (3+1001 * 1000+1001 * (1000 * i.toNat+(k+1).toNat)) L (1001 * (1000 * i.toNat+(k+1).toNat)) (1+1001 * (1000 * i.toNat+(k+1).toNat))
     exact hm'.1.mono (by omega) (by omega) (by omega)
    ·show k<k+1; omega
    ·show k+1<=(d.Alts.length:Int); omega
   ·show 0<=i+1; omega
   ·show i+1<=(s.Rules.length:Int); omega
   ·show MJ x69 (3+1001 * 1000+1001 * (1000 * (i+1).toNat)) L (1001 * (1000 * (i+1).toNat)) (1+1001 * (1000 * (i+1).toNat))
    exact h69.1.mono (by omega) (by omega) (by omega)
   ·show i<i+1; omega
   ·show i+1<=(s.Rules.length:Int); omega
 obtain ⟨h65,h65q⟩:=h65p1
 refine Tot.cn (fun h=>.so fun h'=>absurd h' h) (fun he=>?_)
 have h65l:=h65.lf
 have h65h:=h65.hi
 have h65t:=h65.ty
 have h65i:=h65.inn
 have h65p:=h65.prn
 -- nonterminals
 refine Tot.by' (Ξ:=fun l=>l.length=1+L) ?_ fun x79 h79=>?_
 ·refine Tot.count (fun z=>z.2) x65.f_lefts.length (fun z=>0<=z.2/\z.2<=x65.f_lefts.length/\z.1.length=1+z.2.toNat) ⟨Int.le_refl 0,by show (0:Int)<=_; omega,rfl⟩ (by show (x65.f_lefts.length:Int) - 0<_; omega) fun z hz=>?_
  obtain ⟨l,i⟩:=z
  obtain ⟨h0,h1,hl⟩:=hz
  simp only at h0 h1 hl ⊢
  have hw:w64 (i+1)=i+1:=by rw [w64_eq]; omega
  rw [hw]
  refine Tot.cp (fun hlt=>?_) (fun _=>.so (by show l.length=1+L; omega))
  refine .by' (Tot.ix (Φ:=fun _=>True) h0 hlt fun _ _ _=>trivial) fun x82 _=>.by' (t94 _ _ (by show x65.f_types.length<=_; simp only [big]; omega)) fun x83 h83=>?_
  have h83':x83=-1\/(0<=x83/\x83<x65.f_types.length):=h83
  refine .by' (Ξ:=fun _=>True) (Tot.cp (fun h=>.by' (Ξ:=fun _=>True) (Tot.ix h (by omega) fun _ _ _=>trivial) fun _ _=>.so trivial) (fun _=>.so trivial)) fun j84 _=>?_
  refine .by' (Ξ:=fun _=>True) (Tot.ap (by simp [lim]; omega) trivial) fun _ _=>.so ⟨⟨?_,?_,?_⟩,?_,?_⟩
  ·show 0<=i+1; omega
  ·show i+1<=(x65.f_lefts.length:Int); omega
  ·show (l++[_]).length=1+(i+1).toNat
   simp; omega
  ·show i<i+1; omega
  ·show i+1<=(x65.f_lefts.length:Int); omega
 refine Tot.by' (Ξ:=fun l=>(l.length:Int)=1+L+x65.f_inner) ?_ fun x89 h89=>?_
 ·refine Tot.count (fun z=>z.2) (x65.f_inner+1) (fun z=>1<=z.2/\z.2<=x65.f_inner+1/\(z.1.length:Int)=1+L+(z.2 - 1)) ⟨Int.le_refl 1,by show (1:Int)<=_; omega,by show (x79.length:Int)=1+L+(1 - 1); omega⟩ (by show x65.f_inner+1 - 1<_; omega) fun z hz=>?_
  obtain ⟨l,i⟩:=z
  obtain ⟨h0,h1,hl⟩:=hz
  simp only at h0 h1 hl ⊢
  have hw:w64 (i+1)=i+1:=by rw [w64_eq]; omega
  rw [hw]
  refine Tot.cp (fun hlt=>?_) (fun _=>.so (by show (l.length:Int)=1+L+x65.f_inner; omega))
  refine .by' (t28 i (by omega) (by omega)) fun x92 h92=>.by' (Ξ:=fun _=>True) (Tot.cat (by show 1+x92.size<=_; omega) trivial) fun x93 _=>?_
  refine .by' (Ξ:=fun _=>True) (Tot.ap (by simp [lim]; omega) trivial) fun _ _=>.so ⟨⟨?_,?_,?_⟩,?_,?_⟩
  ·show 1<=i+1; omega
  ·show i+1<=x65.f_inner+1; omega
  ·show ((l++[_]).length:Int)=1+L+(i+1 - 1)
   simp; omega
  ·show i<i+1; omega
  ·show i+1<=x65.f_inner+1; omega
 -- numbers
 have hgv:=h65.gv
 refine Tot.by' (Ξ:=fun l=>l.length=x65.f_g.Toks.length/\∀ t∈l,0<=t.Level) ?_ fun x96 h96p=>?_
 ·refine Tot.count (fun z=>z.2.2) x65.f_g.Toks.length (fun z=>3<=z.2.2/\z.2.2<=x65.f_g.Toks.length/\z.1.length=x65.f_g.Toks.length/\∀ t∈z.1,0<=t.Level) ⟨Int.le_refl 3,by have:=h65.lo; show (3:Int)<=_; omega,rfl,h65.lv⟩ (by show (x65.f_g.Toks.length:Int) - 3<_; omega) fun z hz=>?_
  obtain ⟨l,n,i⟩:=z
  obtain ⟨h0,h1,hl,hv⟩:=hz
  simp only at h0 h1 hl hv ⊢
  have hw:w64 (i+1)=i+1:=by rw [w64_eq]; omega
  rw [hw]
  refine Tot.cp (fun hlt=>?_) (fun _=>.so ⟨hl,hv⟩)
  refine Tot.by' (Ξ:=fun j=>j.1.length=x65.f_g.Toks.length/\∀ t∈j.1,0<=t.Level) ?_ fun j hj=>.so ⟨⟨?_,?_,hj⟩,?_,?_⟩
  ·refine .by' (Tot.ix (Φ:=fun _=>True) (by omega) (by rw [hgv]; omega) fun _ _ _=>trivial) fun _ _=>?_
   refine Tot.by' (Ξ:=fun j=>j.1.length=x65.f_g.Toks.length/\∀ t∈j.1,0<=t.Level) ?_ fun j hj=>.so hj
   refine Tot.cd (fun _=>?_) (fun _=>.so ⟨hl,hv⟩)
   refine .by' (Tot.ix (Φ:=fun y=>y∈l) (by omega) hlt fun _ _ h=>h) fun y hy=>.so ⟨by show (l.set _ _).length=_; simp [hl],fun t ht=>?_⟩
   rcases mem_set2 ht with ht | rfl
   ·exact hv t ht
   ·exact (hv y hy:0<=y.Level)
  ·show 3<=i+1; omega
  ·show i+1<=(x65.f_g.Toks.length:Int); omega
  ·show i<i+1; omega
  ·show i+1<=(x65.f_g.Toks.length:Int); omega
 -- limits
 obtain ⟨h96,h96v⟩:=h96p
 refine Tot.by' (Ξ:=fun c=>c=false->x96.length<=40/\x89.length<=24/\x65.f_g.Prods.length<=60) ?_ fun c106 h106=>?_
 ·refine Tot.cp (fun _=>.so fun h=>by cases h) (fun h1=>Tot.cp (fun _=>.so fun h=>by cases h) (fun h2=>.so fun h=>?_))
  have h3:=of_decide_eq_false h
  omega
 refine Tot.by' (Ξ:=fun c=>c=false->c106=false/\∀ p∈x65.f_g.Prods,p.Right.length<=8) ?_ fun x108 h108=>?_
 ·refine Tot.count (fun z=>z.2) x65.f_g.Prods.length (fun z=>0<=z.2/\z.2<=x65.f_g.Prods.length/\(z.1=false->c106=false/\∀ (j:Nat) (p:Prod),(j:Int)<z.2->x65.f_g.Prods[j]?=some p->p.Right.length<=8)) ⟨Int.le_refl 0,by show (0:Int)<=_; omega,fun h=>⟨h,fun j p hj=>by have hj:(j:Int)<0:=hj; omega⟩⟩ (by show (x65.f_g.Prods.length:Int) - 0<_; omega) fun z hz=>?_
  obtain ⟨c,i⟩:=z
  obtain ⟨h0,h1,hl⟩:=hz
  simp only at h0 h1 hl ⊢
  have hw:w64 (i+1)=i+1:=by rw [w64_eq]; omega
  rw [hw]
  refine Tot.cp (fun hlt=>?_) (fun hge=>.so fun h=>⟨(hl h).1,fun p hp=>?_⟩)
  ·refine Tot.by' (Ξ:=fun c'=>c'=false->c=false/\∀ p,x65.f_g.Prods[i.toNat]?=some p->p.Right.length<=8) ?_ fun c' hc'=>.so ⟨⟨?_,?_,fun h=>?_⟩,?_,?_⟩
   ·refine Tot.cd (fun _=>.so fun h=>by cases h) (fun hcf=>.by' (Tot.ix (Φ:=fun y=>idx x65.f_g.Prods i=some y) h0 hlt fun _ h _=>h) fun y hy=>.so fun h=>⟨hcf,fun p hp=>?_⟩)
    have h2:=(idx_spec hy).2.2
    rw [hp] at h2; cases h2
    have:=of_decide_eq_false h
    omega
   ·show 0<=i+1; omega
   ·show i+1<=(x65.f_g.Prods.length:Int); omega
   ·obtain ⟨a1,a2⟩:=hc' h
    obtain ⟨b1,b2⟩:=hl a1
    refine ⟨b1,fun j p hj hp=>?_⟩
    have hj:(j:Int)<i+1:=hj
    by_cases hji:(j:Int)<i
    ·exact b2 j p hji hp
    ·have:j=i.toNat:=by omega
     subst this
     exact a2 p hp
   ·show i<i+1; omega
   ·show i+1<=(x65.f_g.Prods.length:Int); omega
  ·obtain ⟨j,hj,rfl⟩:=List.mem_iff_getElem.1 hp
   exact (hl h).2 j _ (by omega) (List.getElem?_eq_getElem hj)
 refine Tot.cd (fun _=>.so fun h=>absurd h (by decide)) (fun hc=>.so fun _=>?_)
 obtain ⟨a1,a2⟩:=h108 hc
 obtain ⟨b1,b2,b3⟩:=h106 a1
 have hlo:=h65.lo
 refine ⟨⟨?_,b1⟩,⟨?_,b2⟩,⟨h65q,b3⟩,fun p hp=>?_,a2,h96v⟩
 ·show 3<=x96.length; omega
 ·show 1<=x89.length; omega
 ·have:=h65.pr p hp
  exact this.mono (by show _<=x96.length; omega) (by show (L:Int)+x65.f_inner<=((x89.length:Nat):Int) - 1; omega)
def tn:Nat->ByteArray
 | 0=>⟨#[116,48]⟩ | 1=>⟨#[116,49]⟩ | 2=>⟨#[116,50]⟩ | 3=>⟨#[116,51]⟩ | 4=>⟨#[116,52]⟩ | 5=>⟨#[116,53]⟩ | 6=>⟨#[116,54]⟩ | 7=>⟨#[116,55]⟩ | _=>⟨#[116,56]⟩
abbrev nE:ByteArray:={ data:=#[] }
abbrev cE:ByteArray:={ data:=#[101] }
def sy (i:Nat):Sym:=⟨tn i,false,0,0⟩
def syE:Sym:=⟨cE,false,0,0⟩
def dc (i:Nat) (w:Int):Decl:=⟨w64 (2+w),nE,[sy i],0⟩
def ds:Nat->List Int->List Decl
 | _,[]=>[]
 | i,w::ws=>dc i w::ds (i+1) ws
def al (i:Nat):Alt:=⟨[⟨syE,nE,0⟩,⟨sy i,nE,0⟩,⟨syE,nE,0⟩],⟨nE,false,0,0⟩,0⟩
def als:Nat->List Alt
 | 0=>[]
 | n+1=>als n++[al n]
def xal:Alt:=⟨[⟨⟨⟨#[120]⟩,true,0,0⟩,nE,0⟩],⟨nE,false,0,0⟩,0⟩
def lal (o s:Nat):Alt:=⟨[⟨sy o,nE,0⟩,⟨syE,nE,0⟩],sy s,0⟩
def src (ws:List Int) (o s:Nat):Source:=⟨nE,ds 0 ws,[⟨cE,(als ws.length++[xal])++[lal o s],0⟩],nE⟩
def T3:List Tok:=[⟨{ data:=#[36,101,110,100] },false,0,0,0,nE⟩,⟨{ data:=#[101,114,114,111,114] },false,(-1),0,0,nE⟩,⟨{ data:=#[36,117,110,107] },false,(-1),0,0,nE⟩]
def pr (i:Nat):Prod:=⟨1,[1001,i+3,1001],i+3,nE,[1001,i+3,1001],0⟩
def pl (o s:Nat):Prod:=⟨1,[o+3,1001],s+3,nE,[o+3,1001],0⟩
def In3 (w:Int):Prop:=w=0\/w=1\/w=2
structure Lv (ws:List Int) (o s:Nat):Prop where
 n:ws.length<=9
 k:∀ w∈ws,In3 w
 o:o<ws.length
 s:s<ws.length
abbrev nErr:ByteArray:={ data:=#[101,114,114,111,114] }
abbrev cod1:ByteArray:={ data:=#[123,36,36,32,61,32,36,49,125] }
abbrev cod2:ByteArray:={ data:=#[123,102,40,36,36,41,125] }
def Ltr:List ByteArray:=[⟨#[112]⟩,⟨#[113]⟩,⟨#[114]⟩,⟨#[115]⟩]
def NT4:List ByteArray:=[⟨#[97]⟩,⟨#[98]⟩,⟨#[99]⟩,⟨#[100]⟩]
def LT:List Sym:=[⟨⟨#[112]⟩,true,0,0⟩,⟨⟨#[113]⟩,true,0,0⟩,⟨⟨#[114]⟩,true,0,0⟩,⟨⟨#[115]⟩,true,0,0⟩]
def NT:List Sym:=[⟨⟨#[97]⟩,false,0,0⟩,⟨⟨#[98]⟩,false,0,0⟩,⟨⟨#[99]⟩,false,0,0⟩,⟨⟨#[100]⟩,false,0,0⟩,⟨nErr,false,0,0⟩]
abbrev syN:Sym:=⟨nE,false,0,0⟩
def PartN (L:List ByteArray) (p:Part):Prop :=
 (∃ x,x∈LT/\p=⟨x,nE,0⟩)\/(∃ x,x∈NT/\p=⟨x,nE,0⟩/\x.Name∈nErr::L)\/p=⟨syN,cod1,0⟩\/p=⟨syN,cod2,0⟩
structure AltN (L:List ByteArray) (a:Alt):Prop where
 n:a.Parts.length<=6
 parts:∀ p∈a.Parts,PartN L p
 prec:a.Prec=syN
structure RuleN (L:List ByteArray) (r:Rule):Prop where
 left:r.Left∈L
 n:1<=r.Alts.length/\r.Alts.length<=13
 alts:∀ a∈r.Alts,AltN L a
structure DeclN (d:Decl):Prop where
 kind:2<=d.Kind/\d.Kind<=4
 tag:d.Tag=nE
 n:1<=d.Syms.length/\d.Syms.length<=4
 syms:∀ x∈d.Syms,x∈LT
def codes (l:List Part):Nat:=(l.filter fun p=>!decide (p.Code=nE)).length
def cA (l:List Alt):Nat:=(l.map fun a=>codes a.Parts).sum
def nA (l:List Rule):Nat:=(l.map fun r=>r.Alts.length).sum
def nC (l:List Rule):Nat:=(l.map fun r=>cA r.Alts).sum
def names (l:List Decl):List ByteArray:=(l.flatMap (·.Syms)).map (·.Name)
structure SrcN (s:Source):Prop where
 pro:s.Pro=nE
 decls:∀ d∈s.Decls,DeclN d
 dn:s.Decls.length<=4
 nd:(names s.Decls).Nodup
 rules:∀ r∈s.Rules,RuleN (s.Rules.map (·.Left)) r
 lefts:∀ r∈s.Rules,r.Left∈NT4
 rn:1<=s.Rules.length/\s.Rules.length<=4
 na:nA s.Rules<=13
 nc:nC s.Rules<=18
theorem n133:pf133 syN=some true:=by kernel_rfl
theorem nd_len {α:Type} [DecidableEq α]:∀ (l m:List α),l.Nodup->(∀ x∈l,x∈m)->l.length<=m.length
 | [],_,_,_=>Nat.zero_le _
 | x::l,m,hd,hm=>by
  have hx:=hm x (by simp)
  have hd':=List.nodup_cons.1 hd
  have:=nd_len l (m.erase x) hd'.2 fun y hy=>by
   have hne:y≠x:=fun e=>hd'.1 (e ▸ hy)
   exact (List.mem_erase_of_ne hne).2 (hm y (by simp [hy]))
  have hl:=List.length_erase_of_mem hx
  have hp:=List.length_pos_of_mem hx
  simp only [List.length_cons]
  omega
structure K0 (m:Mk) (ns:List ByteArray):Prop where
 e:m.f_e=0
 tk:∃ l:List Tok,m.f_g.Toks=T3++l/\l.map (·.Name)=ns/\∀ t∈l,t.Lit=true/\t.Name∈Ltr/\t.Num=byteAt t.Name 0/\t.Tag=nE
 gv:m.f_given.length=m.f_g.Toks.length
 nd:ns.Nodup
theorem K0.mem {m:Mk}{ns:List ByteArray}(h:K0 m ns):∀ n∈ns,n∈Ltr:=by
 obtain ⟨l,_,rfl,hl⟩:=h.tk
 intro n hn
 obtain ⟨t,ht,rfl⟩:=List.mem_map.1 hn
 exact (hl t ht).2.1
theorem K0.len {m:Mk}{ns:List ByteArray}(h:K0 m ns):m.f_g.Toks.length=3+ns.length/\ns.length<=4:=by
 have h4:=nd_len ns Ltr h.nd h.mem
 obtain ⟨l,e,rfl,hl⟩:=h.tk
 refine ⟨by rw [e]; simp [T3]; omega,h4⟩
structure Rs (m m':Mk):Prop where
 lf:m'.f_lefts=m.f_lefts
 pr:m'.f_g.Prods=m.f_g.Prods
 inn:m'.f_inner=m.f_inner
 ty:m'.f_types=m.f_types
 lvl:m'.f_level=m.f_level
theorem Rs.rf (m:Mk):Rs m m:=⟨rfl,rfl,rfl,rfl,rfl⟩
structure KA (m:Mk) (lf:List ByteArray) (Q I:Nat):Prop where
 k:∃ ns,K0 m ns
 lf:m.f_lefts=lf
 q:m.f_g.Prods.length<=Q
 i:0<=m.f_inner/\m.f_inner<=I
 r:∀ p∈m.f_g.Prods,p.Right.length<=8
 ty:m.f_types.length<=100
theorem KA.mono {m:Mk}{lf:List ByteArray}{Q I Q' I':Nat}(h:KA m lf Q I) (hQ:Q<=Q') (hI:I<=I'):KA m lf Q' I' :=
 ⟨h.k,h.lf,Nat.le_trans h.q hQ,⟨h.i.1,by have:=h.i.2; omega⟩,h.r,h.ty⟩
theorem K0.lvl {m:Mk}{ns:List ByteArray}(h:K0 m ns) (l:Int):K0 (⟨m.f_g,m.f_given,m.f_types,m.f_lefts,m.f_e,m.f_at,m.f_name,l,m.f_inner⟩:yuccaref9_maker) ns:=⟨h.e,h.tk,h.gv,h.nd⟩
structure KD (m:Mk) (ns:List ByteArray):Prop where
 k:K0 m ns
 lf:m.f_lefts=[]
 pr:m.f_g.Prods=[]
 inn:m.f_inner=0
 ty:m.f_types=[]
structure DeclM (n:Nat) (d:Decl):Prop where
 kind:2<=d.Kind/\d.Kind<=4
 tag:d.Tag=nE
 n:1<=d.Syms.length/\d.Syms.length<=n
 syms:∀ x∈d.Syms,x∈LT
theorem DeclM.mono {n m:Nat}{d:Decl}(h:DeclM n d) (hm:n<=m):DeclM m d:=⟨h.kind,h.tag,⟨h.n.1,Nat.le_trans h.n.2 hm⟩,h.syms⟩
theorem sum_set (f:Rule->Nat):∀ (l:List Rule) (k:Nat) (r r':Rule),l[k]?=some r->((l.set k r').map f).sum+f r=(l.map f).sum+f r'
 | x::l,0,r,r',h=>by
  simp only [List.getElem?_cons_zero,Option.some.injEq] at h
  subst h
  simp only [List.set_cons_zero,List.map_cons,List.sum_cons]
  omega
 | x::l,k+1,r,r',h=>by
  simp only [List.getElem?_cons_succ] at h
  have:=sum_set f l k r r' h
  simp only [List.set_cons_succ,List.map_cons,List.sum_cons]
  omega
theorem left_set:∀ (l:List Rule) (k:Nat) (r r':Rule),l[k]?=some r->r'.Left=r.Left->(l.set k r').map (·.Left)=l.map (·.Left)
 | x::l,0,r,r',h,e=>by
  simp only [List.getElem?_cons_zero,Option.some.injEq] at h
  subst h
  simp only [List.set_cons_zero,List.map_cons,e]
 | x::l,k+1,r,r',h,e=>by
  simp only [List.getElem?_cons_succ] at h
  simp only [List.set_cons_succ,List.map_cons,left_set l k r r' h e]
structure RM (l:List Rule) (n:Nat) (A C:Nat):Prop where
 lf:l.map (·.Left)=NT4.take n
 alts:∀ r∈l,∀ a∈r.Alts,AltN (NT4.take n) a
 a:nA l<=A
 c:nC l<=C
theorem RM.mono {l:List Rule}{n A C A' C':Nat}(h:RM l n A C) (hA:A<=A') (hC:C<=C'):RM l n A' C':=⟨h.lf,h.alts,Nat.le_trans h.a hA,Nat.le_trans h.c hC⟩
theorem RM.add {l:List Rule}{n A C k:Nat}{r:Rule}{a:Alt}{c:Nat}(h:RM l n A C) (hr:l[k]?=some r) (ha:AltN (NT4.take n) a) (hc:codes a.Parts<=c) :
  RM (l.set k ⟨r.Left,r.Alts++[a],r.At⟩) n (A+1) (C+c):=by
 have hm:=List.mem_of_getElem? hr
 refine ⟨?_,fun r' hr' b hb=>?_,?_,?_⟩
 ·rw [left_set l k r ⟨r.Left,r.Alts++[a],r.At⟩ hr rfl]; exact h.lf
 ·rcases mem_set2 hr' with h' | rfl
  ·exact h.alts r' h' b hb
  ·rcases List.mem_append.1 hb with hb | hb
   ·exact h.alts r hm b hb
   ·rw [List.mem_singleton.1 hb]; exact ha
 ·have:=sum_set (fun r=>r.Alts.length) l k r ⟨r.Left,r.Alts++[a],r.At⟩ hr
  have ha:=h.a
  unfold nA at ha ⊢
  simp only [List.length_append,List.length_singleton] at this
  omega
 ·have:=sum_set (fun r=>cA r.Alts) l k r ⟨r.Left,r.Alts++[a],r.At⟩ hr
  have hcc:=h.c
  unfold nC at hcc ⊢
  have e:cA (r.Alts++[a])=cA r.Alts+codes a.Parts:=by
   unfold cA
   rw [List.map_append,List.sum_append]; rfl
  simp only [e] at this
  omega
theorem t20 (s:Source) (hb:SrcB s):Tot (pf20 s) fun r=>r.2=true->GOk r.1:=by
 unfold pf20
 exact .by' (t61 s hb) fun r hr=>.so fun h=>hr (of_decide_eq_true h)
theorem eq_item (x y:Item):(decide (x.Prod=y.Prod)&&(decide (x.Dot=y.Dot)&&true))=decide (x=y):=by
 obtain ⟨x1,x2⟩:=x
 obtain ⟨y1,y2⟩:=y
 simp
theorem c35 (a b:List Item) (h:a.length<=1000000):Tot (pf35 a b) fun c=>(c=true↔a=b):=by
 unfold pf35
 refine Tot.cn (fun hne=>.so ⟨fun h=>(by cases h),fun e=>absurd (by rw [e]) hne⟩) (fun he=>?_)
 have hl:a.length=b.length:=by omega
 refine Tot.by' (Ξ:=LR (fun _=>a=b) (fun x:Bool=>x=false/\a≠b)) ?_ fun x hx=>?_
 ·refine Tot.count (fun s=>s) a.length (fun s=>∃ k:Nat,k<=a.length/\s=(k:Int)/\∀ (j:Nat) (h:j<a.length),j<k->a[j]=b[j]) ⟨0,Nat.zero_le _,rfl,fun j _ hj=>absurd hj (Nat.not_lt_zero _)⟩ (by show (a.length:Int) - 0<_; omega) fun s hs=>?_
  obtain ⟨k,hk,rfl,hE⟩:=hs
  rw [w64n k (by omega)]
  refine Tot.cp (fun hlt=>?_) (fun hge=>.so ?_)
  ·have hlt:k<a.length:=by omega
   have hltb:k<b.length:=by omega
   rw [idx_nat hlt,idx_nat hltb]
   simp only [Option.bind_some,eq_item]
   refine Tot.cn (fun hne=>.so ⟨rfl,fun e=>hne (by subst e; rfl)⟩) (fun heq=>.so ⟨⟨k+1,by omega,rfl,fun j hj hjk=>?_⟩,by show (k:Int)<((k+1:Nat):Int); omega,by show ((k+1:Nat):Int)<=_; omega⟩)
   by_cases e:j=k
   ·subst e; exact heq
   ·exact hE j hj (by omega)
  ·exact List.ext_getElem hl fun i h1 h2=>hE i h1 (by omega)
 ·rcases x with _ | x
  ·exact .so ⟨fun _=>hx,fun _=>rfl⟩
  ·obtain ⟨rfl,hne⟩:x=false/\a≠b:=hx
   exact .so ⟨fun h=>(by cases h),fun h=>absurd h hne⟩
theorem c31 (l:List Item):Tot (pf31 l 6) fun r=>r.length<=6:=by
 unfold pf31
 refine Tot.cp (fun h=>.by' (Ξ:=fun r:List Item=>r.length<=6) (Tot.sub ⟨by decide,by decide,by omega⟩ ?_) fun r hr=>.so hr) (fun h=>.so (by omega))
 rw [List.length_take]; exact Nat.min_le_left _ _
theorem two_idx {α:Type}(a b:α) {i:Int}(h0:0<=i) (h:i<(([a,b]:List α).length:Int)):∃ y,idx [a,b] i=some y/\(y=a\/y=b):=by
 obtain ⟨y,hy,hm⟩:=idx_some' h0 h
 exact ⟨y,hy,by simpa using hm⟩
end Go.Proofs
namespace Go.Own
open Go
variable {α β S R:Type}
def Par (x:Option α) (Φ:α->Prop):Prop:=∀ a,x=some a->Φ a
set_option linter.unusedVariables false
namespace Par
variable {Φ Ψ:α->Prop}
theorem so {a:α}(h:Φ a):Par (some a) Φ:=fun b e=>by cases e; exact h
theorem no:Par (none:Option α) Φ:=fun b e=>by cases e
theorem use {x:Option α}(h:Par x Ψ) (hi:∀ a,Ψ a->Φ a):Par x Φ:=fun a e=>hi a (h a e)
theorem by' {x:Option β}{f:β->Option α}{Ξ:β->Prop}(h:Par x Ξ) (hk:∀ a,Ξ a->Par (f a) Φ):Par (x.bind f) Φ:=fun a e=>by
 cases x with
 | none=>cases e
 | some b=>exact hk b (h b rfl) a e
theorem go {x:Option β}{f:β->Option α}(hk:∀ a,x=some a->Par (f a) Φ):Par (x.bind f) Φ:=fun a e=>by
 cases x with
 | none=>cases e
 | some b=>exact hk b rfl a e
theorem cd {c:Bool}{a b:Option α}(ht:c=true->Par a Φ) (hf:c=false->Par b Φ):Par (cond c a b) Φ:=by
 cases c
 ·exact hf rfl
 ·exact ht rfl
theorem cp {p:Prop} [Decidable p] {a b:Option α}(ht:p->Par a Φ) (hf:¬ p->Par b Φ):Par (cond (decide p) a b) Φ :=
 cd (fun h=>ht (of_decide_eq_true h)) (fun h=>hf (of_decide_eq_false h))
theorem cn {p:Prop} [Decidable p] {a b:Option α}(ht:¬ p->Par a Φ) (hf:p->Par b Φ):Par (cond (!decide p) a b) Φ :=
 cd (fun h=>ht (of_decide_eq_false (by simpa using h))) (fun h=>hf (of_decide_eq_true (by simpa using h)))
theorem ap {l m:List β}{f:List β->Option α}(hk:l.length+m.length<=lim->Par (f (l++m)) Φ):Par ((appO l m).bind f) Φ:=by
 unfold appO
 split
 ·rename_i h; exact hk h
 ·exact no
theorem cat {s u:ByteArray}{f:ByteArray->Option α}(hk:Par (f (s++u)) Φ):Par ((catO s u).bind f) Φ:=by
 unfold catO
 split
 ·exact hk
 ·exact no
theorem loop {f:S->Option (S ⊕ R)}{s0:S}{Ψ:R->Prop}(Inv:S->Prop) (h0:Inv s0) (hs:∀ s,Inv s->Par (f s) (LR Inv Ψ)):Par (loopM f s0) Ψ:=by
 have key:∀ n s,Inv s->Par (iter f n s) Ψ:=by
  intro n
  induction n with
  | zero=>intro s _ a e; cases e
  | succ n ih =>
   intro s hI a e
   simp only [iter] at e
   cases hx:f s with
   | none=>rw [hx] at e; cases e
   | some x =>
    have hP:=hs s hI x hx
    rw [hx] at e
    cases x with
    | inl s'=>exact ih s' hP a e
    | inr r=>cases e; exact hP
 exact key fuel s0 h0
theorem tot {x:Option α}(h:Tot x Φ) (h':Par x Ψ):Tot x fun a=>Φ a/\Ψ a:=by
 obtain ⟨a,ha,hΦ⟩:=h
 exact ⟨a,ha,hΦ,h' a ha⟩
theorem of {x:Option α}(h:Tot x Φ):Par x Φ:=fun a e=>h.eq e
theorem scan {f:Int->Option (Int ⊕ (Unit ⊕ R))}(l:List β) (hl:l.length<=100000000000000000) (P:β->Prop) (Q:R->Prop)
  (hs:∀ (s:Int) (y:β),0<=s->s<l.length->idx l s=some y->y∈l->Par (f s) (LR (fun s'=>s'=s+1/\P y) (LR (fun _=>False) Q)))
  (he:∀ s:Int,¬ s<l.length->f s=some (.inr (.inl ()))):Par (loopM f 0) (LR (fun _=>∀ y∈l,P y) Q):=by
 refine loop (fun s=>0<=s/\s<=l.length/\∀ (j:Nat) (y:β),(j:Int)<s->l[j]?=some y->P y) ⟨by omega,by omega,fun j y h=>by omega⟩ fun s hI=>?_
 obtain ⟨h0,h1,h2⟩:=hI
 by_cases hlt:s<l.length
 ·have hlt':s.toNat<l.length:=by omega
  have hi:idx l s=some l[s.toNat]:=by simp [idx,h0,hlt']
  refine (hs s _ h0 hlt hi (List.getElem_mem hlt')).use fun x hx=>?_
  rcases x with s' | ⟨⟨⟩⟩ | r
  ·obtain ⟨rfl,hP⟩:=hx
   refine ⟨by omega,by omega,fun j y hj hy=>?_⟩
   by_cases hjs:(j:Int)<s
   ·exact h2 j y hjs hy
   ·have:j=s.toNat:=by omega
    subst this
    rw [List.getElem?_eq_getElem hlt'] at hy
    cases hy; exact hP
  ·exact hx.elim
  ·exact hx
 ·rw [he s hlt]
  refine so fun y hy=>?_
  obtain ⟨j,hj,rfl⟩:=List.mem_iff_getElem.1 hy
  exact h2 j _ (by omega) (List.getElem?_eq_getElem hj)
end Par
end Go.Own
namespace Go.Proofs
open Go Go.Own
set_option maxRecDepth 100000
set_option linter.unusedVariables false
structure SymN (x:Sym):Prop where
 lit:x.Lit=true->x.Name.size=1/\0<byteAt x.Name 0/\byteAt x.Name 0<=255/\x.Num=0
 num:0<=x.Num/\x.Num<=50000
structure SrcM (s:Source):Prop where
 decls:∀ d∈s.Decls,∀ x∈d.Syms,SymN x
 rules:∀ r∈s.Rules,∀ a∈r.Alts,(∀ p∈a.Parts,SymN p.Sym)/\SymN a.Prec
structure TI0 (T:List Tok) (G:List Bool):Prop where
 gl:G.length=T.length
 lo:3<=T.length
 hi:T.length<=lim
 nm:∀ t∈T,t.Name.size<=big/\(t.Lit=true->t.Name.size=1)
 le:∀ t∈T,t.Num<=50000
structure TI1 (T:List Tok) (G:List Bool):Prop where
 hd:∀ (i:Nat) (t:Tok),i<3->T[i]?=some t->t.Num<=0
 un:∀ (i j:Nat) (s t:Tok),T[i]?=some s->T[j]?=some t->0<s.Num->s.Num=t.Num->i=j
 gv:∀ (i:Nat) (t:Tok),3<=i->T[i]?=some t->(G[i]?=some true->0<t.Num)/\(G[i]?=some false->t.Num=0)
structure TI (m:Mk):Prop where
 a:TI0 m.f_g.Toks m.f_given
 b:m.f_e=0->TI1 m.f_g.Toks m.f_given
 lf:∀ y∈m.f_lefts,y.size<=big
theorem TI0.set {T:List Tok}{G:List Bool}(h:TI0 T G) {k:Nat}{t t':Tok}(hk:T[k]?=some t) (hn:t'.Name=t.Name) (hl:t'.Lit=t.Lit) (hu:t'.Num<=50000) {G':List Bool}(hG:G'.length=G.length):TI0 (T.set k t') G':=by
 have hm:=List.mem_of_getElem? hk
 have key:∀ {P:Tok->Prop},(∀ s∈T,P s)->P t'->∀ s∈T.set k t',P s:=fun h1 h2 s hs=>by
  rcases List.mem_or_eq_of_mem_set hs with h | h
  ·exact h1 s h
  ·rw [h]; exact h2
 exact ⟨by rw [hG,List.length_set]; exact h.gl,by rw [List.length_set]; exact h.lo,by rw [List.length_set]; exact h.hi,key h.nm (by rw [hn,hl]; exact h.nm t hm),key h.le hu⟩
theorem set_get {α:Type}{l:List α}{k:Nat}{x:α}(hk:k<l.length) (i:Nat):(l.set k x)[i]?=if i=k then some x else l[i]?:=by
 rw [List.getElem?_set]
 by_cases e:k=i
 ·subst e; simp [hk]
 ·simp [e,Ne.symm e]
theorem TI.fail {m m':Mk}(h:TI m) (hs:Same m m'/\m'.f_e≠0):TI m':=⟨by rw [hs.1.g,hs.1.gv]; exact h.a,fun e=>absurd e hs.2,by rw [hs.1.lf]; exact h.lf⟩
theorem snoc_get {α:Type}{l:List α}{x:α}(i:Nat) {y:α}(h:(l++[x])[i]?=some y):(i<l.length/\l[i]?=some y)\/(i=l.length/\y=x):=by
 by_cases hi:i<l.length
 ·rw [List.getElem?_append_left hi] at h
  exact .inl ⟨hi,h⟩
 ·rw [List.getElem?_append_right (by omega)] at h
  by_cases e:i - l.length=0
  ·rw [e] at h
   simp at h
   exact .inr ⟨by omega,h.symm⟩
  ·have:([x]:List α)[i - l.length]?=none:=by rw [List.getElem?_eq_none]; simp; omega
   rw [this] at h; cases h
end Go.Proofs
namespace Go.Own
open Go
variable {α β S R:Type}
namespace Tot
theorem upto {f:S->Option (S ⊕ R)}{s0:S}{Ψ:R->Prop}(i:S->Int) (n:Nat) (Inv:Nat->S->Prop) (hi:i s0=0) (hn:n<=100000000000000000) (h0:Inv 0 s0)
  (hs:∀ (k:Nat) (s:S),k<=n->i s=(k:Int)->Inv k s->Tot (f s) (LR (fun s'=>k<n/\i s'=((k+1:Nat):Int)/\Inv (k+1) s') Ψ)):Tot (loopM f s0) Ψ:=by
 refine count i n (fun s=>∃ k:Nat,k<=n/\i s=(k:Int)/\Inv k s) ⟨0,Nat.zero_le _,hi,h0⟩ (by rw [hi]; omega) fun s ⟨k,hk,he,hI⟩=>(hs k s hk he hI).use fun x hx=>?_
 rcases x with s' | r
 ·obtain ⟨h1,h2,h3⟩:=hx
  exact ⟨⟨k+1,by omega,h2,h3⟩,by omega,by omega⟩
 ·exact hx
end Tot
namespace Par
theorem upto {f:S->Option (S ⊕ R)}{s0:S}{Ψ:R->Prop}(i:S->Int) (n:Nat) (Inv:Nat->S->Prop) (hi:i s0=0) (h0:Inv 0 s0)
  (hs:∀ (k:Nat) (s:S),k<=n->i s=(k:Int)->Inv k s->Par (f s) (LR (fun s'=>k<n/\i s'=((k+1:Nat):Int)/\Inv (k+1) s') Ψ)):Par (loopM f s0) Ψ:=by
 refine loop (fun s=>∃ k:Nat,k<=n/\i s=(k:Int)/\Inv k s) ⟨0,Nat.zero_le _,hi,h0⟩ fun s ⟨k,hk,he,hI⟩=>(hs k s hk he hI).use fun x hx=>?_
 rcases x with s' | r
 ·obtain ⟨h1,h2,h3⟩:=hx
  exact ⟨k+1,by omega,h2,h3⟩
 ·exact hx
end Par
theorem w64c (k:Nat) (h:k<=1000000000000000000):w64 ((k:Int)+1)=((k+1:Nat):Int):=by rw [w64_eq]; omega
end Go.Own
namespace Go.Proofs
open Go Go.Own
set_option maxRecDepth 100000
set_option linter.unusedVariables false
structure GTk (g:Grammar):Prop where
 hd:∀ (i:Nat) (t:Tok),i<3->g.Toks[i]?=some t->t.Num<=0
 pos:∀ (i:Nat) (t:Tok),3<=i->g.Toks[i]?=some t->0<t.Num/\t.Num<=100000
 un:∀ (i j:Nat) (s t:Tok),g.Toks[i]?=some s->g.Toks[j]?=some t->0<s.Num->s.Num=t.Num->i=j
 nm:∀ t∈g.Toks,t.Name.size<=big/\(t.Lit=true->t.Name.size=1)
 nn:∀ x∈g.Nons,x.Name.size<=4 * big
open Go Go.Own Go.Sort
def ltZ (a b:Int):Bool:=decide (a<b)
theorem ltZ_iff {a b:Int}:ltZ a b=true↔a<b:=by simp [ltZ]
theorem ltZ_not {a b:Int}:ltZ a b=false↔¬ a<b:=by simp [ltZ]
theorem ordZ:Ord ltZ where
 swo:=⟨fun x=>by rw [ltZ_not]; omega,fun x y z h1 h2=>by rw [ltZ_iff] at *; omega,fun x y z h1 h2=>by rw [ltZ_not] at *; omega⟩
 tot:=fun x y h1 h2=>by rw [ltZ_not] at *; omega
theorem ascZ_get {l:List Int}(hl:Asc ltZ l) {i j:Nat}(hi:i<l.length) (hj:j<l.length) (h:i<j):ltZ l[i] l[j]=true:=List.pairwise_iff_getElem.1 hl i j hi hj h
theorem c62 (l:List Int) (x:Int) (hl:Asc ltZ l) (hn:l.length<=100000):Tot (pf62 l x) fun r=>Asc ltZ r/\r.length<=l.length+1/\(∀ y,y∈r↔y∈l\/y=x):=by
 unfold pf62
 refine .by' (Ξ:=fun z:Int=>∃ k:Nat,z=(k:Int)/\k<=l.length/\(∀ (i:Nat) (h:i<l.length),k<=i->ltZ x l[i]=true)/\∀ (h:0<k),ltZ x (l[k - 1]?.getD default)=false) ?_ fun z hz=>?_
 ·refine Tot.count (fun s=>-s) 1 (fun s=>∃ k:Nat,s=(k:Int)/\k<=l.length/\∀ (i:Nat) (h:i<l.length),k<=i->ltZ x l[i]=true) ⟨l.length,rfl,Nat.le_refl _,fun i h hk=>by omega⟩ (by show 1 - -(l.length:Int)<_; omega) fun s hs=>?_
  obtain ⟨k,rfl,hk,hup⟩:=hs
  refine .by' (Ξ:=fun c:Bool=>(c=true->0<k/\ltZ x (l[k - 1]?.getD default)=true)/\(c=false->∀ (h:0<k),ltZ x (l[k - 1]?.getD default)=false)) ?_ fun c hc=>Tot.cd (fun h=>?_) (fun h=>.so ⟨k,rfl,hk,hup,hc.2 h⟩)
  ·refine Tot.cp (fun h=>?_) (fun h=>.so ⟨fun h'=>(by cases h'),fun _ h'=>by omega⟩)
   have hk1:k - 1<l.length:=by omega
   have hw:w64 ((k:Int) - 1)=((k - 1:Nat):Int):=by rw [w64_eq]; omega
   rw [hw,idx_nat hk1,List.getElem?_eq_getElem hk1]
   simp only [Option.bind_some,Option.getD_some]
   exact .so ⟨fun h'=>⟨by omega,h'⟩,fun h' _=>h'⟩
  ·obtain ⟨h0,h1⟩:=hc.1 h
   refine .so ⟨⟨k - 1,by rw [w64_eq]; omega,by omega,fun i hi hki=>?_⟩,by show -(k:Int) < -w64 _; rw [w64_eq]; omega,by show -w64 _<=1; rw [w64_eq]; omega⟩
   by_cases e:i=k - 1
   ·subst e
    rw [List.getElem?_eq_getElem hi] at h1
    exact h1
   ·exact hup i hi (by omega)
 ·obtain ⟨k,rfl,hk,hup,hlo⟩:=hz
  refine .by' (Ξ:=fun c:Bool=>(c=true↔(0<k/\l[k - 1]?.getD default=x))) ?_ fun c hc=>Tot.cd (fun h=>?_) (fun h=>?_)
  ·refine Tot.cp (fun h=>?_) (fun h=>.so ⟨fun h'=>(by cases h'),fun h'=>by omega⟩)
   have hk1:k - 1<l.length:=by omega
   have hw:w64 ((k:Int) - 1)=((k - 1:Nat):Int):=by rw [w64_eq]; omega
   rw [hw,idx_nat hk1,List.getElem?_eq_getElem hk1]
   simp only [Option.bind_some,Option.getD_some]
   generalize l[k - 1]=y
   refine .so ?_
   exact ⟨fun h'=>⟨by omega,of_decide_eq_true h'⟩,fun h'=>decide_eq_true h'.2⟩
  ·obtain ⟨h0,h1⟩:=hc.1 h
   have hk1:k - 1<l.length:=by omega
   rw [List.getElem?_eq_getElem hk1] at h1
   have hx:x∈l:=by rw [<- h1]; exact List.getElem_mem hk1
   exact .so ⟨hl,by omega,fun y=>⟨.inl,fun h=>h.elim id fun e=>e ▸ hx⟩⟩
  ·have hne:∀ (i:Nat) (hi:i<l.length),i<k->ltZ l[i] x=true:=by
    intro i hi hik
    have hk1:k - 1<l.length:=by omega
    have hlo:=hlo (by omega)
    have hn:l[k - 1]?.getD default≠x:=fun e=>by rw [hc.2 ⟨by omega,e⟩] at h; cases h
    rw [List.getElem?_eq_getElem hk1] at hlo hn
    simp only [Option.getD_some] at hlo hn
    have hk2:ltZ l[k - 1] x=true:=by
     cases hh:ltZ l[k - 1] x with
     | true=>rfl
     | false=>exact absurd (ordZ.tot _ _ hh hlo) hn
    by_cases e:i=k - 1
    ·subst e; exact hk2
    ·exact ordZ.swo.trans _ _ _ (ascZ_get hl hi hk1 (by omega)) hk2
   refine .by' (Ξ:=fun z=>z=l.take k) (Tot.sub ⟨by omega,by omega,by omega⟩ (by simp)) fun z hz=>?_
   subst hz
   refine .by' (Ξ:=fun _=>True) (Tot.ap (by simp [lim]; omega) trivial) fun _ _=>.by' (Ξ:=fun _=>True) (Tot.ap (by simp [lim]; omega) trivial) fun _ _=>?_
   refine .by' (Ξ:=fun z=>z=l.drop k) (Tot.sub ⟨by omega,by omega,by omega⟩ ?_) fun z hz=>?_
   ·rw [List.take_of_length_le]
    ·congr 1
    ·rw [List.length_drop]; omega
   subst hz
   refine .by' (Ξ:=fun _=>True) (Tot.ap (by simp [lim]; omega) trivial) fun _ _=>.so ?_
   rw [List.nil_append]
   refine ⟨?_,?_,?_⟩
   ·have h1:∀ a∈l.take k,ltZ a x=true:=by
     intro a ha
     obtain ⟨i,hi,rfl⟩:=List.mem_iff_getElem.1 ha
     rw [List.length_take] at hi
     rw [List.getElem_take]
     exact hne i (by omega) (by omega)
    have h2:∀ a∈l.drop k,ltZ x a=true:=by
     intro a ha
     obtain ⟨i,hi,rfl⟩:=List.mem_iff_getElem.1 ha
     rw [List.length_drop] at hi
     rw [List.getElem_drop]
     exact hup (k+i) (by omega) (by omega)
    unfold Asc
    rw [List.append_assoc,List.pairwise_append]
    refine ⟨List.Pairwise.sublist (List.take_sublist k l) hl,?_,fun a ha b hb=>?_⟩
    ·rw [List.singleton_append,List.pairwise_cons]
     exact ⟨h2,List.Pairwise.sublist (List.drop_sublist k l) hl⟩
    ·rcases List.mem_append.1 hb with hb | hb
     ·rw [List.mem_singleton.1 hb]; exact h1 a ha
     ·exact ordZ.swo.trans _ _ _ (h1 a ha) (h2 b hb)
   ·simp only [List.length_append,List.length_take,List.length_drop,List.length_cons,List.length_nil]; omega
   ·intro y
    rw [List.append_assoc,List.mem_append,List.mem_append,List.mem_singleton]
    have hm:y∈l↔y∈l.take k\/y∈l.drop k:=by
     rw [<- List.mem_append,List.take_append_drop]
    rw [hm]
    constructor
    ·rintro (h | h | h)
     ·exact .inl (.inl h)
     ·exact .inr h
     ·exact .inl (.inr h)
    ·rintro ((h | h) | h)
     ·exact .inl h
     ·exact .inr (.inr h)
     ·exact .inr (.inl h)
end Go.Proofs
namespace Go.Own
open Go
variable {α β γ δ S T R Q:Type}
def Rel (x:Option α) (y:Option β) (Φ:α->β->Prop):Prop:=∃ a b,x=some a/\y=some b/\Φ a b
abbrev LL (p:S->T->Prop) (q:R->Q->Prop):S ⊕ R->T ⊕ Q->Prop
 | .inl a,.inl b=>p a b
 | .inr a,.inr b=>q a b
 | _,_=>False
namespace Rel
variable {Φ Ψ:α->β->Prop}
theorem so {a:α}{b:β}(h:Φ a b):Rel (some a) (some b) Φ:=⟨a,b,rfl,rfl,h⟩
theorem use {x:Option α}{y:Option β}(h:Rel x y Ψ) (hi:∀ a b,Ψ a b->Φ a b):Rel x y Φ:=by
 obtain ⟨a,b,ha,hb,hΨ⟩:=h
 exact ⟨a,b,ha,hb,hi a b hΨ⟩
theorem by' {x:Option γ}{y:Option δ}{f:γ->Option α}{g:δ->Option β}{Ξ:γ->δ->Prop}(h:Rel x y Ξ) (hk:∀ a b,Ξ a b->Rel (f a) (g b) Φ):Rel (x.bind f) (y.bind g) Φ:=by
 obtain ⟨a,b,rfl,rfl,hΞ⟩:=h
 exact hk a b hΞ
theorem l {x:Option γ}{y:Option β}{f:γ->Option α}{Ξ:γ->Prop}(h:Tot x Ξ) (hk:∀ a,Ξ a->Rel (f a) y Φ):Rel (x.bind f) y Φ:=by
 obtain ⟨a,rfl,hΞ⟩:=h
 exact hk a hΞ
theorem r {x:Option α}{y:Option δ}{g:δ->Option β}{Ξ:δ->Prop}(h:Tot y Ξ) (hk:∀ a,Ξ a->Rel x (g a) Φ):Rel x (y.bind g) Φ:=by
 obtain ⟨a,rfl,hΞ⟩:=h
 exact hk a hΞ
theorem cd {c d:Bool}{a b:Option α}{a' b':Option β}(hc:c=d) (ht:c=true->Rel a a' Φ) (hf:c=false->Rel b b' Φ):Rel (cond c a b) (cond d a' b') Φ:=by
 subst hc
 cases c
 ·exact hf rfl
 ·exact ht rfl
theorem cl {c:Bool}{a b:Option α}{y:Option β}(ht:c=true->Rel a y Φ) (hf:c=false->Rel b y Φ):Rel (cond c a b) y Φ:=by
 cases c
 ·exact hf rfl
 ·exact ht rfl
theorem tot {x:Option α}{y:Option β}{P:α->Prop}{Q:β->Prop}(h:Tot x P) (h':Tot y Q) (hi:∀ a b,P a->Q b->Φ a b):Rel x y Φ:=by
 obtain ⟨a,ha,hP⟩:=h
 obtain ⟨b,hb,hQ⟩:=h'
 exact ⟨a,b,ha,hb,hi a b hP hQ⟩
theorem loop {f:S->Option (S ⊕ R)}{g:T->Option (T ⊕ Q)}{s0:S}{t0:T}{Ψ:R->Q->Prop}(Inv:S->T->Prop) (μ:S->Nat) (h0:Inv s0 t0) (hμ:μ s0<fuel)
  (hs:∀ s t,Inv s t->Rel (f s) (g t) (LL (fun s' t'=>Inv s' t'/\μ s'<μ s) Ψ)):Rel (loopM f s0) (loopM g t0) Ψ:=by
 have key:∀ n s t,Inv s t->μ s<n->Rel (iter f n s) (iter g n t) Ψ:=by
  intro n
  induction n with
  | zero=>intro s t _ h; omega
  | succ n ih =>
   intro s t hI hm
   obtain ⟨x,y,hx,hy,hP⟩:=hs s t hI
   rcases x with s' | r <;> rcases y with t' | q
   ·obtain ⟨h1,h2⟩:=hP
    simp only [iter,hx,hy]
    exact ih s' t' h1 (by omega)
   ·exact hP.elim
   ·exact hP.elim
   ·simp only [iter,hx,hy]
    exact ⟨r,q,rfl,rfl,hP⟩
 exact key fuel s0 t0 h0 hμ
theorem upto {f:S->Option (S ⊕ R)}{g:T->Option (T ⊕ Q)}{s0:S}{t0:T}{Ψ:R->Q->Prop}(i:S->Int) (n:Nat) (Inv:Nat->S->T->Prop) (hi:i s0=0) (hn:n<=100000000000000000) (h0:Inv 0 s0 t0)
  (hs:∀ (k:Nat) (s:S) (t:T),k<=n->i s=(k:Int)->Inv k s t->Rel (f s) (g t) (LL (fun s' t'=>k<n/\i s'=((k+1:Nat):Int)/\Inv (k+1) s' t') Ψ)):Rel (loopM f s0) (loopM g t0) Ψ:=by
 refine loop (fun s t=>∃ k:Nat,k<=n/\i s=(k:Int)/\Inv k s t) (fun s=>(n - (i s).toNat)) ⟨0,Nat.zero_le _,hi,h0⟩ (by rw [hi]; show n - 0<1000000000000000000; omega) fun s t ⟨k,hk,he,hI⟩=>(hs k s t hk he hI).use fun x y hxy=>?_
 rcases x with s' | r <;> rcases y with t' | q
 ·obtain ⟨h1,h2,h3⟩:=hxy
  refine ⟨⟨k+1,by omega,h2,h3⟩,?_⟩
  show n - (i s').toNat<n - (i s).toNat
  rw [h2,he]; omega
 ·exact hxy
 ·exact hxy
 ·exact hxy
end Rel
end Go.Own
namespace Go.Proofs
open Go Go.Own Go.Sort
set_option maxRecDepth 100000
set_option linter.unusedVariables false
def syms (g:Grammar):List Int:=(List.range g.Toks.length).map (fun k:Nat=>(k:Int))++(List.range g.Nons.length).map (fun k:Nat=>1000+(k:Int))
theorem c79 (g:Grammar) (ho:GOk g):Tot (pf79 g) fun l=>l=syms g:=by
 have hT:=ho.tn
 have hN:=ho.nn
 unfold pf79
 refine .by' (Ξ:=fun l:List Int=>l=(List.range g.Toks.length).map (fun k:Nat=>(k:Int))) ?_ fun l hl=>?_
 ·refine Tot.upto (fun s=>s.2) g.Toks.length (fun k s=>s.1=(List.range k).map (fun k:Nat=>(k:Int))) rfl (by omega) rfl fun k s hk he hI=>?_
  obtain ⟨l,i⟩:=s
  simp only at he hI ⊢
  subst he hI
  rw [w64c k (by omega)]
  refine Tot.cp (fun hlt=>?_) (fun hge=>.so ?_)
  ·refine .by' (Ξ:=fun _=>True) (Tot.ap (by simp [lim]; omega) trivial) fun _ _=>.so ⟨by omega,rfl,?_⟩
   show _=(List.range (k+1)).map _
   rw [List.range_succ,List.map_append]; rfl
  ·have:k=g.Toks.length:=by omega
   subst this; rfl
 ·subst hl
  refine .by' (Ξ:=fun l:List Int=>l=syms g) ?_ fun r hr=>.so hr
  refine Tot.upto (fun s=>s.2) g.Nons.length (fun k s=>s.1=(List.range g.Toks.length).map (fun k:Nat=>(k:Int))++(List.range k).map (fun k:Nat=>1000+(k:Int))) rfl (by omega) (by simp) fun k s hk he hI=>?_
  obtain ⟨l,i⟩:=s
  simp only at he hI ⊢
  subst he hI
  rw [w64c k (by omega)]
  refine Tot.cp (fun hlt=>?_) (fun hge=>.so ?_)
  ·refine .by' (Ξ:=fun _=>True) (Tot.ap (by simp [lim]; omega) trivial) fun _ _=>.so ⟨by omega,rfl,?_⟩
   have hw:w64 (1000+(k:Int))=1000+(k:Int):=by rw [w64_eq]; omega
   show _=_++(List.range (k+1)).map _
   rw [hw,List.range_succ,List.map_append,List.append_assoc]; rfl
  ·have:k=g.Nons.length:=by omega
   subst this; rfl
theorem c54 (g:Grammar) (ho:GOk g):Tot (pf54 g) fun l=>l=syms g:=c79 g ho
theorem syms_len (g:Grammar):(syms g).length=g.Toks.length+g.Nons.length:=by simp [syms]
theorem mem_syms {g:Grammar}{s:Int}:s∈syms g↔(0<=s/\s<g.Toks.length)\/(1000<=s/\s<1000+g.Nons.length):=by
 unfold syms
 rw [List.mem_append,List.mem_map,List.mem_map]
 constructor
 ·rintro (⟨k,hk,rfl⟩ | ⟨k,hk,rfl⟩)
  ·rw [List.mem_range] at hk; exact .inl (by omega)
  ·rw [List.mem_range] at hk; exact .inr (by omega)
 ·rintro (h | h)
  ·exact .inl ⟨s.toNat,by rw [List.mem_range]; omega,by omega⟩
  ·exact .inr ⟨(s - 1000).toNat,by rw [List.mem_range]; omega,by omega⟩
def ov (g:Grammar) (K:List Item) (s:Int):List Item:=(pf38 g K s).getD []
structure KOk (g:Grammar) (K:List Item):Prop where
 a:Asc ltI K
 i:∀ x∈K,isI g x
theorem KOk.len {g:Grammar}(ho:GOk g) {K:List Item}(h:KOk g K):K.length<=540:=asc_len ho h.a h.i
theorem ov_spec {g:Grammar}(ho:GOk g) {K:List Item}(hl:K.length<=1000000) (s:Int):pf38 g K s=some (ov g K s)/\pf39 g K s=some (ov g K s)/\KOk g (ov g K s)/\∀ y,y∈ov g K s↔Ov g K s y:=by
 obtain ⟨r,hr,h1,h2⟩:=c38 g ho K s hl
 obtain ⟨r',hr',h1',h2'⟩:=c39 g ho K s hl
 have e:r=r':=h1.uniq ordI h1' fun x=>(h2 x).trans (h2' x).symm
 subst e
 have e2:ov g K s=r:=by unfold ov; rw [hr]; rfl
 rw [e2]
 exact ⟨hr,hr',⟨h1,fun x hx=>((h2 x).1 hx).isI ho⟩,h2⟩
theorem step_spec {g:Grammar}(ho:GOk g) {K c:List Item}(hl:K.length<=1000000) (hc:Asc ltI c/\∀ x,x∈c↔Cl g K x) (s:Int):pf75 g c s=some (ov g K s):=by
 obtain ⟨_,_,h1,h2⟩:=ov_spec ho hl s
 obtain ⟨r,hr,h3,h4⟩:=c75 g ho K c s hc
 rw [hr,h3.uniq ordI h1.a fun x=>(h4 x).trans (h2 x).symm]
theorem ov_dot {g:Grammar}(ho:GOk g) {K:List Item}(hl:K.length<=1000000) {s:Int}{y:Item}(h:y∈ov g K s):1<=y.Dot:=by
 obtain ⟨x,hx,_,_,rfl⟩:=((ov_spec ho hl s).2.2.2 y).1 h
 have:=isI_dot ho hx.isI
 show 1<=x.Dot+1
 omega
def Fnd (m:List State) (k:List Item) (r:Int):Prop:=(r=-1/\∀ (i:Nat) (st:State),m[i]?=some st->st.Kernel≠k)\/∃ (i:Nat) (st:State),m[i]?=some st/\st.Kernel=k/\r=(i:Int)
def Dst (m:List State):Prop:=∀ (i j:Nat) (s t:State),m[i]?=some s->m[j]?=some t->s.Kernel=t.Kernel->i=j
theorem Fnd.uniq {m:List State}(hd:Dst m) {k:List Item}{r r':Int}(h:Fnd m k r) (h':Fnd m k r'):r=r':=by
 rcases h with ⟨h1,h2⟩ | ⟨i,s,h1,h2,h3⟩ <;> rcases h' with ⟨h1',h2'⟩ | ⟨i',s',h1',h2',h3'⟩
 ·omega
 ·exact absurd h2' (h2 _ _ h1')
 ·exact absurd h2 (h2' _ _ h1)
 ·have:=hd i i' s s' h1 h1' (h2.trans h2'.symm)
  omega
def MSz (m:List State):Prop:=m.length<=1000/\∀ st∈m,st.Kernel.length<=1000000
theorem c84 (a b:List Item) (h:a.length<=1000000):Tot (pf84 a b) fun c=>(c=true↔a=b):=c35 a b h
theorem fnd_loop {f:State->Option Bool}{k:List Item}(m:List State) (hm:MSz m) (hf:∀ st∈m,Tot (f st) fun c=>(c=true↔st.Kernel=k)) :
  Tot ((loopM (R:=(Unit) ⊕ (Int)) (fun (s1:Int) =>
   (bif decide (s1<(m.length:Int)) then
   (idx m s1).bind fun x6 =>
   (f x6).bind fun x7 =>
   (bif x7 then
   some (.inr (.inr s1))
   else
   some (.inl (w64 (s1+1))))
   else
   some (.inr (.inl ())))) 0).bind fun x2 =>
   (match x2 with
   | .inl x3 =>
   some (-1)
   | .inr x4 =>
   some x4)) (Fnd m k):=by
 have hl:=hm.1
 refine .by' (Ξ:=LR (fun _=>∀ (i:Nat) (st:State),m[i]?=some st->st.Kernel≠k) (fun r:Int=>∃ (i:Nat) (st:State),m[i]?=some st/\st.Kernel=k/\r=(i:Int))) ?_ fun x hx=>?_
 ·refine Tot.upto (fun s=>s) m.length (fun j s=>∀ (i:Nat) (st:State),i<j->m[i]?=some st->st.Kernel≠k) rfl (by omega) (fun i st h=>by omega) fun j s hj he hI=>?_
  subst he
  rw [w64c j (by omega)]
  refine Tot.cp (fun hlt=>?_) (fun hge=>.so fun i st hi=>hI i st (by have:=(List.getElem?_eq_some_iff.1 hi).1; omega) hi)
  have hlt:j<m.length:=by omega
  rw [idx_nat hlt]
  have hget:m[j]?=some m[j]:=List.getElem?_eq_getElem hlt
  refine Tot.sm (.by' (hf _ (List.getElem_mem hlt)) fun c hc=>Tot.cd (fun h=>.so ⟨j,_,hget,hc.1 h,rfl⟩) (fun h=>.so ⟨hlt,rfl,fun i st hi ht=>?_⟩))
  by_cases e:i=j
  ·subst e
   rw [hget] at ht; cases ht
   intro e
   rw [hc.2 e] at h; cases h
  ·exact hI i st (by omega) ht
 ·rcases x with x | x
  ·exact .so (.inl ⟨rfl,hx⟩)
  ·exact .so (.inr hx)
theorem c80 (m:List State) (k:List Item) (hm:MSz m):Tot (pf80 m k) (Fnd m k) :=
 fnd_loop m hm fun st hst=>c35 st.Kernel k (hm.2 st hst)
theorem c82 (m:List State) (k:List Item) (hm:MSz m):Tot (pf82_83 m k) (Fnd m k) :=
 fnd_loop (f:=fun st=>pf83 st k) m hm fun st hst=>by
  unfold pf83
  exact .by' (c84 st.Kernel k (hm.2 st hst)) fun c hc=>.so hc
theorem c48 (m:List State) (k:List Item) (hm:MSz m) (hk:k.length<=1000000):Tot (pf48 m k) (Fnd m (dedup (isort ltI k))):=by
 unfold pf48
 have e1:pf81 k=some k:=by unfold pf81 cloneO; rw [if_pos (by omega)]
 have e2:sortO (fun a b=>pf71 a b) k=some (isort ltI k):=sort_is ordI (fun a _ b _=>c71 a b) (by omega)
 have e3:compO (isort ltI k)=some (dedup (isort ltI k)):=by
  unfold compO
  rw [if_pos (by rw [(isort_perm ltI k).length_eq]; omega)]
 rw [e1]
 simp only [Option.bind_some,e2,e3]
 exact .by' (c82 m _ hm) fun r hr=>.so hr
theorem asc_dd {k:List Item}(h:Asc ltI k):dedup (isort ltI k)=k:=by
 obtain ⟨h1,h2⟩:=dedup_asc ordI k
 exact h1.uniq ordI h h2
theorem c78 (a b:List Move) (h:a.length<=1000000):Tot (pf78 a b) fun c=>(c=true↔a=b):=by
 unfold pf78
 refine Tot.cn (fun h=>.so ⟨fun h'=>(by cases h'),fun e=>absurd (by rw [e]) h⟩) (fun hl=>?_)
 have hl:a.length=b.length:=by omega
 refine .by' (Ξ:=LR (fun _=>a=b) (fun r:Bool=>r=false/\a≠b)) ?_ fun x hx=>?_
 ·refine Tot.upto (fun s=>s) a.length (fun k s=>a.take k=b.take k) rfl (by omega) rfl fun k s hk he hI=>?_
  subst he
  rw [w64c k (by omega)]
  refine Tot.cp (fun hlt=>?_) (fun hge=>.so ?_)
  ·have h1:k<a.length:=by omega
   have h2:k<b.length:=by omega
   rw [idx_nat h1,idx_nat h2]
   simp only [Option.bind_some]
   refine Tot.cd (fun hne=>.so ⟨rfl,fun e=>?_⟩) (fun heq=>.so ⟨h1,rfl,?_⟩)
   ·subst e
    simp at hne
   ·rw [take_snoc' h1,take_snoc' h2,hI]
    have e1:a[k].Sym=b[k].Sym/\a[k].To=b[k].To:=by simpa using heq
    have:a[k]=b[k]:=by
     generalize a[k]=x at *
     generalize b[k]=y at *
     obtain ⟨x1,x2⟩:=x
     obtain ⟨y1,y2⟩:=y
     simp only at e1
     rw [e1.1,e1.2]
    rw [this]
  ·have:k=a.length:=by omega
   subst this
   rw [List.take_length,hl,List.take_length] at hI
   exact hI
 ·rcases x with x | x
  ·exact .so ⟨fun _=>hx,fun _=>rfl⟩
  ·obtain ⟨rfl,hne⟩:=hx
   exact .so ⟨fun h=>(by cases h),fun e=>absurd e hne⟩
def nxt:Int->List Move->Option Int
 | n,[]=>some n
 | n,v::l=>if n<v.To\/v.To<1 then none else nxt (if v.To=n then n+1 else n) l
theorem nxt_app:∀ (l m:List Move) (n:Int),nxt n (l++m)=(nxt n l).bind fun n'=>nxt n' m
 | [],m,n=>rfl
 | v::l,m,n=>by
  simp only [List.cons_append,nxt]
  split
  ·rfl
  ·exact nxt_app l m _
def flat (m:List State):List Move:=m.flatMap (·.Moves)
def MvOk (g:Grammar) (m:List State) (K:List Item) (L:List Int) (Mv:List Move):Prop :=
 Mv.map (·.Sym)=L.filter (fun s=>decide (ov g K s≠[]))/\∀ v∈Mv,∃ (t:Nat) (st:State),v.To=(t:Int)/\m[t]?=some st/\st.Kernel=ov g K v.Sym
structure Mach (g:Grammar) (m:List State) (q j:Nat):Prop where
 n0:0<m.length
 n1:m.length<=150
 k0:∃ st,m[0]?=some st/\st.Kernel=[(⟨0,0⟩:Item)]
 ko:∀ (i:Nat) (st:State),m[i]?=some st->KOk g st.Kernel
 ds:Dst m
 mv:∀ (i:Nat) (st:State),m[i]?=some st->MvOk g m st.Kernel (if i<q then syms g else if i=q then (syms g).take j else []) st.Moves
 nm:nxt 1 (flat m)=some (m.length:Int)
 nb:∀ i,i<=q->i<m.length->∃ n:Int,nxt 1 (flat (m.take i))=some n/\(i:Int)<n
theorem Mach.sz {g:Grammar}(ho:GOk g) {m:List State}{q j:Nat}(h:Mach g m q j):MSz m:=by
 refine ⟨by have:=h.n1; omega,fun st hst=>?_⟩
 obtain ⟨i,hi⟩:=List.getElem?_of_mem hst
 have:=(h.ko i st hi).len ho
 omega
theorem Mach.k0len {g:Grammar}(ho:GOk g) {m:List State}{q j:Nat}(h:Mach g m q j) {i:Nat}{st:State}(hi:m[i]?=some st):st.Kernel.length<=1000000:=by
 have:=(h.ko i st hi).len ho
 omega
theorem flat_at {m:List State}{q:Nat}{st:State}(hq:m[q]?=some st) (hr:∀ (i:Nat) (s:State),q<i->m[i]?=some s->s.Moves=[]):flat m=flat (m.take q)++st.Moves:=by
 have hlt:=(List.getElem?_eq_some_iff.1 hq).1
 have e:m=m.take q++st::m.drop (q+1):=by
  have h1:=List.take_append_drop q m
  have h2:m.drop q=st::m.drop (q+1):=by
   rw [List.drop_eq_getElem_cons hlt]
   rw [List.getElem?_eq_getElem hlt] at hq
   cases hq; rfl
  rw [<- h2]; exact h1.symm
 have h3:flat (m.drop (q+1))=[]:=by
  unfold flat
  rw [List.flatMap_eq_nil_iff]
  intro s hs
  obtain ⟨i,hi⟩:=List.getElem?_of_mem hs
  rw [List.getElem?_drop] at hi
  exact hr _ s (by omega) hi
 have h4:flat m=flat (m.take q++st::m.drop (q+1)):=by rw [<- e]
 have h5:∀ a b:List State,flat (a++b)=flat a++flat b:=fun a b=>by simp [flat]
 rw [h4,h5,show (st::m.drop (q+1))=[st]++m.drop (q+1) from rfl,h5,h3,List.append_nil]
 simp [flat]
theorem Mach.late {g:Grammar}{m:List State}{q j:Nat}(h:Mach g m q j) {i:Nat}{s:State}(hi:q<i) (hs:m[i]?=some s):s.Moves=[]:=by
 have:=(h.mv i s hs).1
 rw [if_neg (by omega),if_neg (by omega)] at this
 simpa using this
theorem snoc_get' {α:Type}{l ext:List α}{i:Nat}{y:α}(h:l[i]?=some y):(l++ext)[i]?=some y:=by
 rw [List.getElem?_append_left (List.getElem?_eq_some_iff.1 h).1]; exact h
theorem Mach.skip {g:Grammar}{m:List State}{q j:Nat}{st:State}{s:Int}(h:Mach g m q j) (hq:m[q]?=some st) (hs:(syms g)[j]?=some s) (he:ov g st.Kernel s=[]):Mach g m q (j+1):=by
 refine ⟨h.n0,h.n1,h.k0,h.ko,h.ds,fun i si hi=>?_,h.nm,h.nb⟩
 have h1:=h.mv i si hi
 by_cases e:i=q
 ·subst e
  rw [hq] at hi; cases hi
  rw [if_neg (by omega),if_pos rfl] at h1 ⊢
  refine ⟨?_,h1.2⟩
  rw [h1.1,List.take_add_one,hs,List.filter_append]
  simp [he]
 ·rw [if_neg e] at h1 ⊢
  exact h1
theorem Mach.move {g:Grammar}(ho:GOk g) {m ext:List State}{q j t:Nat}{st:State}{s:Int}(h:Mach g m q j) (hq:m[q]?=some st) (hs:(syms g)[j]?=some s) (hne:ov g st.Kernel s≠[])
  (he:(ext=[]/\∃ u,m[t]?=some u/\u.Kernel=ov g st.Kernel s)\/(ext=[⟨ov g st.Kernel s,[]⟩]/\t=m.length/\(∀ (i:Nat) (u:State),m[i]?=some u->u.Kernel≠ov g st.Kernel s)/\m.length<150)) :
  Mach g ((m++ext).set q (⟨st.Kernel,st.Moves++[⟨s,(t:Int)⟩]⟩:State)) q (j+1):=by
 have hqm:=(List.getElem?_eq_some_iff.1 hq).1
 have hKl:=h.k0len ho hq
 have hov:=(ov_spec ho hKl s).2.2.1
 have hql:q<(m++ext).length:=by rw [List.length_append]; omega
 have hXl:((m++ext).set q (⟨st.Kernel,st.Moves++[⟨s,(t:Int)⟩]⟩:State)).length=m.length+ext.length:=by rw [List.length_set,List.length_append]
 -- states ahead
 have pre:∀ (i:Nat) (u:State),(m++ext)[i]?=some u->(m[i]?=some u)\/(i=m.length/\u=⟨ov g st.Kernel s,[]⟩/\(∀ (i:Nat) (u:State),m[i]?=some u->u.Kernel≠ov g st.Kernel s)):=fun i u hu=>by
  rcases he with ⟨rfl,_⟩ | ⟨rfl,_,hn,_⟩
  ·rw [List.append_nil] at hu; exact .inl hu
  ·rcases snoc_get i hu with ⟨_,h'⟩ | ⟨h',h''⟩
   ·exact .inl h'
   ·exact .inr ⟨h',h'',hn⟩
 have tgt:∃ u,(m++ext)[t]?=some u/\u.Kernel=ov g st.Kernel s:=by
  rcases he with ⟨rfl,u,hu,e⟩ | ⟨rfl,rfl,_⟩
  ·exact ⟨u,snoc_get' hu,e⟩
  ·exact ⟨⟨ov g st.Kernel s,[]⟩,by rw [List.getElem?_append_right (Nat.le_refl _),Nat.sub_self]; rfl,rfl⟩
 have back:∀ (i:Nat) (u:State),((m++ext).set q (⟨st.Kernel,st.Moves++[⟨s,(t:Int)⟩]⟩:State))[i]?=some u->(i=q/\u=⟨st.Kernel,st.Moves++[⟨s,(t:Int)⟩]⟩)\/(i≠q/\(m++ext)[i]?=some u):=fun i u hu=>by
  rw [set_get hql] at hu
  split at hu
  ·rename_i e; exact .inl ⟨e,by cases hu; rfl⟩
  ·rename_i e; exact .inr ⟨e,hu⟩
 have fwd:∀ (i:Nat) (u:State),(m++ext)[i]?=some u->∃ u',((m++ext).set q (⟨st.Kernel,st.Moves++[⟨s,(t:Int)⟩]⟩:State))[i]?=some u'/\u'.Kernel=u.Kernel:=fun i u hu=>by
  rw [set_get hql]
  by_cases e:i=q
  ·subst e
   rw [snoc_get' hq] at hu
   cases hu
   exact ⟨_,if_pos rfl,rfl⟩
  ·exact ⟨u,by rw [if_neg e]; exact hu,rfl⟩
 have ker:∀ (i:Nat) (u:State),((m++ext).set q (⟨st.Kernel,st.Moves++[⟨s,(t:Int)⟩]⟩:State))[i]?=some u->∃ u',(m++ext)[i]?=some u'/\u'.Kernel=u.Kernel:=fun i u hu=>by
  rcases back i u hu with ⟨rfl,rfl⟩ | ⟨_,h'⟩
  ·exact ⟨st,snoc_get' hq,rfl⟩
  ·exact ⟨u,h',rfl⟩
 have hext:ext.length<=1/\m.length+ext.length<=150:=by
  rcases he with ⟨rfl,_⟩ | ⟨rfl,_,_,h3⟩
  ·exact ⟨by simp,by have:=h.n1; simpa using this⟩
  ·exact ⟨by simp,by simp; omega⟩
 have dst:Dst (m++ext):=fun i k a b ha hb e=>by
  rcases pre i a ha with ha' | ⟨e1,rfl,hn⟩ <;> rcases pre k b hb with hb' | ⟨e2,rfl,hn'⟩
  ·exact h.ds i k a b ha' hb' e
  ·exact absurd e (hn' i a ha')
  ·exact absurd e.symm (hn k b hb')
  ·omega
 have liftMv:∀ {K:List Item}{L:List Int}{Mv:List Move},MvOk g m K L Mv->MvOk g ((m++ext).set q (⟨st.Kernel,st.Moves++[⟨s,(t:Int)⟩]⟩:State)) K L Mv:=fun hm=>⟨hm.1,fun v hv=>by
  obtain ⟨a,u,h1,h2,h3⟩:=hm.2 v hv
  obtain ⟨u',h4,h5⟩:=fwd a u (snoc_get' h2)
  exact ⟨a,u',h1,h4,h5.trans h3⟩⟩
 have nil:∀ {K:List Item},MvOk g ((m++ext).set q (⟨st.Kernel,st.Moves++[⟨s,(t:Int)⟩]⟩:State)) K [] []:=⟨rfl,fun v hv=>by cases hv⟩
 have late:∀ (i:Nat) (u:State),q<i->((m++ext).set q (⟨st.Kernel,st.Moves++[⟨s,(t:Int)⟩]⟩:State))[i]?=some u->u.Moves=[]:=fun i u hi hu=>by
  rcases back i u hu with ⟨rfl,_⟩ | ⟨_,h'⟩
  ·omega
  ·rcases pre i u h' with h'' | ⟨_,rfl,_⟩
   ·exact h.late hi h''
   ·rfl
 have tk:∀ i,i<=q->((m++ext).set q (⟨st.Kernel,st.Moves++[⟨s,(t:Int)⟩]⟩:State)).take i=m.take i:=fun i hi=>by
  rw [List.take_set_of_le hi,List.take_append_of_le_length (by omega)]
 have hself:((m++ext).set q (⟨st.Kernel,st.Moves++[⟨s,(t:Int)⟩]⟩:State))[q]?=some ⟨st.Kernel,st.Moves++[⟨s,(t:Int)⟩]⟩:=by rw [set_get hql,if_pos rfl]
 have ht0:t≠0:=by
  rintro rfl
  obtain ⟨u,hu,hk⟩:=tgt
  obtain ⟨st0,h0,hk0⟩:=h.k0
  rw [snoc_get' h0] at hu
  cases hu
  rw [hk0] at hk
  have:=ov_dot ho hKl (s:=s) (y:=⟨0,0⟩) (by rw [<- hk]; simp)
  simp at this
 refine ⟨by rw [hXl]; have:=h.n0; omega,by rw [hXl]; exact hext.2,?_,fun i u hu=>?_,fun i k a b ha hb e=>?_,fun i u hu=>?_,?_,fun i hi hlt=>?_⟩
 ·obtain ⟨st0,h0,hk0⟩:=h.k0
  obtain ⟨u,h1,h2⟩:=fwd 0 st0 (snoc_get' h0)
  exact ⟨u,h1,h2.trans hk0⟩
 ·obtain ⟨u',h1,h2⟩:=ker i u hu
  rw [<- h2]
  rcases pre i u' h1 with h' | ⟨_,rfl,_⟩
  ·exact h.ko i u' h'
  ·exact hov
 ·obtain ⟨a',h1,h2⟩:=ker i a ha
  obtain ⟨b',h3,h4⟩:=ker k b hb
  exact dst i k a' b' h1 h3 (by rw [h2,h4,e])
 ·rcases back i u hu with ⟨rfl,rfl⟩ | ⟨hne',h'⟩
  ·have h1:=h.mv i st hq
   rw [if_neg (by omega),if_pos rfl] at h1 ⊢
   refine ⟨?_,fun v hv=>?_⟩
   ·rw [List.map_append,h1.1,List.take_add_one,hs,List.filter_append]
    simp [hne]
   ·rcases List.mem_append.1 hv with hv | hv
    ·exact (liftMv h1).2 v hv
    ·rw [List.mem_singleton.1 hv]
     obtain ⟨u,hu,hk⟩:=tgt
     obtain ⟨u',h4,h5⟩:=fwd t u hu
     exact ⟨t,u',rfl,h4,h5.trans hk⟩
  ·rcases pre i u h' with h'' | ⟨e1,rfl,_⟩
   ·have h1:=h.mv i u h''
    rw [if_neg hne'] at h1 ⊢
    exact liftMv h1
   ·rw [if_neg (by omega),if_neg hne']
    exact nil
 ·rw [flat_at hself late,tk q (Nat.le_refl _),<- List.append_assoc,nxt_app,<- flat_at hq (fun i s hi hs=>h.late hi hs),h.nm,hXl]
  simp only [Option.bind_some,nxt]
  rcases he with ⟨rfl,u,hu,_⟩ | ⟨rfl,rfl,_⟩
  ·have:=(List.getElem?_eq_some_iff.1 hu).1
   rw [if_neg (by omega),if_neg (by omega)]; simp
  ·rw [if_neg (by omega),if_pos rfl]; simp
 ·rw [tk i hi]
  exact h.nb i hi (by omega)
theorem Mach.next {g:Grammar}{m:List State}{q j:Nat}(h:Mach g m q j) (hq:q<m.length) (hj:(syms g).length<=j):Mach g m (q+1) 0:=by
 have hget:m[q]?=some m[q]:=List.getElem?_eq_getElem hq
 refine ⟨h.n0,h.n1,h.k0,h.ko,h.ds,fun i s hs=>?_,h.nm,fun i hi hlt=>?_⟩
 ·have h1:=h.mv i s hs
  by_cases e:i<q
  ·rw [if_pos e] at h1; rw [if_pos (by omega)]; exact h1
  ·rw [if_neg e] at h1
   by_cases e2:i=q
   ·rw [if_pos e2,List.take_of_length_le hj] at h1
    rw [if_pos (by omega)]; exact h1
   ·rw [if_neg e2] at h1
    rw [if_neg (by omega)]
    split
    ·rw [List.take_zero]; exact h1
    ·exact h1
 ·by_cases e:i<=q
  ·exact h.nb i e hlt
  ·have:i=q+1:=by omega
   subst this
   refine ⟨(m.length:Int),?_,by omega⟩
   rw [List.take_add_one,hget]
   have h5:∀ a b:List State,flat (a++b)=flat a++flat b:=fun a b=>by simp [flat]
   have:=flat_at hget fun i s hi hs=>h.late hi hs
   rw [h5]
   have e3:flat (some m[q]).toList=m[q].Moves:=by simp [flat]
   rw [e3,<- this]
   exact h.nm
theorem idx_of {α:Type}{m:List α}{q:Nat}{x:α}(h:m[q]?=some x):idx m (q:Int)=some x:=by simp [idx,h]
theorem c27 (l:List Int) (x:Int) (h:l.length<=1000000):∃ c,pf27 l x=some c/\(c=true↔x∈l):=by
 suffices h:Tot (pf27 l x) fun c=>(c=true↔x∈l) from h
 unfold pf27
 refine .by' (Ξ:=LR (fun _=>x∉l) (fun r:Bool=>r=true/\x∈l)) ?_ fun r hr=>?_
 ·refine Tot.upto (fun s=>s) l.length (fun k s=>x∉l.take k) rfl (by omega) (by simp) fun k s hk he hI=>?_
  subst he
  rw [w64c k (by omega)]
  refine Tot.cp (fun hlt=>?_) (fun hge=>.so ?_)
  ·have hlt:k<l.length:=by omega
   rw [idx_nat hlt]
   simp only [Option.bind_some]
   refine Tot.cp (fun e=>.so ⟨rfl,by rw [<- e]; exact List.getElem_mem hlt⟩) (fun e=>.so ⟨hlt,rfl,?_⟩)
   rw [take_snoc' hlt,List.mem_append,List.mem_singleton]
   exact fun h=>h.elim hI fun h=>e h.symm
  ·rw [List.take_of_length_le (by omega)] at hI
   exact hI
 ·rcases r with r | r
  ·exact .so ⟨fun h=>(by cases h),fun h=>absurd h hr⟩
  ·obtain ⟨rfl,h⟩:=hr
   exact .so ⟨fun _=>h,fun _=>rfl⟩
theorem ov_ne {g:Grammar}(ho:GOk g) {K:List Item}(hl:K.length<=1000000) {s:Int}:ov g K s≠[]↔∃ x,Cl g K x/\nx g x=s/\0<=s:=by
 have h:=(ov_spec ho hl s).2.2.2
 constructor
 ·intro hne
  obtain ⟨y,hy⟩:=List.exists_mem_of_ne_nil _ hne
  obtain ⟨x,h1,h2,h3,_⟩:=(h y).1 hy
  exact ⟨x,h1,h2,h3⟩
 ·rintro ⟨x,h1,h2,h3⟩ e
  have:=(h ⟨x.Prod,x.Dot+1⟩).2 ⟨x,h1,h2,h3,rfl⟩
  rw [e] at this; cases this
theorem Mach.start {g:Grammar}(ho:GOk g):Mach g [(⟨[(⟨0,0⟩:Item)],([]:List Move)⟩:State)] 0 0:=by
 have only:∀ (i:Nat) (st:State),[(⟨[(⟨0,0⟩:Item)],([]:List Move)⟩:State)][i]?=some st->i=0/\st=⟨[(⟨0,0⟩:Item)],[]⟩:=fun i st h=>by
  cases i with
  | zero=>exact ⟨rfl,by cases h; rfl⟩
  | succ i=>cases h
 have hp:=ho.pn
 refine ⟨by simp,by simp,⟨_,rfl,rfl⟩,fun i st h=>?_,fun i j a b ha hb _=>?_,fun i st h=>?_,rfl,fun i hi hlt=>?_⟩
 ·obtain ⟨_,rfl⟩:=only i st h
  refine ⟨List.pairwise_singleton ..,fun x hx=>?_⟩
  rw [List.mem_singleton.1 hx]
  obtain ⟨q,hq⟩:∃ q,g.Prods[0]?=some q:=⟨g.Prods[0]'(by omega),List.getElem?_eq_getElem _⟩
  exact isI_zero (p:=0) hq
 ·have:=(only i a ha).1
  have:=(only j b hb).1
  omega
 ·obtain ⟨rfl,rfl⟩:=only i st h
  exact ⟨rfl,fun v hv=>by cases hv⟩
 ·have:i=0:=by omega
  subst this
  exact ⟨1,rfl,by decide⟩
theorem mv_len {g:Grammar}(ho:GOk g) {m:List State}{q j:Nat}(h:Mach g m q j) {i:Nat}{st:State}(hi:m[i]?=some st):st.Moves.length<=64:=by
 have h1:=congrArg List.length (h.mv i st hi).1
 rw [List.length_map] at h1
 have h2:=List.length_filter_le (fun s=>decide (ov g st.Kernel s≠[])) (if i<q then syms g else if i=q then (syms g).take j else [])
 have h3:(if i<q then syms g else if i=q then (syms g).take j else []).length<=(syms g).length:=by
  split
  ·exact Nat.le_refl _
  ·split
   ·rw [List.length_take]; omega
   ·simp
 have h4:=syms_len g
 have:=ho.tn
 have:=ho.nn
 omega
def Ends (g:Grammar) (a:List State × Int):Prop:=(a.2=0/\Mach g a.1 a.1.length 0)\/(a.2=4/\a.1=[])
theorem c4445 (g:Grammar) (ho:GOk g):Rel (pf44 g) (pf45 g) fun a b=>a=b/\Ends g a:=by
 have hT:=ho.tn
 have hN:=ho.nn
 unfold pf44 pf45
 refine Rel.l (c79 g ho) fun x1 h1=>Rel.r (c54 g ho) fun y1 h1'=>?_
 subst h1 h1'
 have hL:=syms_len g
 refine Rel.by' (Ξ:=LL (fun a b=>a=b/\Mach g a a.length 0) (fun a b=>a=b/\a=(([]:List State),(4:Int)))) ?_ fun a b hab=>?_
 ·refine Rel.loop (fun s t=>s=t/\∃ q:Nat,s.2=(q:Int)/\q<=s.1.length/\Mach g s.1 q 0) (fun s=>151 - s.2.toNat) ⟨rfl,0,rfl,Nat.zero_le _,Mach.start ho⟩ (by show 151 - 0<1000000000000000000; omega) fun s t hst=>?_
  obtain ⟨rfl,q,he,hq,hM⟩:=hst
  obtain ⟨m,i⟩:=s
  simp only at he hq hM ⊢
  subst he
  have hn1:=hM.n1
  rw [w64c q (by omega)]
  refine Rel.cd rfl (fun hlt=>?_) (fun hge=>.so ?_)
  ·have hlt:q<m.length:=by have:=of_decide_eq_true hlt; omega
   obtain ⟨st,hst⟩:∃ st,m[q]?=some st:=⟨_,List.getElem?_eq_getElem hlt⟩
   rw [idx_of hst]
   simp only [Option.bind_some]
   have hKl:=hM.k0len ho hst
   refine Rel.l (c36 g ho st.Kernel hKl) fun c hc=>Rel.r (c37 g ho st.Kernel hKl) fun c' hc'=>?_
   have ecc:c'=c:=hc'.1.uniq ordI hc.1 fun x=>(hc'.2 x).trans (hc.2 x).symm
   subst ecc
   have hcl:=asc_len ho hc.1 fun x hx=>((hc.2 x).1 hx).isI
   refine Rel.r (Ξ:=fun l:List Int=>l.length<=1000/\∀ a,a∈l↔∃ x∈c',nx g x=a/\0<=a) ?_ fun aft haft=>?_
   ·refine Tot.upto (fun s=>s.2) c'.length (fun k s=>Asc ltZ s.1/\s.1.length<=k/\∀ a,a∈s.1↔∃ x∈c'.take k,nx g x=a/\0<=a) rfl (by omega) ⟨.nil,Nat.le_refl 0,fun a=>by simp⟩ fun k s hk he hI=>?_
    obtain ⟨l,i⟩:=s
    obtain ⟨g1,g2,g3⟩:=hI
    simp only at he g1 g2 g3 ⊢
    subst he
    rw [w64c k (by omega)]
    refine Tot.cp (fun hlt=>?_) (fun hge=>.so ⟨by omega,fun a=>?_⟩)
    ·have hlt:k<c'.length:=by omega
     have htk:=take_snoc' hlt
     rw [idx_nat hlt]
     generalize c'[k]=x at *
     refine .by' (Ξ:=fun l:List Int=>Asc ltZ l/\l.length<=k+1/\∀ a,a∈l↔∃ x∈c'.take (k+1),nx g x=a/\0<=a) ?_ fun o ho=>.so ⟨hlt,rfl,ho⟩
     refine Tot.sm ?_
     rw [e33 g x]
     refine Tot.sm (.by' (Ξ:=fun l:List Int=>Asc ltZ l/\l.length<=k+1/\∀ a,a∈l↔∃ x∈c'.take (k+1),nx g x=a/\0<=a) ?_ fun o ho=>.so ho)
     refine Tot.cp (fun hp=>.by' (c62 l (nx g x) g1 (by omega)) fun r hr=>.so ⟨hr.1,by have:=hr.2.1; omega,fun a=>?_⟩) (fun hp=>.so ⟨g1,by omega,fun a=>?_⟩)
     ·rw [hr.2.2,g3,htk]
      constructor
      ·rintro (⟨z,hz,h⟩ | rfl)
       ·exact ⟨z,List.mem_append.2 (.inl hz),h⟩
       ·exact ⟨x,List.mem_append.2 (.inr (by simp)),rfl,hp⟩
      ·rintro ⟨z,hz,h⟩
       rcases List.mem_append.1 hz with hz | hz
       ·exact .inl ⟨z,hz,h⟩
       ·rw [List.mem_singleton.1 hz] at h
        exact .inr h.1.symm
     ·rw [g3,htk]
      constructor
      ·rintro ⟨z,hz,h⟩
       exact ⟨z,List.mem_append.2 (.inl hz),h⟩
      ·rintro ⟨z,hz,h⟩
       rcases List.mem_append.1 hz with hz | hz
       ·exact ⟨z,hz,h⟩
       ·rw [List.mem_singleton.1 hz] at h
        omega
    ·rw [List.take_of_length_le (by omega)] at g3
     exact g3 a
   ·obtain ⟨haf1,haf2⟩:=haft
    refine Rel.by' (Ξ:=LL (fun a b=>a=b/\Mach g a q (syms g).length/\q<a.length) (fun a b=>a=b/\a=(([]:List State),(4:Int)))) ?_ fun a b hab=>?_
    ·refine Rel.upto (fun s=>s.2) (syms g).length (fun k s t=>s=t/\Mach g s.1 q k/\∃ u,s.1[q]?=some u/\u.Kernel=st.Kernel) rfl (by omega) ⟨rfl,hM,st,hst,rfl⟩ fun k s t hk he hI=>?_
     obtain ⟨rfl,hMk,u,hu,huK⟩:=hI
     obtain ⟨m,i⟩:=s
     simp only at he hMk hu ⊢
     subst he
     rw [w64c k (by omega)]
     have hqm:=(List.getElem?_eq_some_iff.1 hu).1
     have hml:=hMk.n1
     refine Rel.cd rfl (fun hlt=>?_) (fun hge=>.so ⟨rfl,?_,hqm⟩)
     ·have hlt:k<(syms g).length:=by have:=of_decide_eq_true hlt; omega
      have hs:(syms g)[k]?=some (syms g)[k]:=List.getElem?_eq_getElem hlt
      rw [idx_nat hlt]
      generalize (syms g)[k]=s at *
      obtain ⟨hv,hv',hvk,hvm⟩:=ov_spec ho hKl s
      have hvl:=hvk.len ho
      obtain ⟨cc,ec,hcc⟩:=c27 aft s (by omega)
      simp only [Option.bind_some]
      rw [step_spec ho hKl hc s,ec]
      simp only [Option.bind_some]
      have hiff:cc=true↔ov g st.Kernel s≠[]:=by
       rw [hcc,haf2,ov_ne ho hKl]
       constructor
       ·rintro ⟨x,hx,h⟩
        exact ⟨x,(hc.2 x).1 hx,h⟩
       ·rintro ⟨x,hx,h⟩
        exact ⟨x,(hc.2 x).2 hx,h⟩
      have huK':(⟨u.Kernel,u.Moves⟩:State)=u:=rfl
      by_cases hne:ov g st.Kernel s=[]
      ·have e1:cc=false:=by cases cc with | true=>exact absurd hne (hiff.1 rfl) | false=>rfl
       subst e1
       rw [hne]
       simp only [List.length_nil,Bool.not_false,cond_true]
       refine .so ⟨hlt,rfl,rfl,hMk.skip hu hs (by rw [huK]; exact hne),u,hu,huK⟩
      ·have e1:=hiff.2 hne
       subst e1
       have e2:decide (((ov g st.Kernel s).length:Int)=0)=false:=decide_eq_false fun e=>hne (List.eq_nil_of_length_eq_zero (by omega))
       rw [idx_of hu,e2]
       simp only [cond_false,Bool.not_true,Option.bind_some,huK]
       rw [hv']
       simp only [Option.bind_some]
       have hsz:=hMk.sz ho
       obtain ⟨r1,er1,hr1⟩:=c48 m (ov g st.Kernel s) hsz (by omega)
       rw [asc_dd hvk.a] at hr1
       obtain ⟨r2,er2,hr2⟩:=c80 m (ov g st.Kernel s) hsz
       have e3:=hr2.uniq hMk.ds hr1
       subst e3
       rw [er1,er2]
       simp only [Option.bind_some]
       have hmvl:=mv_len ho hMk hu
       rcases hr1 with ⟨rfl,hno⟩ | ⟨t,w,hw1,hw2,rfl⟩
       ·have e4:decide ((-1:Int)<0)=true:=rfl
        rw [e4]
        simp only [cond_true]
        have e5:appO m [(⟨ov g st.Kernel s,([]:List Move)⟩:State)]=some (m++[⟨ov g st.Kernel s,[]⟩]):=by
         unfold appO; rw [if_pos (by simp [lim]; omega)]
        rw [e5]
        simp only [Option.bind_some]
        by_cases hfull:m.length=150
        ·have e6:decide ((150:Int)<=(m.length:Int))=true:=decide_eq_true (by omega)
         have e7:decide ((m.length:Int)=150)=true:=decide_eq_true (by omega)
         rw [e6,e7]
         exact .so ⟨rfl,rfl⟩
        ·have e6:decide ((150:Int)<=(m.length:Int))=false:=decide_eq_false (by omega)
         have e7:decide ((m.length:Int)=150)=false:=decide_eq_false (by omega)
         have hu2:=snoc_get' (ext:=[(⟨ov g st.Kernel s,[]⟩:State)]) hu
         have e8:appO u.Moves [(⟨s,(m.length:Int)⟩:Move)]=some (u.Moves++[⟨s,(m.length:Int)⟩]):=by
          unfold appO; rw [if_pos (by simp [lim]; omega)]
         rw [e6,e7]
         simp only [cond_false]
         rw [idx_of hu2]
         simp only [Option.bind_some,e8]
         have hmove:=hMk.move ho (ext:=[(⟨ov g u.Kernel s,[]⟩:State)]) (t:=m.length) hu hs (by rw [huK]; exact hne) (.inr ⟨rfl,rfl,by rw [huK]; exact hno,by omega⟩)
         rw [huK] at hmove
         refine .so ⟨hlt,rfl,rfl,?_,⟨st.Kernel,u.Moves++[⟨s,(m.length:Int)⟩]⟩,?_,rfl⟩
         ·show Mach g (List.set _ (q:Int).toNat _) q (k+1)
          rw [Int.toNat_natCast,huK]; exact hmove
         ·show (List.set _ (q:Int).toNat _)[q]?=_
          rw [Int.toNat_natCast,set_get (by rw [List.length_append]; omega),if_pos rfl,huK]
       ·have ht:=(List.getElem?_eq_some_iff.1 hw1).1
        have e4:decide ((t:Int)<0)=false:=decide_eq_false (by omega)
        have e6:decide ((150:Int)<=(t:Int))=false:=decide_eq_false (by omega)
        rw [e4]
        simp only [cond_false,Option.bind_some,e6]
        rw [idx_of hu]
        have e8:appO u.Moves [(⟨s,(t:Int)⟩:Move)]=some (u.Moves++[⟨s,(t:Int)⟩]):=by
         unfold appO; rw [if_pos (by simp [lim]; omega)]
        simp only [Option.bind_some,e8]
        have hmove:=hMk.move ho (ext:=[]) (t:=t) hu hs (by rw [huK]; exact hne) (.inl ⟨rfl,w,hw1,by rw [huK]; exact hw2⟩)
        rw [List.append_nil,huK] at hmove
        refine .so ⟨hlt,rfl,by rw [huK],?_,⟨st.Kernel,u.Moves++[⟨s,(t:Int)⟩]⟩,?_,rfl⟩
        ·show Mach g (List.set _ (q:Int).toNat _) q (k+1)
         rw [Int.toNat_natCast,huK]; exact hmove
        ·show (List.set _ (q:Int).toNat _)[q]?=_
         rw [Int.toNat_natCast,set_get hqm,if_pos rfl,huK]
     ·have hge:=of_decide_eq_false hge
      have:k=(syms g).length:=by omega
      subst this
      exact hMk
    ·rcases a with a | a <;> rcases b with b | b
     ·obtain ⟨rfl,hMe,hqa⟩:=hab
      refine .so ⟨⟨rfl,q+1,rfl,hqa,hMe.next hqa (Nat.le_refl _)⟩,?_⟩
      show 151 - ((q+1:Nat):Int).toNat<151 - (q:Int).toNat
      omega
     ·exact hab.elim
     ·exact hab.elim
     ·obtain ⟨rfl,rfl⟩:=hab
      exact .so ⟨rfl,rfl⟩
  ·have hge:=of_decide_eq_false hge
   have:q=m.length:=by omega
   subst this
   exact ⟨rfl,hM⟩
 ·rcases a with a | a <;> rcases b with b | b
  ·obtain ⟨rfl,hM⟩:=hab
   exact .so ⟨rfl,.inl ⟨rfl,hM⟩⟩
  ·exact hab.elim
  ·exact hab.elim
  ·obtain ⟨rfl,rfl⟩:=hab
   exact .so ⟨rfl,.inr ⟨rfl,rfl⟩⟩
open Go Go.Own
theorem w43:pf43=some true:=by kernel_rfl
theorem c46 (a:List State) (hm:a.length<=1000) (hk:∀ st∈a,st.Kernel.length<=1000000/\st.Moves.length<=1000000):pf46 a a=some true:=by
 suffices h:Tot (pf46 a a) fun r=>r=true by
  obtain ⟨r,hr,e⟩:=h; rw [hr,e]
 unfold pf46
 simp only [decide_true,Bool.not_true,cond_false]
 refine .by' (Ξ:=LR (fun _=>True) (fun _:Bool=>False)) ?_ fun x hx=>?_
 ·refine Tot.upto (fun s=>s) a.length (fun k s=>True) rfl (by omega) trivial fun k s hk' he _=>?_
  subst he
  rw [w64c k (by omega)]
  refine Tot.cp (fun hlt=>?_) (fun hge=>.so trivial)
  have hlt:k<a.length:=by omega
  rw [idx_nat hlt]
  have h1:=hk _ (List.getElem_mem hlt)
  generalize a[k]=st at *
  obtain ⟨c,ec,hc⟩:=c35 st.Kernel st.Kernel h1.1
  obtain ⟨d,ed,hd⟩:=c78 st.Moves st.Moves h1.2
  have e1:=hc.2 rfl
  have e2:=hd.2 rfl
  subst e1 e2
  simp only [Option.bind_some,ec,ed,Bool.not_true,cond_false]
  exact .so ⟨hlt,rfl,trivial⟩
 ·rcases x with x | x
  ·exact .so rfl
  ·exact hx.elim
theorem Ends.sz {g:Grammar}(ho:GOk g) {a:List State × Int}(h:Ends g a):a.1.length<=150/\∀ st∈a.1,st.Kernel.length<=1000000/\st.Moves.length<=1000000:=by
 rcases h with ⟨_,hM⟩ | ⟨_,e⟩
 ·refine ⟨hM.n1,fun st hst=>?_⟩
  obtain ⟨i,hi⟩:=List.getElem?_of_mem hst
  have:=mv_len ho hM hi
  exact ⟨hM.k0len ho hi,by omega⟩
 ·rw [e]
  exact ⟨by simp,fun st hst=>by cases hst⟩
theorem t11 (s:Source) (x:yuccalaw0_Gr):pf11 s x=some true:=by
 suffices h:Tot (pf11 s x) fun r=>r=true by
  obtain ⟨r,hr,e⟩:=h; rw [hr,e]
 unfold pf11
 rw [w43]
 refine Tot.sm (.by' (t18 s) fun x3 h3=>.by' (t19 x) fun x4 h4=>?_)
 refine Tot.by' (Ξ:=LR (fun _=>True) (fun _=>False)) ?_ fun r hr=>by
  rcases r with r | r
  ·exact .so rfl
  ·exact hr.elim
 refine Tot.count (fun s=>s) 2 (fun s=>0<=s) (Int.le_refl _) (by decide) fun i hi=>?_
 have up:∀ {n:Int},i<n->n<=2->(0<=w64 (i+1))/\i<w64 (i+1)/\w64 (i+1)<=n:=fun {n} h _=>by rw [w64_eq]; omega
 refine Tot.cp (fun hlt=>?_) (fun _=>.so trivial)
 obtain ⟨y,hy,hyc⟩:=two_idx x3 x4 hi hlt
 have hb:SrcB y:=by rcases hyc with rfl | rfl <;> assumption
 rw [hy]
 refine Tot.sm (.by' (t20 y hb) fun gg hgg=>Tot.cd (fun _=>.so ⟨(up hlt (Int.le_refl 2)).1,(up hlt (Int.le_refl 2)).2⟩) (fun hok=>?_))
 have ho:GOk gg.1:=hgg (by simpa using hok)
 generalize gg.1=g at ho
 obtain ⟨a,b,ea,eb,rfl,hE⟩:=c4445 g ho
 have hsz:=hE.sz ho
 rw [ea,eb]
 simp only [Option.bind_some,decide_true,Bool.not_true,cond_false,c46 a.1 (by omega) hsz.2]
 exact .so ⟨(up hlt (Int.le_refl 2)).1,(up hlt (Int.le_refl 2)).2⟩
def kw (g:Grammar) (K:List Item) (l:List Int):List Item:=l.foldl (ov g) K
theorem ov_nil (g:Grammar) (ho:GOk g) (s:Int):ov g [] s=[]:=by
 cases h:ov g [] s with
 | nil=>rfl
 | cons a l =>
  have hne:ov g [] s≠[]:=by rw [h]; simp
  obtain ⟨x,hx,_⟩:=(ov_ne ho (by simp)).1 hne
  have key:∀ x,¬ Cl g [] x:=fun x hx=>by
   induction hx with
   | base h=>cases h
   | step _ _ _ _ ih=>exact ih
  exact absurd hx (key x)
theorem kw_nil (g:Grammar) (ho:GOk g):∀ l:List Int,kw g [] l=[]
 | []=>rfl
 | s::l=>by
  show kw g (ov g [] s) l=[]
  rw [ov_nil g ho]; exact kw_nil g ho l
theorem kw_snoc (g:Grammar) (K:List Item) (l:List Int) (s:Int):kw g K (l++[s])=ov g (kw g K l) s:=by
 unfold kw; rw [List.foldl_append]; rfl
theorem kw_app (g:Grammar) (K:List Item) (l m:List Int):kw g K (l++m)=kw g (kw g K l) m:=by
 unfold kw; rw [List.foldl_append]
def Wk (m:List State) (K:List Item) (r:Int):Prop:=(K=[]/\r=-1)\/(K≠[]/\∃ (t:Nat) (u:State),r=(t:Int)/\m[t]?=some u/\u.Kernel=K)
theorem Wk.uniq {m:List State}(hd:Dst m) {K:List Item}{r r':Int}(h:Wk m K r) (h':Wk m K r'):r=r':=by
 rcases h with ⟨h1,h2⟩ | ⟨h1,t,u,h2,h3,h4⟩ <;> rcases h' with ⟨h1',h2'⟩ | ⟨h1',t',u',h2',h3',h4'⟩
 ·omega
 ·exact absurd h1 h1'
 ·exact absurd h1' h1
 ·have:=hd t t' u u' h3 h3' (h4.trans h4'.symm)
  omega
theorem ov_sym {g:Grammar}(ho:GOk g) {K:List Item}(hl:K.length<=1000000) {s:Int}(h:ov g K s≠[]):s∈syms g:=by
 obtain ⟨x,_,rfl,h0⟩:=(ov_ne ho hl).1 h
 have hn:=ho.nn
 rw [mem_syms]
 rcases (nx_ok ho h0).2.1 with h1 | h1
 ·exact .inl h1
 ·exact .inr (by omega)
theorem mv_sym {g:Grammar}(ho:GOk g) {m:List State}(hM:Mach g m m.length 0) {q:Nat}{st:State}(hst:m[q]?=some st) (s:Int):s∈st.Moves.map (·.Sym)↔ov g st.Kernel s≠[]:=by
 have hlt:=(List.getElem?_eq_some_iff.1 hst).1
 have hmv:=hM.mv q st hst
 rw [if_pos hlt] at hmv
 rw [hmv.1,List.mem_filter,decide_eq_true_eq]
 exact ⟨fun h=>h.2,fun h=>⟨ov_sym ho (hM.k0len ho hst) h,h⟩⟩
theorem mv_to {g:Grammar}{m:List State}(hM:Mach g m m.length 0) {q:Nat}{st:State}(hst:m[q]?=some st) {v:Move}(hv:v∈st.Moves):∃ (t:Nat) (u:State),v.To=(t:Int)/\m[t]?=some u/\u.Kernel=ov g st.Kernel v.Sym:=by
 have hlt:=(List.getElem?_eq_some_iff.1 hst).1
 have hmv:=hM.mv q st hst
 rw [if_pos hlt] at hmv
 exact hmv.2 v hv
theorem wk_of {g:Grammar}(ho:GOk g) {m:List State}(hM:Mach g m m.length 0) {q:Nat}{st:State}(hst:m[q]?=some st) {v:Move}(hv:v∈st.Moves):Wk m (ov g st.Kernel v.Sym) v.To:=by
 obtain ⟨t,u,h1,h2,h3⟩:=mv_to hM hst hv
 exact .inr ⟨(mv_sym ho hM hst v.Sym).1 (List.mem_map.2 ⟨v,hv,rfl⟩),t,u,h1,h2,h3⟩
theorem wk_no {g:Grammar}(ho:GOk g) {m:List State}(hM:Mach g m m.length 0) {q:Nat}{st:State}(hst:m[q]?=some st) {s:Int}(hn:∀ v∈st.Moves,v.Sym≠s):Wk m (ov g st.Kernel s) (-1):=by
 refine .inl ⟨?_,rfl⟩
 cases h:ov g st.Kernel s with
 | nil=>rfl
 | cons a l =>
  have:=(mv_sym ho hM hst s).2 (by rw [h]; simp)
  obtain ⟨v,hv,e⟩:=List.mem_map.1 this
  exact absurd e (hn v hv)
theorem c103 {g:Grammar}(ho:GOk g) {m:List State}(hM:Mach g m m.length 0) {q:Nat}{st:State}(hst:m[q]?=some st) (s:Int):Tot (pf103 m q s) (Wk m (ov g st.Kernel s)):=by
 have hmvl:=mv_len ho hM hst
 unfold pf103
 rw [idx_of hst]
 simp only [Option.bind_some]
 refine .by' (Ξ:=LR (fun _=>∀ v∈st.Moves,v.Sym≠s) (fun r:Int=>Wk m (ov g st.Kernel s) r)) ?_ fun x hx=>?_
 ·refine Tot.upto (fun s=>s) st.Moves.length (fun k _=>∀ v∈st.Moves.take k,v.Sym≠s) rfl (by omega) (by simp) fun k z hk he hI=>?_
  subst he
  rw [w64c k (by omega)]
  refine Tot.cp (fun hlt=>?_) (fun hge=>.so ?_)
  ·have hlt:k<st.Moves.length:=by omega
   rw [idx_nat hlt]
   simp only [Option.bind_some]
   refine Tot.cp (fun e=>.so ?_) (fun e=>.so ⟨hlt,rfl,fun v hv=>?_⟩)
   ·have:=wk_of ho hM hst (List.getElem_mem hlt)
    rw [e] at this; exact this
   ·rw [take_snoc' hlt] at hv
    rcases List.mem_append.1 hv with hv | hv
    ·exact hI v hv
    ·rw [List.mem_singleton.1 hv]; exact e
  ·rw [List.take_of_length_le (by omega)] at hI
   exact hI
 ·rcases x with x | x
  ·exact .so (wk_no ho hM hst hx)
  ·exact .so hx
theorem c52 {g:Grammar}(ho:GOk g) {m:List State}(hM:Mach g m m.length 0) (l:List Int) (hl:l.length<=1000000):Tot (pf52 m l) (Wk m (kw g [⟨0,0⟩] l)):=by
 obtain ⟨st0,h0,hk0⟩:=hM.k0
 unfold pf52 pf85
 refine .by' (Ξ:=Wk m (kw g [⟨0,0⟩] l)) ?_ fun r hr=>.so hr
 refine .by' (Ξ:=LR (fun r:Int=>Wk m (kw g [⟨0,0⟩] l) r) (fun r:Int=>Wk m (kw g [⟨0,0⟩] l) r)) ?_ fun x hx=>?_
 ·refine Tot.upto (fun s=>s.2) l.length (fun k s=>∃ (q:Nat) (st:State),s.1=(q:Int)/\m[q]?=some st/\st.Kernel=kw g [⟨0,0⟩] (l.take k)/\st.Kernel≠[]) rfl (by omega) ⟨0,st0,rfl,h0,hk0,by rw [hk0]; simp⟩ fun k s hk he hI=>?_
  obtain ⟨q',k'⟩:=s
  obtain ⟨q,st,hq,hst,hK,hne⟩:=hI
  simp only at he hq ⊢
  subst he hq
  rw [w64c k (by omega)]
  refine Tot.cp (fun hlt=>?_) (fun hge=>.so ?_)
  ·have hlt:k<l.length:=by omega
   rw [idx_nat hlt]
   have htk:=take_snoc' hlt
   have hdr:l=l.take (k+1)++l.drop (k+1):=(List.take_append_drop _ _).symm
   generalize l[k]=s at *
   have hk1:kw g [⟨0,0⟩] (l.take (k+1))=ov g st.Kernel s:=by rw [htk,kw_snoc,hK]
   simp only [Option.bind_some]
   refine .by' (c103 ho hM hst s) fun r hr=>?_
   rcases hr with ⟨h1,rfl⟩ | ⟨h1,t,u,rfl,h2,h3⟩
   ·have e:decide ((-1:Int)<0)=true:=rfl
    rw [e]
    refine .so (.inl ⟨?_,rfl⟩)
    rw [hdr,kw_app,hk1,h1]
    exact kw_nil g ho _
   ·have e:decide ((t:Int)<0)=false:=decide_eq_false (by omega)
    rw [e]
    exact .so ⟨hlt,rfl,t,u,rfl,h2,by rw [hk1,h3],by rw [h3]; exact h1⟩
  ·rw [List.take_of_length_le (by omega)] at hK
   exact .inr ⟨by rw [<- hK]; exact hne,q,st,rfl,hst,hK⟩
 ·rcases x with x | x
  ·exact .so hx
  ·exact .so hx
end Go.Proofs
