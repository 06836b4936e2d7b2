/-
  What is proved here: parts of the proof that the last text states: rules for walks through code, and of this program's functions what they answer. No condition of their own.
-/
import Derived.Test.YtmddbjglblcegaaE3
namespace Go.Proofs
open Go Go.Own
set_option maxRecDepth 100000
set_option linter.unusedVariables false
theorem nd_len {α:Type} [DecidableEq α]:∀ (l m:List α),l.Nodup→(∀ x∈l,x∈m)→l.length≤m.length
 | [],_,_,_=>Nat.zero_le _
 | x::l,m,hd,hm=>by
  have hx:=hm x (by simp)
  have hd':=List.nodup_cons.1 hd
  have:=nd_len l (m.erase x) hd'.2 fun y hy=>by
   have hne:y≠x:=fun e=>hd'.1 (e ▸ hy)
   exact (List.mem_erase_of_ne hne).2 (hm y (by simp [hy]))
  have hl:=List.length_erase_of_mem hx
  have hp:=List.length_pos_of_mem hx
  simp only [List.length_cons]
  omega
theorem k91 (m:Mk) (x:Sym) (h:m.f_g.Toks.length≤100000000000):Tot (pf91 m x) fun r=>(r=-1∧∀ (i:Nat) (t:Tok),1≤i→i≠2→m.f_g.Toks[i]?=some t→¬ (t.Name=x.Name∧t.Lit=x.Lit)) ∨
  (1≤r∧r<m.f_g.Toks.length∧r≠2∧∃ t,m.f_g.Toks[r.toNat]?=some t∧t.Name=x.Name∧t.Lit=x.Lit):=by
 unfold pf91
 refine Tot.by' (Ξ:=LR (fun _=>∀ (i:Nat) (t:Tok),1≤i→i≠2→m.f_g.Toks[i]?=some t→¬ (t.Name=x.Name∧t.Lit=x.Lit)) (fun r=>1≤r∧r<m.f_g.Toks.length∧r≠2∧∃ t,m.f_g.Toks[r.toNat]?=some t∧t.Name=x.Name∧t.Lit=x.Lit)) ?_ fun x hx=>?_
 ·refine Tot.count (fun j=>j) m.f_g.Toks.length (fun j=>1≤j∧∀ (i:Nat) (t:Tok),(i:Int)<j→1≤i→i≠2→m.f_g.Toks[i]?=some t→¬ (t.Name=x.Name∧t.Lit=x.Lit)) ⟨by decide,fun i t h1 h2=>by omega⟩ (by show (m.f_g.Toks.length:Int) - 1<_; omega) fun j hj=>?_
  obtain ⟨h1,hall⟩:=hj
  refine Tot.cp (fun h2=>?_) (fun h2=>.so fun i t a b c=>hall i t (by have:=(List.getElem?_eq_some_iff.1 c).1; omega) a b c)
  have e:w64 (j+1)=j+1:=by rw [w64_eq]; omega
  rw [e]
  obtain ⟨y,hy,hm⟩:=idx_some' (l:=m.f_g.Toks) (i:=j) (by omega) h2
  have hy':=(idx_spec hy).2.2
  rw [hy]
  refine Tot.sm (.by' (Ξ:=fun c=>(c=true→j≠2∧y.Name=x.Name∧y.Lit=x.Lit)∧(c=false→j=2∨¬ (y.Name=x.Name∧y.Lit=x.Lit))) ?_ fun c hc=>Tot.cd (fun h=>?_) (fun h=>?_))
  ·refine Tot.cp (fun hn=>?_) (fun hn=>.so ⟨fun h=>(by cases h),fun _=>.inr fun e=>hn e.1⟩)
   refine Tot.cd (fun hl=>.so ⟨fun h=>⟨by simpa using h,hn,by simpa using hl⟩,fun h=>.inl (by simpa using h)⟩) (fun hl=>.so ⟨fun h=>(by cases h),fun _=>.inr fun e=>by simp [e.2] at hl⟩)
  ·obtain ⟨a,b⟩:=hc.1 h
   exact .so ⟨h1,h2,a,y,hy',b⟩
  ·refine .so ⟨⟨?_,fun i t a b c d=>?_⟩,?_,?_⟩
   ·show 1≤j+1; omega
   ·have a:(i:Int)<j+1:=a
    by_cases hij:(i:Int)<j
    ·exact hall i t hij b c d
    ·have:i=j.toNat:=by omega
     rw [this,hy'] at d
     cases d
     rcases hc.2 h with e | e
     ·exact absurd e (by omega)
     ·exact e
   ·show j<j+1; omega
   ·show j+1≤(m.f_g.Toks.length:Int); omega
 ·rcases x with _ | r
  ·exact .so (.inl ⟨rfl,hx⟩)
  ·exact .so (.inr hx)
theorem k108 (m:Mk) (n:Int) (h:m.f_g.Toks.length≤100000000000):Tot (pf108 m n) fun r=>r=-1∨(3≤r∧∃ t,m.f_g.Toks[r.toNat]?=some t∧t.Num=n):=by
 unfold pf108
 refine Tot.by' (Ξ:=LR (fun _=>True) (fun r=>3≤r∧∃ t,m.f_g.Toks[r.toNat]?=some t∧t.Num=n)) ?_ fun x hx=>?_
 ·refine Tot.count (fun j=>j) m.f_g.Toks.length (fun j=>3≤j) (by decide) (by show (m.f_g.Toks.length:Int) - 3<_; omega) fun j hj=>?_
  refine Tot.cp (fun h2=>?_) (fun _=>.so trivial)
  have e:w64 (j+1)=j+1:=by rw [w64_eq]; omega
  rw [e]
  obtain ⟨y,hy,hm⟩:=idx_some' (l:=m.f_g.Toks) (i:=j) (by omega) h2
  rw [hy]
  refine Tot.sm (Tot.cp (fun hn=>.so ⟨hj,y,(idx_spec hy).2.2,hn⟩) (fun _=>.so ⟨?_,?_,?_⟩))
  ·show 3≤j+1; omega
  ·show j<j+1; omega
  ·show j+1≤(m.f_g.Toks.length:Int); omega
 ·rcases x with _ | r
  ·exact .so (.inl rfl)
  ·exact .so (.inr hx)
structure K0 (m:Mk) (ns:List ByteArray):Prop where
 e:m.f_e=0
 tk:∃ l:List Tok,m.f_g.Toks=T3++l∧l.map (·.Name)=ns∧∀ t∈l,t.Lit=true∧t.Name∈Ltr∧t.Num=byteAt t.Name 0∧t.Tag=nE
 gv:m.f_given.length=m.f_g.Toks.length
 nd:ns.Nodup
theorem K0.mem {m:Mk}{ns:List ByteArray}(h:K0 m ns):∀ n∈ns,n∈Ltr:=by
 obtain ⟨l,_,rfl,hl⟩:=h.tk
 intro n hn
 obtain ⟨t,ht,rfl⟩:=List.mem_map.1 hn
 exact (hl t ht).2.1
theorem K0.len {m:Mk}{ns:List ByteArray}(h:K0 m ns):m.f_g.Toks.length=3+ns.length∧ns.length≤4:=by
 have h4:=nd_len ns Ltr h.nd h.mem
 obtain ⟨l,e,rfl,hl⟩:=h.tk
 refine ⟨by rw [e]; simp [T3]; omega,h4⟩
theorem byte_inj {a b:ByteArray}(ha:a∈Ltr) (hb:b∈Ltr) (h:byteAt a 0=byteAt b 0):a=b:=by
 simp only [Ltr,List.mem_cons,List.not_mem_nil,or_false] at ha hb
 rcases ha with rfl | rfl | rfl | rfl <;> rcases hb with rfl | rfl | rfl | rfl <;> first | rfl | exact absurd h (by decide)
theorem lt_spec {x:Sym}(h:x∈LT):x.Lit=true∧x.Name∈Ltr∧x.Num=0∧x.At=0∧(x.Name.size=1)∧bidx x.Name 0=some (byteAt x.Name 0)∧w64 (byteAt x.Name 0)=byteAt x.Name 0:=by
 simp only [LT,List.mem_cons,List.not_mem_nil,or_false] at h
 rcases h with rfl | rfl | rfl | rfl <;> exact ⟨rfl,by simp [Ltr],rfl,rfl,rfl,rfl,rfl⟩
structure Rs (m m':Mk):Prop where
 lf:m'.f_lefts=m.f_lefts
 pr:m'.f_g.Prods=m.f_g.Prods
 inn:m'.f_inner=m.f_inner
 ty:m'.f_types=m.f_types
 lvl:m'.f_level=m.f_level
theorem Rs.rf (m:Mk):Rs m m:=⟨rfl,rfl,rfl,rfl,rfl⟩
theorem k107 (m:Mk) (x:Sym) {ns:List ByteArray}(h:K0 m ns) (hx:x∈LT) :
  Tot (pf107 m x) fun r=>(x.Name∈ns∧r.2=m∧0≤r.1)∨(x.Name∉ns∧K0 r.2 (ns++[x.Name])∧Rs m r.2∧r.1=m.f_g.Toks.length∧r.2.f_g.Toks=m.f_g.Toks++[⟨x.Name,true,byteAt x.Name 0,0,0,nE⟩]):=by
 unfold pf107
 obtain ⟨hlen,h4⟩:=h.len
 obtain ⟨x1,x2,x3,x4,x5,x6,x7⟩:=lt_spec hx
 refine .by' (k91 m x (by omega)) fun r hr=>Tot.cp (fun h0=>.so (.inl ⟨?_,rfl,h0⟩)) (fun h0=>?_)
 ·rcases hr with ⟨rfl,_⟩ | ⟨a,b,c,t,d,e,f⟩
  ·exact absurd h0 (by decide)
  ·obtain ⟨l,el,rfl,hl⟩:=h.tk
   rw [el] at d
   by_cases h3:r.toNat<3
   ·have:t∈T3:=by
     rw [List.getElem?_append_left (by exact h3)] at d
     exact List.mem_of_getElem? d
    have:t.Lit=false:=by
     simp only [T3,List.mem_cons,List.not_mem_nil,or_false] at this
     rcases this with rfl | rfl | rfl <;> rfl
    rw [f,x1] at this; cases this
   ·rw [List.getElem?_append_right (by show 3≤r.toNat; omega)] at d
    rw [← e]
    exact List.mem_map.2 ⟨t,List.mem_of_getElem? d,rfl⟩
 ·rcases hr with ⟨rfl,hno⟩ | ⟨a,_⟩
  ·rw [x1,x6]
   have hnot:x.Name∉ns:=fun hin=>by
    obtain ⟨l,el,rfl,hl⟩:=h.tk
    obtain ⟨t,ht,e⟩:=List.mem_map.1 hin
    obtain ⟨j,hj,rfl⟩:=List.mem_iff_getElem.1 ht
    refine hno (j+3) l[j] (by omega) (by omega) ?_ ⟨e,by rw [(hl _ ht).1,x1]⟩
    rw [el,List.getElem?_append_right (by show 3≤j+3; omega)]
    show l[j+3 - 3]?=_
    rw [show j+3 - 3=j by omega,List.getElem?_eq_getElem hj]
   refine .by' (Ξ:=fun j=>j=(m,byteAt x.Name 0)) ?_ fun j hj=>?_
   ·refine Tot.cd (fun _=>Tot.sm ?_) (fun h=>by cases h)
    rw [x7]
    refine .by' (k108 m _ (by omega)) fun o ho=>.by' (Ξ:=fun j=>j=m) ?_ fun j hj=>.so (by rw [hj])
    refine Tot.cp (fun h0=>?_) (fun _=>.so rfl)
    rcases ho with rfl | ⟨h3,t,d,e⟩
    ·exact absurd h0 (by decide)
    ·refine absurd ?_ hnot
     obtain ⟨l,el,rfl,hl⟩:=h.tk
     rw [el,List.getElem?_append_right (by show 3≤o.toNat; omega)] at d
     have ht:=List.mem_of_getElem? d
     have:=hl t ht
     rw [this.2.2.1] at e
     rw [← byte_inj this.2.1 x2 e]
     exact List.mem_map.2 ⟨t,ht,rfl⟩
   ·subst hj
    have hgv:=h.gv
    refine .by' (Ξ:=fun _=>True) (Tot.ap (by simp [lim]; omega) trivial) fun _ _=>.by' (Ξ:=fun _=>True) (Tot.ap (by simp [lim]; omega) trivial) fun _ _=>.so (.inr ⟨hnot,⟨h.e,?_,?_,?_⟩,⟨rfl,rfl,rfl,rfl,rfl⟩,?_,rfl⟩)
    ·obtain ⟨l,el,rfl,hl⟩:=h.tk
     refine ⟨l++[⟨x.Name,true,byteAt x.Name 0,0,0,nE⟩],?_,by simp,fun t ht=>?_⟩
     ·show m.f_g.Toks++[_]=_
      rw [el,List.append_assoc]
     ·rcases List.mem_append.1 ht with ht | ht
      ·exact hl t ht
      ·rw [List.mem_singleton.1 ht]
       exact ⟨rfl,x2,rfl,rfl⟩
    ·show (m.f_given++[true]).length=(m.f_g.Toks++[_]).length
     simp [hgv]
    ·rw [List.nodup_append]
     refine ⟨h.nd,by simp,fun a ha b hb e=>?_⟩
     rw [List.mem_singleton.1 hb] at e
     exact hnot (e ▸ ha)
    ·show w64 (((m.f_g.Toks++[_]).length:Int) - 1)=_
     rw [w64_eq]; simp; omega
  ·exact absurd (by omega) h0
theorem k89 (m:Mk) (d:Decl) (x:Sym) {ns:List ByteArray}(h:K0 m ns) (hd:DeclN d) (hx:x∈LT) (hn:x.Name∉ns) :
  Tot (pf89 m d x) fun m'=>K0 m' (ns++[x.Name])∧Rs m m':=by
 unfold pf89
 obtain ⟨x1,x2,x3,x4,x5,x6,x7⟩:=lt_spec hx
 have hk:=hd.kind
 obtain ⟨hlen,h4⟩:=h.len
 refine Tot.cp (fun h=>absurd h (by omega)) (fun _=>.by' (k107 m x h hx) fun r hr=>?_)
 rcases hr with ⟨a,_⟩ | ⟨_,hK,hR,h1,hT⟩
 ·exact absurd a hn
 obtain ⟨t,m1⟩:=r
 simp only at hK hR h1 hT ⊢
 subst h1
 have hi:∀ v:Tok,idx (m.f_g.Toks++[v]) (m.f_g.Toks.length:Int)=some v:=fun v=>by
  simp [idx]
 rw [hT,hi]
 refine Tot.sm (.by' (Ξ:=fun j=>∃ v:Tok,v.Name=x.Name∧v.Lit=true∧v.Num=byteAt x.Name 0∧v.Tag=nE∧j=⟨⟨m.f_g.Toks++[v],m1.f_g.Nons,m1.f_g.Prods,m1.f_g.Pro,m1.f_g.Tail⟩,m1.f_given,m1.f_types,m1.f_lefts,m1.f_e,m1.f_at,m1.f_name,m1.f_level,m1.f_inner⟩) ?_ fun j hj=>?_)
 ·refine Tot.cn (fun _=>?_) (fun h=>absurd h (by omega))
  refine .by' (Ξ:=fun j=>j=m1) (Tot.cp (fun h=>absurd h (by show ¬ (0:Int)<0; decide)) (fun _=>.so rfl)) fun j hj=>?_
  subst hj
  rw [hT,hi]
  refine Tot.sm (.so ⟨⟨x.Name,true,byteAt x.Name 0,j.f_level,w64 (d.Kind - 1),nE⟩,rfl,rfl,rfl,rfl,?_⟩)
  have hs:∀ v u:Tok,(m.f_g.Toks++[v]).set ((m.f_g.Toks.length:Int)).toNat u=m.f_g.Toks++[u]:=fun v u=>by
   simp
  simp only [hs]
 ·obtain ⟨v,v1,v2,v3,v4,rfl⟩:=hj
  simp only
  rw [hi]
  refine Tot.sm (.by' (Ξ:=fun j=>j=⟨⟨m.f_g.Toks++[v],m1.f_g.Nons,m1.f_g.Prods,m1.f_g.Pro,m1.f_g.Tail⟩,m1.f_given,m1.f_types,m1.f_lefts,m1.f_e,m1.f_at,m1.f_name,m1.f_level,m1.f_inner⟩) (Tot.cp (fun h=>absurd h (by omega)) (fun _=>.so rfl)) fun j hj=>?_)
  subst hj
  simp only
  rw [hi]
  refine Tot.sm (.by' (Ξ:=fun j=>j=⟨⟨m.f_g.Toks++[v],m1.f_g.Nons,m1.f_g.Prods,m1.f_g.Pro,m1.f_g.Tail⟩,m1.f_given,m1.f_types,m1.f_lefts,m1.f_e,m1.f_at,m1.f_name,m1.f_level,m1.f_inner⟩) (Tot.cn (fun h=>absurd hd.tag h) (fun _=>.so rfl)) fun j hj=>.so ?_)
  subst hj
  refine ⟨⟨hK.e,?_,?_,hK.nd⟩,hR.lf,hR.pr,hR.inn,hR.ty,hR.lvl⟩
  ·obtain ⟨l,el,rfl,hl⟩:=h.tk
   refine ⟨l++[v],?_,by simp [v1],fun t ht=>?_⟩
   ·show m.f_g.Toks++[v]=_
    rw [el,List.append_assoc]
   ·rcases List.mem_append.1 ht with ht | ht
    ·exact hl t ht
    ·rw [List.mem_singleton.1 ht,v1]
     exact ⟨v2,x2,v3,v4⟩
  ·have:=hK.gv
   rw [hT] at this
   show m1.f_given.length=(m.f_g.Toks++[v]).length
   rw [this]; simp
theorem k109 (m:Mk) (p:Part) {ns L:List ByteArray}(h:K0 m ns) (hL:∀ n∈L,n∈m.f_lefts) (hlf:m.f_lefts.length≤100000) (hp:PartN L p) (hc:p.Code=nE) :
  Tot (pf109 m p.Sym) fun r=>(∃ ns',K0 r.2 ns')∧Rs m r.2:=by
 obtain ⟨hlen,h4⟩:=h.len
 unfold pf109
 rcases hp with ⟨x,hx,rfl⟩ | ⟨x,hx,rfl,hn⟩ | rfl | rfl
 ·obtain ⟨x1,_⟩:=lt_spec hx
  refine Tot.cd (fun _=>?_) (fun h=>by rw [x1] at h; cases h)
  refine .by' (k107 m x h hx) fun r hr=>.so ?_
  rcases hr with ⟨_,e,_⟩ | ⟨_,hK,hR,_⟩
  ·show (∃ ns',K0 r.2 ns')∧Rs m r.2
   rw [e]
   exact ⟨⟨ns,h⟩,Rs.rf m⟩
  ·exact ⟨⟨_,hK⟩,hR⟩
 ·have hlit:x.Lit=false:=by
   simp only [NT,List.mem_cons,List.not_mem_nil,or_false] at hx
   rcases hx with rfl | rfl | rfl | rfl | rfl <;> rfl
  refine Tot.cd (fun h=>by rw [hlit] at h; cases h) (fun _=>?_)
  refine .by' (t92 m x.Name (by simp only [big]; omega)) fun k hk=>Tot.cp (fun _=>.so ⟨⟨ns,h⟩,Rs.rf m⟩) (fun h0=>?_)
  rcases hk with ⟨rfl,hno⟩ | ⟨a,_⟩
  ·refine .by' (k91 m x (by omega)) fun t ht=>Tot.cp (fun hlt=>?_) (fun _=>.so ⟨⟨ns,h⟩,Rs.rf m⟩)
   exfalso
   rcases ht with ⟨rfl,hno2⟩ | ⟨a,_⟩
   ·rcases List.mem_cons.1 hn with e | e
    ·obtain ⟨l,el,_,_⟩:=h.tk
     exact hno2 1 ⟨nErr,false,(-1),0,0,nE⟩ (by omega) (by omega) (by rw [el]; rfl) ⟨e.symm,hlit.symm⟩
    ·exact hno _ (hL _ e) rfl
   ·omega
  ·exact absurd a h0
 ·exact absurd hc (by decide)
 ·exact absurd hc (by decide)
end Go.Proofs
namespace Go.Proofs
open Go Go.Own
set_option maxRecDepth 100000
set_option linter.unusedVariables false
structure KA (m:Mk) (lf:List ByteArray) (Q I:Nat):Prop where
 k:∃ ns,K0 m ns
 lf:m.f_lefts=lf
 q:m.f_g.Prods.length≤Q
 i:0≤m.f_inner∧m.f_inner≤I
 r:∀ p∈m.f_g.Prods,p.Right.length≤8
 ty:m.f_types.length≤100
theorem KA.mono {m:Mk}{lf:List ByteArray}{Q I Q' I':Nat}(h:KA m lf Q I) (hQ:Q≤Q') (hI:I≤I'):KA m lf Q' I' :=
 ⟨h.k,h.lf,Nat.le_trans h.q hQ,⟨h.i.1,by have:=h.i.2; omega⟩,h.r,h.ty⟩
theorem KA.rs {m m':Mk}{lf:List ByteArray}{Q I:Nat}(h:KA m lf Q I) (hk:∃ ns,K0 m' ns) (hr:Rs m m'):KA m' lf Q I :=
 ⟨hk,hr.lf.trans h.lf,by rw [hr.pr]; exact h.q,by rw [hr.inn]; exact h.i,by rw [hr.pr]; exact h.r,by rw [hr.ty]; exact h.ty⟩
theorem codes_take (l:List Part) (i:Nat) (h:i<l.length):codes (l.take (i+1))=codes (l.take i)+(if l[i].Code=nE then 0 else 1):=by
 rw [List.take_add_one,List.getElem?_eq_getElem h]
 unfold codes
 rw [List.filter_append,List.length_append]
 congr 1
 by_cases hc:l[i].Code=nE <;> simp [hc]
theorem k93 (m:Mk) (left:ByteArray) (a:Alt) {lf:List ByteArray}{Q I:Nat}(h:KA m lf Q I) (hlf:lf.length≤100) (hQ:Q≤100) (hI:I≤100) {L:List ByteArray}(hL:∀ n∈L,n∈lf) (ha:AltN L a) :
  Tot (pf93 m left a) fun m'=>KA m' lf (Q+codes a.Parts+1) (I+codes a.Parts):=by
 unfold pf93
 have hn:=ha.n
 refine .by' (t92 m left (by rw [h.lf]; simp only [big]; omega)) fun x1 hx1=>?_
 refine Tot.by' (Ξ:=fun x3=>KA x3.1 lf (Q+codes a.Parts) (I+codes a.Parts)∧x3.2.1.length≤6) ?_ fun x3 hx3=>?_
 ·refine Tot.count (fun s=>s.2.2.2.2) a.Parts.length (fun s=>0≤s.2.2.2.2∧s.2.2.2.2≤a.Parts.length∧KA s.1 lf (Q+codes (a.Parts.take s.2.2.2.2.toNat)) (I+codes (a.Parts.take s.2.2.2.2.toNat))∧(s.2.1.length:Int)≤s.2.2.2.2) ⟨by show (0:Int)≤0; omega,by show (0:Int)≤_; omega,h,Int.le_refl 0⟩ (by show (a.Parts.length:Int) - 0<_; omega) fun s hs=>?_
  obtain ⟨m1,rt,cd,at_,i⟩:=s
  obtain ⟨h0,h1,hj,hl⟩:=hs
  simp only at h0 h1 hj hl ⊢
  have hw:w64 (i+1)=i+1:=by rw [w64_eq]; omega
  refine Tot.cp (fun hlt=>?_) (fun hge=>.so ⟨?_,?_⟩)
  ·have hlt':i.toNat<a.Parts.length:=by omega
   have hidx:idx a.Parts i=some a.Parts[i.toNat]:=by simp [idx,h0,hlt']
   have hct:=codes_take a.Parts i.toNat hlt'
   have hcl:codes (a.Parts.take i.toNat)≤6:=by
    unfold codes
    refine Nat.le_trans (List.length_filter_le _ _) ?_
    rw [List.length_take]; omega
   have hp:=ha.parts _ (List.getElem_mem hlt')
   have e1:(i+1).toNat=i.toNat+1:=by omega
   refine Tot.by' (Ξ:=fun j=>KA j.1 lf (Q+codes (a.Parts.take (i.toNat+1))) (I+codes (a.Parts.take (i.toNat+1)))∧(j.2.1.length:Int)≤i+1) ?_ fun j hj6=>?_
   ·rw [hidx]
    generalize a.Parts[i.toNat]=y at hp hct
    refine Tot.sm ?_
    refine Tot.by' (Ξ:=fun j=>KA j.1 lf (Q+codes (a.Parts.take (i.toNat+1))) (I+codes (a.Parts.take (i.toNat+1)))∧(j.2.1.length:Int)≤i+1) ?_ fun j hj8=>.so hj8
    refine Tot.by' (Ξ:=fun j=>KA j.1 lf (Q+codes (a.Parts.take (i.toNat+1))) (I+codes (a.Parts.take (i.toNat+1)))∧(j.2.1.length:Int)≤i+1) ?_ fun j hj8=>.so hj8
    refine Tot.cp (fun hc=>?_) (fun hc=>?_)
    ·obtain ⟨ns,hk⟩:=hj.k
     refine .by' (k109 m1 y hk (by rw [hj.lf]; exact hL) (by rw [hj.lf]; omega) hp hc) fun r ⟨hk',hr⟩=>?_
     refine .by' (Ξ:=fun _=>True) (Tot.ap (by simp [lim]; omega) trivial) fun _ _=>.so ⟨(hj.rs hk' hr).mono (by omega) (by omega),by show (((rt++[_]).length:Nat):Int)≤_; simp; omega⟩
    ·rw [if_neg hc] at hct
     refine Tot.by' (Ξ:=fun j=>KA (⟨(⟨m1.f_g.Toks,m1.f_g.Nons,j.1,m1.f_g.Pro,m1.f_g.Tail⟩:Grammar),m1.f_given,m1.f_types,m1.f_lefts,m1.f_e,m1.f_at,m1.f_name,m1.f_level,j.2.1⟩:yuccaref9_maker) lf (Q+codes (a.Parts.take (i.toNat+1))) (I+codes (a.Parts.take (i.toNat+1)))∧(j.2.2.1.length:Int)≤i+1) ?_ fun j hj9=>.so hj9
     obtain ⟨ns,hk⟩:=hj.k
     have hin:=hj.i
     have hq:=hj.q
     refine Tot.cp (fun _=>.so ⟨?_,by show (rt.length:Int)≤_; omega⟩) (fun _=>?_)
     ·exact ⟨⟨ns,⟨hk.e,hk.tk,hk.gv,hk.nd⟩⟩,hj.lf,by show m1.f_g.Prods.length≤_; omega,⟨hin.1,by show m1.f_inner≤_; omega⟩,hj.r,hj.ty⟩
     ·have w1:w64 (m1.f_inner+1)=m1.f_inner+1:=by rw [w64_eq]; omega
      rw [w1]
      refine .by' (Ξ:=fun _=>True) (Tot.ap (by simp [lim]; omega) trivial) fun _ _=>.by' (Ξ:=fun _=>True) (Tot.ap (by simp [lim]; omega) trivial) fun _ _=>.by' (Ξ:=fun _=>True) (Tot.ap (by simp [lim]; omega) trivial) fun _ _=>.so ⟨⟨⟨ns,⟨hk.e,hk.tk,hk.gv,hk.nd⟩⟩,hj.lf,?_,⟨?_,?_⟩,fun p hp=>?_,hj.ty⟩,?_⟩
      ·show (m1.f_g.Prods++[_]).length≤_; simp; omega
      ·show 0≤m1.f_inner+1; omega
      ·show m1.f_inner+1≤_; omega
      ·rcases List.mem_append.1 hp with hp | hp
       ·exact hj.r p hp
       ·rw [List.mem_singleton.1 hp]; exact Nat.zero_le _
      ·show (((rt++[_]).length:Nat):Int)≤_; simp; omega
   ·rw [hw]
    refine .so ⟨⟨?_,?_,?_,?_⟩,?_,?_⟩
    ·show (0:Int)≤i+1; omega
    ·show i+1≤(a.Parts.length:Int); omega
    ·show KA j.1 lf (Q+codes (a.Parts.take (i+1).toNat)) (I+codes (a.Parts.take (i+1).toNat))
     rw [e1]; exact hj6.1
    ·exact hj6.2
    ·show i<i+1; omega
    ·show i+1≤(a.Parts.length:Int); omega
  ·have:a.Parts.take i.toNat=a.Parts:=List.take_of_length_le (by omega)
   rw [this] at hj
   exact hj
  ·show rt.length≤6; omega
 ·obtain ⟨hj,hr⟩:=hx3
  refine Tot.by' (Ξ:=fun _=>True) ?_ fun pr hpr=>?_
  ·refine Tot.count (fun s=>s.2) x3.2.1.length (fun s=>0≤s.2) (Int.le_refl 0) (by show (x3.2.1.length:Int) - 0<_; omega) fun s hs=>?_
   have hs:0≤s.2:=hs
   refine Tot.cp (fun hlt=>?_) (fun _=>.so trivial)
   have hw:w64 (s.2+1)=s.2+1:=by rw [w64_eq]; omega
   rw [hw]
   refine Tot.by' (Ξ:=fun _=>True) ?_ fun p hp=>.so ⟨?_,?_,?_⟩
   ·obtain ⟨y,hy,hm⟩:=idx_some' hs hlt
    rw [hy]
    refine Tot.sm (.by' (Ξ:=fun _=>True) (Tot.cp (fun _=>Tot.sm (.so trivial)) (fun _=>.so trivial)) fun _ _=>.so trivial)
   ·show (0:Int)≤s.2+1; omega
   ·show s.2<s.2+1; omega
   ·show s.2+1≤(x3.2.1.length:Int); omega
  ·refine Tot.by' (Ξ:=fun j=>j.1=x3.1) (Tot.cn (fun h=>absurd (by rw [ha.prec]) h) (fun _=>.so rfl)) fun j hj27=>?_
   have hcl:codes a.Parts≤6:=by
    unfold codes
    exact Nat.le_trans (List.length_filter_le _ _) hn
   have hq:=hj.q
   rw [hj27]
   obtain ⟨ns,hk⟩:=hj.k
   refine .by' (Ξ:=fun _=>True) (Tot.ap (by simp [lim]; omega) trivial) fun _ _=>.by' (Ξ:=fun _=>True) (Tot.ap (by simp [lim]; omega) trivial) fun _ _=>.so ⟨⟨ns,⟨hk.e,hk.tk,hk.gv,hk.nd⟩⟩,hj.lf,?_,hj.i,fun p hp=>?_,hj.ty⟩
   ·show (x3.1.f_g.Prods++[_]).length≤_; simp; omega
   ·rcases List.mem_append.1 hp with hp | hp
    ·exact hj.r p hp
    ·rw [List.mem_singleton.1 hp]
     show x3.2.1.length≤8; omega
end Go.Proofs
namespace Go.Proofs
open Go Go.Own
set_option maxRecDepth 100000
set_option linter.unusedVariables false
theorem names_take (l:List Decl) (i:Nat) (h:i<l.length):names (l.take (i+1))=names (l.take i)++(l[i].Syms).map (·.Name):=by
 rw [List.take_add_one,List.getElem?_eq_getElem h]
 unfold names
 rw [List.flatMap_append,List.map_append]
 exact congrArg _ (congrArg _ (List.append_nil _))
theorem nA_take (l:List Rule) (i:Nat) (h:i<l.length):nA (l.take (i+1))=nA (l.take i)+l[i].Alts.length:=by
 rw [List.take_add_one,List.getElem?_eq_getElem h]
 unfold nA
 rw [List.map_append,List.sum_append]
 rfl
theorem nC_take (l:List Rule) (i:Nat) (h:i<l.length):nC (l.take (i+1))=nC (l.take i)+cA l[i].Alts:=by
 rw [List.take_add_one,List.getElem?_eq_getElem h]
 unfold nC
 rw [List.map_append,List.sum_append]
 rfl
theorem cA_take (l:List Alt) (i:Nat) (h:i<l.length):cA (l.take (i+1))=cA (l.take i)+codes l[i].Parts:=by
 rw [List.take_add_one,List.getElem?_eq_getElem h]
 unfold cA
 rw [List.map_append,List.sum_append]
 rfl
theorem sum_take (l:List Nat) (i:Nat):(l.take i).sum≤l.sum:=by
 have:=congrArg List.sum (List.take_append_drop i l)
 rw [List.sum_append] at this
 omega
theorem nA_le (l:List Rule) (i:Nat):nA (l.take i)≤nA l:=by
 unfold nA
 rw [List.map_take]
 exact sum_take ..
theorem nC_le (l:List Rule) (i:Nat):nC (l.take i)≤nC l:=by
 unfold nC
 rw [List.map_take]
 exact sum_take ..
theorem cA_le (l:List Alt) (i:Nat):cA (l.take i)≤cA l:=by
 unfold cA
 rw [List.map_take]
 exact sum_take ..
theorem K0.lvl {m:Mk}{ns:List ByteArray}(h:K0 m ns) (l:Int):K0 (⟨m.f_g,m.f_given,m.f_types,m.f_lefts,m.f_e,m.f_at,m.f_name,l,m.f_inner⟩:yuccaref9_maker) ns:=⟨h.e,h.tk,h.gv,h.nd⟩
structure KD (m:Mk) (ns:List ByteArray):Prop where
 k:K0 m ns
 lf:m.f_lefts=[]
 pr:m.f_g.Prods=[]
 inn:m.f_inner=0
 ty:m.f_types=[]
theorem n61 (s:Source) (h:SrcN s):Tot (pf61 s) fun r=>r.2.1=0:=by
 unfold pf61
 have hrn:=h.rn
 have hdn:=h.dn
 have hna:=h.na
 have hnc:=h.nc
 refine .by' (n88 h) fun c hc=>?_
 subst hc
 refine Tot.cd (fun h=>by cases h) (fun _=>?_)
 refine .by' (Ξ:=fun l=>l=[false,false,false]) ⟨_,rfl,rfl⟩ fun x3 hx3=>?_
 subst hx3
 -- declarations
 refine Tot.by' (Ξ:=fun r=>KD r.1 (names s.Decls)∧r.2=nE) ?_ fun x5 h5=>?_
 ·refine Tot.count (fun z=>z.2.2) s.Decls.length (fun z=>0≤z.2.2∧z.2.2≤s.Decls.length∧KD z.1 (names (s.Decls.take z.2.2.toNat))∧z.2.1=nE) ⟨Int.le_refl 0,by show (0:Int)≤_; omega,⟨⟨rfl,⟨[],rfl,rfl,by simp⟩,rfl,by simp [names]⟩,rfl,rfl,rfl,rfl⟩,rfl⟩ (by show (s.Decls.length:Int) - 0<_; omega) fun z hz=>?_
  obtain ⟨m,st,i⟩:=z
  obtain ⟨h0,h1,hm,hst⟩:=hz
  simp only at h0 h1 hm hst ⊢
  have hw:w64 (i+1)=i+1:=by rw [w64_eq]; omega
  rw [hw]
  refine Tot.cp (fun hlt=>?_) (fun hge=>.so ⟨?_,hst⟩)
  ·have hlt':i.toNat<s.Decls.length:=by omega
   have hidx:idx s.Decls i=some s.Decls[i.toNat]:=by simp [idx,h0,hlt']
   have hnt:=names_take s.Decls i.toNat hlt'
   have hnd:=h.nd
   rw [← List.take_append_drop (i.toNat+1) s.Decls] at hnd
   unfold names at hnd
   rw [List.flatMap_append,List.map_append] at hnd
   have hnd:=(List.nodup_append.1 hnd).1
   have hnd:(names (s.Decls.take (i.toNat+1))).Nodup:=hnd
   rw [hnt] at hnd
   have hD:=h.decls _ (List.getElem_mem hlt')
   rw [hidx]
   generalize s.Decls[i.toNat]=d at hnt hD hnd
   have hk:=hD.kind
   have hsn:=hD.n
   refine Tot.sm (.by' (Ξ:=fun _=>True) (Tot.cd (fun _=>.so trivial) (fun _=>.so trivial)) fun c _=>.by' (Ξ:=fun _=>True) (Tot.cd (fun _=>.so trivial) (fun _=>.so trivial)) fun j11 _=>?_)
   refine Tot.by' (Ξ:=fun r=>KD r.1 (names (s.Decls.take (i.toNat+1)))∧r.2=nE) ?_ fun r hr=>.so ⟨⟨?_,?_,?_,hr.2⟩,?_,?_⟩
   ·refine Tot.count (fun z=>z.2.2) d.Syms.length (fun z=>0≤z.2.2∧z.2.2≤d.Syms.length∧KD z.1 (names (s.Decls.take i.toNat)++(d.Syms.take z.2.2.toNat).map (·.Name))∧z.2.1=nE) ⟨Int.le_refl 0,by show (0:Int)≤_; omega,⟨by
     show K0 _ (names (s.Decls.take i.toNat)++(d.Syms.take 0).map (·.Name))
     rw [List.take_zero,List.map_nil,List.append_nil]
     exact hm.k.lvl _,hm.lf,hm.pr,hm.inn,hm.ty⟩,hst⟩ (by show (d.Syms.length:Int) - 0<_; omega) fun z hz=>?_
    obtain ⟨m,st,k⟩:=z
    obtain ⟨g0,g1,hm,hst⟩:=hz
    simp only at g0 g1 hm hst ⊢
    have hwk:w64 (k+1)=k+1:=by rw [w64_eq]; omega
    rw [hwk]
    refine Tot.cp (fun hltk=>?_) (fun hgek=>.so ⟨?_,hst⟩)
    ·have hkt':k.toNat<d.Syms.length:=by omega
     have hkdx:idx d.Syms k=some d.Syms[k.toNat]:=by simp [idx,g0,hkt']
     have htk:d.Syms.take (k.toNat+1)=d.Syms.take k.toNat++[d.Syms[k.toNat]]:=by
      rw [List.take_add_one,List.getElem?_eq_getElem hkt']; rfl
     have hx:=hD.syms _ (List.getElem_mem hkt')
     have hfresh:d.Syms[k.toNat].Name∉names (s.Decls.take i.toNat)++(d.Syms.take k.toNat).map (·.Name):=by
      rw [← List.take_append_drop (k.toNat+1) d.Syms,htk,List.map_append,List.map_append,← List.append_assoc,← List.append_assoc] at hnd
      have h2:=(List.nodup_append.1 hnd).1
      intro hin
      exact (List.nodup_append.1 h2).2.2 _ hin _ (by simp) rfl
     rw [hkdx]
     generalize d.Syms[k.toNat]=x at htk hx hfresh
     refine Tot.by' (Ξ:=fun j=>KD j.1 (names (s.Decls.take i.toNat)++(d.Syms.take (k.toNat+1)).map (·.Name))∧j.2=nE) ?_ fun j hj=>.so ⟨⟨?_,?_,?_,hj.2⟩,?_,?_⟩
     ·refine Tot.cn (fun _=>Tot.sm ?_) (fun h=>absurd h (by omega))
      refine .by' (k89 m d x hm.k hD hx hfresh) fun m' ⟨hk',hr⟩=>.so ⟨⟨?_,hr.lf.trans hm.lf,hr.pr.trans hm.pr,hr.inn.trans hm.inn,hr.ty.trans hm.ty⟩,hst⟩
      show K0 m' _
      rw [htk,List.map_append,← List.append_assoc]
      exact hk'
     ·show 0≤k+1; omega
     ·show k+1≤(d.Syms.length:Int); omega
     ·show KD j.1 (names (s.Decls.take i.toNat)++(d.Syms.take (k+1).toNat).map (·.Name))
      rw [show (k+1).toNat=k.toNat+1 by omega]
      exact hj.1
     ·show k<k+1; omega
     ·show k+1≤(d.Syms.length:Int); omega
    ·rw [List.take_of_length_le (l:=d.Syms) (by omega)] at hm
     show KD m (names (s.Decls.take (i.toNat+1)))
     rw [hnt]
     exact hm
   ·show 0≤i+1; omega
   ·show i+1≤(s.Decls.length:Int); omega
   ·show KD r.1 (names (s.Decls.take (i+1).toNat))
    rw [show (i+1).toNat=i.toNat+1 by omega]
    exact hr.1
   ·show i<i+1; omega
   ·show i+1≤(s.Decls.length:Int); omega
  ·rw [List.take_of_length_le (by omega)] at hm
   exact hm
 obtain ⟨hm5,hst5⟩:=h5
 -- what stands on the left
 refine Tot.by' (Ξ:=fun r=>K0 r (names s.Decls)∧r.f_lefts.length≤4∧(∀ n∈s.Rules.map (·.Left),n∈r.f_lefts)∧r.f_g.Prods=[]∧r.f_inner=0∧r.f_types=[]) ?_ fun x28 h28=>?_
 ·refine Tot.count (fun z=>z.2) s.Rules.length (fun z=>0≤z.2∧z.2≤s.Rules.length∧K0 z.1 (names s.Decls)∧(z.1.f_lefts.length:Int)≤z.2∧(∀ n∈(s.Rules.take z.2.toNat).map (·.Left),n∈z.1.f_lefts)∧z.1.f_g.Prods=[]∧z.1.f_inner=0∧z.1.f_types=[]) ⟨Int.le_refl 0,by show (0:Int)≤_; omega,hm5.k,by show ((x5.1.f_lefts.length:Nat):Int)≤0; rw [hm5.lf]; decide,by intro n hn; simp at hn,hm5.pr,hm5.inn,hm5.ty⟩ (by show (s.Rules.length:Int) - 0<_; omega) fun z hz=>?_
  obtain ⟨m,i⟩:=z
  obtain ⟨h0,h1,hm,hll,hlm,hpr,hin,hty⟩:=hz
  simp only at h0 h1 hm hll hlm hpr hin hty ⊢
  have hw:w64 (i+1)=i+1:=by rw [w64_eq]; omega
  rw [hw]
  refine Tot.cp (fun hlt=>?_) (fun hge=>.so ⟨hm,by show m.f_lefts.length≤4; omega,?_,hpr,hin,hty⟩)
  ·have hlt':i.toNat<s.Rules.length:=by omega
   have hidx:idx s.Rules i=some s.Rules[i.toNat]:=by simp [idx,h0,hlt']
   have htk:s.Rules.take (i.toNat+1)=s.Rules.take i.toNat++[s.Rules[i.toNat]]:=by
    rw [List.take_add_one,List.getElem?_eq_getElem hlt']; rfl
   have hnt:=h.lefts _ (List.getElem_mem hlt')
   rw [hidx]
   generalize s.Rules[i.toNat]=r at htk hnt
   obtain ⟨hlen,h4⟩:=hm.len
   refine Tot.by' (Ξ:=fun j=>K0 j (names s.Decls)∧(j.f_lefts.length:Int)≤i+1∧(∀ n∈(s.Rules.take (i.toNat+1)).map (·.Left),n∈j.f_lefts)∧j.f_g.Prods=[]∧j.f_inner=0∧j.f_types=[]) ?_ fun j hj=>.so ⟨⟨?_,?_,hj.1,hj.2.1,?_,hj.2.2.2⟩,?_,?_⟩
   ·refine Tot.sm (.by' (k91 m _ (by omega)) fun t ht=>?_)
    refine .by' (Ξ:=fun j=>j=m) (Tot.cp (fun h0=>?_) (fun _=>.so rfl)) fun j hj=>?_
    ·exfalso
     rcases ht with ⟨rfl,_⟩ | ⟨a,b,c,u,d,e,f⟩
     ·exact absurd h0 (by decide)
     ·obtain ⟨l,el,_,hl⟩:=hm.tk
      have e:u.Name=r.Left:=e
      have f:u.Lit=false:=f
      rw [el] at d
      by_cases h3:t.toNat<3
      ·have hu:u∈T3:=by
        rw [List.getElem?_append_left (by exact h3)] at d
        exact List.mem_of_getElem? d
       rw [← e] at hnt
       simp only [T3,List.mem_cons,List.not_mem_nil,or_false] at hu
       rcases hu with rfl | rfl | rfl <;> simp [NT4] at hnt
      ·rw [List.getElem?_append_right (by show 3≤t.toNat; omega)] at d
       rw [(hl u (List.mem_of_getElem? d)).1] at f
       cases f
    ·subst hj
     refine .by' (t92 j r.Left (by simp only [big]; omega)) fun k hk=>?_
     refine Tot.by' (Ξ:=fun l=>(l.length:Int)≤i+1∧(∀ n∈j.f_lefts,n∈l)∧r.Left∈l) ?_ fun l hl=>.so ⟨⟨hm.e,hm.tk,hm.gv,hm.nd⟩,hl.1,fun n hn=>?_,hpr,hin,hty⟩
     ·refine Tot.cp (fun _=>?_) (fun hge=>.so ⟨by omega,fun _ h=>h,?_⟩)
      ·exact .by' (Ξ:=fun _=>True) (Tot.ap (by simp [lim]; omega) trivial) fun _ _=>.so ⟨by simp; omega,fun n hn=>by simp [hn],by simp⟩
      ·rcases hk with ⟨rfl,_⟩ | ⟨_,_,e⟩
       ·exact absurd (by decide) hge
       ·exact List.mem_of_getElem? e
     ·rw [htk,List.map_append,List.mem_append] at hn
      rcases hn with hn | hn
      ·exact hl.2.1 n (hlm n hn)
      ·have hn:n∈[r.Left]:=hn
       rw [List.mem_singleton.1 hn]
       exact hl.2.2
   ·show 0≤i+1; omega
   ·show i+1≤(s.Rules.length:Int); omega
   ·show ∀ n∈(s.Rules.take (i+1).toNat).map (·.Left),n∈j.f_lefts
    rw [show (i+1).toNat=i.toNat+1 by omega]
    exact hj.2.2.1
   ·show i<i+1; omega
   ·show i+1≤(s.Rules.length:Int); omega
  ·rw [List.take_of_length_le (by omega)] at hlm
   exact hlm
 obtain ⟨hm28,hll28,hlm28,hpr28,hin28,hty28⟩:=h28
 -- types and starts
 refine Tot.by' (Ξ:=fun r=>r=x28) ?_ fun x42 h42=>?_
 ·refine Tot.count (fun z=>z.2) s.Decls.length (fun z=>0≤z.2∧z.2≤s.Decls.length∧z.1=x28) ⟨Int.le_refl 0,by show (0:Int)≤_; omega,rfl⟩ (by show (s.Decls.length:Int) - 0<_; omega) fun z hz=>?_
  obtain ⟨m,i⟩:=z
  obtain ⟨h0,h1,hm⟩:=hz
  simp only at h0 h1 hm ⊢
  subst hm
  have hw:w64 (i+1)=i+1:=by rw [w64_eq]; omega
  rw [hw]
  refine Tot.cp (fun hlt=>?_) (fun _=>.so rfl)
  refine Tot.by' (Ξ:=fun r=>r=m) ?_ fun x46 h46=>.so ⟨⟨?_,?_,h46⟩,?_,?_⟩
  ·have hlt':i.toNat<s.Decls.length:=by omega
   have hi:idx s.Decls i=some s.Decls[i.toNat]:=by simp [idx,h0,hlt']
   rw [hi]
   have hD:=h.decls _ (List.getElem_mem hlt')
   generalize s.Decls[i.toNat]=d at hD
   have hsn:=hD.n
   have hkd:=hD.kind
   refine Tot.count (fun z=>z.2) d.Syms.length (fun z=>0≤z.2∧z.2≤d.Syms.length∧z.1=m) ⟨Int.le_refl 0,by show (0:Int)≤_; omega,rfl⟩ (by show (d.Syms.length:Int) - 0<_; omega) fun z hz=>?_
   obtain ⟨m',k⟩:=z
   obtain ⟨g0,g1,hm⟩:=hz
   simp only at g0 g1 hm ⊢
   subst hm
   have hwk:w64 (k+1)=k+1:=by rw [w64_eq]; omega
   rw [hwk]
   refine Tot.sm (Tot.cp (fun hltk=>?_) (fun _=>.so rfl))
   refine Tot.by' (Ξ:=fun j=>j=m') ?_ fun j hj=>.so ⟨⟨?_,?_,hj⟩,?_,?_⟩
   ·refine Tot.sm (.by' (Tot.ix (Φ:=fun _=>True) g0 hltk fun _ _ _=>trivial) fun x _=>?_)
    refine .by' (Ξ:=fun c=>c=false) (Tot.sm (Tot.cp (fun h=>absurd h (by omega)) (fun _=>.so rfl))) fun c hc=>?_
    subst hc
    refine .by' (Ξ:=fun j=>j=m') (.so rfl) fun j hj=>.so hj
   ·show 0≤k+1; omega
   ·show k+1≤(d.Syms.length:Int); omega
   ·show k<k+1; omega
   ·show k+1≤(d.Syms.length:Int); omega
  ·show 0≤i+1; omega
  ·show i+1≤(s.Decls.length:Int); omega
  ·show i<i+1; omega
  ·show i+1≤(s.Decls.length:Int); omega
 subst h42
 -- the start
 refine Tot.by' (Ξ:=fun _=>True) (Tot.cd (fun _=>.by' (Ξ:=fun _=>True) (Tot.ix (by decide) (by omega) fun _ _ _=>trivial) fun _ _=>.so trivial) (fun _=>.so trivial)) fun j60 _=>?_
 refine .by' (t92 x42 j60 (by simp only [big]; omega)) fun x63 h63=>?_
 -- the alternatives
 refine Tot.by' (Ξ:=fun r=>KA r x42.f_lefts 32 18) ?_ fun x65 h65=>?_
 ·refine Tot.count (fun z=>z.2) s.Rules.length (fun z=>0≤z.2∧z.2≤s.Rules.length∧KA z.1 x42.f_lefts (1+nA (s.Rules.take z.2.toNat)+nC (s.Rules.take z.2.toNat)) (nC (s.Rules.take z.2.toNat))) ⟨Int.le_refl 0,by show (0:Int)≤_; omega,⟨⟨_,⟨hm28.e,hm28.tk,hm28.gv,hm28.nd⟩⟩,rfl,by show 1≤1+0+0; omega,⟨by show 0≤x42.f_inner; omega,by show x42.f_inner≤((0:Nat):Int); omega⟩,fun p hp=>?_,by show x42.f_types.length≤100; rw [hty28]; decide⟩⟩ (by show (s.Rules.length:Int) - 0<_; omega) fun z hz=>?_
  ·rw [List.mem_singleton.1 hp]
   show 1≤8; omega
  ·obtain ⟨m,i⟩:=z
   obtain ⟨h0,h1,hm⟩:=hz
   simp only at h0 h1 hm ⊢
   have hw:w64 (i+1)=i+1:=by rw [w64_eq]; omega
   rw [hw]
   have a1:=nA_le s.Rules i.toNat
   have c1:=nC_le s.Rules i.toNat
   refine Tot.cp (fun hlt=>?_) (fun _=>.so (hm.mono (by omega) (by omega)))
   refine Tot.by' (Ξ:=fun r=>KA r x42.f_lefts (1+nA (s.Rules.take (i.toNat+1))+nC (s.Rules.take (i.toNat+1))) (nC (s.Rules.take (i.toNat+1)))) ?_ fun x69 h69=>.so ⟨⟨?_,?_,?_⟩,?_,?_⟩
   ·have hlt':i.toNat<s.Rules.length:=by omega
    have hi:idx s.Rules i=some s.Rules[i.toNat]:=by simp [idx,h0,hlt']
    have hat:=nA_take s.Rules i.toNat hlt'
    have hct:=nC_take s.Rules i.toNat hlt'
    have a2:=nA_le s.Rules (i.toNat+1)
    have c2:=nC_le s.Rules (i.toNat+1)
    have hR:=h.rules _ (List.getElem_mem hlt')
    rw [hi]
    generalize s.Rules[i.toNat]=d at hat hct hR
    have hdn:=hR.n
    refine Tot.count (fun z=>z.2) d.Alts.length (fun z=>0≤z.2∧z.2≤d.Alts.length∧KA z.1 x42.f_lefts (1+nA (s.Rules.take i.toNat)+nC (s.Rules.take i.toNat)+z.2.toNat+cA (d.Alts.take z.2.toNat)) (nC (s.Rules.take i.toNat)+cA (d.Alts.take z.2.toNat))) ⟨Int.le_refl 0,by show (0:Int)≤_; omega,hm⟩ (by show (d.Alts.length:Int) - 0<_; omega) fun z hz=>?_
    obtain ⟨m,k⟩:=z
    obtain ⟨g0,g1,hm⟩:=hz
    simp only at g0 g1 hm ⊢
    have hwk:w64 (k+1)=k+1:=by rw [w64_eq]; omega
    rw [hwk]
    have b1:=cA_le d.Alts k.toNat
    refine Tot.sm (Tot.cp (fun hltk=>?_) (fun _=>.so (hm.mono (by omega) (by omega))))
    have hkt':k.toNat<d.Alts.length:=by omega
    have hkdx:idx d.Alts k=some d.Alts[k.toNat]:=by simp [idx,g0,hkt']
    have hct2:=cA_take d.Alts k.toNat hkt'
    have b2:=cA_le d.Alts (k.toNat+1)
    have hA:=hR.alts _ (List.getElem_mem hkt')
    generalize d.Alts[k.toNat]=a at hkdx hct2 hA
    refine Tot.sm (Tot.sm ?_)
    rw [hkdx]
    refine Tot.sm (.by' (k93 m d.Left a hm (by omega) (by omega) (by omega) hlm28 hA) fun m' hm'=>.so ⟨⟨?_,?_,?_⟩,?_,?_⟩)
    ·show 0≤k+1; omega
    ·show k+1≤(d.Alts.length:Int); omega
    ·show KA m' x42.f_lefts (1+nA (s.Rules.take i.toNat)+nC (s.Rules.take i.toNat)+(k+1).toNat+cA (d.Alts.take (k+1).toNat)) (nC (s.Rules.take i.toNat)+cA (d.Alts.take (k+1).toNat))
     rw [show (k+1).toNat=k.toNat+1 by omega]
     exact hm'.mono (by omega) (by omega)
    ·show k<k+1; omega
    ·show k+1≤(d.Alts.length:Int); omega
   ·show 0≤i+1; omega
   ·show i+1≤(s.Rules.length:Int); omega
   ·show KA x69 x42.f_lefts (1+nA (s.Rules.take (i+1).toNat)+nC (s.Rules.take (i+1).toNat)) (nC (s.Rules.take (i+1).toNat))
    rw [show (i+1).toNat=i.toNat+1 by omega]
    exact h69
   ·show i<i+1; omega
   ·show i+1≤(s.Rules.length:Int); omega
 obtain ⟨ns,hk65⟩:=h65.k
 obtain ⟨hlen65,h465⟩:=hk65.len
 have h65q:=h65.q
 have h65i:=h65.i
 refine Tot.cn (fun h=>absurd hk65.e h) (fun _=>?_)
 have hll:x65.f_lefts.length≤4:=by rw [h65.lf]; exact hll28
 -- nonterminals
 refine Tot.by' (Ξ:=fun l=>l.length≤5) ?_ fun x79 h79=>?_
 ·refine Tot.count (fun z=>z.2) x65.f_lefts.length (fun z=>0≤z.2∧z.2≤x65.f_lefts.length∧z.1.length=1+z.2.toNat) ⟨Int.le_refl 0,by show (0:Int)≤_; omega,rfl⟩ (by show (x65.f_lefts.length:Int) - 0<_; omega) fun z hz=>?_
  obtain ⟨l,i⟩:=z
  obtain ⟨h0,h1,hl⟩:=hz
  simp only at h0 h1 hl ⊢
  have hw:w64 (i+1)=i+1:=by rw [w64_eq]; omega
  rw [hw]
  refine Tot.cp (fun hlt=>?_) (fun _=>.so (by show l.length≤5; omega))
  have hty:=h65.ty
  refine .by' (Tot.ix (Φ:=fun _=>True) h0 hlt fun _ _ _=>trivial) fun x82 _=>.by' (t94 _ _ (by show x65.f_types.length≤_; simp only [big]; omega)) fun x83 h83=>?_
  have h83':x83=-1∨(0≤x83∧x83<x65.f_types.length):=h83
  refine .by' (Ξ:=fun _=>True) (Tot.cp (fun h=>.by' (Ξ:=fun _=>True) (Tot.ix h (by omega) fun _ _ _=>trivial) fun _ _=>.so trivial) (fun _=>.so trivial)) fun j84 _=>?_
  refine .by' (Ξ:=fun _=>True) (Tot.ap (by simp [lim]; omega) trivial) fun _ _=>.so ⟨⟨?_,?_,?_⟩,?_,?_⟩
  ·show 0≤i+1; omega
  ·show i+1≤(x65.f_lefts.length:Int); omega
  ·show (l++[_]).length=1+(i+1).toNat
   simp; omega
  ·show i<i+1; omega
  ·show i+1≤(x65.f_lefts.length:Int); omega
 refine Tot.by' (Ξ:=fun l=>l.length≤23) ?_ fun x89 h89=>?_
 ·refine Tot.count (fun z=>z.2) (x65.f_inner+1) (fun z=>1≤z.2∧z.2≤x65.f_inner+1∧(z.1.length:Int)≤5+(z.2 - 1)) ⟨Int.le_refl 1,by show (1:Int)≤_; omega,by show (x79.length:Int)≤5+(1 - 1); omega⟩ (by show x65.f_inner+1 - 1<_; omega) fun z hz=>?_
  obtain ⟨l,i⟩:=z
  obtain ⟨h0,h1,hl⟩:=hz
  simp only at h0 h1 hl ⊢
  have hw:w64 (i+1)=i+1:=by rw [w64_eq]; omega
  rw [hw]
  refine Tot.cp (fun hlt=>?_) (fun _=>.so (by show l.length≤23; omega))
  refine .by' (t28 i (by omega) (by omega)) fun x92 h92=>.by' (Ξ:=fun _=>True) (Tot.cat (by show 1+x92.size≤_; omega) trivial) fun x93 _=>?_
  refine .by' (Ξ:=fun _=>True) (Tot.ap (by simp [lim]; omega) trivial) fun _ _=>.so ⟨⟨?_,?_,?_⟩,?_,?_⟩
  ·show 1≤i+1; omega
  ·show i+1≤x65.f_inner+1; omega
  ·show ((l++[_]).length:Int)≤5+(i+1 - 1)
   simp; omega
  ·show i<i+1; omega
  ·show i+1≤x65.f_inner+1; omega
 -- numbers
 have hgv:=hk65.gv
 refine Tot.by' (Ξ:=fun l=>l.length=x65.f_g.Toks.length) ?_ fun x96 h96=>?_
 ·refine Tot.count (fun z=>z.2.2) x65.f_g.Toks.length (fun z=>3≤z.2.2∧z.2.2≤x65.f_g.Toks.length∧z.1.length=x65.f_g.Toks.length) ⟨Int.le_refl 3,by show (3:Int)≤_; omega,rfl⟩ (by show (x65.f_g.Toks.length:Int) - 3<_; omega) fun z hz=>?_
  obtain ⟨l,n,i⟩:=z
  obtain ⟨h0,h1,hl⟩:=hz
  simp only at h0 h1 hl ⊢
  have hw:w64 (i+1)=i+1:=by rw [w64_eq]; omega
  rw [hw]
  refine Tot.cp (fun hlt=>?_) (fun _=>.so hl)
  refine Tot.by' (Ξ:=fun j=>j.1.length=x65.f_g.Toks.length) ?_ fun j hj=>.so ⟨⟨?_,?_,hj⟩,?_,?_⟩
  ·refine .by' (Tot.ix (Φ:=fun _=>True) (by omega) (by rw [hgv]; omega) fun _ _ _=>trivial) fun _ _=>?_
   refine Tot.by' (Ξ:=fun j=>j.1.length=x65.f_g.Toks.length) ?_ fun j hj=>.so hj
   refine Tot.cd (fun _=>?_) (fun _=>.so hl)
   exact .by' (Tot.ix (Φ:=fun y=>y∈l) (by omega) hlt fun _ _ h=>h) fun y hy=>.so (by show (l.set _ _).length=_; simp [hl])
  ·show 3≤i+1; omega
  ·show i+1≤(x65.f_g.Toks.length:Int); omega
  ·show i<i+1; omega
  ·show i+1≤(x65.f_g.Toks.length:Int); omega
 -- limits
 refine Tot.by' (Ξ:=fun c=>c=false) (Tot.cp (fun h=>absurd h (by omega)) (fun _=>Tot.cp (fun h=>absurd h (by omega)) (fun _=>.so (decide_eq_false (by omega))))) fun c106 h106=>?_
 subst h106
 refine Tot.by' (Ξ:=fun c=>c=false) ?_ fun x108 h108=>?_
 ·refine Tot.count (fun z=>z.2) x65.f_g.Prods.length (fun z=>0≤z.2∧z.2≤x65.f_g.Prods.length∧z.1=false) ⟨Int.le_refl 0,by show (0:Int)≤_; omega,rfl⟩ (by show (x65.f_g.Prods.length:Int) - 0<_; omega) fun z hz=>?_
  obtain ⟨c,i⟩:=z
  obtain ⟨h0,h1,hl⟩:=hz
  simp only at h0 h1 hl ⊢
  have hw:w64 (i+1)=i+1:=by rw [w64_eq]; omega
  rw [hw]
  subst hl
  refine Tot.cp (fun hlt=>?_) (fun hge=>.so rfl)
  refine Tot.by' (Ξ:=fun c'=>c'=false) ?_ fun c' hc'=>.so ⟨⟨?_,?_,hc'⟩,?_,?_⟩
  ·refine Tot.cd (fun h=>by cases h) (fun _=>.by' (Tot.ix (Φ:=fun y=>y∈x65.f_g.Prods) h0 hlt fun y _ h=>h) fun y hy=>.so (decide_eq_false ?_))
   have:=h65.r y hy
   omega
  ·show 0≤i+1; omega
  ·show i+1≤(x65.f_g.Prods.length:Int); omega
  ·show i<i+1; omega
  ·show i+1≤(x65.f_g.Prods.length:Int); omega
 subst h108
 exact Tot.so rfl
end Go.Proofs
namespace Go.Proofs
open Go Go.Own
set_option maxRecDepth 100000
set_option linter.unusedVariables false
theorem four {P:Int→Prop}(i:Int) (h0:0≤i) (h:i<4) (a:P 0) (b:P 1) (c:P 2) (d:P 3):P i:=by
 obtain rfl | rfl | rfl | rfl:i=0∨i=1∨i=2∨i=3:=by omega
 ·exact a
 ·exact b
 ·exact c
 ·exact d
theorem n60 (i:Int) (h0:0≤i) (h:i<4):∃ x,x∈LT∧pf60 i=some x∧Ltr[i.toNat]?=some x.Name:=by
 refine four (P:=fun i=>∃ x,x∈LT∧pf60 i=some x∧Ltr[i.toNat]?=some x.Name) i h0 h ?_ ?_ ?_ ?_
 ·exact ⟨⟨⟨#[112]⟩,true,0,0⟩,by simp [LT],by kernel_rfl,rfl⟩
 ·exact ⟨⟨⟨#[113]⟩,true,0,0⟩,by simp [LT],by kernel_rfl,rfl⟩
 ·exact ⟨⟨⟨#[114]⟩,true,0,0⟩,by simp [LT],by kernel_rfl,rfl⟩
 ·exact ⟨⟨⟨#[115]⟩,true,0,0⟩,by simp [LT],by kernel_rfl,rfl⟩
theorem n60' (i:Int) (h0:0≤i) (h:i<8):∃ x,x∈LT∧pf60 i=some x:=by
 by_cases h4:i<4
 ·obtain ⟨x,a,b,_⟩:=n60 i h0 h4
  exact ⟨x,a,b⟩
 ·obtain rfl | rfl | rfl | rfl:i=4∨i=5∨i=6∨i=7:=by omega
  ·exact ⟨⟨⟨#[112]⟩,true,0,0⟩,by simp [LT],by kernel_rfl⟩
  ·exact ⟨⟨⟨#[113]⟩,true,0,0⟩,by simp [LT],by kernel_rfl⟩
  ·exact ⟨⟨⟨#[114]⟩,true,0,0⟩,by simp [LT],by kernel_rfl⟩
  ·exact ⟨⟨⟨#[115]⟩,true,0,0⟩,by simp [LT],by kernel_rfl⟩
theorem n58 (i:Int) (h0:0≤i) (h:i<4):∃ s,pf58 i=some s∧NT4[i.toNat]?=some s∧(⟨s,false,0,0⟩:Sym)∈NT:=by
 refine four (P:=fun i=>∃ s,pf58 i=some s∧NT4[i.toNat]?=some s∧(⟨s,false,0,0⟩:Sym)∈NT) i h0 h ?_ ?_ ?_ ?_
 ·exact ⟨⟨#[97]⟩,by kernel_rfl,rfl,by simp [NT]⟩
 ·exact ⟨⟨#[98]⟩,by kernel_rfl,rfl,by simp [NT]⟩
 ·exact ⟨⟨#[99]⟩,by kernel_rfl,rfl,by simp [NT]⟩
 ·exact ⟨⟨#[100]⟩,by kernel_rfl,rfl,by simp [NT]⟩
theorem take_mem {l:List ByteArray}{i n:Nat}{s:ByteArray}(h:l[i]?=some s) (hn:i<n):s∈l.take n:=by
 refine List.mem_of_getElem? (i:=i) ?_
 rw [List.getElem?_take,if_pos hn]
 exact h
theorem n59 (x n:Int) (hn:1≤n∧n≤4):Tot (pf59 x n) fun s=>PartN (NT4.take n.toNat) ⟨s,nE,0⟩:=by
 unfold pf59
 refine .by' (t22 x 14 (by decide) (by decide)) fun k hk=>Tot.cp (fun h5=>?_) (fun h5=>Tot.cp (fun _=>.so (.inr (.inl ⟨_,by simp [NT],rfl,by simp⟩))) (fun h13=>?_))
 ·refine .by' (Ξ:=fun r=>r=k % n) (Tot.rem (by omega) (Int.tmod_eq_emod_of_nonneg hk.1)) fun r hr=>?_
  have h0:0≤k % n:=Int.emod_nonneg _ (by omega)
  have h1:k % n<n:=Int.emod_lt_of_pos _ (by omega)
  rw [← hr] at h0 h1
  obtain ⟨s,hs,hg,hm⟩:=n58 r h0 (by omega)
  rw [hs]
  refine Tot.sm (.so (.inr (.inl ⟨_,hm,rfl,?_⟩)))
  exact List.mem_cons_of_mem _ (take_mem hg (by omega))
 ·have:w64 (k - 5)=k - 5:=by rw [w64_eq]; omega
  rw [this]
  obtain ⟨s,hm,hs⟩:=n60' (k - 5) (by omega) (by omega)
  rw [hs]
  exact Tot.sm (.so (.inl ⟨s,hm,rfl⟩))
structure DeclM (n:Nat) (d:Decl):Prop where
 kind:2≤d.Kind∧d.Kind≤4
 tag:d.Tag=nE
 n:1≤d.Syms.length∧d.Syms.length≤n
 syms:∀ x∈d.Syms,x∈LT
theorem DeclM.mono {n m:Nat}{d:Decl}(h:DeclM n d) (hm:n≤m):DeclM m d:=⟨h.kind,h.tag,⟨h.n.1,Nat.le_trans h.n.2 hm⟩,h.syms⟩
theorem ltr_inj {i j:Nat}{n:ByteArray}(hi:Ltr[i]?=some n) (hj:Ltr[j]?=some n) (h:i<j):False:=by
 have hl:=(List.getElem?_eq_some_iff.1 hj).1
 have hl:j<4:=hl
 obtain rfl | rfl | rfl:j=1∨j=2∨j=3:=by omega
 ·obtain rfl:i=0:=by omega
  rw [← hi] at hj; exact absurd hj (by decide)
 ·obtain rfl | rfl:i=0∨i=1:=by omega
  all_goals (rw [← hi] at hj; exact absurd hj (by decide))
 ·obtain rfl | rfl | rfl:i=0∨i=1∨i=2:=by omega
  all_goals (rw [← hi] at hj; exact absurd hj (by decide))
theorem n57 (l:List Int):Tot (pf57 l) fun r=>r.length≤4∧(∀ d∈r,DeclN d)∧(names r).Nodup:=by
 unfold pf57
 refine Tot.by' (Ξ:=fun r=>r.length≤4∧(∀ d∈r,DeclN d)∧(names r).Nodup) ?_ fun r hr=>.so hr
 refine Tot.count (fun s=>s.2) 4 (fun s=>0≤s.2∧s.2≤4∧s.1.length≤s.2.toNat∧(∀ d∈s.1,DeclM s.2.toNat d)∧(names s.1).Nodup∧∀ n∈names s.1,∃ j,j<s.2.toNat∧Ltr[j]?=some n) ⟨Int.le_refl 0,by decide,Nat.le_refl 0,fun d hd=>absurd hd (by simp),by simp [names],by simp [names]⟩ (by decide) fun s hs=>?_
 obtain ⟨r,i⟩:=s
 obtain ⟨h0,h4,hl,hd,hnd,hnm⟩:=hs
 simp only at h0 h4 hl hd hnd hnm ⊢
 have hw:w64 (i+1)=i+1:=by rw [w64_eq]; omega
 rw [hw]
 refine .by' (Ξ:=fun c=>c=true→i<l.length∧i<4) (Tot.cp (fun h=>.so fun h2=>⟨h,of_decide_eq_true h2⟩) (fun _=>.so fun h=>by cases h)) fun c hc=>Tot.cd (fun hc1=>?_) (fun _=>.so ⟨by omega,fun d hdm=>?_,hnd⟩)
 ·obtain ⟨hi,hi4⟩:=hc hc1
  have e:(i+1).toNat=i.toNat+1:=by omega
  refine Tot.by' (Ξ:=fun j=>j.length≤i.toNat+1∧(∀ d∈j,DeclM (i.toNat+1) d)∧(names j).Nodup∧∀ n∈names j,∃ j,j<i.toNat+1∧Ltr[j]?=some n) ?_ fun j hj=>.so ⟨⟨?_,?_,?_,?_,hj.2.2.1,?_⟩,?_,?_⟩
  ·obtain ⟨x,hx,hxe,hxn⟩:=n60 i h0 hi4
   have hfresh:x.Name∉names r:=fun hin=>by
    obtain ⟨j,hj,e⟩:=hnm _ hin
    exact ltr_inj e hxn hj
   have hadd:∀ L:List Decl,names L=names r++[x.Name]→(names L).Nodup∧∀ n∈names L,∃ j,j<i.toNat+1∧Ltr[j]?=some n:=by
    intro L hL
    rw [hL]
    refine ⟨?_,fun n hn=>?_⟩
    ·rw [List.nodup_append]
     refine ⟨hnd,by simp,fun a ha b hb e=>?_⟩
     rw [List.mem_singleton.1 hb] at e
     exact hfresh (e ▸ ha)
    ·rcases List.mem_append.1 hn with hn | hn
     ·obtain ⟨j,hj,e⟩:=hnm _ hn
      exact ⟨j,by omega,e⟩
     ·rw [List.mem_singleton.1 hn]
      exact ⟨i.toNat,by omega,hxn⟩
   refine .by' (Tot.ix (Φ:=fun _=>True) h0 hi fun _ _ _=>trivial) fun x8 _=>.by' (t22 x8 8 (by decide) (by decide)) fun x9 h9=>.by' (Ξ:=fun y=>y=x9 % 4) (Tot.rem (by decide) (Int.tmod_eq_emod_of_nonneg h9.1)) fun x10 h10=>?_
   have hd':∀ d∈r,DeclM (i.toNat+1) d:=fun d hdm=>(hd d hdm).mono (by omega)
   refine Tot.cp (fun _=>.so ⟨by omega,hd',hnd,fun n hn=>?_⟩) (fun hne=>?_)
   ·obtain ⟨j,hj,e⟩:=hnm _ hn
    exact ⟨j,by omega,e⟩
   refine .by' (Ξ:=fun c=>c=true→0<(r.length:Int)) (Tot.cd (fun _=>.so fun h=>of_decide_eq_true h) (fun _=>.so fun h=>by cases h)) fun c hc=>Tot.cd (fun hc2=>?_) (fun _=>?_)
   ·have hpos:=hc hc2
    rcases List.eq_nil_or_concat r with rfl | ⟨r0,d,rfl⟩
    ·exact absurd hpos (by decide)
    rw [List.concat_eq_append] at *
    have hwl:w64 (((r0++[d]).length:Int) - 1)=r0.length:=by rw [w64_eq]; simp at hl ⊢; omega
    rw [hwl,hxe]
    have hix:idx (r0++[d]) (r0.length:Int)=some d:=by simp [idx]
    rw [hix]
    have hD:=hd d (by simp)
    have hD1:=hD.n
    refine Tot.sm (Tot.sm (.by' (Ξ:=fun _=>True) (Tot.ap (by simp [lim]; omega) trivial) fun _ _=>.so ?_))
    have hst:∀ d':Decl,(r0++[d]).set ((r0.length:Int)).toNat d'=r0++[d']:=fun d'=>by simp
    simp only [hst]
    obtain ⟨a1,a2⟩:=hadd (r0++[⟨d.Kind,d.Tag,d.Syms++[x],d.At⟩]) (by simp [names])
    refine ⟨by simp at hl ⊢; omega,fun d' hd2=>?_,a1,a2⟩
    rcases List.mem_append.1 hd2 with h | h
    ·exact hd' d' (by simp [h])
    ·rw [List.mem_singleton.1 h]
     refine ⟨hD.kind,hD.tag,⟨?_,?_⟩,fun y hy=>?_⟩
     ·show 1≤(d.Syms++[x]).length; simp
     ·show (d.Syms++[x]).length≤_; simp; omega
     ·rcases List.mem_append.1 hy with hy | hy
      ·exact hD.syms y hy
      ·rw [List.mem_singleton.1 hy]; exact hx
   ·rw [hxe]
    refine .by' (Ξ:=fun y=>y=x9 % 4) (Tot.rem (by decide) (Int.tmod_eq_emod_of_nonneg h9.1)) fun x18 h18=>Tot.sm (.by' (Ξ:=fun _=>True) (Tot.ap (by simp [lim]; omega) trivial) fun _ _=>.so ?_)
    obtain ⟨a1,a2⟩:=hadd (r++[⟨w64 (1+x18),nE,[x],0⟩]) (by simp [names])
    refine ⟨by simp; omega,fun d' hd2=>?_,a1,a2⟩
    rcases List.mem_append.1 hd2 with h | h
    ·exact hd' d' h
    ·rw [List.mem_singleton.1 h]
     refine ⟨?_,rfl,⟨Nat.le_refl 1,by show 1≤_; omega⟩,fun y hy=>?_⟩
     ·show 2≤w64 (1+x18)∧w64 (1+x18)≤4
      rw [w64_eq]; omega
     ·have hy:y∈[x]:=hy
      rw [List.mem_singleton.1 hy]; exact hx
  ·show 0≤i+1; omega
  ·show i+1≤4; omega
  ·show j.length≤(i+1).toNat; omega
  ·show ∀ d∈j,DeclM (i+1).toNat d
   rw [e]; exact hj.2.1
  ·show ∀ n∈names j,∃ k,k<(i+1).toNat∧Ltr[k]?=some n
   rw [e]; exact hj.2.2.2
  ·show i<i+1; omega
  ·show i+1≤4; omega
 ·have:=hd d hdm
  exact ⟨this.kind,this.tag,⟨this.n.1,by have:=this.n.2; omega⟩,this.syms⟩
end Go.Proofs
namespace Go.Proofs
open Go Go.Own
set_option maxRecDepth 100000
set_option linter.unusedVariables false
theorem sum_set (f:Rule→Nat):∀ (l:List Rule) (k:Nat) (r r':Rule),l[k]?=some r→((l.set k r').map f).sum+f r=(l.map f).sum+f r'
 | x::l,0,r,r',h=>by
  simp only [List.getElem?_cons_zero,Option.some.injEq] at h
  subst h
  simp only [List.set_cons_zero,List.map_cons,List.sum_cons]
  omega
 | x::l,k+1,r,r',h=>by
  simp only [List.getElem?_cons_succ] at h
  have:=sum_set f l k r r' h
  simp only [List.set_cons_succ,List.map_cons,List.sum_cons]
  omega
theorem left_set:∀ (l:List Rule) (k:Nat) (r r':Rule),l[k]?=some r→r'.Left=r.Left→(l.set k r').map (·.Left)=l.map (·.Left)
 | x::l,0,r,r',h,e=>by
  simp only [List.getElem?_cons_zero,Option.some.injEq] at h
  subst h
  simp only [List.set_cons_zero,List.map_cons,e]
 | x::l,k+1,r,r',h,e=>by
  simp only [List.getElem?_cons_succ] at h
  simp only [List.set_cons_succ,List.map_cons,left_set l k r r' h e]
theorem mem_sum (f:Rule→Nat):∀ (l:List Rule) (r:Rule),r∈l→f r≤(l.map f).sum
 | x::l,r,h=>by
  simp only [List.map_cons,List.sum_cons]
  rcases List.mem_cons.1 h with rfl | h
  ·omega
  ·have:=mem_sum f l r h
   omega
theorem sum0:∀ (l:List Rule),(l.map fun _=>0).sum=0
 | []=>rfl
 | _::l=>by simp only [List.map_cons,List.sum_cons,sum0 l]
structure RM (l:List Rule) (n:Nat) (A C:Nat):Prop where
 lf:l.map (·.Left)=NT4.take n
 alts:∀ r∈l,∀ a∈r.Alts,AltN (NT4.take n) a
 a:nA l≤A
 c:nC l≤C
theorem RM.mono {l:List Rule}{n A C A' C':Nat}(h:RM l n A C) (hA:A≤A') (hC:C≤C'):RM l n A' C':=⟨h.lf,h.alts,Nat.le_trans h.a hA,Nat.le_trans h.c hC⟩
theorem RM.add {l:List Rule}{n A C k:Nat}{r:Rule}{a:Alt}{c:Nat}(h:RM l n A C) (hr:l[k]?=some r) (ha:AltN (NT4.take n) a) (hc:codes a.Parts≤c) :
  RM (l.set k ⟨r.Left,r.Alts++[a],r.At⟩) n (A+1) (C+c):=by
 have hm:=List.mem_of_getElem? hr
 refine ⟨?_,fun r' hr' b hb=>?_,?_,?_⟩
 ·rw [left_set l k r ⟨r.Left,r.Alts++[a],r.At⟩ hr rfl]; exact h.lf
 ·rcases mem_set2 hr' with h' | rfl
  ·exact h.alts r' h' b hb
  ·rcases List.mem_append.1 hb with hb | hb
   ·exact h.alts r hm b hb
   ·rw [List.mem_singleton.1 hb]; exact ha
 ·have:=sum_set (fun r=>r.Alts.length) l k r ⟨r.Left,r.Alts++[a],r.At⟩ hr
  have ha:=h.a
  unfold nA at ha ⊢
  simp only [List.length_append,List.length_singleton] at this
  omega
 ·have:=sum_set (fun r=>cA r.Alts) l k r ⟨r.Left,r.Alts++[a],r.At⟩ hr
  have hcc:=h.c
  unfold nC at hcc ⊢
  have e:cA (r.Alts++[a])=cA r.Alts+codes a.Parts:=by
   unfold cA
   rw [List.map_append,List.sum_append]; rfl
  simp only [e] at this
  omega
theorem codes_app (l:List Part) (p:Part):codes (l++[p])=codes l+(if p.Code=nE then 0 else 1):=by
 unfold codes
 rw [List.filter_append,List.length_append]
 congr 1
 by_cases hc:p.Code=nE <;> simp [hc]
theorem n19 (x:yuccalaw0_Gr):Tot (pf19 x) SrcN:=by
 unfold pf19
 refine .by' (t22 x.Nons 4 (by decide) (by decide)) fun x1 h1=>.by' (n57 x.Levels) fun x2 h2=>?_
 have hw1:w64 (1+x1)=1+x1:=by rw [w64_eq]; omega
 rw [hw1]
 obtain ⟨n,hn⟩:∃ n:Nat,1+x1=n:=⟨(1+x1).toNat,by omega⟩
 rw [hn]
 have hn4:1≤n∧n≤4:=by omega
 refine .by' (Ξ:=fun l=>l=List.replicate n false) (Tot.mk (by simp [lim]; omega) rfl) fun x3 h3=>?_
 have h3l:x3.length=n:=by rw [h3]; simp
 have htl:(NT4.take n).length=n:=by rw [List.length_take]; show min n 4=n; omega
 refine Tot.by' (Ξ:=fun l=>RM l n 0 0) ?_ fun x5 h5=>?_
 ·refine Tot.count (fun s=>s.2) n (fun s=>0≤s.2∧s.2≤n∧s.1.map (·.Left)=NT4.take s.2.toNat∧∀ r∈s.1,r.Alts=[]) ⟨Int.le_refl 0,by show 0≤(n:Int); omega,rfl,fun d hd=>absurd hd (by simp)⟩ (by show (n:Int) - 0<_; omega) fun s hs=>?_
  obtain ⟨l,i⟩:=s
  obtain ⟨g0,g1,hl,hP⟩:=hs
  simp only at g0 g1 hl hP ⊢
  have hw:w64 (i+1)=i+1:=by rw [w64_eq]; omega
  rw [hw]
  refine Tot.cp (fun hlt=>?_) (fun _=>.so ⟨?_,fun r hr a ha=>?_,?_,?_⟩)
  ·obtain ⟨t,ht,htn,_⟩:=n58 i g0 (by omega)
   rw [ht]
   have hll:l.length≤4:=by
    have:=congrArg List.length hl
    rw [List.length_map,List.length_take] at this
    have h4:NT4.length=4:=rfl
    omega
   refine Tot.sm (.by' (Ξ:=fun _=>True) (Tot.ap (by simp [lim]; omega) trivial) fun _ _=>.so ⟨⟨?_,?_,?_,fun r hr=>?_⟩,?_,?_⟩)
   ·show 0≤i+1; omega
   ·show i+1≤(n:Int); omega
   ·show (l++[(⟨t,[],0⟩:Rule)]).map (·.Left)=NT4.take (i+1).toNat
    rw [List.map_append,hl,show (i+1).toNat=i.toNat+1 by omega,List.take_add_one,htn]
    rfl
   ·rcases List.mem_append.1 hr with hr | hr
    ·exact hP r hr
    ·rw [List.mem_singleton.1 hr]
   ·show i<i+1; omega
   ·show i+1≤(n:Int); omega
  ·have:i.toNat=n:=by omega
   rw [← this]; exact hl
  ·rw [hP r hr] at ha; exact absurd ha (by simp)
  ·unfold nA
   rw [List.map_congr_left (g:=fun _=>0) (fun r hr=>by rw [hP r hr]; rfl)]
   exact Nat.le_of_eq (sum0 l)
  ·unfold nC
   rw [List.map_congr_left (g:=fun _=>0) (fun r hr=>by rw [hP r hr]; rfl)]
   exact Nat.le_of_eq (sum0 l)
 have len:∀ {l:List Rule}{A C:Nat},RM l n A C→l.length=n:=fun h=>by
  have:=congrArg List.length h.lf
  rw [List.length_map,htl] at this
  exact this
 refine Tot.by' (Ξ:=fun r=>RM r.1 n 9 18∧(r.2.length:Int)=n) ?_ fun x11 h11=>?_
 ·refine Tot.count (fun s=>s.2.2) 9 (fun s=>0≤s.2.2∧s.2.2≤9∧RM s.1 n s.2.2.toNat (2 * s.2.2.toNat)∧(s.2.1.length:Int)=n) ⟨Int.le_refl 0,by show (0:Int)≤9; decide,h5,by show (x3.length:Int)=_; omega⟩ (by show (9:Int) - 0<_; decide) fun s hs=>?_
  obtain ⟨l,hb,i⟩:=s
  obtain ⟨g0,g1,hl,hhb⟩:=hs
  simp only at g0 g1 hl hhb ⊢
  have hw:w64 (i+1)=i+1:=by rw [w64_eq]; omega
  rw [hw]
  refine .by' (Ξ:=fun c=>c=true→i<x.Rules.length∧i<9) (Tot.cp (fun h=>.so fun h2=>⟨h,of_decide_eq_true h2⟩) (fun _=>.so fun h=>by cases h)) fun c hc=>Tot.cd (fun hc1=>?_) (fun _=>.so ⟨hl.mono (by omega) (by omega),hhb⟩)
  obtain ⟨hi,hi9⟩:=hc hc1
  have hlt':i.toNat<x.Rules.length:=by omega
  have hidx:idx x.Rules i=some x.Rules[i.toNat]:=by simp [idx,g0,hlt']
  refine Tot.by' (Ξ:=fun j=>RM j.1 n (i.toNat+1) (2 * (i.toNat+1))∧(j.2.length:Int)=n) ?_ fun j hj=>.so ⟨⟨?_,?_,?_,hj.2⟩,?_,?_⟩
  ·rw [hidx]
   generalize x.Rules[i.toNat]=rl
   refine Tot.sm (Tot.cp (fun _=>.so ⟨hl.mono (by omega) (by omega),hhb⟩) (fun hne=>Tot.sm ?_))
   refine .by' (Tot.ix (Φ:=fun _=>True) (Int.le_refl 0) (by omega) fun _ _ _=>trivial) fun x20 _=>.by' (t22 x20 n (by omega) (by omega)) fun x21 h21=>?_
   refine Tot.by' (Ξ:=fun r=>r.1.length≤5∧codes r.1≤1∧∀ p∈r.1,PartN (NT4.take n) p) ?_ fun x23 h23=>?_
   ·refine Tot.count (fun s=>s.2.2) 5 (fun s=>1≤s.2.2∧s.2.2≤5∧(s.1.length:Int)≤(s.2.2 - 1)+codes s.1∧(codes s.1:Int)≤(if s.2.2≤1 then 0 else 1)∧∀ p∈s.1,PartN (NT4.take n) p) ⟨Int.le_refl 1,by show (1:Int)≤5; decide,by show (0:Int)≤_; decide,by show (0:Int)≤_; decide,fun d hd=>absurd hd (by simp)⟩ (by show (5:Int) - 1<_; decide) fun s hs=>?_
    obtain ⟨p,pl,k⟩:=s
    obtain ⟨e0,e1,ep,ec,hq⟩:=hs
    simp only at e0 e1 ep ec hq ⊢
    have hwk:w64 (k+1)=k+1:=by rw [w64_eq]; omega
    have ec1:codes p≤1:=by split at ec <;> omega
    rw [hwk]
    refine .by' (Ξ:=fun c=>c=true→k<rl.length∧k<5) (Tot.sm (Tot.cp (fun h=>.so fun h2=>⟨h,of_decide_eq_true h2⟩) (fun _=>.so fun h=>by cases h))) fun c hc=>Tot.cd (fun hc1=>?_) (fun _=>.so ⟨by show p.length≤5; omega,ec1,hq⟩)
    obtain ⟨hk,hk5⟩:=hc hc1
    refine Tot.by' (Ξ:=fun j=>(j.1.length:Int)≤k+codes j.1∧(codes j.1:Int)≤1∧∀ p∈j.1,PartN (NT4.take n) p) ?_ fun j hj=>.so ⟨⟨?_,?_,?_,?_,hj.2.2⟩,?_,?_⟩
    ·refine Tot.sm (.by' (Tot.ix (Φ:=fun _=>True) (by omega) hk fun _ _ _=>trivial) fun x31 _=>.by' (n59 x31 n (by omega)) fun x32 h32=>?_)
     refine .by' (Ξ:=fun _=>True) (Tot.cd (fun _=>Tot.cd (fun _=>.so trivial) (fun _=>.so trivial)) (fun _=>.so trivial)) fun c35 _=>?_
     refine .by' (Ξ:=fun _=>True) (Tot.ap (by simp [lim]; omega) trivial) fun _ _=>?_
     have hc1:codes (p++[(⟨x32,nE,0⟩:Part)])=codes p:=by rw [codes_app]; rfl
     have hp1:∀ q∈p++[(⟨x32,nE,0⟩:Part)],PartN (NT4.take n) q:=fun q hq'=>by
      rcases List.mem_append.1 hq' with h | h
      ·exact hq q h
      ·rw [List.mem_singleton.1 h]; exact h32
     refine .by' (Ξ:=fun c=>c=true→k=1) ?_ fun c41 h41=>?_
     ·refine Tot.cp (fun hin=>Tot.cp (fun hk1=>?_) (fun _=>.so fun h=>by cases h)) (fun _=>.so fun h=>by cases h)
      exact .by' (Tot.ix (Φ:=fun _=>True) g0 hin fun _ _ _=>trivial) fun _ _=>.by' (Ξ:=fun _=>True) (Tot.rem (by decide) trivial) fun _ _=>.so fun _=>hk1
     ·refine .by' (Ξ:=fun l=>(l.length:Int)≤k+codes l∧(codes l:Int)≤1∧∀ p∈l,PartN (NT4.take n) p) ?_ fun j42 h42=>.so h42
      refine Tot.cd (fun hc=>?_) (fun _=>.so ⟨by rw [hc1]; simp; omega,by rw [hc1]; omega,hp1⟩)
      have hk1:=h41 hc
      rw [if_pos (by omega)] at ec
      have hc2:codes ((p++[(⟨x32,nE,0⟩:Part)])++[(⟨syN,cod1,0⟩:Part)])=codes p+1:=by rw [codes_app,hc1]; rfl
      refine .by' (Ξ:=fun _=>True) (Tot.ap (by simp [lim]; omega) trivial) fun _ _=>.so ⟨?_,?_,fun q hq'=>?_⟩
      ·show ((((p++[(⟨x32,nE,0⟩:Part)])++[(⟨syN,cod1,0⟩:Part)]).length:Nat):Int)≤k+codes ((p++[(⟨x32,nE,0⟩:Part)])++[(⟨syN,cod1,0⟩:Part)])
       rw [hc2]; simp; omega
      ·show ((codes ((p++[(⟨x32,nE,0⟩:Part)])++[(⟨syN,cod1,0⟩:Part)]):Nat):Int)≤1
       rw [hc2]; omega
      ·rcases List.mem_append.1 hq' with h | h
       ·exact hp1 q h
       ·rw [List.mem_singleton.1 h]; exact .inr (.inr (.inl rfl))
    ·show 1≤k+1; omega
    ·show k+1≤5; omega
    ·show (j.1.length:Int)≤(k+1 - 1)+codes j.1
     have:=hj.1; omega
    ·show (codes j.1:Int)≤(if k+1≤1 then 0 else 1)
     rw [if_neg (by omega)]; exact hj.2.1
    ·show k<k+1; omega
    ·show k+1≤5; omega
   ·refine .by' (Ξ:=fun _=>True) (Tot.cp (fun h=>.by' (Tot.ix (Φ:=fun _=>True) g0 h fun _ _ _=>trivial) fun _ _=>.by' (Ξ:=fun _=>True) (Tot.rem (by decide) trivial) fun _ _=>.so trivial) (fun _=>.so trivial)) fun c48 _=>?_
    refine Tot.by' (Ξ:=fun l=>l.length≤6∧codes l≤2∧∀ p∈l,PartN (NT4.take n) p) ?_ fun j49 h49=>?_
    ·refine Tot.cd (fun _=>?_) (fun _=>.so ⟨by omega,by omega,h23.2.2⟩)
     have hc2:codes (x23.1++[(⟨syN,cod2,0⟩:Part)])=codes x23.1+1:=by rw [codes_app]; rfl
     refine .by' (Ξ:=fun _=>True) (Tot.ap (by simp [lim]; omega) trivial) fun _ _=>.so ⟨by simp; omega,by show codes (x23.1++[(⟨syN,cod2,0⟩:Part)])≤2; omega,fun p hp=>?_⟩
     rcases List.mem_append.1 hp with hp | hp
     ·exact h23.2.2 p hp
     ·rw [List.mem_singleton.1 hp]; exact .inr (.inr (.inr rfl))
    ·have hlen:=len hl
     refine Tot.by' (Ξ:=fun l=>(l.length:Int)=n) ?_ fun c54 h54=>?_
     ·refine .by' (Tot.ix (Φ:=fun _=>True) h21.1 (by omega) fun _ _ _=>trivial) fun _ _=>Tot.cd (fun _=>.so (by simp; omega)) (fun _=>.so (by simp; omega))
     ·refine .by' (Tot.ix (Φ:=fun y=>l[x21.toNat]?=some y∧y∈l) h21.1 (by omega) fun y hy hm=>⟨(idx_spec hy).2.2,hm⟩) fun x55 h55=>?_
      have hal:x55.Alts.length≤9:=by
       have:=mem_sum (fun r=>r.Alts.length) l x55 h55.2
       have h9:=hl.a
       unfold nA at h9
       omega
      refine .by' (Ξ:=fun _=>True) (Tot.ap (by simp [lim]; omega) trivial) fun _ _=>.so ⟨?_,h54⟩
      exact (hl.add h55.1 ⟨h49.1,h49.2.2,rfl⟩ h49.2.1).mono (by omega) (by omega)
  ·show 0≤i+1; omega
  ·show i+1≤9; omega
  ·show RM j.1 n (i+1).toNat (2 * (i+1).toNat)
   rw [show (i+1).toNat=i.toNat+1 by omega]
   exact hj.1
  ·show i<i+1; omega
  ·show i+1≤9; omega
 refine Tot.by' (Ξ:=fun l=>RM l n 13 18∧∀ r∈l,1≤r.Alts.length) ?_ fun x58 h58=>.so ⟨rfl,?_,?_,?_,fun r hr=>?_,fun r hr=>?_,?_,h58.1.a,h58.1.c⟩
 ·refine Tot.count (fun s=>s.2) n (fun s=>0≤s.2∧s.2≤n∧RM s.1 n (9+s.2.toNat) 18∧∀ (j:Nat) (r:Rule),j<s.2.toNat→s.1[j]?=some r→1≤r.Alts.length) ⟨Int.le_refl 0,by show (0:Int)≤n; omega,h11.1,fun j r h=>absurd h (Nat.not_lt_zero j)⟩ (by show (n:Int) - 0<_; omega) fun s hs=>?_
  obtain ⟨l,i⟩:=s
  obtain ⟨g0,g1,hl,hP⟩:=hs
  simp only at g0 g1 hl hP ⊢
  have hw:w64 (i+1)=i+1:=by rw [w64_eq]; omega
  rw [hw]
  have hlen:=len hl
  refine Tot.cp (fun hlt=>?_) (fun _=>.so ⟨hl.mono (by omega) (by omega),fun r hr=>?_⟩)
  ·refine Tot.by' (Ξ:=fun l=>RM l n (9+i.toNat+1) 18∧∀ (j:Nat) (r:Rule),j<i.toNat+1→l[j]?=some r→1≤r.Alts.length) ?_ fun j hj=>.so ⟨⟨?_,?_,?_,?_⟩,?_,?_⟩
   ·obtain ⟨y,hy,hm⟩:=idx_some' (l:=l) (i:=i) g0 (by omega)
    have hy2:=(idx_spec hy).2.2
    refine .by' (Ξ:=fun c=>c=false→1≤y.Alts.length) ?_ fun c66 h66=>?_
    ·rw [hy]
     refine Tot.sm (Tot.cp (fun _=>.so fun h=>by cases h) (fun hne=>?_))
     have h1:1≤y.Alts.length:=by omega
     exact .by' (Tot.ix (Φ:=fun _=>True) g0 (by omega) fun _ _ _=>trivial) fun _ _=>Tot.cd (fun _=>.so fun _=>h1) (fun _=>.so fun _=>h1)
    ·refine Tot.by' (Ξ:=fun l=>RM l n (9+i.toNat+1) 18∧∀ (j:Nat) (r:Rule),j<i.toNat+1→l[j]?=some r→1≤r.Alts.length) ?_ fun j hj=>.so hj
     refine Tot.cd (fun _=>?_) (fun hcf=>.so ⟨hl.mono (by omega) (by omega),fun j r hj hr=>?_⟩)
     ·rw [hy]
      obtain ⟨x,hx,hxe,_⟩:=n60 i g0 (by omega)
      rw [hxe]
      have hal:y.Alts.length≤13:=by
       have:=mem_sum (fun r=>r.Alts.length) l y hm
       have h9:=hl.a
       unfold nA at h9
       omega
      refine Tot.sm (Tot.sm (.by' (Ξ:=fun _=>True) (Tot.ap (by simp [lim]; omega) trivial) fun _ _=>.so ⟨?_,fun j r hj hr=>?_⟩))
      ·exact hl.add (c:=0) hy2 ⟨by show 1≤6; omega,fun p hp=>by
        have hp:p∈[(⟨x,nE,0⟩:Part)]:=hp
        rw [List.mem_singleton.1 hp]; exact .inl ⟨x,hx,rfl⟩,rfl⟩ (by show codes [(⟨x,nE,0⟩:Part)]≤0; exact Nat.le_refl 0)
      ·rw [List.getElem?_set] at hr
       split at hr
       ·split at hr
        ·cases hr
         show 1≤(y.Alts++[_]).length; simp
        ·cases hr
       ·exact hP j r (by omega) hr
     ·by_cases hji:j<i.toNat
      ·exact hP j r hji hr
      ·have:j=i.toNat:=by omega
       subst this
       rw [hy2] at hr
       cases hr
       exact h66 hcf
   ·show 0≤i+1; omega
   ·show i+1≤(n:Int); omega
   ·show RM j n (9+(i+1).toNat) 18
    rw [show (i+1).toNat=i.toNat+1 by omega]
    exact hj.1
   ·show ∀ (k:Nat) (r:Rule),k<(i+1).toNat→j[k]?=some r→1≤r.Alts.length
    rw [show (i+1).toNat=i.toNat+1 by omega]
    exact hj.2
   ·show i<i+1; omega
   ·show i+1≤(n:Int); omega
  ·obtain ⟨j,hj,rfl⟩:=List.mem_iff_getElem.1 hr
   exact hP j _ (by omega) (List.getElem?_eq_getElem hj)
 ·exact h2.2.1
 ·exact h2.1
 ·exact h2.2.2
 ·have hmem:r.Left∈x58.map (·.Left):=List.mem_map.2 ⟨r,hr,rfl⟩
  refine ⟨hmem,⟨h58.2 r hr,?_⟩,fun a ha=>?_⟩
  ·have:=mem_sum (fun r=>r.Alts.length) x58 r hr
   have h9:=h58.1.a
   unfold nA at h9
   omega
  ·show AltN (x58.map (·.Left)) a
   rw [h58.1.lf]
   exact h58.1.alts r hr a ha
 ·have hmem:r.Left∈x58.map (·.Left):=List.mem_map.2 ⟨r,hr,rfl⟩
  rw [h58.1.lf] at hmem
  exact List.mem_of_mem_take hmem
 ·have:=len h58.1
  show 1≤x58.length∧x58.length≤4
  omega
end Go.Proofs
namespace Go.Proofs
open Go Go.Own
set_option maxRecDepth 100000
set_option linter.unusedVariables false
theorem t20 (s:Source) (hb:SrcB s):Tot (pf20 s) fun r=>r.2=true→GOk r.1:=by
 unfold pf20
 exact .by' (t61 s hb) fun r hr=>.so fun h=>hr (of_decide_eq_true h)
end Go.Proofs
namespace Go.Proofs
open Go Go.Own
set_option maxRecDepth 100000
set_option linter.unusedVariables false
theorem g19 (x:yuccalaw0_Gr):∃ s g,pf19 x=some s∧SrcB s∧SrcN s∧pf20 s=some (g,true)∧GOk g:=by
 obtain ⟨s,hs,hb⟩:=t19 x
 obtain ⟨s',hs',hn⟩:=n19 x
 rw [hs] at hs'
 cases hs'
 obtain ⟨⟨g,c⟩,hg,hok⟩:=t20 s hb
 have hc:c=true:=by
  obtain ⟨r,hr,h0⟩:=n61 s hn
  unfold pf20 at hg
  rw [hr] at hg
  simp only [Option.bind_some,Option.some.injEq] at hg
  have:=congrArg Prod.snd hg
  exact this.symm.trans (decide_eq_true h0)
 subst hc
 exact ⟨s,g,hs,hb,hn,hg,hok rfl⟩
end Go.Proofs
namespace Go.Proofs
open Go Go.Own Go.Sort
set_option maxRecDepth 100000
set_option linter.unusedVariables false
theorem eq_item (x y:Item):(decide (x.Prod=y.Prod)&&(decide (x.Dot=y.Dot)&&true))=decide (x=y):=by
 obtain ⟨x1,x2⟩:=x
 obtain ⟨y1,y2⟩:=y
 simp
theorem c35 (a b:List Item) (h:a.length≤1000000):Tot (pf35 a b) fun c=>(c=true↔a=b):=by
 unfold pf35
 refine Tot.cn (fun hne=>.so ⟨fun h=>(by cases h),fun e=>absurd (by rw [e]) hne⟩) (fun he=>?_)
 have hl:a.length=b.length:=by omega
 refine Tot.by' (Ξ:=LR (fun _=>a=b) (fun x:Bool=>x=false∧a≠b)) ?_ fun x hx=>?_
 ·refine Tot.count (fun s=>s) a.length (fun s=>∃ k:Nat,k≤a.length∧s=(k:Int)∧∀ (j:Nat) (h:j<a.length),j<k→a[j]=b[j]) ⟨0,Nat.zero_le _,rfl,fun j _ hj=>absurd hj (Nat.not_lt_zero _)⟩ (by show (a.length:Int) - 0<_; omega) fun s hs=>?_
  obtain ⟨k,hk,rfl,hE⟩:=hs
  rw [w64n k (by omega)]
  refine Tot.cp (fun hlt=>?_) (fun hge=>.so ?_)
  ·have hlt:k<a.length:=by omega
   have hltb:k<b.length:=by omega
   rw [idx_nat hlt,idx_nat hltb]
   simp only [Option.bind_some,eq_item]
   refine Tot.cn (fun hne=>.so ⟨rfl,fun e=>hne (by subst e; rfl)⟩) (fun heq=>.so ⟨⟨k+1,by omega,rfl,fun j hj hjk=>?_⟩,by show (k:Int)<((k+1:Nat):Int); omega,by show ((k+1:Nat):Int)≤_; omega⟩)
   by_cases e:j=k
   ·subst e; exact heq
   ·exact hE j hj (by omega)
  ·exact List.ext_getElem hl fun i h1 h2=>hE i h1 (by omega)
 ·rcases x with _ | x
  ·exact .so ⟨fun _=>hx,fun _=>rfl⟩
  ·obtain ⟨rfl,hne⟩:x=false∧a≠b:=hx
   exact .so ⟨fun h=>(by cases h),fun h=>absurd h hne⟩
theorem c42 (l:List Item) (x:Item) (h:l.length≤1000000):Tot (pf42 l x) fun c=>(c=true↔x∈l):=by
 unfold pf42
 refine Tot.by' (Tot.scan l (fun y=>y≠x) (fun b:Bool=>b=true∧x∈l) (by omega) (fun s y h0 h1 hi hm=>?_) (fun s hs=>by simp [hs])) fun r hr=>?_
 ·refine Tot.cp (fun _=>?_) (fun h=>absurd h1 h)
  rw [hi]
  simp only [Option.bind_some,eq_item]
  refine Tot.cp (fun e=>.so ⟨rfl,e ▸ hm⟩) (fun e=>.so ⟨?_,e⟩)
  rw [w64_eq]; omega
 ·rcases r with _ | r
  ·have hr:∀ y∈l,y≠x:=hr
   exact .so ⟨fun h=>(by cases h),fun h=>absurd rfl (hr x h)⟩
  ·obtain ⟨rfl,hm⟩:r=true∧x∈l:=hr
   exact .so ⟨fun _=>hm,fun _=>rfl⟩
theorem c30 (g:Grammar) (hg:GOk g) (l:List Int) (n:Int) (h0:0≤n) (hn:n≤1000):Tot (pf30 g l n) fun r=>r.length≤1000:=by
 have hpn:=hg.pn
 unfold pf30
 refine .by' (Ξ:=fun r:List Item=>r.length≤1000) ?_ fun r hr=>.so hr
 refine Tot.count (fun s=>s.2) n (fun s=>0≤s.2∧s.2≤n∧(s.1.length:Int)=s.2) ⟨Int.le_refl _,h0,rfl⟩ (by show n - 0<_; omega) fun s hs=>?_
 obtain ⟨o,i⟩:=s
 obtain ⟨h1,h2,h3⟩:=hs
 simp only at h1 h2 h3 ⊢
 have hw:w64 (i+1)=i+1:=by rw [w64_eq]; omega
 have hw2:w64 (8 * (w64 ((g.Prods.length:Int)+1)))=8 * ((g.Prods.length:Int)+1):=by
  have:w64 ((g.Prods.length:Int)+1)=(g.Prods.length:Int)+1:=by rw [w64_eq]; omega
  rw [this,w64_eq]; omega
 rw [hw,hw2]
 refine .by' (Ξ:=fun c:Bool=>c=true→i<l.length∧i<n) (Tot.cp (fun h=>.so fun h'=>⟨h,of_decide_eq_true h'⟩) (fun h=>.so fun h'=>(by cases h'))) fun c hc=>Tot.cd (fun h=>?_) (fun h=>.so (show o.length≤1000 by omega))
 obtain ⟨hi,hin⟩:=hc h
 obtain ⟨y,hy,_⟩:=idx_some' h1 hi
 rw [hy]
 refine Tot.sm (.by' (t22 y (8 * ((g.Prods.length:Int)+1)) (by omega) (by omega)) fun z hz=>.by' (Ξ:=fun _=>True) (Tot.quo (by decide) trivial) fun _ _=>.by' (Ξ:=fun _=>True) (Tot.rem (by decide) trivial) fun _ _=>.by' (Ξ:=fun _=>True) (Tot.ap (by simp [lim]; omega) trivial) fun _ _=>.so ⟨⟨by show 0≤i+1; omega,by show i+1≤n; omega,?_⟩,by show i<i+1; omega,by show i+1≤n; omega⟩)
 show (((o++[_]).length:Nat):Int)=i+1
 simp; omega
theorem c31 (l:List Item):Tot (pf31 l 6) fun r=>r.length≤6:=by
 unfold pf31
 refine Tot.cp (fun h=>.by' (Ξ:=fun r:List Item=>r.length≤6) (Tot.sub ⟨by decide,by decide,by omega⟩ ?_) fun r hr=>.so hr) (fun h=>.so (by omega))
 rw [List.length_take]; exact Nat.min_le_left _ _
theorem c34 (g:Grammar) (hg:GOk g) (k:Int):Tot (pf34 g k) fun r=>((0≤r∧r<g.Toks.length)∨(1000≤r∧r<1000+g.Nons.length))∧(0≤k→k<g.Toks.length+g.Nons.length→r=if k<g.Toks.length then k else 1000+k - g.Toks.length):=by
 have htn:=hg.tn
 have hnn:=hg.nn
 unfold pf34
 have hw:w64 ((g.Toks.length:Int)+(g.Nons.length:Int))=(g.Toks.length:Int)+(g.Nons.length:Int):=by rw [w64_eq]; omega
 rw [hw]
 have h22:Tot (pf22 k ((g.Toks.length:Int)+(g.Nons.length:Int))) fun r=>(0≤r∧r<(g.Toks.length:Int)+(g.Nons.length:Int))∧(0≤k→k<(g.Toks.length:Int)+(g.Nons.length:Int)→r=k):=by
  obtain ⟨r,hr,h⟩:=t22 k ((g.Toks.length:Int)+(g.Nons.length:Int)) (by omega) (by omega)
  refine ⟨r,hr,h,fun h0 h1=>?_⟩
  unfold pf22 at hr
  have:remO k ((g.Toks.length:Int)+(g.Nons.length:Int))=some k:=by
   unfold remO
   rw [if_neg (by omega),Int.tmod_eq_emod_of_nonneg h0,Int.emod_eq_of_lt h0 h1]
  rw [this] at hr
  have hn:¬ k<0:=by omega
  simp [hn] at hr
  exact hr.symm
 refine .by' h22 fun x hx=>Tot.cp (fun h=>.so ?_) (fun h=>.so ⟨.inl ⟨hx.1.1,by omega⟩,fun h0 h1=>?_⟩)
 ·have hw2:w64 (w64 (1000+x) - (g.Toks.length:Int))=1000+x - g.Toks.length:=by
   have:w64 (1000+x)=1000+x:=by rw [w64_eq]; omega
   rw [this,w64_eq]; omega
  rw [hw2]
  refine ⟨.inr ⟨by omega,by omega⟩,fun h0 h1=>?_⟩
  have:=hx.2 h0 h1
  rw [if_neg (by omega)]; omega
 ·have:=hx.2 h0 h1
  rw [if_pos (by omega)]; exact this
end Go.Proofs
namespace Go.Proofs
open Go Go.Own Go.Sort
set_option maxRecDepth 100000
set_option linter.unusedVariables false
end Go.Proofs
namespace Go.Proofs
open Go Go.Own Go.Sort
set_option maxRecDepth 100000
set_option linter.unusedVariables false
theorem t10 (x:yuccalaw0_Gr) (a:Int):pf10 x a=some true:=by
 suffices h:Tot (pf10 x a) fun r=>r=true by
  obtain ⟨r,hr,e⟩:=h; rw [hr,e]
 unfold pf10
 obtain ⟨s,g,hs,hb,_,hgr,hg⟩:=g19 x
 simp only [w29,hs,hgr,Option.bind_some,Bool.not_true,cond_false]
 have hpn:=hg.pn
 refine .by' (t22 a (g.Prods.length:Int) (by omega) (by omega)) fun p hp=>?_
 obtain ⟨q,hq,hqm⟩:=idx_some' hp.1 hp.2
 rw [hq]
 have hql:=hg.rn q hqm
 have hnx:∀ (k:Nat) (h:k<q.Right.length),nx g ⟨p,(k:Nat)⟩=q.Right[k]:=by
  intro k h
  unfold nx
  simp only [hq]
  rw [idx_nat h]; rfl
 have hii:∀ (k:Nat),k≤q.Right.length→isI g ⟨p,(k:Nat)⟩:=fun k h=>⟨q,hq,by show (0:Int)≤(k:Int); omega,by show (k:Int)≤_; omega⟩
 refine Tot.sm (Tot.by' (Ξ:=LR (fun l:List Item=>l.length≤540∧(⟨p,(q.Right.length:Nat)⟩:Item)∈l) (fun _=>False)) ?_ fun r hr=>?_)
 ·refine Tot.count (fun s=>s.2) q.Right.length (fun s=>∃ k:Nat,k≤q.Right.length∧s.2=(k:Int)∧s.1.length≤540∧(⟨p,(k:Nat)⟩:Item)∈s.1) ⟨0,Nat.zero_le _,rfl,by show 1≤540; decide,by simp⟩ (by show (q.Right.length:Int) - 0<_; omega) fun s hs=>?_
  obtain ⟨l,k'⟩:=s
  obtain ⟨k,hk,rfl,hl,hm⟩:=hs
  simp only at hl hm ⊢
  rw [w64n k (by omega)]
  refine Tot.cp (fun hlt=>?_) (fun hge=>.so ?_)
  ·have hlt:k<q.Right.length:=by omega
   have hn:=hnx k hlt
   have hsm:=List.getElem_mem hlt
   have hsy:=(hg.pr q hqm).right _ hsm
   rw [idx_nat hlt]
   generalize q.Right[k]=sy at *
   have hge0:0≤sy:=by rcases hsy with h | h <;> omega
   obtain ⟨c42',e42,h42⟩:=c42 l ⟨p,(k:Nat)⟩ (by omega)
   rw [e42,h42.2 hm]
   simp only [Option.bind_some,Bool.not_true,cond_false,e32,hn,decide_true]
   refine .by' (c36 g hg l (by omega)) fun c hc=>?_
   have hcl:=asc_len hg hc.1 fun x hx=>((hc.2 x).1 hx).isI
   refine Tot.by' (Ξ:=LR (fun _=>True) (fun _=>False)) ?_ fun r hr=>?_
   ·refine Tot.count (fun s=>s) g.Prods.length (fun s=>0≤s) (Int.le_refl _) (by show (g.Prods.length:Int) - 0<_; omega) fun i hi=>?_
    refine Tot.cp (fun hlti=>?_) (fun _=>.so trivial)
    obtain ⟨n,rfl⟩:∃ n:Nat,i=(n:Int):=⟨i.toNat,by omega⟩
    have hlti:n<g.Prods.length:=by omega
    have hpn2:g.Prods[n]?=some g.Prods[n]:=List.getElem?_eq_getElem hlti
    have hlf:=(hg.pr _ (List.getElem_mem hlti)).left
    rw [idx_nat hlti]
    generalize g.Prods[n]=q' at *
    have hnn:=hg.nn
    have hw:w64 (1000+q'.Left)=1000+q'.Left:=by rw [w64_eq]; omega
    simp only [Option.bind_some,hw]
    refine .by' (Ξ:=fun b:Bool=>b=false) (Tot.cp (fun h=>?_) (fun h=>.so rfl)) fun b hb=>?_
    ·obtain ⟨b,eb,hb⟩:=c42 c ⟨(n:Nat),0⟩ (by omega)
     rw [eb]
     refine Tot.sm (.so ?_)
     rw [hb.2 ((hc.2 _).2 (.step (.base hm (hii k hk)) hpn2 (by rw [hn]; omega) (by rw [hn]; omega)))]; rfl
    ·subst hb
     refine .so ⟨?_,?_,?_⟩
     ·show 0≤w64 _; rw [w64_eq]; omega
     ·show (n:Int)<w64 _; rw [w64_eq]; omega
     ·show w64 _≤_; rw [w64_eq]; omega
   ·rcases r with r | r
    ·refine .by' (c38 g hg l sy (by omega)) fun o ho=>.so ⟨⟨k+1,by omega,rfl,?_,?_⟩,by show (k:Int)<((k+1:Nat):Int); omega,by show ((k+1:Nat):Int)≤_; omega⟩
     ·exact asc_len hg ho.1 fun x hx=>((ho.2 x).1 hx).isI hg
     ·exact (ho.2 _).2 ⟨⟨p,(k:Nat)⟩,.base hm (hii k hk),hn,hge0,by simp⟩
    ·exact hr.elim
  ·have:k=q.Right.length:=by omega
   subst this
   exact ⟨hl,hm⟩
 ·rcases r with l | r
  ·obtain ⟨hl,hm⟩:=hr
   have hw:w64 ((q.Right.length:Int)+1)=(q.Right.length:Int)+1:=by rw [w64_eq]; omega
   have hn1:nx g ⟨p,(q.Right.length:Int)⟩=-1:=by
    unfold nx
    simp only [hq]
    rw [idx_none' (.inr (by omega))]; rfl
   have hn2:nx g ⟨p,(q.Right.length:Int)+1⟩=-1:=by
    unfold nx
    simp only [hq]
    rw [idx_none' (.inr (by omega))]; rfl
   obtain ⟨b,eb,hb⟩:=c42 l ⟨p,(q.Right.length:Nat)⟩ (by omega)
   simp only [eb,hb.2 hm,Option.bind_some,e32,hn1,hw,hn2,cond_true,decide_true]
   exact .so rfl
  ·exact hr.elim
theorem Cl.again {g:Grammar}{l c:List Item}(hc:∀ x,x∈c↔Cl g l x) (x:Item):Cl g c x↔Cl g l x:=by
 constructor
 ·intro h
  induction h with
  | base h _=>exact (hc _).1 h
  | step _ hp hn h0 ih=>exact .step ih hp hn h0
 ·exact fun h=>.base ((hc x).2 h) h.isI
def ixS (T:Int) (s:Int):Int:=if s<1000 then s else s - 1000+T
theorem filt_add {α:Type}(p q:α→Bool):∀ l:List α,(∀ x∈l,¬ (p x=true∧q x=true))→(l.filter fun x=>p x||q x).length=(l.filter p).length+(l.filter q).length
 | [],_=>rfl
 | x::l,h=>by
  have ih:=filt_add p q l fun y hy=>h y (by simp [hy])
  have hx:=h x (by simp)
  simp only [List.filter_cons]
  cases hp:p x <;> cases hq:q x <;> simp [ih] <;> simp_all <;> omega
theorem ov_len {g:Grammar}(hg:GOk g) {l c r:List Item}{a:Int}(hc:Asc ltI c∧∀ x,x∈c↔Cl g l x) (hr:Asc ltI r∧∀ y,y∈r↔Ov g l a y):r.length=(c.filter fun x=>decide (0≤a∧nx g x=a)).length:=by
 have:r=(c.filter fun x=>decide (0≤a∧nx g x=a)).map fun x=>(⟨x.Prod,x.Dot+1⟩:Item):=by
  refine hr.1.uniq ordI ?_ fun y=>?_
  ·unfold Asc
   rw [List.pairwise_map]
   exact (List.Pairwise.sublist List.filter_sublist hc.1).imp fun h=>ltI_succ h
  ·rw [hr.2 y,List.mem_map]
   constructor
   ·rintro ⟨x,hx,h1,h2,rfl⟩
    exact ⟨x,by rw [List.mem_filter,decide_eq_true_eq]; exact ⟨(hc.2 x).2 hx,h2,h1⟩,rfl⟩
   ·rintro ⟨x,hx,rfl⟩
    rw [List.mem_filter,decide_eq_true_eq] at hx
    exact ⟨x,(hc.2 x).1 hx.1,hx.2.2,hx.2.1,rfl⟩
 rw [this,List.length_map]
theorem t9 (x:yuccalaw0_Gr) (l:List Int):pf9 x l=some true:=by
 suffices h:Tot (pf9 x l) fun r=>r=true by
  obtain ⟨r,hr,e⟩:=h; rw [hr,e]
 unfold pf9
 obtain ⟨s,g,hs,hb,_,hgr,hg⟩:=g19 x
 simp only [w29,hs,hgr,Option.bind_some,Bool.not_true,cond_false]
 have hpn:=hg.pn
 have htn:=hg.tn
 have hnn:=hg.nn
 refine .by' (c30 g hg l 6 (by decide) (by decide)) fun m hm=>.by' (c36 g hg m (by omega)) fun c hc=>?_
 have hcl:=asc_len hg hc.1 fun x hx=>((hc.2 x).1 hx).isI
 refine Tot.by' (Ξ:=LR (fun n:Int=>n=((c.filter fun x=>decide (0≤nx g x)).length:Nat)) (fun _=>False)) ?_ fun r hr=>?_
 ·refine Tot.count (fun s=>s.2) c.length (fun s=>∃ k:Nat,k≤c.length∧s.2=(k:Int)∧s.1=(((c.take k).filter fun x=>decide (0≤nx g x)).length:Nat)) ⟨0,Nat.zero_le _,rfl,rfl⟩ (by show (c.length:Int) - 0<_; omega) fun s hs=>?_
  obtain ⟨n,k'⟩:=s
  obtain ⟨k,hk,rfl,rfl⟩:=hs
  simp only
  have hfl:=List.length_filter_le (fun x=>decide (0≤nx g x)) (c.take k)
  rw [List.length_take] at hfl
  rw [w64n k (by omega)]
  refine Tot.cp (fun hlt=>?_) (fun hge=>.so ?_)
  ·have hlt:k<c.length:=by omega
   have hxc:=(hc.2 _).1 (List.getElem_mem hlt)
   have htk:=take_snoc' hlt
   rw [idx_nat hlt]
   generalize c[k]=y at *
   have hd:=isI_dot hg hxc.isI
   have hw:w64 (y.Dot+1)=y.Dot+1:=by rw [w64_eq]; omega
   simp only [Option.bind_some,e32,hw]
   refine Tot.cp (fun hneg=>.so ⟨⟨k+1,by omega,rfl,?_⟩,by show (k:Int)<((k+1:Nat):Int); omega,by show ((k+1:Nat):Int)≤_; omega⟩) (fun hpos=>?_)
   ·show ((List.length _:Nat):Int)=_
    rw [htk,List.filter_append,List.length_append,List.filter_cons,if_neg (by simpa using hneg)]; rfl
   ·refine .by' (c38 g hg m (nx g y) (by omega)) fun o ho=>?_
    have hol:=asc_len hg ho.1 fun x hx=>((ho.2 x).1 hx).isI hg
    obtain ⟨b,eb,hb⟩:=c42 o ⟨y.Prod,y.Dot+1⟩ (by omega)
    rw [eb,hb.2 ((ho.2 _).2 ⟨y,hxc,rfl,by omega,rfl⟩)]
    refine Tot.sm (.so ⟨⟨k+1,by omega,rfl,?_⟩,by show (k:Int)<((k+1:Nat):Int); omega,by show ((k+1:Nat):Int)≤_; omega⟩)
    show w64 _=_
    rw [htk,List.filter_append,List.length_append,List.filter_cons,if_pos (by simpa using hpos),w64_eq]
    simp only [List.filter_nil,List.length_cons,List.length_nil]
    omega
  ·have:k=c.length:=by omega
   subst this
   rw [List.take_length]
   rfl
 ·rcases r with n | r
  ·have hn:n=((c.filter fun x=>decide (0≤nx g x)).length:Nat):=hr
   -- the symbol of a number
   have hTN:w64 ((g.Toks.length:Int)+(g.Nons.length:Int))=(g.Toks.length:Int)+(g.Nons.length:Int):=by rw [w64_eq]; omega
   refine Tot.by' (Ξ:=LR (fun z:Int=>z=((c.filter fun x=>decide (0≤nx g x∧ixS g.Toks.length (nx g x)<(g.Toks.length:Int)+(g.Nons.length:Int))).length:Nat)) (fun _=>False)) ?_ fun r hr=>?_
   ·rw [hTN]
    refine Tot.count (fun s=>s.2) ((g.Toks.length:Int)+(g.Nons.length:Int)) (fun s=>0≤s.2∧s.2≤(g.Toks.length:Int)+(g.Nons.length:Int)∧s.1=((c.filter fun x=>decide (0≤nx g x∧ixS g.Toks.length (nx g x)<s.2)).length:Nat)) ⟨Int.le_refl _,by show (0:Int)≤_; omega,?_⟩ (by show (g.Toks.length:Int)+(g.Nons.length:Int) - 0<_; omega) fun s hs=>?_
    ·show (0:Int)=_
     have:(c.filter fun x=>decide (0≤nx g x∧ixS g.Toks.length (nx g x)<0))=[]:=by
      rw [List.filter_eq_nil_iff]
      intro y hy h
      have:=of_decide_eq_true h
      unfold ixS at this
      split at this <;> omega
     rw [this]; rfl
    ·obtain ⟨z,k⟩:=s
     obtain ⟨h0,h1,hz⟩:=hs
     simp only at h0 h1 ⊢
     have hz:z=((c.filter fun x=>decide (0≤nx g x∧ixS g.Toks.length (nx g x)<k)).length:Nat):=hz
     subst hz
     have hfl:=List.length_filter_le (fun x=>decide (0≤nx g x∧ixS g.Toks.length (nx g x)<k)) c
     have hw:w64 (k+1)=k+1:=by rw [w64_eq]; omega
     rw [hw]
     refine Tot.cp (fun hlt=>?_) (fun hge=>.so ?_)
     ·obtain ⟨a,ea,ha⟩:=c34 g hg k
      have ha2:=ha.2 h0 hlt
      simp only [ea,Option.bind_some]
      refine .by' (c38 g hg m a (by omega)) fun o ho=>.by' (c38 g hg c a (by omega)) fun o2 ho2=>?_
      have hoo:o=o2:=ho.1.uniq ordI ho2.1 fun y=>by
       rw [ho.2 y,ho2.2 y]
       unfold Ov
       simp only [Cl.again hc.2]
      subst hoo
      have hol:=asc_len hg ho.1 fun x hx=>((ho.2 x).1 hx).isI hg
      have hlen:=ov_len hg hc ho
      obtain ⟨b,eb,hb⟩:=c35 o o (by omega)
      rw [eb,hb.2 rfl]
      refine Tot.sm (.so ⟨⟨by show 0≤k+1; omega,by show k+1≤_; omega,?_⟩,by show k<k+1; omega,by show k+1≤_; omega⟩)
      show w64 _=((c.filter fun x=>decide (0≤nx g x∧ixS g.Toks.length (nx g x)<k+1)).length:Nat)
      have hadd:=filt_add (fun x=>decide (0≤nx g x∧ixS g.Toks.length (nx g x)<k)) (fun x=>decide (0≤a∧nx g x=a)) c fun y hy h=>by
       have h3:=of_decide_eq_true h.1
       have h4:=of_decide_eq_true h.2
       rw [h4.2,ha2] at h3
       unfold ixS at h3
       by_cases hk:k<g.Toks.length
       ·rw [if_pos hk] at h3
        rw [if_pos (by omega)] at h3; omega
       ·rw [if_neg hk] at h3
        rw [if_neg (by omega)] at h3; omega
      have hcongr:(c.filter fun x=>decide (0≤nx g x∧ixS g.Toks.length (nx g x)<k+1))=c.filter fun x=>decide (0≤nx g x∧ixS g.Toks.length (nx g x)<k)||decide (0≤a∧nx g x=a):=by
       refine List.filter_congr fun y hy=>?_
       rw [Bool.eq_iff_iff,Bool.or_eq_true,decide_eq_true_eq,decide_eq_true_eq,decide_eq_true_eq]
       have hb2:=nx_bd hg y
       constructor
       ·rintro ⟨h3,h4⟩
        by_cases h5:ixS g.Toks.length (nx g y)<k
        ·exact .inl ⟨h3,h5⟩
        ·right
         have h6:ixS g.Toks.length (nx g y)=k:=by omega
         obtain ⟨_,hsy,_⟩:=nx_ok hg h3
         unfold ixS at h6
         rw [ha2]
         by_cases hk:k<g.Toks.length
         ·rw [if_pos hk]
          split at h6
          ·omega
          ·rcases hsy with h | h <;> omega
         ·rw [if_neg hk]
          split at h6
          ·rcases hsy with h | h <;> omega
          ·omega
       ·rintro (⟨h3,h4⟩ | ⟨h3,h4⟩)
        ·exact ⟨h3,by omega⟩
        ·refine ⟨by omega,?_⟩
         rw [h4,ha2]
         unfold ixS
         by_cases hk:k<g.Toks.length
         ·rw [if_pos hk,if_pos (by omega)]; omega
         ·rw [if_neg hk,if_neg (by omega)]; omega
      have hfl2:=List.length_filter_le (fun x=>decide (0≤nx g x∧ixS g.Toks.length (nx g x)<k+1)) c
      rw [hcongr] at hfl2 ⊢
      rw [hadd] at hfl2 ⊢
      rw [hlen,w64_eq]
      omega
     ·have:k=(g.Toks.length:Int)+(g.Nons.length:Int):=by omega
      subst this
      rfl
   ·rcases r with z | r
    ·have hz:z=_:=hr
     refine .so (decide_eq_true ?_)
     rw [hz,hn]
     congr 2
     refine List.filter_congr fun y hy=>?_
     rw [Bool.eq_iff_iff,decide_eq_true_eq,decide_eq_true_eq]
     constructor
     ·exact fun h=>h.1
     ·intro h
      refine ⟨h,?_⟩
      obtain ⟨_,hsy,_⟩:=nx_ok hg h
      unfold ixS
      rcases hsy with h | h
      ·split <;> omega
      ·split <;> omega
    ·exact hr.elim
  ·exact hr.elim
end Go.Proofs
namespace Go.Own
open Go
variable {α β S R:Type}
def Par (x:Option α) (Φ:α→Prop):Prop:=∀ a,x=some a→Φ a
set_option linter.unusedVariables false
namespace Par
variable {Φ Ψ:α→Prop}
theorem so {a:α}(h:Φ a):Par (some a) Φ:=fun b e=>by cases e; exact h
theorem no:Par (none:Option α) Φ:=fun b e=>by cases e
theorem use {x:Option α}(h:Par x Ψ) (hi:∀ a,Ψ a→Φ a):Par x Φ:=fun a e=>hi a (h a e)
theorem by' {x:Option β}{f:β→Option α}{Ξ:β→Prop}(h:Par x Ξ) (hk:∀ a,Ξ a→Par (f a) Φ):Par (x.bind f) Φ:=fun a e=>by
 cases x with
 | none=>cases e
 | some b=>exact hk b (h b rfl) a e
theorem go {x:Option β}{f:β→Option α}(hk:∀ a,x=some a→Par (f a) Φ):Par (x.bind f) Φ:=fun a e=>by
 cases x with
 | none=>cases e
 | some b=>exact hk b rfl a e
theorem cd {c:Bool}{a b:Option α}(ht:c=true→Par a Φ) (hf:c=false→Par b Φ):Par (cond c a b) Φ:=by
 cases c
 ·exact hf rfl
 ·exact ht rfl
theorem cp {p:Prop} [Decidable p] {a b:Option α}(ht:p→Par a Φ) (hf:¬ p→Par b Φ):Par (cond (decide p) a b) Φ :=
 cd (fun h=>ht (of_decide_eq_true h)) (fun h=>hf (of_decide_eq_false h))
theorem cn {p:Prop} [Decidable p] {a b:Option α}(ht:¬ p→Par a Φ) (hf:p→Par b Φ):Par (cond (!decide p) a b) Φ :=
 cd (fun h=>ht (of_decide_eq_false (by simpa using h))) (fun h=>hf (of_decide_eq_true (by simpa using h)))
theorem ap {l m:List β}{f:List β→Option α}(hk:l.length+m.length≤lim→Par (f (l++m)) Φ):Par ((appO l m).bind f) Φ:=by
 unfold appO
 split
 ·rename_i h; exact hk h
 ·exact no
theorem cat {s u:ByteArray}{f:ByteArray→Option α}(hk:Par (f (s++u)) Φ):Par ((catO s u).bind f) Φ:=by
 unfold catO
 split
 ·exact hk
 ·exact no
theorem loop {f:S→Option (S ⊕ R)}{s0:S}{Ψ:R→Prop}(Inv:S→Prop) (h0:Inv s0) (hs:∀ s,Inv s→Par (f s) (LR Inv Ψ)):Par (loopM f s0) Ψ:=by
 have key:∀ n s,Inv s→Par (iter f n s) Ψ:=by
  intro n
  induction n with
  | zero=>intro s _ a e; cases e
  | succ n ih =>
   intro s hI a e
   simp only [iter] at e
   cases hx:f s with
   | none=>rw [hx] at e; cases e
   | some x =>
    have hP:=hs s hI x hx
    rw [hx] at e
    cases x with
    | inl s'=>exact ih s' hP a e
    | inr r=>cases e; exact hP
 exact key fuel s0 h0
theorem tot {x:Option α}(h:Tot x Φ) (h':Par x Ψ):Tot x fun a=>Φ a∧Ψ a:=by
 obtain ⟨a,ha,hΦ⟩:=h
 exact ⟨a,ha,hΦ,h' a ha⟩
theorem of {x:Option α}(h:Tot x Φ):Par x Φ:=fun a e=>h.eq e
theorem scan {f:Int→Option (Int ⊕ (Unit ⊕ R))}(l:List β) (hl:l.length≤100000000000000000) (P:β→Prop) (Q:R→Prop)
  (hs:∀ (s:Int) (y:β),0≤s→s<l.length→idx l s=some y→y∈l→Par (f s) (LR (fun s'=>s'=s+1∧P y) (LR (fun _=>False) Q)))
  (he:∀ s:Int,¬ s<l.length→f s=some (.inr (.inl ()))):Par (loopM f 0) (LR (fun _=>∀ y∈l,P y) Q):=by
 refine loop (fun s=>0≤s∧s≤l.length∧∀ (j:Nat) (y:β),(j:Int)<s→l[j]?=some y→P y) ⟨by omega,by omega,fun j y h=>by omega⟩ fun s hI=>?_
 obtain ⟨h0,h1,h2⟩:=hI
 by_cases hlt:s<l.length
 ·have hlt':s.toNat<l.length:=by omega
  have hi:idx l s=some l[s.toNat]:=by simp [idx,h0,hlt']
  refine (hs s _ h0 hlt hi (List.getElem_mem hlt')).use fun x hx=>?_
  rcases x with s' | ⟨⟨⟩⟩ | r
  ·obtain ⟨rfl,hP⟩:=hx
   refine ⟨by omega,by omega,fun j y hj hy=>?_⟩
   by_cases hjs:(j:Int)<s
   ·exact h2 j y hjs hy
   ·have:j=s.toNat:=by omega
    subst this
    rw [List.getElem?_eq_getElem hlt'] at hy
    cases hy; exact hP
  ·exact hx.elim
  ·exact hx
 ·rw [he s hlt]
  refine so fun y hy=>?_
  obtain ⟨j,hj,rfl⟩:=List.mem_iff_getElem.1 hy
  exact h2 j _ (by omega) (List.getElem?_eq_getElem hj)
end Par
end Go.Own
namespace Go.Own
open Go
variable {α β S R:Type}
namespace Tot
theorem upto {f:S→Option (S ⊕ R)}{s0:S}{Ψ:R→Prop}(i:S→Int) (n:Nat) (Inv:Nat→S→Prop) (hi:i s0=0) (hn:n≤100000000000000000) (h0:Inv 0 s0)
  (hs:∀ (k:Nat) (s:S),k≤n→i s=(k:Int)→Inv k s→Tot (f s) (LR (fun s'=>k<n∧i s'=((k+1:Nat):Int)∧Inv (k+1) s') Ψ)):Tot (loopM f s0) Ψ:=by
 refine count i n (fun s=>∃ k:Nat,k≤n∧i s=(k:Int)∧Inv k s) ⟨0,Nat.zero_le _,hi,h0⟩ (by rw [hi]; omega) fun s ⟨k,hk,he,hI⟩=>(hs k s hk he hI).use fun x hx=>?_
 rcases x with s' | r
 ·obtain ⟨h1,h2,h3⟩:=hx
  exact ⟨⟨k+1,by omega,h2,h3⟩,by omega,by omega⟩
 ·exact hx
end Tot
namespace Par
theorem upto {f:S→Option (S ⊕ R)}{s0:S}{Ψ:R→Prop}(i:S→Int) (n:Nat) (Inv:Nat→S→Prop) (hi:i s0=0) (h0:Inv 0 s0)
  (hs:∀ (k:Nat) (s:S),k≤n→i s=(k:Int)→Inv k s→Par (f s) (LR (fun s'=>k<n∧i s'=((k+1:Nat):Int)∧Inv (k+1) s') Ψ)):Par (loopM f s0) Ψ:=by
 refine loop (fun s=>∃ k:Nat,k≤n∧i s=(k:Int)∧Inv k s) ⟨0,Nat.zero_le _,hi,h0⟩ fun s ⟨k,hk,he,hI⟩=>(hs k s hk he hI).use fun x hx=>?_
 rcases x with s' | r
 ·obtain ⟨h1,h2,h3⟩:=hx
  exact ⟨k+1,by omega,h2,h3⟩
 ·exact hx
end Par
theorem w64c (k:Nat) (h:k≤1000000000000000000):w64 ((k:Int)+1)=((k+1:Nat):Int):=by rw [w64_eq]; omega
end Go.Own
namespace Go.Proofs
open Go Go.Own Go.Sort
set_option maxRecDepth 100000
set_option linter.unusedVariables false
theorem Cl.app {g:Grammar}{l m:List Item}(x:Item):Cl g (l++m) x↔Cl g l x∨Cl g m x:=by
 constructor
 ·intro h
  induction h with
  | base h hi=>exact (List.mem_append.1 h).imp (fun h=>.base h hi) (fun h=>.base h hi)
  | step _ hp hn h0 ih=>exact ih.imp (fun h=>.step h hp hn h0) (fun h=>.step h hp hn h0)
 ·have key:∀ {l':List Item},(∀ y∈l',y∈l++m)→Cl g l' x→Cl g (l++m) x:=by
   intro l' hs h
   induction h with
   | base h hi=>exact .base (hs _ h) hi
   | step _ hp hn h0 ih=>exact .step ih hp hn h0
  rintro (h | h)
  ·exact key (fun y hy=>List.mem_append.2 (.inl hy)) h
  ·exact key (fun y hy=>List.mem_append.2 (.inr hy)) h
theorem filt_both {α:Type}(p q:α→Bool):∀ l:List α,(∀ x∈l,p x=true∨q x=true)→l.length+(l.filter fun x=>p x&&q x).length=(l.filter p).length+(l.filter q).length
 | [],_=>rfl
 | x::l,h=>by
  have ih:=filt_both p q l fun y hy=>h y (by simp [hy])
  have hx:=h x (by simp)
  simp only [List.filter_cons,List.length_cons]
  cases hp:p x <;> cases hq:q x <;> simp [hp,hq] at hx ⊢ <;> omega
theorem asc_filt {l c:List Item}(hl:Asc ltI l) (hc:Asc ltI c) (h:∀ x∈c,x∈l):(l.filter fun x=>decide (x∈c)).length=c.length:=by
 have:(l.filter fun x=>decide (x∈c))=c:=by
  refine Asc.uniq ordI (List.Pairwise.sublist List.filter_sublist hl) hc fun x=>?_
  rw [List.mem_filter,decide_eq_true_eq]
  exact ⟨fun h=>h.2,fun hx=>⟨h x hx,hx⟩⟩
 rw [this]
theorem t8 (x:yuccalaw0_Gr) (l m:List Int):pf8 x l m=some true:=by
 suffices h:Tot (pf8 x l m) fun r=>r=true by
  obtain ⟨r,hr,e⟩:=h; rw [hr,e]
 unfold pf8
 obtain ⟨s,g,hs,hb,_,hgr,hg⟩:=g19 x
 simp only [w29,hs,hgr,Option.bind_some,Bool.not_true,cond_false]
 have len:∀ {l c:List Item},(Asc ltI c∧∀ x,x∈c↔Cl g l x)→c.length≤540:=fun hc=>asc_len hg hc.1 fun x hx=>((hc.2 x).1 hx).isI
 refine .by' (c30 g hg l 6 (by decide) (by decide)) fun a ha=>.by' (c30 g hg m 6 (by decide) (by decide)) fun b hb=>?_
 refine .by' (c36 g hg a (by omega)) fun c hc=>.by' (c36 g hg b (by omega)) fun d hd=>?_
 have lc:=len hc
 have ld:=len hd
 refine .by' (Ξ:=fun _=>True) (Tot.ap (by simp [lim]; omega) trivial) fun _ _=>.by' (Ξ:=fun _=>True) (Tot.ap (by simp [lim]; omega) trivial) fun _ _=>?_
 refine .by' (c36 g hg ([]++a++b) (by simp; omega)) fun one h1=>?_
 refine .by' (Ξ:=fun _=>True) (Tot.ap (by simp [lim]; omega) trivial) fun _ _=>.by' (Ξ:=fun _=>True) (Tot.ap (by simp [lim]; omega) trivial) fun _ _=>?_
 refine .by' (c36 g hg ([]++d++c) (by simp; omega)) fun two h2=>?_
 rw [List.nil_append] at h1 h2
 have l1:=len h1
 have m1:∀ x,x∈one↔x∈c∨x∈d:=fun x=>by rw [h1.2,Cl.app,hc.2,hd.2]
 have m2:∀ x,x∈two↔x∈c∨x∈d:=fun x=>by
  rw [h2.2,Cl.app,Cl.again hd.2,Cl.again hc.2,hc.2,hd.2]
  exact Or.comm
 have e12:one=two:=h1.1.uniq ordI h2.1 fun x=>(m1 x).trans (m2 x).symm
 subst e12
 have hcnt:=filt_both (fun x=>decide (x∈c)) (fun x=>decide (x∈d)) one fun x hx=>((m1 x).1 hx).imp (fun h=>decide_eq_true h) (fun h=>decide_eq_true h)
 rw [asc_filt h1.1 hc.1 fun x hx=>(m1 x).2 (.inl hx),asc_filt h1.1 hd.1 fun x hx=>(m1 x).2 (.inr hx)] at hcnt
 refine Tot.by' (Ξ:=LR (fun n:Int=>n=((one.filter fun x=>decide (x∈c)&&decide (x∈d)).length:Nat)) (fun _=>False)) ?_ fun r hr=>?_
 ·refine Tot.upto (fun s=>s.2) one.length (fun k s=>s.1=(((one.take k).filter fun x=>decide (x∈c)&&decide (x∈d)).length:Nat)) rfl (by omega) rfl fun k s hk he hI=>?_
  obtain ⟨n,i⟩:=s
  simp only at he hI ⊢
  subst he hI
  rw [w64c k (by omega)]
  have hfl:=List.length_filter_le (fun x=>decide (x∈c)&&decide (x∈d)) (one.take k)
  rw [List.length_take] at hfl
  refine Tot.cp (fun hlt=>?_) (fun hge=>.so ?_)
  ·have hlt:k<one.length:=by omega
   have htk:=take_snoc' hlt
   have hm:=(m1 _).1 (List.getElem_mem hlt)
   rw [idx_nat hlt]
   generalize one[k]=y at *
   obtain ⟨cc,ec,hcc⟩:=c42 c y (by omega)
   obtain ⟨cd,ed,hcd⟩:=c42 d y (by omega)
   simp only [Option.bind_some,ec,ed]
   have fin:∀ b:Bool,(decide (y∈c)&&decide (y∈d))=b→((one.take (k+1)).filter fun x=>decide (x∈c)&&decide (x∈d)).length=((one.take k).filter fun x=>decide (x∈c)&&decide (x∈d)).length+if b=true then 1 else 0:=by
    intro b hb
    rw [htk,List.filter_append,List.length_append,List.filter_cons,hb]
    cases b <;> rfl
   by_cases hyc:y∈c
   ·by_cases hyd:y∈d
    ·have e1:=hcc.2 hyc
     have e2:=hcd.2 hyd
     subst e1 e2
     simp only [Bool.not_true,cond_true,cond_false,Option.bind_some]
     refine .so ⟨hlt,rfl,?_⟩
     have:=fin true (by simp [hyc,hyd])
     rw [if_pos rfl] at this
     show w64 _=_
     rw [this]
     exact w64c _ (by omega)
    ·have e1:=hcc.2 hyc
     have e2:cd=false:=by cases cd with | true=>exact absurd (hcd.1 rfl) hyd | false=>rfl
     subst e1 e2
     simp only [Bool.not_true,cond_true,cond_false,Option.bind_some]
     refine .so ⟨hlt,rfl,?_⟩
     have:=fin false (by simp [hyc,hyd])
     rw [if_neg (by simp)] at this
     show ((List.length _:Nat):Int)=_
     omega
   ·have hyd:y∈d:=hm.resolve_left hyc
    have e1:cc=false:=by cases cc with | true=>exact absurd (hcc.1 rfl) hyc | false=>rfl
    have e2:=hcd.2 hyd
    subst e1 e2
    simp only [Bool.not_true,Bool.not_false,cond_true,cond_false,Option.bind_some]
    refine .so ⟨hlt,rfl,?_⟩
    have:=fin false (by simp [hyc,hyd])
    rw [if_neg (by simp)] at this
    show ((List.length _:Nat):Int)=_
    omega
  ·show ((List.length _:Nat):Int)=_
   rw [List.take_of_length_le (by omega)]
 ·rcases r with r | r
  ·have hr:r=_:=hr
   subst hr
   obtain ⟨cc,hc3,hcc⟩:=c36 g hg c (by omega)
   have e3:cc=c:=hcc.1.uniq ordI hc.1 fun x=>by rw [hcc.2,Cl.again hc.2,hc.2]
   subst e3
   have key:∀ r:List Item,r.length≤540→pf35 r r=some true:=by
    intro r hr
    obtain ⟨c,hc,h⟩:=c35 r r (by omega)
    rw [hc,h.2 rfl]
   have hle:=List.length_filter_le (fun x=>decide (x∈cc)&&decide (x∈d)) one
   have hw1:w64 ((cc.length:Int)+(d.length:Int))=cc.length+d.length:=by rw [w64_eq]; omega
   have hw2:w64 ((cc.length:Int)+(d.length:Int) - ((one.filter fun x=>decide (x∈cc)&&decide (x∈d)).length:Nat))=one.length:=by rw [w64_eq]; omega
   simp only [hc3,Option.bind_some,key _ lc,key _ l1,cond_true,hw1,hw2,decide_true]
   exact .so rfl
  ·exact hr.elim
end Go.Proofs
