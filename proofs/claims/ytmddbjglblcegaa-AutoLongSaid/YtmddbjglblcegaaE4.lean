/-
  What is proved here: parts of the proof that the last text states: rules for walks through code, and of this program's functions what they answer. No condition of their own.
-/
import Derived.KernelRfl
import Derived.Test.YtmddbjglblcegaaE3
namespace Go.Proofs
open Go Go.Own
set_option maxRecDepth 100000
set_option linter.unusedVariables false
theorem idx_bd' {α:Type}{l:List α}{i:Int}{y:α}(h:idx l i=some y):y∈l:=List.mem_of_getElem? (idx_at h).2.2
theorem TI.setL {m:Mk}(h:TI m) {k:Nat}{t t':Tok}(hk:m.f_g.Toks[k]?=some t) (hn:t'.Name=t.Name) (hl:t'.Lit=t.Lit) (hu:t'.Num=t.Num):TI0 (m.f_g.Toks.set k t') m.f_given/\(m.f_e=0->TI1 (m.f_g.Toks.set k t') m.f_given) :=
 ⟨h.a.set hk hn hl (by rw [hu]; exact h.a.le t (List.mem_of_getElem? hk)) rfl,fun e=>(h.b e).setL hk hu⟩
theorem TI.failT {m m':Mk}(h:TI m) (hs:Same m m'/\m'.f_e≠0):TI (⟨(⟨m.f_g.Toks,m'.f_g.Nons,m'.f_g.Prods,m'.f_g.Pro,m'.f_g.Tail⟩:Grammar),m'.f_given,m'.f_types,m'.f_lefts,m'.f_e,m'.f_at,m'.f_name,m'.f_level,m'.f_inner⟩:Mk) :=
 ⟨by show TI0 m.f_g.Toks m'.f_given; rw [hs.1.gv]; exact h.a,fun e=>absurd e hs.2,by show ∀ y∈m'.f_lefts,_; rw [hs.1.lf]; exact h.lf⟩
theorem p89 (m:Mk) (d:Decl) (x:Sym) (hm:TI m) (hx:SymN x) (hs:x.Name.size<=big):Par (pf89 m d x) TI:=by
 unfold pf89
 refine Par.cd (fun _=>?_) (fun _=>?_)
 ·refine .by' (Ξ:=fun _=>True) (fun _ _=>trivial) fun k _=>.by' (Ξ:=TI) ?_ fun m' hm=>.so hm
  refine Par.cp (fun _=>Par.ap fun _=>.so ⟨hm.a,hm.b,hm.lf⟩) (fun _=>?_)
  refine .go fun y _=>.by' (Ξ:=TI) (Par.cd (fun _=>.by' (p90 m _ _) fun m' h=>.so (hm.fail h)) (fun _=>.so hm)) fun m' hm=>.so hm
 ·refine .by' (p107 m x hm hx hs) fun r hr=>?_
  obtain ⟨hr,hr1⟩:=hr
  refine .go fun y hy=>?_
  refine .by' (Ξ:=TI) ?_ fun j12 h12=>?_
  ·refine Par.cd (fun _=>?_) (fun _=>.so hr)
   refine .by' (Ξ:=TI) (Par.cd (fun _=>.by' (p90 r.2 _ _) fun m' h=>.so (hr.failT h)) (fun _=>.so hr)) fun j14 h14=>?_
   refine .go fun z hz=>?_
   obtain ⟨_,_,hz⟩:=idx_at hz
   rw [List.set_set]
   obtain ⟨h1,h2⟩:=h14.setL (t':=(⟨z.Name,z.Lit,z.Num,j14.f_level,w64 (d.Kind - 1),z.Tag⟩:Tok)) hz rfl rfl rfl
   exact .so ⟨h1,h2,h14.lf⟩
  refine .go fun y _=>?_
  refine .by' (Ξ:=TI) ?_ fun j19 h19=>?_
  ·refine Par.cp (fun hpos=>?_) (fun _=>.so h12)
   refine .by' (Ξ:=fun c:Bool=>c=false->r.1≠1/\∀ (i:Nat) (t:Tok),3<=i->j12.f_g.Toks[i]?=some t->t.Num≠x.Num) ?_ fun c hc=>?_
   ·refine Par.cp (fun _=>.so fun h=>by cases h) (fun h1=>.go fun gv _=>Par.cd (fun _=>.so fun h=>by cases h) (fun _=>.by' (p108 j12 x.Num h12.a.lo h12.a.hi) fun o ho=>.so fun h=>⟨h1,ho (by have:=of_decide_eq_false h; omega)⟩))
   refine .by' (Ξ:=fun j=>TI j/\(j.f_e=0->r.1≠1/\∀ (i:Nat) (t:Tok),3<=i->j.f_g.Toks[i]?=some t->t.Num≠x.Num)) (Par.cd (fun _=>.by' (p90 j12 _ _) fun m' h=>.so ⟨h12.failT h,fun e=>absurd e h.2⟩) (fun h=>.so ⟨h12,fun _=>hc h⟩)) fun j26 h26=>?_
   obtain ⟨h26,hn⟩:=h26
   refine .go fun z hz=>.go fun gv hgv=>.so ?_
   obtain ⟨h0,hlt,hz⟩:=idx_at hz
   obtain ⟨_,hltg,hgv⟩:=idx_at hgv
   have hle:=hx.num
   refine ⟨h26.a.set (t':=(⟨z.Name,z.Lit,x.Num,z.Level,z.Assoc,z.Tag⟩:Tok)) hz rfl rfl hle.2 (by simp),fun e=>?_,h26.lf⟩
   obtain ⟨h3,h4⟩:=hn e
   have hb:=h26.b e
   refine hb.setN (t':=(⟨z.Name,z.Lit,x.Num,z.Level,z.Assoc,z.Tag⟩:Tok)) hz (by omega) hltg hpos fun i t ht=>?_
   by_cases h3i:3<=i
   ·exact h4 i t h3i ht
   ·have:=hb.hd i t (by omega) ht
    show t.Num≠x.Num
    omega
  refine .go fun y _=>.by' (Ξ:=TI) ?_ fun j hj=>.so hj
  refine Par.cd (fun _=>?_) (fun _=>.so h19)
  refine .by' (Ξ:=fun _=>True) (fun _ _=>trivial) fun c _=>?_
  refine .by' (Ξ:=TI) (Par.cd (fun _=>.by' (p90 j19 _ _) fun m' h=>.so (h19.failT h)) (fun _=>.so h19)) fun j36 h36=>?_
  refine .go fun z hz=>?_
  obtain ⟨_,_,hz⟩:=idx_at hz
  obtain ⟨h1,h2⟩:=h36.setL (t':=(⟨z.Name,z.Lit,z.Num,z.Level,z.Assoc,d.Tag⟩:Tok)) hz rfl rfl rfl
  exact .so ⟨h1,h2,h36.lf⟩
theorem p109 (m:Mk) (x:Sym) (hm:TI m) (hx:SymN x) (hs:x.Name.size<=big):Par (pf109 m x) fun r=>TI r.2:=by
 unfold pf109
 refine Par.cd (fun _=>.by' (p107 m x hm hx hs) fun r hr=>.so hr.1) (fun _=>.by' (Ξ:=fun _=>True) (fun _ _=>trivial) fun k _=>Par.cd (fun _=>.so hm) (fun _=>.by' (Ξ:=fun _=>True) (fun _ _=>trivial) fun t _=>Par.cd (fun _=>.by' (p90 m _ _) fun m' h=>.so (hm.fail h)) (fun _=>.so hm)))
theorem p93 (m:Mk) (left:ByteArray) (a:Alt) (hm:TI m) (hb:AltB a) (ha:(∀ p∈a.Parts,SymN p.Sym)/\SymN a.Prec):Par (pf93 m left a) TI:=by
 have hn:=hb.n
 unfold pf93
 refine .by' (Ξ:=fun _=>True) (fun _ _=>trivial) fun x1 _=>?_
 refine .by' (Ξ:=fun r:Mk × List Int × ByteArray × Int=>TI r.1) ?_ fun x3 h3=>?_
 ·refine Par.loop (fun s=>TI s.1/\0<=s.2.2.2.2) ⟨hm,Int.le_refl 0⟩ fun s hs=>?_
  obtain ⟨m1,rt,cd,at_,i⟩:=s
  obtain ⟨hs,h0⟩:=hs
  simp only at hs h0 ⊢
  refine Par.cp (fun hlt=>?_) (fun _=>.so hs)
  refine .by' (Ξ:=fun j:Mk × List Int × ByteArray × Int=>TI j.1) ?_ fun j hj=>.so ⟨hj,by show 0<=w64 (i+1); rw [w64_eq]; omega⟩
  refine .go fun y hy=>.by' (Ξ:=fun j:Mk × List Int × ByteArray × Int=>TI j.1) ?_ fun j hj=>.so hj
  have hym:=(idx_bd' hy)
  refine .by' (Ξ:=fun j:Mk × List Int × ByteArray × Int=>TI j.1) ?_ fun j hj=>.so hj
  refine Par.cd (fun _=>?_) (fun _=>?_)
  ·exact .by' (p109 m1 y.Sym hs (ha.1 y hym) (hb.parts y hym).1) fun r hr=>Par.ap fun _=>.so hr
  ·exact .by' (Ξ:=fun _=>True) (fun _ _=>trivial) fun j _=>.so ⟨hs.a,hs.b,hs.lf⟩
 ·refine .by' (Ξ:=fun _=>True) (fun _ _=>trivial) fun pr _=>?_
  refine .by' (Ξ:=fun j:Mk × Int=>TI j.1) ?_ fun j hj=>Par.ap fun _=>Par.ap fun _=>.so ⟨hj.a,hj.b,hj.lf⟩
  refine Par.cd (fun _=>?_) (fun _=>.so h3)
  refine .by' (Ξ:=fun _=>True) (fun _ _=>trivial) fun c _=>.by' (Ξ:=fun j:Mk × Int=>TI j.1) ?_ fun j hj=>.so hj
  exact Par.cd (fun _=>.by' (p109 x3.1 a.Prec h3 ha.2 hb.prec) fun r hr=>.so hr) (fun _=>.by' (p90 x3.1 _ _) fun m' h=>.so (h3.fail h))
structure GTk (g:Grammar):Prop where
 hd:∀ (i:Nat) (t:Tok),i<3->g.Toks[i]?=some t->t.Num<=0
 pos:∀ (i:Nat) (t:Tok),3<=i->g.Toks[i]?=some t->0<t.Num/\t.Num<=100000
 un:∀ (i j:Nat) (s t:Tok),g.Toks[i]?=some s->g.Toks[j]?=some t->0<s.Num->s.Num=t.Num->i=j
 nm:∀ t∈g.Toks,t.Name.size<=big/\(t.Lit=true->t.Name.size=1)
 nn:∀ x∈g.Nons,x.Name.size<=4 * big
theorem p61 (s:Source) (hb:SrcB s):Par (pf61 s) fun r=>r.2.1=0->GTk r.1:=by
 have hdn:=hb.dn
 have hrn:=hb.rn
 unfold pf61
 refine .by' (p88 s hb) fun c hc=>Par.cd (fun _=>.so fun h=>absurd h (by decide)) (fun hc1=>?_)
 have ok:SrcM s:=hc (by simpa using hc1)
 refine .by' (Ξ:=fun l=>l=List.replicate 3 false) (fun a e=>by unfold mkO at e; split at e <;> cases e; rfl) fun x3 hx3=>?_
 subst hx3
 -- declarations
 refine .by' (Ξ:=fun r:Mk × ByteArray=>TI r.1) ?_ fun x5 h5=>?_
 ·refine Par.loop (fun z=>TI z.1/\0<=z.2.2) ⟨⟨⟨rfl,Nat.le_refl 3,by show 3<=lim; unfold lim; omega,fun t ht=>?_,fun t ht=>?_⟩,fun _=>⟨fun i t hi ht=>?_,fun i j a b ha hb h0 he=>?_,fun i t hi ht=>?_⟩,fun y hy=>by cases hy⟩,Int.le_refl 0⟩ fun z hz=>?_
  ·have ht:t∈[_,_,_]:=ht
   simp only [List.mem_cons,List.not_mem_nil,or_false] at ht
   rcases ht with rfl | rfl | rfl <;> exact ⟨by decide,fun h=>by cases h⟩
  ·have ht:t∈[_,_,_]:=ht
   simp only [List.mem_cons,List.not_mem_nil,or_false] at ht
   rcases ht with rfl | rfl | rfl <;> decide
  ·have ht:t∈[_,_,_]:=List.mem_of_getElem? ht
   simp only [List.mem_cons,List.not_mem_nil,or_false] at ht
   rcases ht with rfl | rfl | rfl <;> decide
  ·have ha:a∈[_,_,_]:=List.mem_of_getElem? ha
   simp only [List.mem_cons,List.not_mem_nil,or_false] at ha
   rcases ha with rfl | rfl | rfl <;> exact absurd h0 (by decide)
  ·have:=(List.getElem?_eq_some_iff.1 ht).1
   have:i<3:=this
   omega
  ·obtain ⟨m,st,i⟩:=z
   obtain ⟨hm,h0⟩:=hz
   simp only at hm h0 ⊢
   refine Par.cp (fun hlt=>?_) (fun _=>.so hm)
   refine .go fun d hd=>?_
   have hdm:=idx_bd' hd
   refine .by' (Ξ:=fun _=>True) (fun _ _=>trivial) fun _ _=>.by' (Ξ:=fun _=>True) (fun _ _=>trivial) fun j11 _=>?_
   refine .by' (Ξ:=fun r:Mk × ByteArray=>TI r.1) ?_ fun r hr=>.so ⟨hr,by show 0<=w64 (i+1); rw [w64_eq]; omega⟩
   refine Par.loop (fun z=>TI z.1/\0<=z.2.2) ⟨⟨hm.a,hm.b,hm.lf⟩,Int.le_refl 0⟩ fun z hz=>?_
   obtain ⟨m,st,k⟩:=z
   obtain ⟨hm,h0k⟩:=hz
   simp only at hm h0k ⊢
   have hdk:=(hb.decls d hdm).n
   refine Par.cp (fun hltk=>?_) (fun _=>.so hm)
   refine .by' (Ξ:=fun r:Mk × ByteArray=>TI r.1) ?_ fun r hr=>.so ⟨hr,by show 0<=w64 (k+1); rw [w64_eq]; omega⟩
   refine Par.cd (fun _=>.go fun x hx=>?_) (fun _=>?_)
   ·have hxm:=idx_bd' hx
    exact .by' (p89 m d x hm (ok.decls d hdm x hxm) ((hb.decls d hdm).syms x hxm)) fun m' hm'=>.so hm'
   ·refine .by' (Ξ:=TI) (Par.cd (fun _=>.go fun _ _=>.go fun _ _=>.by' (p90 m _ _) fun m' h=>.so (hm.fail h)) (fun _=>.so hm)) fun m' hm'=>.go fun _ _=>.so hm'
 -- what stands on the left
 refine .by' (Ξ:=TI) ?_ fun x28 h28=>?_
 ·refine Par.loop (fun z=>TI z.1/\0<=z.2) ⟨h5,Int.le_refl 0⟩ fun z hz=>?_
  obtain ⟨m,i⟩:=z
  obtain ⟨hm,h0⟩:=hz
  simp only at hm h0 ⊢
  refine Par.cp (fun hlt=>?_) (fun _=>.so hm)
  refine .by' (Ξ:=TI) ?_ fun r hr=>.so ⟨hr,by show 0<=w64 (i+1); rw [w64_eq]; omega⟩
  refine .go fun r hr=>.by' (Ξ:=fun _=>True) (fun _ _=>trivial) fun _ _=>?_
  refine .by' (Ξ:=TI) (Par.cd (fun _=>.by' (p90 m _ _) fun m' h=>.so (hm.fail h)) (fun _=>.so hm)) fun j34 h34=>?_
  refine .by' (Ξ:=fun _=>True) (fun _ _=>trivial) fun _ _=>?_
  refine .by' (Ξ:=fun l:List ByteArray=>∀ y∈l,y.size<=big) (Par.cd (fun _=>Par.ap fun _=>.so fun y hy=>?_) (fun _=>.so h34.lf)) fun l hl=>.so ⟨h34.a,h34.b,hl⟩
  rcases List.mem_append.1 hy with hy | hy
  ·exact h34.lf y hy
  ·rw [List.mem_singleton.1 hy]; exact (hb.rules r (idx_bd' hr)).left
 -- types and starts
 refine .by' (Ξ:=TI) ?_ fun x42 h42=>?_
 ·refine Par.loop (fun z=>TI z.1) h28 fun z hm=>?_
  obtain ⟨m,i⟩:=z
  simp only at hm ⊢
  refine Par.cp (fun hlt=>?_) (fun _=>.so hm)
  refine .by' (Ξ:=TI) ?_ fun r hr=>.so hr
  refine Par.loop (fun z=>TI z.1) hm fun z hm=>?_
  obtain ⟨m,k⟩:=z
  simp only at hm ⊢
  refine .go fun d _=>Par.cp (fun hlt=>?_) (fun _=>.so hm)
  refine .by' (Ξ:=TI) ?_ fun r hr=>.so hr
  refine .go fun _ _=>.go fun _ _=>.by' (Ξ:=fun _=>True) (fun _ _=>trivial) fun _ _=>?_
  exact .by' (Ξ:=TI) (Par.cd (fun _=>.by' (p90 m _ _) fun m' h=>.so (hm.fail h)) (fun _=>.so hm)) fun m' hm'=>.so hm'
 refine .by' (Ξ:=fun _=>True) (fun _ _=>trivial) fun j60 _=>.by' (Ξ:=fun _=>True) (fun _ _=>trivial) fun x63 _=>?_
 -- the alternatives
 refine .by' (Ξ:=TI) ?_ fun x65 h65=>?_
 ·refine Par.loop (fun z=>TI z.1/\0<=z.2) ⟨⟨h42.a,h42.b,h42.lf⟩,Int.le_refl 0⟩ fun z hz=>?_
  obtain ⟨m,i⟩:=z
  obtain ⟨hm,h0⟩:=hz
  simp only at hm h0 ⊢
  refine Par.cp (fun hlt=>?_) (fun _=>.so hm)
  refine .by' (Ξ:=TI) ?_ fun r hr=>.so ⟨hr,by show 0<=w64 (i+1); rw [w64_eq]; omega⟩
  refine Par.loop (fun z=>TI z.1/\0<=z.2) ⟨hm,Int.le_refl 0⟩ fun z hz=>?_
  obtain ⟨m,k⟩:=z
  obtain ⟨hm,h0k⟩:=hz
  simp only at hm h0k ⊢
  refine .go fun d hd=>Par.cp (fun hltk=>?_) (fun _=>.so hm)
  have hdm:=idx_bd' hd
  have hdk:=(hb.rules d hdm).n
  refine .go fun d1 hd1=>.go fun d2 hd2=>.go fun a ha=>?_
  rw [hd] at hd1 hd2
  cases hd1; cases hd2
  have ham:=idx_bd' ha
  exact .by' (p93 m d.Left a hm ((hb.rules d hdm).alts a ham) (ok.rules d hdm a ham)) fun m' hm'=>.so ⟨hm',by show 0<=w64 (k+1); rw [w64_eq]; omega⟩
 refine Par.cn (fun h=>.so fun h'=>absurd h' h) (fun he=>?_)
 have hti:=h65.b he
 -- nonterminals
 refine .by' (Ξ:=fun l:List Non=>1<=l.length/\∀ x∈l,x.Name.size<=4 * big) ?_ fun x79 h79=>?_
 ·refine Par.loop (fun z=>1<=z.1.length/\∀ x∈z.1,x.Name.size<=4 * big) ⟨Nat.le_refl 1,fun x hx=>?_⟩ fun z hz=>?_
  ·rw [List.mem_singleton.1 hx]; decide
  ·refine Par.cd (fun _=>.go fun y hy=>.go fun _ _=>.by' (Ξ:=fun _=>True) (fun _ _=>trivial) fun _ _=>Par.ap fun _=>.so ⟨by show 1<=(z.1++[_]).length; simp,fun x hx=>?_⟩) (fun _=>.so hz)
   rcases List.mem_append.1 hx with hx | hx
   ·exact hz.2 x hx
   ·rw [List.mem_singleton.1 hx]
    have:=h65.lf y (idx_bd' hy)
    show y.size<=4 * big
    omega
 refine .by' (Ξ:=fun l:List Non=>l.length<=24->∀ x∈l,x.Name.size<=4 * big) ?_ fun x89 h89=>?_
 ·refine Par.loop (fun z=>(z.1.length<=24->∀ x∈z.1,x.Name.size<=4 * big)/\0<=z.2/\z.2<=z.1.length) ⟨fun _=>h79.2,by show (0:Int)<=1; decide,by have:=h79.1; show (1:Int)<=(x79.length:Int); omega⟩ fun z hz=>?_
  obtain ⟨l,i⟩:=z
  obtain ⟨hl,h0,hi⟩:=hz
  simp only at hl h0 hi ⊢
  refine Par.cp (fun hle=>.go fun y hy=>?_) (fun _=>.so hl)
  refine Par.cat (Par.ap fun hlim=>.so ⟨fun hlen x hx=>?_,by show 0<=w64 (i+1); unfold lim at hlim; simp only [List.length_cons,List.length_nil] at hlim; rw [w64_eq]; omega,by show w64 (i+1)<=(((l++[_]).length:Nat):Int); unfold lim at hlim; simp only [List.length_cons,List.length_nil,List.length_append] at hlim ⊢; rw [w64_eq]; omega⟩)
  have hlen:(l++[_]).length<=24:=hlen
  simp only [List.length_append,List.length_cons,List.length_nil] at hlen
  rcases List.mem_append.1 hx with hx | hx
  ·exact hl (by omega) x hx
  ·rw [List.mem_singleton.1 hx]
   have hsz:=(t28 i h0 (by omega)).eq hy
   show (_++y).size<=4 * big
   rw [ByteArray.size_append]
   show 1+y.size<=4 * big
   simp only [big]; omega
 -- numbers
 have hT:=h65.a
 have hlim:x65.f_g.Toks.length<=1000000000000000:=by have:=hT.hi; unfold lim at this; omega
 refine .by' (Ξ:=fun l:List Tok=>∃ (i next:Int),l.length=x65.f_g.Toks.length/\(l.length:Int)<=i/\(∀ (j:Nat) (t:Tok),l[j]?=some t->∃ t0,x65.f_g.Toks[j]?=some t0/\t.Name=t0.Name/\t.Lit=t0.Lit/\((t.Num=t0.Num/\(¬ (3<=j/\(j:Int)<i)\/x65.f_given[j]?=some true))\/(57346<=t.Num/\t.Num<next/\3<=j/\(j:Int)<i)))/\(∀ (j k:Nat) (s t:Tok),l[j]?=some s->l[k]?=some t->57346<=s.Num->s.Num=t.Num->j=k)/\57346<=next/\next<=57343+i/\i<=l.length) ?_ fun x96 h96=>?_
 ·refine Par.loop (fun z=>z.1.length=x65.f_g.Toks.length/\(∀ (j:Nat) (t:Tok),z.1[j]?=some t->∃ t0,x65.f_g.Toks[j]?=some t0/\t.Name=t0.Name/\t.Lit=t0.Lit/\((t.Num=t0.Num/\(¬ (3<=j/\(j:Int)<z.2.2)\/x65.f_given[j]?=some true))\/(57346<=t.Num/\t.Num<z.2.1/\3<=j/\(j:Int)<z.2.2)))/\(∀ (j k:Nat) (s t:Tok),z.1[j]?=some s->z.1[k]?=some t->57346<=s.Num->s.Num=t.Num->j=k)/\57346<=z.2.1/\z.2.1<=57343+z.2.2/\3<=z.2.2/\z.2.2<=z.1.length) ⟨rfl,fun j t ht=>⟨t,ht,rfl,rfl,.inl ⟨rfl,.inl (by show ¬ (3<=j/\(j:Int)<3); omega)⟩⟩,fun j k s t hs ht h0 he=>?_,by show (57346:Int)<=57346; decide,by show (57346:Int)<=57343+3; decide,Int.le_refl 3,by have:=hT.lo; show (3:Int)<=(x65.f_g.Toks.length:Nat); omega⟩ fun z hz=>?_
  ·have:=hT.le s (List.mem_of_getElem? hs); omega
  obtain ⟨l,next,i⟩:=z
  obtain ⟨hl,hB,hC,hn0,hn1,hi3,hil⟩:=hz
  simp only at hl hB hC hn0 hn1 hi3 hil ⊢
  have hw:w64 (i+1)=i+1:=by rw [w64_eq]; omega
  have hwn:w64 (next+1)=next+1:=by rw [w64_eq]; omega
  rw [hw,hwn]
  refine Par.cp (fun hlt=>?_) (fun hge=>.so ⟨i,next,hl,by omega,hB,hC,hn0,hn1,hil⟩)
  have hilt:i.toNat<l.length:=by omega
  refine .by' (Ξ:=fun j:List Tok × Int=>j.1.length=x65.f_g.Toks.length/\(∀ (k:Nat) (t:Tok),j.1[k]?=some t->∃ t0,x65.f_g.Toks[k]?=some t0/\t.Name=t0.Name/\t.Lit=t0.Lit/\((t.Num=t0.Num/\(¬ (3<=k/\(k:Int)<i+1)\/x65.f_given[k]?=some true))\/(57346<=t.Num/\t.Num<j.2/\3<=k/\(k:Int)<i+1)))/\(∀ (a k:Nat) (s t:Tok),j.1[a]?=some s->j.1[k]?=some t->57346<=s.Num->s.Num=t.Num->a=k)/\57346<=j.2/\j.2<=57343+(i+1)) ?_ fun j hj=>.so ⟨hj.1,hj.2.1,hj.2.2.1,hj.2.2.2.1,hj.2.2.2.2,by show 3<=i+1; omega,by show i+1<=(j.1.length:Nat); rw [hj.1,<- hl]; omega⟩
  refine .go fun gv hgv=>.by' (Ξ:=fun j:List Tok × Int=>j.1.length=x65.f_g.Toks.length/\(∀ (k:Nat) (t:Tok),j.1[k]?=some t->∃ t0,x65.f_g.Toks[k]?=some t0/\t.Name=t0.Name/\t.Lit=t0.Lit/\((t.Num=t0.Num/\(¬ (3<=k/\(k:Int)<i+1)\/x65.f_given[k]?=some true))\/(57346<=t.Num/\t.Num<j.2/\3<=k/\(k:Int)<i+1)))/\(∀ (a k:Nat) (s t:Tok),j.1[a]?=some s->j.1[k]?=some t->57346<=s.Num->s.Num=t.Num->a=k)/\57346<=j.2/\j.2<=57343+(i+1)) ?_ fun j hj=>.so hj
  obtain ⟨_,_,hgv⟩:=idx_at hgv
  refine Par.cd (fun hg=>.go fun y hy=>.so ?_) (fun hg=>.so ⟨hl,fun k t ht=>?_,hC,hn0,by omega⟩)
  ·obtain ⟨_,_,hy⟩:=idx_at hy
   obtain ⟨t0,e0,e1,e2,e3⟩:=hB _ y hy
   have hlast:y.Num<next:=by
    rcases e3 with ⟨e3,_⟩ | e3
    ·have:=hT.le t0 (List.mem_of_getElem? e0); omega
    ·exact e3.2.1
   have hlo:∀ (k:Nat) (t:Tok),l[k]?=some t->t.Num<next:=fun k t ht=>by
    obtain ⟨t1,f0,_,_,f3⟩:=hB k t ht
    rcases f3 with ⟨f3,_⟩ | f3
    ·have:=hT.le t1 (List.mem_of_getElem? f0); omega
    ·exact f3.2.1
   refine ⟨by show (l.set _ _).length=_; rw [List.length_set]; exact hl,fun k t ht=>?_,fun a k s t hs ht h0 he=>?_,by show 57346<=next+1; omega,by show next+1<=_; omega⟩
   ·have ht:(l.set i.toNat _)[k]?=some t:=ht
    rw [set_get hilt] at ht
    by_cases e:k=i.toNat
    ·rw [if_pos e] at ht
     cases ht
     subst e
     exact ⟨t0,e0,e1,e2,.inr ⟨hn0,by show next<next+1; omega,by omega,by omega⟩⟩
    ·rw [if_neg e] at ht
     obtain ⟨t1,f0,f1,f2,f3⟩:=hB k t ht
     refine ⟨t1,f0,f1,f2,?_⟩
     rcases f3 with ⟨f3,f4⟩ | f3
     ·exact .inl ⟨f3,f4.imp (fun h=>by omega) id⟩
     ·exact .inr ⟨f3.1,by show t.Num<next+1; omega,f3.2.2.1,by omega⟩
   ·have hs:(l.set i.toNat _)[a]?=some s:=hs
    have ht:(l.set i.toNat _)[k]?=some t:=ht
    rw [set_get hilt] at hs ht
    by_cases e:a=i.toNat
    ·rw [if_pos e] at hs
     cases hs
     by_cases e':k=i.toNat
     ·omega
     ·rw [if_neg e'] at ht
      have h1:=hlo k t ht
      have he:next=t.Num:=he
      omega
    ·rw [if_neg e] at hs
     by_cases e':k=i.toNat
     ·rw [if_pos e'] at ht
      cases ht
      have h1:=hlo a s hs
      have he:s.Num=next:=he
      omega
     ·rw [if_neg e'] at ht
      exact hC a k s t hs ht h0 he
  ·obtain ⟨t1,f0,f1,f2,f3⟩:=hB k t ht
   refine ⟨t1,f0,f1,f2,?_⟩
   rcases f3 with ⟨f3,f4⟩ | f3
   ·by_cases e:k=i.toNat
    ·refine .inl ⟨f3,.inr ?_⟩
     rw [e,hgv]
     simpa using hg
    ·exact .inl ⟨f3,f4.imp (fun h=>by omega) id⟩
   ·exact .inr ⟨f3.1,f3.2.1,f3.2.2.1,by omega⟩
 -- limits
 refine .by' (Ξ:=fun c=>c=false->x96.length<=40/\x89.length<=24) ?_ fun c106 h106=>?_
 ·exact Par.cp (fun _=>.so fun h=>by cases h) (fun h1=>Par.cp (fun _=>.so fun h=>by cases h) (fun h2=>.so fun h=>by omega))
 refine .by' (Ξ:=fun c=>c=false->c106=false) ?_ fun x108 h108=>?_
 ·refine Par.loop (fun z=>z.1=false->c106=false) id fun z hz=>?_
  refine Par.cd (fun _=>?_) (fun _=>.so hz)
  exact .by' (Ξ:=fun c=>c=false->c106=false) (Par.cd (fun _=>.so fun h=>by cases h) (fun h=>.go fun _ _=>.so fun _=>hz h)) fun c hc=>.so hc
 refine Par.cd (fun _=>.so fun h=>absurd h (by decide)) (fun hc=>.so fun _=>?_)
 obtain ⟨hx1,hx2⟩:=h106 (h108 hc)
 obtain ⟨i,next,hl,hge,hB,hC,hn0,hn1,hil⟩:=h96
 refine ⟨fun j t hj ht=>?_,fun j t hj ht=>?_,fun j k s t hs ht h0 he2=>?_,fun t ht=>?_,h89 hx2⟩
 ·obtain ⟨t0,e0,_,_,e3⟩:=hB j t ht
  rcases e3 with ⟨e3,_⟩ | e3
  ·rw [e3]; exact hti.hd j t0 hj e0
  ·omega
 ·have hjl:j<x96.length:=(List.getElem?_eq_some_iff.1 ht).1
  obtain ⟨t0,e0,_,_,e3⟩:=hB j t ht
  rcases e3 with ⟨e3,e4⟩ | e3
  ·rcases e4 with e4 | e4
   ·omega
   ·have h1:=(hti.gv j t0 hj e0).1 e4
    have h2:=hT.le t0 (List.mem_of_getElem? e0)
    omega
  ·omega
 ·by_cases h57:57346<=s.Num
  ·exact hC j k s t hs ht h57 he2
  ·obtain ⟨s0,e0,_,_,e3⟩:=hB j s hs
   obtain ⟨t0,f0,_,_,f3⟩:=hB k t ht
   rcases e3 with ⟨e3,_⟩ | e3
   ·rcases f3 with ⟨f3,_⟩ | f3
    ·exact hti.un j k s0 t0 e0 f0 (by omega) (by omega)
    ·omega
   ·omega
 ·obtain ⟨j,hj,rfl⟩:=List.mem_iff_getElem.1 ht
  obtain ⟨t0,e0,e1,e2,_⟩:=hB j _ (List.getElem?_eq_getElem hj)
  have:=hT.nm t0 (List.mem_of_getElem? e0)
  rw [e1,e2]; exact this
end Go.Proofs
namespace Go.Own
open Go Go.Sort
variable {α:Type} [DecidableEq α]
structure Ord (lt:α->α->Bool):Prop where
 swo:SWO lt
 tot:∀ x y,lt x y=false->lt y x=false->x=y
def Asc (lt:α->α->Bool) (l:List α):Prop:=l.Pairwise fun a b=>lt a b=true
omit [DecidableEq α] in
theorem Asc.nd {lt:α->α->Bool}(h:Ord lt) {l:List α}(hl:Asc lt l):l.Nodup:=hl.imp fun {a b} hab e=>by
 subst e
 rw [h.swo.irrefl] at hab; cases hab
omit [DecidableEq α] in
theorem Asc.uniq {lt:α->α->Bool}(h:Ord lt) {l m:List α}(hl:Asc lt l) (hm:Asc lt m) (he:∀ x,x∈l↔x∈m):l=m :=
 List.Perm.eq_of_pairwise (le:=fun a b=>lt a b=true) (fun a b _ _ h1 h2=>by have:=h.swo.trans _ _ _ h1 h2; rw [h.swo.irrefl] at this; cases this) hl hm ((List.perm_ext_iff_of_nodup (hl.nd h) (hm.nd h)).2 he)
omit [DecidableEq α] in
theorem nd_le {l m:List α}(hd:l.Nodup) (hm:∀ x∈l,x∈m):l.length<=m.length:=by
 classical
 induction l generalizing m with
 | nil=>exact Nat.zero_le _
 | cons x l ih =>
  have hx:=hm x (by simp)
  have hd':=List.nodup_cons.1 hd
  have:=ih (m:=m.erase x) hd'.2 fun y hy=>(List.mem_erase_of_ne (fun e=>hd'.1 (by rw [<- e]; exact hy))).2 (hm y (by simp [hy]))
  have hl:=List.length_erase_of_mem hx
  have hp:=List.length_pos_of_mem hx
  simp only [List.length_cons]
  omega
theorem sort_tot {lt:α->α->Bool}(h:Ord lt) {cf:α->α->Option Int}{l:List α}(hc:∀ a∈l,∀ b∈l,∃ v,cf a b=some v/\(v<0↔lt a b=true)) (hn:l.length<4611686018427387904):sortO cf l=some (isort (ltO cf) l)/\∀ a∈l,∀ b∈l,ltO cf a b=lt a b:=by
 have hlt:∀ a∈l,∀ b∈l,ltO cf a b=lt a b:=by
  intro a ha b hb
  obtain ⟨v,hv,h⟩:=hc a ha b hb
  unfold ltO
  simp only [hv,Option.getD_some]
  cases hk:lt a b with
  | true=>exact decide_eq_true (h.2 hk)
  | false=>exact decide_eq_false fun hh=>by rw [h.1 hh] at hk; cases hk
 refine ⟨?_,hlt⟩
 unfold sortO
 rw [if_pos]
 simp only [Bool.and_eq_true,decide_eq_true_eq,List.all_eq_true]
 refine ⟨⟨fun a ha b hb=>?_,?_⟩,hn⟩
 ·obtain ⟨v,hv,_⟩:=hc a ha b hb
  rw [hv]; rfl
 ·unfold ordB
  simp only [List.all_eq_true,Bool.and_eq_true,Bool.or_eq_true,Bool.not_eq_true',decide_eq_true_eq]
  intro a ha
  refine ⟨by rw [hlt a ha a ha]; exact h.swo.irrefl a,fun b hb=>⟨?_,fun c hc=>⟨?_,?_⟩⟩⟩
  ·rw [hlt a ha b hb,hlt b hb a ha]
   cases h1:lt a b with
   | true=>exact .inl (.inl rfl)
   | false =>
    cases h2:lt b a with
    | true=>exact .inl (.inr rfl)
    | false=>exact .inr (h.tot _ _ h1 h2)
  ·rw [hlt a ha b hb,hlt b hb c hc,hlt a ha c hc]
   cases h1:lt a b with
   | false=>exact .inl rfl
   | true =>
    cases h2:lt b c with
    | false=>exact .inl rfl
    | true=>exact .inr (h.swo.trans _ _ _ h1 h2)
  ·rw [hlt a ha b hb,hlt b hb c hc,hlt a ha c hc]
   cases h1:lt a b with
   | true=>exact .inl (.inl rfl)
   | false =>
    cases h2:lt b c with
    | true=>exact .inl (.inr rfl)
    | false=>exact .inr (h.swo.ntrans _ _ _ h1 h2)
omit [DecidableEq α] in
theorem ins_congr {lt lt':α->α->Bool}(x:α):∀ l:List α,(∀ y∈l,lt y x=lt' y x)->ins lt x l=ins lt' x l
 | [],_=>rfl
 | y::l,h=>by
  simp only [ins,h y (by simp)]
  rw [ins_congr x l fun z hz=>h z (by simp [hz])]
omit [DecidableEq α] in
theorem isort_congr {lt lt':α->α->Bool}:∀ l:List α,(∀ a∈l,∀ b∈l,lt a b=lt' a b)->isort lt l=isort lt' l
 | [],_=>rfl
 | x::l,h=>by
  simp only [isort]
  rw [isort_congr l fun a ha b hb=>h a (by simp [ha]) b (by simp [hb])]
  exact ins_congr x _ fun y hy=>h y (by simp [(isort_perm lt' l).mem_iff.1 hy]) x (by simp)
theorem sort_is {lt:α->α->Bool}(h:Ord lt) {cf:α->α->Option Int}{l:List α}(hc:∀ a∈l,∀ b∈l,∃ v,cf a b=some v/\(v<0↔lt a b=true)) (hn:l.length<4611686018427387904):sortO cf l=some (isort lt l):=by
 obtain ⟨h1,h2⟩:=sort_tot h hc hn
 rw [h1,isort_congr l h2]
theorem dd_asc {lt:α->α->Bool}(h:Ord lt):∀ (l:List α) (p:Option α),l.Pairwise (fun a b=>(!lt b a)=true)->(∀ a,p=some a->∀ x∈l,lt x a=false)->Asc lt (dd p l)/\∀ x,x∈dd p l↔(x∈l/\p≠some x)
 | [],p,_,_=>⟨List.Pairwise.nil,fun x=>by simp [dd]⟩
 | a::l,p,hs,hp=>by
  obtain ⟨h1,h2⟩:=List.pairwise_cons.1 hs
  have ih:=dd_asc h l (some a) h2 fun b hb x hx=>by
   cases hb
   simpa using h1 x hx
  unfold dd
  by_cases e:p=some a
  ·rw [if_pos e]
   refine ⟨ih.1,fun x=>?_⟩
   rw [ih.2 x,e]
   constructor
   ·exact fun hx=>⟨by simp [hx.1],hx.2⟩
   ·rintro ⟨hx,hn⟩
    refine ⟨?_,hn⟩
    rcases List.mem_cons.1 hx with rfl | hx
    ·exact absurd rfl hn
    ·exact hx
  ·rw [if_neg e]
   refine ⟨List.pairwise_cons.2 ⟨fun x hx=>?_,ih.1⟩,fun x=>?_⟩
   ·obtain ⟨hx1,hx2⟩:=(ih.2 x).1 hx
    cases hax:lt a x with
    | true=>rfl
    | false =>
     have:=h.tot a x hax (by simpa using h1 x hx1)
     exact absurd (by rw [this]) hx2
   ·rw [List.mem_cons,ih.2 x,List.mem_cons]
    constructor
    ·rintro (rfl | ⟨hx,hn⟩)
     ·exact ⟨.inl rfl,e⟩
     ·refine ⟨.inr hx,fun hh=>?_⟩
      have h3:lt a x=false:=hp x hh a (by simp)
      have h4:lt x a=false:=by simpa using h1 x hx
      exact hn (by rw [h.tot a x h3 h4])
    ·rintro ⟨hx,hn⟩
     by_cases hxa:x=a
     ·exact .inl hxa
     ·exact .inr ⟨hx.resolve_left hxa,fun hh=>hxa (Option.some.inj hh).symm⟩
theorem dedup_asc {lt:α->α->Bool}(h:Ord lt) (l:List α):Asc lt (dedup (isort lt l))/\∀ x,x∈dedup (isort lt l)↔x∈l:=by
 obtain ⟨h1,h2⟩:=dd_asc h (isort lt l) none (isort_sorted h.swo l) fun a ha=>by cases ha
 refine ⟨h1,fun x=>?_⟩
 unfold dedup
 rw [h2 x,(isort_perm lt l).mem_iff]
 simp
end Go.Own
namespace Go.Proofs
open Go Go.Own Go.Sort
set_option maxRecDepth 100000
set_option linter.unusedVariables false
def ltI (a b:Item):Bool:=decide (a.Prod<b.Prod\/(a.Prod=b.Prod/\a.Dot<b.Dot))
theorem ltI_iff {a b:Item}:ltI a b=true↔(a.Prod<b.Prod\/(a.Prod=b.Prod/\a.Dot<b.Dot)):=by simp [ltI]
theorem ltI_not {a b:Item}:ltI a b=false↔¬ (a.Prod<b.Prod\/(a.Prod=b.Prod/\a.Dot<b.Dot)):=by simp [ltI]
theorem ordI:Ord ltI where
 swo:=⟨fun x=>by rw [ltI_not]; omega,fun x y z h1 h2=>by rw [ltI_iff] at *; omega,fun x y z h1 h2=>by rw [ltI_not] at *; omega⟩
 tot x y h1 h2:=by
  rw [ltI_not] at h1 h2
  obtain ⟨x1,x2⟩:=x
  obtain ⟨y1,y2⟩:=y
  simp only at h1 h2
  have:x1=y1:=by omega
  have:x2=y2:=by omega
  subst_vars; rfl
def isI (g:Grammar) (x:Item):Prop:=∃ q,idx g.Prods x.Prod=some q/\0<=x.Dot/\x.Dot<=q.Right.length
def nx (g:Grammar) (x:Item):Int:=match idx g.Prods x.Prod with
 | some q=>(idx q.Right x.Dot).getD (-1)
 | none=>-1
theorem idx_bd {α:Type}{l:List α}{i:Int}{y:α}(h:idx l i=some y):0<=i/\i<l.length/\y∈l:=by
 unfold idx at h
 split at h
 ·rename_i h0
  obtain ⟨h1,h2⟩:=List.getElem?_eq_some_iff.1 h
  exact ⟨h0,by omega,List.mem_of_getElem? h⟩
 ·cases h
theorem idx_none' {α:Type}{l:List α}{i:Int}(h:i<0\/(l.length:Int)<=i):idx l i=none:=by
 unfold idx
 split
 ·exact List.getElem?_eq_none (by omega)
 ·rfl
theorem idx_some' {α:Type}{l:List α}{i:Int}(h0:0<=i) (h1:i<l.length):∃ y,idx l i=some y/\y∈l:=by
 have hlt:i.toNat<l.length:=by omega
 exact ⟨l[i.toNat],by simp [idx,h0,hlt],List.getElem_mem hlt⟩
theorem idx_nat {α:Type}{l:List α}{k:Nat}(h:k<l.length):idx l (k:Int)=some l[k]:=by simp [idx,h]
theorem e68 (g:Grammar) (x:Item):∃ c,pf68 g x=some c/\(c=true↔isI g x):=by
 unfold pf68
 by_cases h0:0<=x.Prod
 ·by_cases h1:x.Prod<g.Prods.length
  ·obtain ⟨q,hq,_⟩:=idx_some' h0 h1
   by_cases h2:0<=x.Dot
   ·refine ⟨decide (x.Dot<=(q.Right.length:Int)),by simp [h0,h1,h2,hq],?_⟩
    rw [decide_eq_true_eq]
    exact ⟨fun h=>⟨q,hq,h2,h⟩,fun ⟨q',hq',_,h⟩=>by rw [hq] at hq'; cases hq'; exact h⟩
   ·exact ⟨false,by simp [h0,h1,h2],fun h=>(by cases h),fun ⟨_,_,h,_⟩=>absurd h h2⟩
  ·exact ⟨false,by simp [h0,h1],fun h=>(by cases h),fun ⟨_,h,_⟩=>absurd (idx_bd h).2.1 h1⟩
 ·exact ⟨false,by simp [h0],fun h=>(by cases h),fun ⟨_,h,_⟩=>absurd (idx_bd h).1 h0⟩
theorem e69 (g:Grammar) (x:Item):∃ c,pf69 g x=some c/\(c=true↔isI g x):=e68 g x
theorem e32 (g:Grammar) (x:Item):pf32 g x=some (nx g x):=by
 unfold pf32 nx
 obtain ⟨c,hc,hi⟩:=e68 g x
 rw [hc]
 simp only [Option.bind_some]
 cases c with
 | false =>
  have hn:¬ isI g x:=fun h=>by have:=hi.2 h; cases this
  simp only [Bool.not_false,cond_true,Option.bind_some]
  cases hq:idx g.Prods x.Prod with
  | none=>rfl
  | some q =>
   have:idx q.Right x.Dot=none:=idx_none' (by
    by_cases h0:0<=x.Dot
    ·right
     by_cases h1:x.Dot<=q.Right.length
     ·exact absurd ⟨q,hq,h0,h1⟩ hn
     ·omega
    ·left; omega)
   simp [this]
 | true =>
  obtain ⟨q,hq,h0,h1⟩:=hi.1 rfl
  simp only [Bool.not_true,cond_false,hq,Option.bind_some]
  by_cases he:x.Dot=q.Right.length
  ·rw [idx_none' (.inr (by omega))]
   simp [he]
  ·obtain ⟨s,hs,_⟩:=idx_some' (l:=q.Right) (i:=x.Dot) h0 (by omega)
   simp [he,hs]
theorem e33 (g:Grammar) (x:Item):pf33 g x=some (nx g x):=e32 g x
theorem nx_ok {g:Grammar}(hg:GOk g) {x:Item}(h:0<=nx g x):isI g x/\SyOk g.Toks.length (g.Nons.length - 1) (nx g x)/\∃ q,idx g.Prods x.Prod=some q/\idx q.Right x.Dot=some (nx g x):=by
 cases hq:idx g.Prods x.Prod with
 | none =>
  have:nx g x=-1:=by unfold nx; rw [hq]
  rw [this] at h; exact absurd h (by decide)
 | some q =>
  cases hs:idx q.Right x.Dot with
  | none =>
   have:nx g x=-1:=by unfold nx; rw [hq]; simp [hs]
   rw [this] at h; exact absurd h (by decide)
  | some s =>
   have e:nx g x=s:=by unfold nx; rw [hq]; simp [hs]
   rw [e]
   obtain ⟨h0,h1,hm⟩:=idx_bd hs
   exact ⟨⟨q,hq,h0,by omega⟩,(hg.pr q (idx_bd hq).2.2).right s hm,q,rfl,hs⟩
theorem c71 (a b:Item):∃ v,pf71 a b=some v/\(v<0↔ltI a b=true):=by
 have h97:∀ x,pf97 x=some false:=fun x=>by simp [pf97]
 have h65:∀ a b:Int,pf65 a b=some (if a<b then -1 else if b<a then 1 else 0):=by
  intro a b
  unfold pf65
  rw [h97,h97]
  by_cases h1:a<b
  ·simp [h1]
  ·by_cases h2:b<a <;> simp [h1,h2]
 have h99:∀ a b:Int,pf99 [a,b]=some (if a=0 then b else a):=by
  intro a b
  unfold pf99
  have l1:∀ (f:Int->Option (Int ⊕ (Unit ⊕ Int))),f 0=(if a=0 then some (.inl 1) else some (.inr (.inr a)))->f 1=(if b=0 then some (.inl 2) else some (.inr (.inr b)))->f 2=some (.inr (.inl ()))->loopM f 0=some (if a=0 then (if b=0 then .inl () else .inr b) else .inr a):=by
   intro f x y z
   show iter f (999999999999999997+1+1+1) _=_
   by_cases ha:a=0
   ·by_cases hb:b=0 <;> simp only [iter,x,y,z,ha,hb,if_true,if_false]
   ·simp only [iter,x,ha,if_false]
  rw [l1 _ ?_ ?_ ?_]
  ·by_cases ha:a=0
   ·by_cases hb:b=0 <;> simp [ha,hb]
   ·simp [ha]
  ·show (bif decide ((0:Int)<2) then _ else _)=_
   have e:idx [a,b] 0=some a:=rfl
   simp only [e,Option.bind_some]
   by_cases ha:a=0 <;> simp [ha]
   rfl
  ·show (bif decide ((1:Int)<2) then _ else _)=_
   have e:idx [a,b] 1=some b:=rfl
   simp only [e,Option.bind_some]
   by_cases hb:b=0 <;> simp [hb]
   rfl
  ·rfl
 unfold pf71
 simp only [h65,Option.bind_some,h99]
 refine ⟨_,rfl,?_⟩
 rw [ltI_iff]
 by_cases h1:a.Prod<b.Prod
 ·simp [h1]
 ·by_cases h2:b.Prod<a.Prod
  ·simp [h1,h2]; omega
  ·have:a.Prod=b.Prod:=by omega
   by_cases h3:a.Dot<b.Dot
   ·simp [this,h3]
   ·by_cases h4:b.Dot<a.Dot <;> simp [this,h3,h4]
open Go Go.Own
def tn:Nat->ByteArray
 | 0=>⟨#[116,48]⟩ | 1=>⟨#[116,49]⟩ | 2=>⟨#[116,50]⟩ | 3=>⟨#[116,51]⟩ | 4=>⟨#[116,52]⟩ | 5=>⟨#[116,53]⟩ | 6=>⟨#[116,54]⟩ | 7=>⟨#[116,55]⟩ | _=>⟨#[116,56]⟩
abbrev nE:ByteArray:={ data:=#[] }
abbrev cE:ByteArray:={ data:=#[101] }
def sy (i:Nat):Sym:=⟨tn i,false,0,0⟩
def syE:Sym:=⟨cE,false,0,0⟩
def dc (i:Nat) (w:Int):Decl:=⟨w64 (2+w),nE,[sy i],0⟩
def ds:Nat->List Int->List Decl
 | _,[]=>[]
 | i,w::ws=>dc i w::ds (i+1) ws
def al (i:Nat):Alt:=⟨[⟨syE,nE,0⟩,⟨sy i,nE,0⟩,⟨syE,nE,0⟩],⟨nE,false,0,0⟩,0⟩
def als:Nat->List Alt
 | 0=>[]
 | n+1=>als n++[al n]
def xal:Alt:=⟨[⟨⟨⟨#[120]⟩,true,0,0⟩,nE,0⟩],⟨nE,false,0,0⟩,0⟩
def lal (o s:Nat):Alt:=⟨[⟨sy o,nE,0⟩,⟨syE,nE,0⟩],sy s,0⟩
def src (ws:List Int) (o s:Nat):Source:=⟨nE,ds 0 ws,[⟨cE,(als ws.length++[xal])++[lal o s],0⟩],nE⟩
def T3:List Tok:=[⟨{ data:=#[36,101,110,100] },false,0,0,0,nE⟩,⟨{ data:=#[101,114,114,111,114] },false,(-1),0,0,nE⟩,⟨{ data:=#[36,117,110,107] },false,(-1),0,0,nE⟩]
def pr (i:Nat):Prod:=⟨1,[1001,i+3,1001],i+3,nE,[1001,i+3,1001],0⟩
def pl (o s:Nat):Prod:=⟨1,[o+3,1001],s+3,nE,[o+3,1001],0⟩
def In3 (w:Int):Prop:=w=0\/w=1\/w=2
structure Lv (ws:List Int) (o s:Nat):Prop where
 n:ws.length<=9
 k:∀ w∈ws,In3 w
 o:o<ws.length
 s:s<ws.length
abbrev nS:ByteArray:={ data:=#[115] }
abbrev P0:Prod:=⟨0,[1001],-1,nE,[],0⟩
structure MS (m:Mk) (T:List Tok) (G:List Bool) (lf:List ByteArray) (P:List Prod):Prop where
 e:m.f_e=0
 t:m.f_g.Toks=T
 g:m.f_given=G
 ty:m.f_types=[]
 lf:m.f_lefts=lf
 inn:m.f_inner=0
 pr:m.f_g.Prods=P
theorem p91x {m:Mk}{x:Sym}(h:∀ t∈m.f_g.Toks,t.Name≠x.Name):Par (pf91 m x) fun r=>r=-1:=by
 unfold pf91
 refine .by' (Ξ:=LR (fun _=>True) (fun _:Int=>False)) ?_ fun r hr=>?_
 ·refine Par.loop (fun _=>True) trivial fun s _=>Par.cd (fun _=>?_) (fun _=>.so trivial)
  refine .by' (Ξ:=fun c=>c=false) (.go fun y hy=>Par.cp (fun e=>absurd e (h y (idx_bd' hy))) (fun _=>.so rfl)) fun c hc=>?_
  subst hc
  exact .so trivial
 ·rcases r with r | r
  ·exact .so rfl
  ·exact hr.elim
theorem p108x {m:Mk}{n:Int}(h:∀ t∈m.f_g.Toks,t.Num≠n):Par (pf108 m n) fun r=>r=-1:=by
 unfold pf108
 refine .by' (Ξ:=LR (fun _=>True) (fun _:Int=>False)) ?_ fun r hr=>?_
 ·refine Par.loop (fun _=>True) trivial fun s _=>Par.cd (fun _=>?_) (fun _=>.so trivial)
  exact .go fun y hy=>Par.cp (fun e=>absurd e (h y (idx_bd' hy))) (fun _=>.so trivial)
 ·rcases r with r | r
  ·exact .so rfl
  ·exact hr.elim
theorem idx_last {α:Type}{l:List α}{x y:α}{i:Int}(hi:i=(l.length:Int)) (h:idx (l++[x]) i=some y):y=x:=by
 obtain ⟨_,_,h⟩:=idx_at h
 have e:i.toNat=l.length:=by omega
 rw [e,List.getElem?_append_right (Nat.le_refl _),Nat.sub_self] at h
 cases h; rfl
theorem set_last {α:Type}(l:List α) (x y:α):(l++[x]).set l.length y=l++[y]:=by
 rw [List.set_append_right _ _ (Nat.le_refl _),Nat.sub_self]; rfl
theorem p89x {m:Mk}{d:Decl}{x:Sym}{T:List Tok}{G:List Bool}{lf:List ByteArray}{P:List Prod}(hm:MS m T G lf P) (hk:d.Kind=1) (ht:d.Tag=nE) (hx:x.Lit=false) (hn:0<x.Num) (hT:3<=T.length/\T.length<=1000) (hG:G.length=T.length)
  (h1:∀ t∈T,t.Name≠x.Name) (h2:∀ t∈T,t.Num≠x.Num):Par (pf89 m d x) fun m'=>MS m' (T++[⟨x.Name,false,x.Num,0,0,nE⟩]) (G++[true]) lf P:=by
 unfold pf89
 rw [hk,ht]
 have k5:decide ((1:Int)=5)=false:=rfl
 have k1:decide ((1:Int)=1)=true:=rfl
 have kE:decide (nE=({ data:=#[] }:ByteArray))=true:=decide_eq_true rfl
 rw [k5,k1,kE]
 simp only [cond_false,Bool.not_true]
 refine .by' (Ξ:=fun r:Int × Mk=>r.1=(T.length:Int)/\MS r.2 (T++[⟨x.Name,false,0,0,0,nE⟩]) (G++[false]) lf P) ?_ fun r hr=>?_
 ·unfold pf107
  refine .by' (p91x (by rw [hm.t]; exact h1)) fun i hi=>?_
  subst hi
  have c0:decide (0<=(-1:Int))=false:=rfl
  rw [c0,hx]
  simp only [cond_false,Option.bind_some]
  refine Par.ap fun _=>Par.ap fun _=>.so ⟨?_,hm.e,by show m.f_g.Toks++_=_; rw [hm.t],by show m.f_given++_=_; rw [hm.g],hm.ty,hm.lf,hm.inn,hm.pr⟩
  show w64 (((m.f_g.Toks++[_]).length:Int) - 1)=_
  rw [hm.t,List.length_append]
  have:w64 (((T.length+[(⟨x.Name,false,0,0,0,nE⟩:Tok)].length:Nat):Int) - 1)=(T.length:Int):=by
   simp only [List.length_cons,List.length_nil]
   rw [w64_eq]; omega
  exact this
 ·obtain ⟨i,m1⟩:=r
  obtain ⟨hi,h⟩:=hr
  simp only at hi h ⊢
  subst hi
  refine .go fun y hy=>?_
  simp only [Option.bind_some]
  rw [h.t]
  refine .go fun y2 _=>?_
  refine .by' (Ξ:=fun m'=>MS m' (T++[⟨x.Name,false,x.Num,0,0,nE⟩]) (G++[true]) lf P) ?_ fun m2 h2=>?_
  ·refine Par.cp (fun _=>?_) (fun h=>absurd hn h)
   refine .by' (Ξ:=fun c=>c=false) ?_ fun c hc=>?_
   ·refine Par.cp (fun e=>by omega) (fun _=>.go fun gv hgv=>?_)
    rw [h.g] at hgv
    have:=idx_last (by rw [hG]) hgv
    subst this
    simp only [cond_false]
    refine .by' (p108x (n:=x.Num) ?_) fun o ho=>.so ?_
    ·intro t ht
     rw [h.t] at ht
     rcases List.mem_append.1 ht with ht | ht
     ·exact h2 t ht
     ·rw [List.mem_singleton.1 ht]; show (0:Int)≠x.Num; omega
    ·subst ho; rfl
   ·subst hc
    simp only [cond_false,Option.bind_some]
    rw [h.t,h.g]
    refine .go fun z hz=>.go fun _ _=>?_
    have:=idx_last rfl hz
    subst this
    refine .so ⟨h.e,?_,?_,h.ty,h.lf,h.inn,h.pr⟩
    ·show (T++[_]).set (T.length:Int).toNat _=_
     rw [Int.toNat_natCast,set_last]
    ·show (G++[false]).set (T.length:Int).toNat true=_
     rw [Int.toNat_natCast,<- hG,set_last]
  ·refine .go fun _ _=>?_
   exact .so h2
theorem p88x {ds:List Decl}{A:List Alt}(hd:∀ d∈ds,Par (pf104 d) fun r=>r=true) (hA0:A≠[]) (hA:∀ a∈A,Par (pf106 a) fun r=>r=true):Par (pf88 ⟨nE,ds,[⟨nS,A,0⟩],nE⟩) fun r=>r=true:=by
 unfold pf88
 refine .by' (Ξ:=LR (fun _=>True) (fun _:Bool=>False)) ?_ fun x hx=>?_
 ·refine Par.loop (fun s=>s=0) rfl fun s hs=>?_
  subst hs
  have:decide (w64 (0+1)<((nE.size:Nat):Int))=false:=rfl
  rw [this]
  exact .so trivial
 ·rcases x with _ | r
  ·refine .by' (Ξ:=LR (fun _=>True) (fun _:Bool=>False)) ?_ fun x hx=>?_
   ·refine Par.loop (fun _=>True) trivial fun s _=>Par.cd (fun _=>.go fun y hy=>.by' (hd y (idx_bd' hy)) fun c hc=>?_) (fun _=>.so trivial)
    subst hc
    exact .so trivial
   ·rcases x with _ | r
    ·refine .by' (Ξ:=LR (fun _=>True) (fun _:Bool=>False)) ?_ fun x hx=>?_
     ·refine Par.loop (fun _=>True) trivial fun s _=>Par.cd (fun _=>.go fun y hy=>?_) (fun _=>.so trivial)
      have:=List.mem_singleton.1 (idx_bd' hy)
      subst this
      have e1:pf105 nS=some true:=by kernel_rfl
      have e2:decide ((A.length:Int)=0)=false:=decide_eq_false fun e=>hA0 (List.eq_nil_of_length_eq_zero (by omega))
      rw [e1]
      simp only [Option.bind_some,Bool.not_true,cond_false,e2]
      refine .by' (Ξ:=LR (fun _=>True) (fun _:Bool=>False)) ?_ fun x hx=>?_
      ·refine Par.loop (fun _=>True) trivial fun s _=>Par.cd (fun _=>.go fun y hy=>.by' (hA y (idx_bd' hy)) fun c hc=>?_) (fun _=>.so trivial)
       subst hc
       exact .so trivial
      ·rcases x with _ | r
       ·exact .so trivial
       ·exact hx.elim
     ·rcases x with _ | r
      ·exact .so rfl
      ·exact hx.elim
    ·exact hx.elim
  ·exact hx.elim
theorem p92n {m:Mk}(h:m.f_lefts=[]) (n:ByteArray):Par (pf92 m n) fun r=>r=-1:=by
 unfold pf92
 refine .by' (Ξ:=LR (fun _=>True) (fun _:Int=>False)) ?_ fun r hr=>?_
 ·refine Par.loop (fun _=>True) trivial fun s _=>Par.cd (fun _=>.go fun y hy=>?_) (fun _=>.so trivial)
  have:=idx_bd' hy
  rw [h] at this; cases this
 ·rcases r with r | r
  ·exact .so rfl
  ·exact hr.elim
theorem p92s {m:Mk}(h:m.f_lefts=[nS]):Par (pf92 m nS) fun r=>r=0:=by
 unfold pf92
 refine .by' (Ξ:=LR (fun _=>False) (fun r:Int=>r=0)) ?_ fun r hr=>?_
 ·refine Par.loop (fun s=>s=0) rfl fun s hs=>?_
  subst hs
  rw [h]
  have e1:decide ((0:Int)<(([nS]:List ByteArray).length:Int))=true:=rfl
  have e2:idx [nS] 0=some nS:=rfl
  rw [e1,e2]
  simp only [cond_true,Option.bind_some,decide_true]
  exact .so rfl
 ·rcases r with r | r
  ·exact hr.elim
  ·exact .so hr
theorem p61x {ds:List Decl}{A:List Alt}{Td Ta:Nat->List Tok}{Gd Ga:Nat->List Bool}{Pa:Nat->List Prod}(hds:ds=[]\/∃ d,ds=[d]) (hk:∀ d∈ds,d.Kind=1) (h104:∀ d∈ds,Par (pf104 d) fun r=>r=true) (hA0:A≠[]) (hAl:A.length<=1000) (hDl:∀ d∈ds,d.Syms.length<=1000) (h106:∀ a∈A,Par (pf106 a) fun r=>r=true)
  (hT0:Td 0=T3) (hG0:Gd 0=[false,false,false]) (hsy:∀ d∈ds,∀ (j:Nat) (x:Sym),d.Syms[j]?=some x->∀ m,MS m (Td j) (Gd j) [] []->Par (pf89 m d x) fun m'=>MS m' (Td (j+1)) (Gd (j+1)) [] [])
  (hTa:Ta 0=Td (ds.flatMap (·.Syms)).length) (hGa:Ga 0=Gd (ds.flatMap (·.Syms)).length) (hPa:Pa 0=[P0]) (hs:∀ t∈Ta 0,t.Name≠nS)
  (hal:∀ (j:Nat) (a:Alt),A[j]?=some a->∀ m,MS m (Ta j) (Ga j) [nS] (Pa j)->Par (pf93 m nS a) fun m'=>MS m' (Ta (j+1)) (Ga (j+1)) [nS] (Pa (j+1)))
  (hgv:∀ (i:Nat) (b:Bool),3<=i->(Ga A.length)[i]?=some b->b=true) (h40:3<=(Ta A.length).length/\(Ta A.length).length<=40) (h60:(Pa A.length).length<=60) (h8:∀ p∈Pa A.length,p.Right.length<=8) :
  Par (pf61 ⟨nE,ds,[⟨nS,A,0⟩],nE⟩) fun r=>r.2.1=0/\r.1.Toks=Ta A.length/\r.1.Prods=Pa A.length/\r.1.Nons.length=2:=by
 unfold pf61
 refine .by' (p88x h104 hA0 h106) fun c hc=>?_
 subst hc
 simp only [Bool.not_true,cond_false]
 refine .by' (Ξ:=fun l=>l=List.replicate 3 false) (fun a e=>by unfold mkO at e; split at e <;> cases e; rfl) fun x3 hx3=>?_
 subst hx3
 -- declarations
 refine .by' (Ξ:=fun r:Mk × ByteArray=>MS r.1 (Ta 0) (Ga 0) [] []/\r.2=nE) ?_ fun x5 h5=>?_
 ·refine Par.loop (fun z=>z.2.1=nE/\∃ k:Nat,z.2.2=(k:Int)/\k<=ds.length/\MS z.1 (Td ((ds.take k).flatMap (·.Syms)).length) (Gd ((ds.take k).flatMap (·.Syms)).length) [] []) ⟨rfl,0,rfl,Nat.zero_le _,rfl,hT0.symm,hG0.symm,rfl,rfl,rfl,rfl⟩ fun z hz=>?_
  obtain ⟨m,nm,i⟩:=z
  obtain ⟨hnm,k,hi,hkd,hm⟩:=hz
  simp only at hnm hi hm ⊢
  subst hnm hi
  refine Par.cp (fun hlt=>?_) (fun hge=>.so ?_)
  ·refine .go fun d hd=>?_
   have hd1:ds=[d]/\k=0:=by
    rcases hds with rfl | ⟨d',rfl⟩
    ·exact absurd (idx_bd' hd) (by simp)
    ·have:=List.mem_singleton.1 (idx_bd' hd)
     subst this
     refine ⟨rfl,?_⟩
     have hlt:(k:Int)<((([d]:List Decl).length:Nat):Int):=hlt
     simp only [List.length_cons,List.length_nil] at hlt
     omega
   obtain ⟨rfl,rfl⟩:=hd1
   have hkk:=hk d (by simp)
   have c1:decide (2<=d.Kind)=false:=by rw [hkk]; rfl
   have c6:decide (d.Kind=6)=false:=by rw [hkk]; rfl
   rw [c1,c6]
   simp only [cond_false,Option.bind_some,Bool.not_false,cond_true]
   refine .by' (Ξ:=fun r:Mk × ByteArray=>MS r.1 (Td d.Syms.length) (Gd d.Syms.length) [] []/\r.2=nE) ?_ fun r hr=>.so ⟨hr.2,1,rfl,by simp,?_⟩
   ·refine Par.loop (fun z=>z.2.1=nE/\∃ j:Nat,z.2.2=(j:Int)/\j<=d.Syms.length/\MS z.1 (Td j) (Gd j) [] []) ⟨rfl,0,rfl,Nat.zero_le _,?_⟩ fun z hz=>?_
    ·have hm:MS m (Td 0) (Gd 0) [] []:=hm
     exact ⟨hm.e,hm.t,hm.g,hm.ty,hm.lf,hm.inn,hm.pr⟩
    ·obtain ⟨m2,nm,i⟩:=z
     obtain ⟨hnm,j,hi,hj,hm2⟩:=hz
     simp only at hnm hi hm2 ⊢
     subst hnm hi
     refine Par.cp (fun hlt=>?_) (fun hge=>.so ⟨?_,rfl⟩)
     ·refine .by' (Ξ:=fun r:Mk × ByteArray=>MS r.1 (Td (j+1)) (Gd (j+1)) [] []/\r.2=nE) (.go fun x hx=>?_) fun r hr=>.so ⟨hr.2,j+1,?_,by omega,hr.1⟩
      ·obtain ⟨_,_,hx⟩:=idx_at hx
       exact .by' (hsy d (by simp) j x hx m2 hm2) fun m3 h3=>.so ⟨h3,rfl⟩
      ·show w64 ((j:Int)+1)=_
       have:=hDl d (by simp)
       exact w64c j (by omega)
     ·have:j=d.Syms.length:=by omega
      subst this; exact hm2
   ·show MS r.1 _ _ _ _
    simpa using hr.1
  ·have hge:k=ds.length:=by omega
   subst hge
   rw [List.take_length,<- hTa,<- hGa] at hm
   exact ⟨hm,rfl⟩
 obtain ⟨h5,hst⟩:=h5
 -- left sides
 refine .by' (Ξ:=fun m:Mk=>MS m (Ta 0) (Ga 0) [nS] []) ?_ fun x28 h28=>?_
 ·refine Par.loop (fun z=>(z.2=0/\MS z.1 (Ta 0) (Ga 0) [] [])\/(z.2=1/\MS z.1 (Ta 0) (Ga 0) [nS] [])) (.inl ⟨rfl,h5⟩) fun z hz=>?_
  obtain ⟨m,i⟩:=z
  rcases hz with ⟨hi,hm⟩ | ⟨hi,hm⟩
  ·simp only at hi hm ⊢
   subst hi
   have e1:decide ((0:Int)<(([(⟨nS,A,0⟩:Rule)]:List Rule).length:Int))=true:=rfl
   have e2:idx [(⟨nS,A,0⟩:Rule)] 0=some ⟨nS,A,0⟩:=rfl
   rw [e1,e2]
   simp only [cond_true,Option.bind_some]
   refine .by' (Ξ:=fun m:Mk=>MS m (Ta 0) (Ga 0) [nS] []) ?_ fun m2 h2=>.so (.inr ⟨rfl,h2⟩)
   refine .by' (p91x (x:=⟨nS,false,0,0⟩) (by rw [hm.t]; exact hs)) fun r hr=>?_
   subst hr
   have c0:decide (0<=(-1:Int))=false:=rfl
   rw [c0]
   simp only [cond_false,Option.bind_some]
   refine .by' (p92n hm.lf nS) fun r hr=>?_
   subst hr
   have c1:decide ((-1:Int)<0)=true:=rfl
   rw [c1]
   simp only [cond_true]
   refine .by' (Ξ:=fun l:List ByteArray=>l=[nS]) (Par.ap fun _=>.so (by rw [hm.lf]; rfl)) fun l hl=>.so ⟨hm.e,hm.t,hm.g,hm.ty,hl,hm.inn,hm.pr⟩
  ·simp only at hi hm ⊢
   subst hi
   have e1:decide ((1:Int)<(([(⟨nS,A,0⟩:Rule)]:List Rule).length:Int))=false:=rfl
   rw [e1]
   exact .so hm
 refine .by' (Ξ:=fun m:Mk=>MS m (Ta 0) (Ga 0) [nS] []) ?_ fun x42 h42=>?_
 ·refine Par.loop (fun z=>MS z.1 (Ta 0) (Ga 0) [nS] []) h28 fun z hz=>?_
  refine Par.cd (fun _=>?_) (fun _=>.so hz)
  refine .by' (Ξ:=fun m:Mk=>MS m (Ta 0) (Ga 0) [nS] []) ?_ fun m2 h2=>.so h2
  refine Par.loop (fun z=>MS z.1 (Ta 0) (Ga 0) [nS] []) hz fun z hz=>?_
  refine .go fun d hd=>Par.cd (fun _=>?_) (fun _=>.so hz)
  refine .by' (Ξ:=fun m:Mk=>MS m (Ta 0) (Ga 0) [nS] []) (.go fun _ _=>.go fun x _=>?_) fun m2 h2=>.so h2
  rw [hd]
  have c5:decide (5<=d.Kind)=false:=by rw [hk d (idx_bd' hd)]; rfl
  simp only [Option.bind_some,c5,cond_false]
  exact .so hz
 have e1:decide (x5.2=({ data:=#[] }:ByteArray))=true:=decide_eq_true hst
 rw [e1]
 have e2:idx [(⟨nS,A,0⟩:Rule)] 0=some ⟨nS,A,0⟩:=rfl
 rw [e2]
 simp only [cond_true,Option.bind_some]
 refine .by' (p92s h42.lf) fun r hr=>?_
 subst hr
 -- alternatives
 refine .by' (Ξ:=fun m:Mk=>MS m (Ta A.length) (Ga A.length) [nS] (Pa A.length)) ?_ fun x65 h65=>?_
 ·refine Par.loop (fun z=>(z.2=0/\MS z.1 (Ta 0) (Ga 0) [nS] (Pa 0))\/(z.2=1/\MS z.1 (Ta A.length) (Ga A.length) [nS] (Pa A.length))) (.inl ⟨rfl,h42.e,h42.t,h42.g,h42.ty,h42.lf,h42.inn,hPa.symm⟩) fun z hz=>?_
  obtain ⟨m,i⟩:=z
  rcases hz with ⟨hi,hm⟩ | ⟨hi,hm⟩
  ·simp only at hi hm ⊢
   subst hi
   have e1:decide ((0:Int)<(([(⟨nS,A,0⟩:Rule)]:List Rule).length:Int))=true:=rfl
   rw [e1]
   simp only [cond_true]
   refine .by' (Ξ:=fun m:Mk=>MS m (Ta A.length) (Ga A.length) [nS] (Pa A.length)) ?_ fun m2 h2=>.so (.inr ⟨rfl,h2⟩)
   refine Par.loop (fun z=>∃ j:Nat,z.2=(j:Int)/\j<=A.length/\MS z.1 (Ta j) (Ga j) [nS] (Pa j)) ⟨0,rfl,Nat.zero_le _,hm⟩ fun z hz=>?_
   obtain ⟨m2,i⟩:=z
   obtain ⟨j,hi,hj,hm2⟩:=hz
   simp only at hi hm2 ⊢
   subst hi
   rw [e2]
   simp only [Option.bind_some]
   refine Par.cp (fun hlt=>.go fun a ha=>?_) (fun hge=>.so ?_)
   ·obtain ⟨_,_,ha⟩:=idx_at ha
    refine .by' (hal j a ha m2 hm2) fun m3 h3=>.so ⟨j+1,?_,by omega,h3⟩
    show w64 ((j:Int)+1)=_
    exact w64c j (by omega)
   ·have:j=A.length:=by omega
    subst this; exact hm2
  ·simp only at hi hm ⊢
   subst hi
   have e1:decide ((1:Int)<(([(⟨nS,A,0⟩:Rule)]:List Rule).length:Int))=false:=rfl
   rw [e1]
   exact .so hm
 have e3:decide (x65.f_e=0)=true:=decide_eq_true h65.e
 rw [e3,h65.lf,h65.inn,h65.g,h65.t,h65.pr]
 simp only [Bool.not_true,cond_false]
 -- nonterminals
 refine .by' (Ξ:=fun l:List Non=>l.length=2) ?_ fun x79 h79=>?_
 ·refine Par.loop (fun z=>(z.2=0/\z.1.length=1)\/(z.2=1/\z.1.length=2)) (.inl ⟨rfl,rfl⟩) fun z hz=>?_
  obtain ⟨l,i⟩:=z
  rcases hz with ⟨hi,hl⟩ | ⟨hi,hl⟩
  ·simp only at hi hl ⊢
   subst hi
   have e1:decide ((0:Int)<(([nS]:List ByteArray).length:Int))=true:=rfl
   have e2:idx [nS] 0=some nS:=rfl
   rw [e1,e2]
   simp only [cond_true,Option.bind_some]
   refine .go fun _ _=>.go fun _ _=>Par.ap fun _=>.so (.inr ⟨rfl,by simp [hl]⟩)
  ·simp only at hi hl ⊢
   subst hi
   have e1:decide ((1:Int)<(([nS]:List ByteArray).length:Int))=false:=rfl
   rw [e1]
   exact .so hl
 refine .by' (Ξ:=fun l:List Non=>l.length=2) ?_ fun x89 h89=>?_
 ·refine Par.loop (fun z=>z.2=1/\z.1.length=2) ⟨rfl,h79⟩ fun z hz=>?_
  obtain ⟨l,i⟩:=z
  obtain ⟨hi,hl⟩:=hz
  simp only at hi hl ⊢
  subst hi
  have e1:decide ((1:Int)<=0)=false:=rfl
  rw [e1]
  exact .so hl
 -- numbers
 refine .by' (Ξ:=fun l:List Tok=>l=Ta A.length) ?_ fun x96 h96=>?_
 ·refine Par.loop (fun z=>z.1=Ta A.length/\3<=z.2.2/\z.2.2<=(Ta A.length).length) ⟨rfl,Int.le_refl 3,by show (3:Int)<=((Ta A.length).length:Nat); omega⟩ fun z hz=>?_
  obtain ⟨l,nx,i⟩:=z
  obtain ⟨hl,h3,h3'⟩:=hz
  simp only at hl h3 h3' ⊢
  subst hl
  refine Par.cp (fun hlt=>?_) (fun _=>.so rfl)
  refine .by' (Ξ:=fun r:List Tok × Int=>r.1=Ta A.length) (.go fun b hb=>?_) fun r hr=>.so ⟨hr,by show 3<=w64 (i+1); rw [w64_eq]; omega,by show w64 (i+1)<=_; rw [w64_eq]; omega⟩
  obtain ⟨_,_,hb⟩:=idx_at hb
  have:=hgv _ b (by omega) hb
  subst this
  exact .so rfl
 subst h96
 refine .by' (Ξ:=fun c=>c=false) ?_ fun c hc=>?_
 ·have c1:decide (40<((Ta A.length).length:Int))=false:=decide_eq_false (by omega)
  have c2:decide (24<(x89.length:Int))=false:=decide_eq_false (by omega)
  have c3:decide (60<((Pa A.length).length:Int))=false:=decide_eq_false (by omega)
  rw [c1,c2,c3]
  exact .so rfl
 subst hc
 refine .by' (Ξ:=fun c=>c=false) ?_ fun c hc=>?_
 ·refine Par.loop (fun z=>z.1=false) rfl fun z hz=>?_
  obtain ⟨b,i⟩:=z
  have hz:b=false:=hz
  subst hz
  refine Par.cd (fun _=>?_) (fun _=>.so rfl)
  refine .by' (Ξ:=fun c=>c=false) (.go fun p hp=>.so ?_) fun c hc=>.so hc
  have:=h8 p (idx_bd' hp)
  exact decide_eq_false (by omega)
 subst hc
 exact .so ⟨rfl,rfl,rfl,h89⟩
structure MQ (m:Mk) (Q:List Tok->List Bool->List Prod->Prop):Prop where
 e:m.f_e=0
 q:Q m.f_g.Toks m.f_given m.f_g.Prods
 ty:m.f_types=[]
 lf:m.f_lefts=[nS]
 inn:m.f_inner=0
theorem p61y {A:List Alt}{J:Nat->List Tok->List Bool->List Prod->Prop}(hA0:A≠[]) (hAl:A.length<=1000) (h106:∀ a∈A,Par (pf106 a) fun r=>r=true) (h0:J 0 T3 [false,false,false] [P0])
  (hal:∀ (j:Nat) (a:Alt),A[j]?=some a->∀ m,MQ m (J j)->Par (pf93 m nS a) fun m'=>MQ m' (J (j+1)))
  (hend:∀ T G P,J A.length T G P->(∀ (i:Nat) (b:Bool),3<=i->G[i]?=some b->b=true)/\(3<=T.length/\T.length<=40)/\P.length<=60/\∀ p∈P,p.Right.length<=8) :
  Par (pf61 ⟨nE,[],[⟨nS,A,0⟩],nE⟩) fun r=>r.2.1=0/\∃ G,J A.length r.1.Toks G r.1.Prods:=by
 unfold pf61
 refine .by' (p88x (fun d hd=>by cases hd) hA0 h106) fun c hc=>?_
 subst hc
 simp only [Bool.not_true,cond_false]
 refine .by' (Ξ:=fun l=>l=List.replicate 3 false) (fun a e=>by unfold mkO at e; split at e <;> cases e; rfl) fun x3 hx3=>?_
 subst hx3
 -- declarations
 refine .by' (Ξ:=fun r:Mk × ByteArray=>MS r.1 T3 [false,false,false] [] []/\r.2=nE) ?_ fun x5 h5=>?_
 ·refine Par.loop (fun z=>z.2.1=nE/\MS z.1 T3 [false,false,false] [] []) ⟨rfl,rfl,rfl,rfl,rfl,rfl,rfl,rfl⟩ fun z hz=>?_
  exact Par.cp (fun _=>.go fun d hd=>absurd (idx_bd' hd) (by simp)) (fun _=>.so ⟨hz.2,hz.1⟩)
 obtain ⟨h5,hst⟩:=h5
 -- left sides
 refine .by' (Ξ:=fun m:Mk=>MS m T3 [false,false,false] [nS] []) ?_ fun x28 h28=>?_
 ·refine Par.loop (fun z=>(z.2=0/\MS z.1 T3 [false,false,false] [] [])\/(z.2=1/\MS z.1 T3 [false,false,false] [nS] [])) (.inl ⟨rfl,h5⟩) fun z hz=>?_
  obtain ⟨m,i⟩:=z
  rcases hz with ⟨hi,hm⟩ | ⟨hi,hm⟩
  ·simp only at hi hm ⊢
   subst hi
   have e1:decide ((0:Int)<(([(⟨nS,A,0⟩:Rule)]:List Rule).length:Int))=true:=rfl
   have e2:idx [(⟨nS,A,0⟩:Rule)] 0=some ⟨nS,A,0⟩:=rfl
   rw [e1,e2]
   simp only [cond_true,Option.bind_some]
   refine .by' (Ξ:=fun m:Mk=>MS m T3 [false,false,false] [nS] []) ?_ fun m2 h2=>.so (.inr ⟨rfl,h2⟩)
   refine .by' (p91x (x:=⟨nS,false,0,0⟩) ?_) fun r hr=>?_
   ·rw [hm.t]
    intro t ht
    simp only [T3,List.mem_cons,List.not_mem_nil,or_false] at ht
    rcases ht with rfl | rfl | rfl <;> decide
   subst hr
   have c0:decide (0<=(-1:Int))=false:=rfl
   rw [c0]
   simp only [cond_false,Option.bind_some]
   refine .by' (p92n hm.lf nS) fun r hr=>?_
   subst hr
   have c1:decide ((-1:Int)<0)=true:=rfl
   rw [c1]
   simp only [cond_true]
   refine .by' (Ξ:=fun l:List ByteArray=>l=[nS]) (Par.ap fun _=>.so (by rw [hm.lf]; rfl)) fun l hl=>.so ⟨hm.e,hm.t,hm.g,hm.ty,hl,hm.inn,hm.pr⟩
  ·simp only at hi hm ⊢
   subst hi
   have e1:decide ((1:Int)<(([(⟨nS,A,0⟩:Rule)]:List Rule).length:Int))=false:=rfl
   rw [e1]
   exact .so hm
 refine .by' (Ξ:=fun m:Mk=>MS m T3 [false,false,false] [nS] []) ?_ fun x42 h42=>?_
 ·refine Par.loop (fun z=>MS z.1 T3 [false,false,false] [nS] []) h28 fun z hz=>?_
  refine Par.cp (fun h=>?_) (fun _=>.so hz)
  refine .by' (Ξ:=fun m:Mk=>MS m T3 [false,false,false] [nS] []) ?_ fun m2 h2=>.so h2
  refine Par.loop (fun z=>MS z.1 T3 [false,false,false] [nS] []) hz fun z hz=>?_
  exact .go fun d hd=>absurd (idx_bd' hd) (by simp)
 have e1:decide (x5.2=({ data:=#[] }:ByteArray))=true:=decide_eq_true hst
 rw [e1]
 have e2:idx [(⟨nS,A,0⟩:Rule)] 0=some ⟨nS,A,0⟩:=rfl
 rw [e2]
 simp only [cond_true,Option.bind_some]
 refine .by' (p92s h42.lf) fun r hr=>?_
 subst hr
 -- alternatives
 refine .by' (Ξ:=fun m:Mk=>MQ m (J A.length)) ?_ fun x65 h65=>?_
 ·refine Par.loop (fun z=>(z.2=0/\MQ z.1 (J 0))\/(z.2=1/\MQ z.1 (J A.length))) (.inl ⟨rfl,h42.e,by show J 0 x42.f_g.Toks x42.f_given _; rw [h42.t,h42.g]; exact h0,h42.ty,h42.lf,h42.inn⟩) fun z hz=>?_
  obtain ⟨m,i⟩:=z
  rcases hz with ⟨hi,hm⟩ | ⟨hi,hm⟩
  ·simp only at hi hm ⊢
   subst hi
   have e1:decide ((0:Int)<(([(⟨nS,A,0⟩:Rule)]:List Rule).length:Int))=true:=rfl
   rw [e1]
   simp only [cond_true]
   refine .by' (Ξ:=fun m:Mk=>MQ m (J A.length)) ?_ fun m2 h2=>.so (.inr ⟨rfl,h2⟩)
   refine Par.loop (fun z=>∃ j:Nat,z.2=(j:Int)/\j<=A.length/\MQ z.1 (J j)) ⟨0,rfl,Nat.zero_le _,hm⟩ fun z hz=>?_
   obtain ⟨m2,i⟩:=z
   obtain ⟨j,hi,hj,hm2⟩:=hz
   simp only at hi hm2 ⊢
   subst hi
   rw [e2]
   simp only [Option.bind_some]
   refine Par.cp (fun hlt=>.go fun a ha=>?_) (fun hge=>.so ?_)
   ·obtain ⟨_,_,ha⟩:=idx_at ha
    refine .by' (hal j a ha m2 hm2) fun m3 h3=>.so ⟨j+1,?_,by omega,h3⟩
    show w64 ((j:Int)+1)=_
    exact w64c j (by omega)
   ·have:j=A.length:=by omega
    subst this; exact hm2
  ·simp only at hi hm ⊢
   subst hi
   have e1:decide ((1:Int)<(([(⟨nS,A,0⟩:Rule)]:List Rule).length:Int))=false:=rfl
   rw [e1]
   exact .so hm
 have e3:decide (x65.f_e=0)=true:=decide_eq_true h65.e
 obtain ⟨hgv,h40,h60,h8⟩:=hend _ _ _ h65.q
 have hq:=h65.q
 rw [e3,h65.lf,h65.inn]
 simp only [Bool.not_true,cond_false]
 generalize x65.f_given=G at *
 -- nonterminals
 refine .by' (Ξ:=fun l:List Non=>l.length=2) ?_ fun x79 h79=>?_
 ·refine Par.loop (fun z=>(z.2=0/\z.1.length=1)\/(z.2=1/\z.1.length=2)) (.inl ⟨rfl,rfl⟩) fun z hz=>?_
  obtain ⟨l,i⟩:=z
  rcases hz with ⟨hi,hl⟩ | ⟨hi,hl⟩
  ·simp only at hi hl ⊢
   subst hi
   have e1:decide ((0:Int)<(([nS]:List ByteArray).length:Int))=true:=rfl
   have e2:idx [nS] 0=some nS:=rfl
   rw [e1,e2]
   simp only [cond_true,Option.bind_some]
   refine .go fun _ _=>.go fun _ _=>Par.ap fun _=>.so (.inr ⟨rfl,by simp [hl]⟩)
  ·simp only at hi hl ⊢
   subst hi
   have e1:decide ((1:Int)<(([nS]:List ByteArray).length:Int))=false:=rfl
   rw [e1]
   exact .so hl
 refine .by' (Ξ:=fun l:List Non=>l.length=2) ?_ fun x89 h89=>?_
 ·refine Par.loop (fun z=>z.2=1/\z.1.length=2) ⟨rfl,h79⟩ fun z hz=>?_
  obtain ⟨l,i⟩:=z
  obtain ⟨hi,hl⟩:=hz
  simp only at hi hl ⊢
  subst hi
  have e1:decide ((1:Int)<=0)=false:=rfl
  rw [e1]
  exact .so hl
 -- numbers
 generalize x65.f_g.Toks=T at *
 generalize x65.f_g.Prods=P at *
 refine .by' (Ξ:=fun l:List Tok=>l=T) ?_ fun x96 h96=>?_
 ·refine Par.loop (fun z=>z.1=T/\3<=z.2.2/\z.2.2<=T.length) ⟨rfl,Int.le_refl 3,by show (3:Int)<=(T.length:Nat); omega⟩ fun z hz=>?_
  obtain ⟨l,nx,i⟩:=z
  obtain ⟨hl,h3,h3'⟩:=hz
  simp only at hl h3 h3' ⊢
  subst hl
  refine Par.cp (fun hlt=>?_) (fun _=>.so rfl)
  refine .by' (Ξ:=fun r:List Tok × Int=>r.1=l) (.go fun b hb=>?_) fun r hr=>.so ⟨hr,by show 3<=w64 (i+1); rw [w64_eq]; omega,by show w64 (i+1)<=_; rw [w64_eq]; omega⟩
  obtain ⟨_,_,hb⟩:=idx_at hb
  have:=hgv _ b (by omega) hb
  subst this
  exact .so rfl
 subst h96
 refine .by' (Ξ:=fun c=>c=false) ?_ fun c hc=>?_
 ·have c1:decide (40<(x96.length:Int))=false:=decide_eq_false (by omega)
  have c2:decide (24<(x89.length:Int))=false:=decide_eq_false (by omega)
  have c3:decide (60<(P.length:Int))=false:=decide_eq_false (by omega)
  rw [c1,c2,c3]
  exact .so rfl
 subst hc
 refine .by' (Ξ:=fun c=>c=false) ?_ fun c hc=>?_
 ·refine Par.loop (fun z=>z.1=false) rfl fun z hz=>?_
  obtain ⟨b,i⟩:=z
  have hz:b=false:=hz
  subst hz
  refine Par.cd (fun _=>?_) (fun _=>.so rfl)
  refine .by' (Ξ:=fun c=>c=false) (.go fun p hp=>.so ?_) fun c hc=>.so hc
  have:=h8 p (idx_bd' hp)
  exact decide_eq_false (by omega)
 subst hc
 exact .so ⟨rfl,G,hq⟩
theorem p91f {m:Mk}{x:Sym}(hl:m.f_g.Toks.length<=1000):Par (pf91 m x) fun r=>(∃ (k:Nat) (t:Tok),r=(k:Int)/\1<=k/\m.f_g.Toks[k]?=some t/\t.Name=x.Name)\/(r=-1/\∀ (k:Nat) (t:Tok),1<=k->k≠2->m.f_g.Toks[k]?=some t->t.Lit=x.Lit->t.Name≠x.Name):=by
 unfold pf91
 refine .by' (Ξ:=LR (fun _=>∀ (k:Nat) (t:Tok),1<=k->k≠2->m.f_g.Toks[k]?=some t->t.Lit=x.Lit->t.Name≠x.Name) (fun r:Int=>∃ (k:Nat) (t:Tok),r=(k:Int)/\1<=k/\m.f_g.Toks[k]?=some t/\t.Name=x.Name)) ?_ fun r hr=>?_
 ·refine Par.loop (fun s=>∃ k:Nat,s=(k:Int)/\1<=k/\∀ (i:Nat) (t:Tok),i<k->1<=i->i≠2->m.f_g.Toks[i]?=some t->t.Lit=x.Lit->t.Name≠x.Name) ⟨1,rfl,Nat.le_refl 1,fun i t h1 h2=>by omega⟩ fun s hs=>?_
  obtain ⟨k,rfl,h1,hI⟩:=hs
  refine Par.cp (fun hlt=>?_) (fun hge=>.so fun i t hi h2 ht hlt=>hI i t (by have:=(List.getElem?_eq_some_iff.1 ht).1; omega) hi h2 ht hlt)
  have hk:k<m.f_g.Toks.length:=by omega
  have hget:m.f_g.Toks[k]?=some m.f_g.Toks[k]:=List.getElem?_eq_getElem hk
  rw [idx_nat hk,w64c k (by omega)]
  generalize m.f_g.Toks[k]=y at *
  simp only [Option.bind_some]
  refine .by' (Ξ:=fun c:Bool=>(c=true->y.Name=x.Name)/\(c=false->k≠2->y.Lit=x.Lit->y.Name≠x.Name)) ?_ fun c hc=>Par.cd (fun h=>.so ⟨k,y,rfl,h1,hget,hc.1 h⟩) (fun h=>.so ⟨k+1,rfl,by omega,fun i t hi h3 h4 ht hl=>?_⟩)
  ·refine Par.cp (fun e=>Par.cd (fun hl=>.so ⟨fun _=>e,fun h hne=>?_⟩) (fun hl=>.so ⟨fun h=>(by cases h),fun _ _ h=>?_⟩)) (fun e=>.so ⟨fun h=>(by cases h),fun _ _ _=>e⟩)
   ·have h2:(k:Int)=2:=by simpa using h
    omega
   ·rw [h] at hl; simp at hl
  ·by_cases e:i=k
   ·subst e
    rw [hget] at ht; cases ht
    exact hc.2 h h4 hl
   ·exact hI i t (by omega) h3 h4 ht hl
 ·rcases r with r | r
  ·exact .so (.inr ⟨rfl,hr⟩)
  ·exact .so (.inl hr)
def ltZ (a b:Int):Bool:=decide (a<b)
theorem ltZ_iff {a b:Int}:ltZ a b=true↔a<b:=by simp [ltZ]
theorem ltZ_not {a b:Int}:ltZ a b=false↔¬ a<b:=by simp [ltZ]
theorem ordZ:Ord ltZ where
 swo:=⟨fun x=>by rw [ltZ_not]; omega,fun x y z h1 h2=>by rw [ltZ_iff] at *; omega,fun x y z h1 h2=>by rw [ltZ_not] at *; omega⟩
 tot:=fun x y h1 h2=>by rw [ltZ_not] at *; omega
theorem ascZ_get {l:List Int}(hl:Asc ltZ l) {i j:Nat}(hi:i<l.length) (hj:j<l.length) (h:i<j):ltZ l[i] l[j]=true:=List.pairwise_iff_getElem.1 hl i j hi hj h
theorem c62 (l:List Int) (x:Int) (hl:Asc ltZ l) (hn:l.length<=100000):Tot (pf62 l x) fun r=>Asc ltZ r/\r.length<=l.length+1/\(∀ y,y∈r↔y∈l\/y=x):=by
 unfold pf62
 refine .by' (Ξ:=fun z:Int=>∃ k:Nat,z=(k:Int)/\k<=l.length/\(∀ (i:Nat) (h:i<l.length),k<=i->ltZ x l[i]=true)/\∀ (h:0<k),ltZ x (l[k - 1]?.getD default)=false) ?_ fun z hz=>?_
 ·refine Tot.count (fun s=>-s) 1 (fun s=>∃ k:Nat,s=(k:Int)/\k<=l.length/\∀ (i:Nat) (h:i<l.length),k<=i->ltZ x l[i]=true) ⟨l.length,rfl,Nat.le_refl _,fun i h hk=>by omega⟩ (by show 1 - -(l.length:Int)<_; omega) fun s hs=>?_
  obtain ⟨k,rfl,hk,hup⟩:=hs
  refine .by' (Ξ:=fun c:Bool=>(c=true->0<k/\ltZ x (l[k - 1]?.getD default)=true)/\(c=false->∀ (h:0<k),ltZ x (l[k - 1]?.getD default)=false)) ?_ fun c hc=>Tot.cd (fun h=>?_) (fun h=>.so ⟨k,rfl,hk,hup,hc.2 h⟩)
  ·refine Tot.cp (fun h=>?_) (fun h=>.so ⟨fun h'=>(by cases h'),fun _ h'=>by omega⟩)
   have hk1:k - 1<l.length:=by omega
   have hw:w64 ((k:Int) - 1)=((k - 1:Nat):Int):=by rw [w64_eq]; omega
   rw [hw,idx_nat hk1,List.getElem?_eq_getElem hk1]
   simp only [Option.bind_some,Option.getD_some]
   exact .so ⟨fun h'=>⟨by omega,h'⟩,fun h' _=>h'⟩
  ·obtain ⟨h0,h1⟩:=hc.1 h
   refine .so ⟨⟨k - 1,by rw [w64_eq]; omega,by omega,fun i hi hki=>?_⟩,by show -(k:Int) < -w64 _; rw [w64_eq]; omega,by show -w64 _<=1; rw [w64_eq]; omega⟩
   by_cases e:i=k - 1
   ·subst e
    rw [List.getElem?_eq_getElem hi] at h1
    exact h1
   ·exact hup i hi (by omega)
 ·obtain ⟨k,rfl,hk,hup,hlo⟩:=hz
  refine .by' (Ξ:=fun c:Bool=>(c=true↔(0<k/\l[k - 1]?.getD default=x))) ?_ fun c hc=>Tot.cd (fun h=>?_) (fun h=>?_)
  ·refine Tot.cp (fun h=>?_) (fun h=>.so ⟨fun h'=>(by cases h'),fun h'=>by omega⟩)
   have hk1:k - 1<l.length:=by omega
   have hw:w64 ((k:Int) - 1)=((k - 1:Nat):Int):=by rw [w64_eq]; omega
   rw [hw,idx_nat hk1,List.getElem?_eq_getElem hk1]
   simp only [Option.bind_some,Option.getD_some]
   generalize l[k - 1]=y
   refine .so ?_
   exact ⟨fun h'=>⟨by omega,of_decide_eq_true h'⟩,fun h'=>decide_eq_true h'.2⟩
  ·obtain ⟨h0,h1⟩:=hc.1 h
   have hk1:k - 1<l.length:=by omega
   rw [List.getElem?_eq_getElem hk1] at h1
   have hx:x∈l:=by rw [<- h1]; exact List.getElem_mem hk1
   exact .so ⟨hl,by omega,fun y=>⟨.inl,fun h=>h.elim id fun e=>e ▸ hx⟩⟩
  ·have hne:∀ (i:Nat) (hi:i<l.length),i<k->ltZ l[i] x=true:=by
    intro i hi hik
    have hk1:k - 1<l.length:=by omega
    have hlo:=hlo (by omega)
    have hn:l[k - 1]?.getD default≠x:=fun e=>by rw [hc.2 ⟨by omega,e⟩] at h; cases h
    rw [List.getElem?_eq_getElem hk1] at hlo hn
    simp only [Option.getD_some] at hlo hn
    have hk2:ltZ l[k - 1] x=true:=by
     cases hh:ltZ l[k - 1] x with
     | true=>rfl
     | false=>exact absurd (ordZ.tot _ _ hh hlo) hn
    by_cases e:i=k - 1
    ·subst e; exact hk2
    ·exact ordZ.swo.trans _ _ _ (ascZ_get hl hi hk1 (by omega)) hk2
   refine .by' (Ξ:=fun z=>z=l.take k) (Tot.sub ⟨by omega,by omega,by omega⟩ (by simp)) fun z hz=>?_
   subst hz
   refine .by' (Ξ:=fun _=>True) (Tot.ap (by simp [lim]; omega) trivial) fun _ _=>.by' (Ξ:=fun _=>True) (Tot.ap (by simp [lim]; omega) trivial) fun _ _=>?_
   refine .by' (Ξ:=fun z=>z=l.drop k) (Tot.sub ⟨by omega,by omega,by omega⟩ ?_) fun z hz=>?_
   ·rw [List.take_of_length_le]
    ·congr 1
    ·rw [List.length_drop]; omega
   subst hz
   refine .by' (Ξ:=fun _=>True) (Tot.ap (by simp [lim]; omega) trivial) fun _ _=>.so ?_
   rw [List.nil_append]
   refine ⟨?_,?_,?_⟩
   ·have h1:∀ a∈l.take k,ltZ a x=true:=by
     intro a ha
     obtain ⟨i,hi,rfl⟩:=List.mem_iff_getElem.1 ha
     rw [List.length_take] at hi
     rw [List.getElem_take]
     exact hne i (by omega) (by omega)
    have h2:∀ a∈l.drop k,ltZ x a=true:=by
     intro a ha
     obtain ⟨i,hi,rfl⟩:=List.mem_iff_getElem.1 ha
     rw [List.length_drop] at hi
     rw [List.getElem_drop]
     exact hup (k+i) (by omega) (by omega)
    unfold Asc
    rw [List.append_assoc,List.pairwise_append]
    refine ⟨List.Pairwise.sublist (List.take_sublist k l) hl,?_,fun a ha b hb=>?_⟩
    ·rw [List.singleton_append,List.pairwise_cons]
     exact ⟨h2,List.Pairwise.sublist (List.drop_sublist k l) hl⟩
    ·rcases List.mem_append.1 hb with hb | hb
     ·rw [List.mem_singleton.1 hb]; exact h1 a ha
     ·exact ordZ.swo.trans _ _ _ (h1 a ha) (h2 b hb)
   ·simp only [List.length_append,List.length_take,List.length_drop,List.length_cons,List.length_nil]; omega
   ·intro y
    rw [List.append_assoc,List.mem_append,List.mem_append,List.mem_singleton]
    have hm:y∈l↔y∈l.take k\/y∈l.drop k:=by
     rw [<- List.mem_append,List.take_append_drop]
    rw [hm]
    constructor
    ·rintro (h | h | h)
     ·exact .inl (.inl h)
     ·exact .inr h
     ·exact .inl (.inr h)
    ·rintro ((h | h) | h)
     ·exact .inl h
     ·exact .inr (.inr h)
     ·exact .inr (.inl h)
def ltP (a b:Pair):Bool:=decide (a.At<b.At)||(decide (a.At=b.At)&&decide (a.Val<b.Val))
theorem ltP_iff {a b:Pair}:ltP a b=true↔(a.At<b.At\/(a.At=b.At/\a.Val<b.Val)):=by simp [ltP]
theorem ltP_not {a b:Pair}:ltP a b=false↔¬ (a.At<b.At\/(a.At=b.At/\a.Val<b.Val)):=by
 rw [<- ltP_iff]; simp
theorem ordP:Ord ltP where
 swo:=⟨fun x=>by rw [ltP_not]; omega,fun x y z h1 h2=>by rw [ltP_iff] at *; omega,fun x y z h1 h2=>by rw [ltP_not] at *; omega⟩
 tot x y h1 h2:=by
  rw [ltP_not] at h1 h2
  obtain ⟨x1,x2⟩:=x
  obtain ⟨y1,y2⟩:=y
  simp only at h1 h2
  have:x1=y1:=by omega
  have:x2=y2:=by omega
  subst_vars; rfl
theorem asc_sort {α:Type} [DecidableEq α] {lt:α->α->Bool}(h:Ord lt) {l:List α}(hn:l.Nodup):Asc lt (isort lt l):=by
 have h1:=isort_sorted h.swo l
 have h2:(isort lt l).Nodup:=(isort_perm lt l).nodup_iff.2 hn
 refine List.Pairwise.imp (fun {a b} hab=>?_) (h1.and h2)
 cases hh:lt a b with
 | true=>rfl
 | false=>exact absurd (h.tot _ _ hh (by simpa using hab.1)) hab.2
def Pr (T:List Tok) (p:Pair):Prop:=∃ (k:Nat) (t:Tok),T[k]?=some t/\0<t.Num/\p=⟨t.Num,(k:Int)⟩
theorem Pr.val {T:List Tok}{p:Pair}(h:Pr T p):∃ (k:Nat) (t:Tok),T[k]?=some t/\p.Val=(k:Int)/\p.At=t.Num/\0<t.Num:=by
 obtain ⟨k,t,h1,h2,rfl⟩:=h
 exact ⟨k,t,h1,rfl,rfl,h2⟩
theorem c65 (a b:Int):∃ v,pf65 a b=some v/\(v<0↔a<b)/\(v=0↔a=b):=by
 have e:∀ a,pf97 a=some false:=fun a=>by simp [pf97]
 unfold pf65
 simp only [e,Option.bind_some,cond_false]
 by_cases h1:a<b
 ·exact ⟨-1,by simp [h1],by omega,by omega⟩
 ·by_cases h2:b<a
  ·exact ⟨1,by simp [h1,h2],by omega,by omega⟩
  ·exact ⟨0,by simp [h1,h2],by omega,by omega⟩
theorem c24 (g:Grammar) (hg:GTk g) (hl:g.Toks.length<=1000):Tot (pf24 g) fun l=>Asc ltP l/\l.length<=1000/\∀ p,p∈l↔Pr g.Toks p:=by
 unfold pf24
 refine .by' (Ξ:=fun l:List Pair=>(l.length<=1000/\∀ p,p∈l↔Pr g.Toks p)/\l.Pairwise fun a b=>a.Val<b.Val) ?_ fun l hl=>?_
 ·refine Tot.upto (fun s=>s.2) g.Toks.length (fun k s=>(s.1.length<=k/\∀ p,p∈s.1↔(Pr g.Toks p/\p.Val<(k:Int)))/\s.1.Pairwise fun a b=>a.Val<b.Val) rfl (by omega) ⟨⟨Nat.le_refl 0,fun p=>⟨fun h=>(by cases h),fun h=>by obtain ⟨k,t,_,e,_⟩:=h.1.val; omega⟩⟩,.nil⟩ fun k s hk he hI=>?_
  obtain ⟨l,i⟩:=s
  obtain ⟨⟨h1,h2⟩,h5⟩:=hI
  simp only at he h1 h2 h5 ⊢
  subst he
  rw [w64c k (by omega)]
  refine Tot.cp (fun hlt=>?_) (fun hge=>.so ⟨⟨by omega,fun p=>(h2 p).trans ⟨fun h=>h.1,fun h=>⟨h,?_⟩⟩⟩,h5⟩)
  ·have hlt:k<g.Toks.length:=by omega
   rw [idx_nat hlt]
   have hget:g.Toks[k]?=some g.Toks[k]:=List.getElem?_eq_getElem hlt
   refine .by' (Ξ:=fun o:List Pair=>(o.length<=k+1/\∀ p,p∈o↔(Pr g.Toks p/\p.Val<((k+1:Nat):Int)))/\o.Pairwise fun a b=>a.Val<b.Val) ?_ fun o ho=>.so ⟨hlt,rfl,ho⟩
   simp only [Option.bind_some]
   refine .by' (Ξ:=fun o:List Pair=>(o.length<=k+1/\∀ p,p∈o↔(Pr g.Toks p/\p.Val<((k+1:Nat):Int)))/\o.Pairwise fun a b=>a.Val<b.Val) ?_ fun o ho=>.so ho
   refine Tot.cp (fun hp=>.by' (Ξ:=fun _=>True) (Tot.ap (by simp [lim]; omega) trivial) fun _ _=>.so ⟨⟨by simp; omega,fun p=>?_⟩,?_⟩) (fun hp=>.so ⟨⟨by omega,fun p=>?_⟩,h5⟩)
   ·rw [List.mem_append,List.mem_singleton,h2]
    constructor
    ·rintro (h | rfl)
     ·exact ⟨h.1,by omega⟩
     ·exact ⟨⟨k,_,hget,hp,rfl⟩,by show (k:Int)<((k+1:Nat):Int); omega⟩
    ·rintro ⟨h,hv⟩
     obtain ⟨j,t,h3,h4,rfl⟩:=h
     simp only at hv
     by_cases e:j=k
     ·subst e
      rw [hget] at h3; cases h3
      exact .inr rfl
     ·exact .inl ⟨⟨j,t,h3,h4,rfl⟩,by show (j:Int)<k; omega⟩
   ·refine List.pairwise_append.2 ⟨h5,List.pairwise_singleton ..,fun a ha b hb=>?_⟩
    rw [List.mem_singleton.1 hb]
    exact ((h2 a).1 ha).2
   ·rw [h2]
    constructor
    ·rintro ⟨h,hv⟩
     exact ⟨h,by omega⟩
    ·rintro ⟨h,hv⟩
     obtain ⟨j,t,h3,h4,rfl⟩:=h
     simp only at hv
     refine ⟨⟨j,t,h3,h4,rfl⟩,?_⟩
     show (j:Int)<k
     by_cases e:j=k
     ·subst e
      rw [hget] at h3; cases h3
      exact absurd h4 hp
     ·omega
  ·obtain ⟨j,t,h3,_,rfl⟩:=h
   have:=(List.getElem?_eq_some_iff.1 h3).1
   show (j:Int)<k
   omega
 ·obtain ⟨hl,hpw⟩:=hl
  have hs:sortO (fun a b=>pf64 a b) l=some (isort ltP l):=by
   refine sort_is ordP (fun a ha b hb=>?_) (by omega)
   obtain ⟨v,hv,h1,h2⟩:=c65 a.At b.At
   refine ⟨v,by unfold pf64; rw [hv]; rfl,h1.trans ?_⟩
   rw [ltP_iff]
   constructor
   ·exact .inl
   ·rintro (h | ⟨h,h'⟩)
    ·exact h
    ·exfalso
     obtain ⟨i,s,e1,e2,rfl⟩:=(hl.2 a).1 ha
     obtain ⟨j,t,e3,e4,rfl⟩:=(hl.2 b).1 hb
     simp only at h h'
     have:=hg.un i j s t e1 e3 e2 h
     omega
  rw [hs]
  refine .so ⟨asc_sort ordP (hpw.imp fun {a b} h e=>by subst e; omega),by rw [(isort_perm ltP l).length_eq]; exact hl.1,fun p=>((isort_perm ltP l).mem_iff).trans (hl.2 p)⟩
theorem c21 (g:Grammar) (hl:g.Toks.length<=1000):Tot (pf21 g) fun l=>Asc ltP l/\∀ p,p∈l↔Pr g.Toks p:=by
 unfold pf21
 refine .by' (Ξ:=fun l:List Int=>Asc ltZ l/\l.length<=1000/\∀ x,x∈l↔∃ (k:Nat) (t:Tok),g.Toks[k]?=some t/\0<t.Num/\x=t.Num) ?_ fun l hl=>?_
 ·refine Tot.upto (fun s=>s.2) g.Toks.length (fun k s=>Asc ltZ s.1/\s.1.length<=k/\∀ x,x∈s.1↔∃ (j:Nat) (t:Tok),g.Toks[j]?=some t/\0<t.Num/\x=t.Num/\j<k) rfl (by omega) ⟨.nil,Nat.le_refl 0,fun p=>⟨fun h=>(by cases h),fun ⟨j,t,h⟩=>by omega⟩⟩ fun k s hk he hI=>?_
  obtain ⟨l,i⟩:=s
  obtain ⟨h1,h2,h3⟩:=hI
  simp only at he h1 h2 h3 ⊢
  subst he
  rw [w64c k (by omega)]
  refine Tot.cp (fun hlt=>?_) (fun hge=>.so ⟨h1,by omega,fun x=>(h3 x).trans ⟨fun ⟨j,t,a,b,c,_⟩=>⟨j,t,a,b,c⟩,fun ⟨j,t,a,b,c⟩=>⟨j,t,a,b,c,?_⟩⟩⟩)
  ·have hlt:k<g.Toks.length:=by omega
   rw [idx_nat hlt]
   have hget:g.Toks[k]?=some g.Toks[k]:=List.getElem?_eq_getElem hlt
   simp only [Option.bind_some]
   refine .by' (Ξ:=fun o:List Int=>Asc ltZ o/\o.length<=k+1/\∀ x,x∈o↔∃ (j:Nat) (t:Tok),g.Toks[j]?=some t/\0<t.Num/\x=t.Num/\j<k+1) ?_ fun o ho=>.so ⟨hlt,rfl,ho⟩
   refine .by' (Ξ:=fun o:List Int=>Asc ltZ o/\o.length<=k+1/\∀ x,x∈o↔∃ (j:Nat) (t:Tok),g.Toks[j]?=some t/\0<t.Num/\x=t.Num/\j<k+1) ?_ fun o ho=>.so ho
   refine Tot.cp (fun hp=>.by' (c62 l _ h1 (by omega)) fun r hr=>.so ⟨hr.1,by have:=hr.2.1; omega,fun x=>?_⟩) (fun hp=>.so ⟨h1,by omega,fun x=>?_⟩)
   ·rw [hr.2.2 x,h3]
    constructor
    ·rintro (⟨j,t,a,b,c,d⟩ | rfl)
     ·exact ⟨j,t,a,b,c,by omega⟩
     ·exact ⟨k,_,hget,hp,rfl,by omega⟩
    ·rintro ⟨j,t,a,b,c,d⟩
     by_cases e:j=k
     ·subst e
      rw [hget] at a; cases a
      exact .inr c
     ·exact .inl ⟨j,t,a,b,c,by omega⟩
   ·rw [h3]
    constructor
    ·rintro ⟨j,t,a,b,c,d⟩
     exact ⟨j,t,a,b,c,by omega⟩
    ·rintro ⟨j,t,a,b,c,d⟩
     refine ⟨j,t,a,b,c,?_⟩
     by_cases e:j=k
     ·subst e
      rw [hget] at a; cases a
      exact absurd b hp
     ·omega
  ·have:=(List.getElem?_eq_some_iff.1 a).1
   omega
 ·obtain ⟨ha,hn,hm⟩:=hl
  refine .by' (Ξ:=fun l:List Pair=>Asc ltP l/\∀ p,p∈l↔Pr g.Toks p) ?_ fun r hr=>.so hr
  refine Tot.upto (fun s=>s.2) l.length (fun k s=>Asc ltP s.1/\s.1.length<=1000 * k/\∀ p,p∈s.1↔(Pr g.Toks p/\p.At∈l.take k)) rfl (by omega) ⟨.nil,Nat.le_refl 0,fun p=>⟨fun h=>(by cases h),fun h=>(by simp at h)⟩⟩ fun k s hk he hI=>?_
  obtain ⟨out,i⟩:=s
  obtain ⟨h1,h2,h3⟩:=hI
  simp only at he h1 h2 h3 ⊢
  subst he
  rw [w64c k (by omega)]
  refine Tot.cp (fun hlt=>?_) (fun hge=>.so ⟨h1,fun p=>(h3 p).trans ⟨fun h=>h.1,fun h=>⟨h,?_⟩⟩⟩)
  ·have hlt:k<l.length:=by omega
   have hx:∃ x,x=l[k]:=⟨_,rfl⟩
   obtain ⟨x,hx⟩:=hx
   have hxm:x∈l:=by rw [hx]; exact List.getElem_mem hlt
   obtain ⟨_,_,_,hx0,_⟩:=(hm x).1 hxm
   have htk:l.take (k+1)=l.take k++[x]:=by rw [List.take_add_one,List.getElem?_eq_getElem hlt,hx]; rfl
   have hlo:∀ y∈l.take k,y<x:=fun y hy=>by
    obtain ⟨j,hj,rfl⟩:=List.mem_iff_getElem.1 hy
    rw [List.length_take] at hj
    rw [List.getElem_take,hx]
    exact ltZ_iff.1 (ascZ_get ha (by omega) hlt (by omega))
   refine .by' (Ξ:=fun o:List Pair=>Asc ltP o/\o.length<=1000 * (k+1)/\∀ p,p∈o↔(Pr g.Toks p/\p.At∈l.take (k+1))) ?_ fun o ho=>.so ⟨hlt,rfl,ho⟩
   refine Tot.upto (fun s=>s.2) g.Toks.length (fun j s=>Asc ltP s.1/\s.1.length<=1000 * k+j/\∀ p,p∈s.1↔(Pr g.Toks p/\(p.At∈l.take k\/(p.At=x/\p.Val<(j:Int))))) rfl (by omega) ⟨h1,by show out.length<=1000 * k+0; omega,fun p=>(h3 p).trans ⟨fun h=>⟨h.1,.inl h.2⟩,fun h=>⟨h.1,h.2.elim id fun h'=>?_⟩⟩⟩ fun j s hj he hI=>?_
   ·obtain ⟨i,t,_,e,_⟩:=h.1.val
    omega
   obtain ⟨o,i⟩:=s
   obtain ⟨g1,g2,g3⟩:=hI
   simp only at he g1 g2 g3 ⊢
   subst he
   rw [w64c j (by omega)]
   refine Tot.cp (fun hlt2=>?_) (fun hge=>.so ⟨g1,by omega,fun p=>(g3 p).trans ?_⟩)
   ·have hlt2:j<g.Toks.length:=by omega
    rw [idx_nat hlt2,idx_nat hlt,<- hx]
    have hget:g.Toks[j]?=some g.Toks[j]:=List.getElem?_eq_getElem hlt2
    simp only [Option.bind_some]
    refine .by' (Ξ:=fun o:List Pair=>Asc ltP o/\o.length<=1000 * k+(j+1)/\∀ p,p∈o↔(Pr g.Toks p/\(p.At∈l.take k\/(p.At=x/\p.Val<((j+1:Nat):Int))))) ?_ fun o ho=>.so ⟨hlt2,rfl,ho⟩
    refine .by' (Ξ:=fun o:List Pair=>Asc ltP o/\o.length<=1000 * k+(j+1)/\∀ p,p∈o↔(Pr g.Toks p/\(p.At∈l.take k\/(p.At=x/\p.Val<((j+1:Nat):Int))))) ?_ fun o ho=>.so ho
    refine Tot.cp (fun hp=>.by' (Ξ:=fun _=>True) (Tot.ap (by simp [lim]; omega) trivial) fun _ _=>.so ⟨?_,by simp; omega,fun p=>?_⟩) (fun hp=>.so ⟨g1,by omega,fun p=>(g3 p).trans ?_⟩)
    ·refine List.pairwise_append.2 ⟨g1,List.pairwise_singleton ..,fun a ha b hb=>?_⟩
     rw [List.mem_singleton.1 hb,ltP_iff]
     rcases ((g3 a).1 ha).2 with h | h
     ·exact .inl (hlo _ h)
     ·exact .inr h
    ·rw [List.mem_append,List.mem_singleton,g3]
     constructor
     ·rintro (⟨h,h' | ⟨h',h''⟩⟩ | rfl)
      ·exact ⟨h,.inl h'⟩
      ·exact ⟨h,.inr ⟨h',by omega⟩⟩
      ·exact ⟨⟨j,_,hget,by omega,by rw [hp]⟩,.inr ⟨rfl,by show (j:Int)<((j+1:Nat):Int); omega⟩⟩
     ·rintro ⟨h,h' | ⟨h',h''⟩⟩
      ·exact .inl ⟨h,.inl h'⟩
      ·by_cases e:p.Val=(j:Int)
       ·right
        obtain ⟨a,b⟩:=p
        simp only at h' e
        rw [h',e]
       ·exact .inl ⟨h,.inr ⟨h',by omega⟩⟩
    ·constructor
     ·rintro ⟨h,h' | ⟨h',h''⟩⟩
      ·exact ⟨h,.inl h'⟩
      ·exact ⟨h,.inr ⟨h',by omega⟩⟩
     ·rintro ⟨h,h' | ⟨h',h''⟩⟩
      ·exact ⟨h,.inl h'⟩
      ·refine ⟨h,.inr ⟨h',?_⟩⟩
       obtain ⟨i,t,e1,e2,e3,_⟩:=h.val
       by_cases e:i=j
       ·subst e
        rw [hget] at e1; cases e1
        exact absurd (e3.symm.trans h') hp
       ·omega
   ·rw [htk,List.mem_append,List.mem_singleton]
    constructor
    ·rintro ⟨h,h' | ⟨h',_⟩⟩
     ·exact ⟨h,.inl h'⟩
     ·exact ⟨h,.inr h'⟩
    ·rintro ⟨h,h' | h'⟩
     ·exact ⟨h,.inl h'⟩
     ·obtain ⟨i,t,e1,e2,e3,_⟩:=h.val
      have:=(List.getElem?_eq_some_iff.1 e1).1
      exact ⟨h,.inr ⟨h',by omega⟩⟩
  ·rw [List.take_of_length_le (by omega),hm]
   obtain ⟨i,t,e1,e2,e3,e4⟩:=h.val
   exact ⟨i,t,e1,e4,e3⟩
def TokIs (T:List Tok) (n v:Int):Prop:=(n<=0/\v=0)\/(0<n/\((∃ (k:Nat) (t:Tok),T[k]?=some t/\t.Num=n/\v=(k:Int))\/((∀ (k:Nat) (t:Tok),T[k]?=some t->t.Num≠n)/\v=2)))
theorem TokIs.uniq {g:Grammar}(hg:GTk g) {n v v':Int}(h:TokIs g.Toks n v) (h':TokIs g.Toks n v'):v=v':=by
 rcases h with ⟨h1,h2⟩ | ⟨h1,⟨k,t,h2,h3,h4⟩ | ⟨h2,h3⟩⟩ <;> rcases h' with ⟨h1',h2'⟩ | ⟨h1',⟨k',t',h2',h3',h4'⟩ | ⟨h2',h3'⟩⟩
 ·omega
 ·omega
 ·omega
 ·omega
 ·have:=hg.un k k' t t' h2 h2' (by omega) (by omega)
  omega
 ·exact absurd h3 (h2' _ _ h2)
 ·omega
 ·exact absurd h3' (h2 _ _ h2')
 ·omega
theorem c26 (g:Grammar) (n:Int) (hl:g.Toks.length<=1000):Tot (pf26 g n) (TokIs g.Toks n):=by
 unfold pf26
 refine Tot.cp (fun h=>.so (.inl ⟨h,rfl⟩)) (fun h=>?_)
 refine .by' (Ξ:=LR (fun _=>∀ (k:Nat) (t:Tok),g.Toks[k]?=some t->t.Num≠n) (fun r:Int=>∃ (k:Nat) (t:Tok),g.Toks[k]?=some t/\t.Num=n/\r=(k:Int))) ?_ fun x hx=>?_
 ·refine Tot.upto (fun s=>s) g.Toks.length (fun k s=>∀ (j:Nat) (t:Tok),j<k->g.Toks[j]?=some t->t.Num≠n) rfl (by omega) (fun j t h=>by omega) fun k s hk he hI=>?_
  subst he
  rw [w64c k (by omega)]
  refine Tot.cp (fun hlt=>?_) (fun hge=>.so fun j t ht=>hI j t (by have:=(List.getElem?_eq_some_iff.1 ht).1; omega) ht)
  have hlt:k<g.Toks.length:=by omega
  rw [idx_nat hlt]
  have hget:g.Toks[k]?=some g.Toks[k]:=List.getElem?_eq_getElem hlt
  simp only [Option.bind_some]
  refine Tot.cp (fun e=>.so ⟨k,_,hget,e,rfl⟩) (fun e=>.so ⟨hlt,rfl,fun j t hj ht=>?_⟩)
  by_cases ej:j=k
  ·subst ej; rw [hget] at ht; cases ht; exact e
  ·exact hI j t (by omega) ht
 ·rcases x with x | x
  ·exact .so (.inr ⟨by omega,.inr ⟨hx,rfl⟩⟩)
  ·exact .so (.inr ⟨by omega,.inl hx⟩)
theorem half {x:Int}(h0:0<=x) (h1:x<=1000000):w64 (shrK .u64 (IntKind.u64.wrap (w64 x)) 1)=x / 2:=by
 have e1:w64 x=x:=by rw [w64_eq]; omega
 have e2:IntKind.u64.wrap x=x:=by rw [IntKind.wrap_u64]; omega
 rw [e1,e2]
 have e3:shrK .u64 x 1=x / 2:=by
  show x.fdiv (2 ^ 1)=x / 2
  rw [Int.fdiv_eq_ediv_of_nonneg _ (by decide)]
  rfl
 rw [e3,w64_eq]; omega
theorem c66 (l:List Pair) (n:Int) (ha:Asc ltP l) (hl:l.length<=1000):Tot (pf66_67 l n) fun r=>(r.2=true->∃ p,idx l r.1=some p/\p∈l/\p.At=n)/\(r.2=false->∀ p∈l,p.At≠n):=by
 have asc:∀ {i j:Nat}(hi:i<l.length) (hj:j<l.length),i<=j->l[i].At<=l[j].At:=fun {i j} hi hj h=>by
  by_cases e:i=j
  ·subst e; omega
  ·have:=ltP_iff.1 (List.pairwise_iff_getElem.1 ha i j hi hj (by omega))
   omega
 unfold pf66_67
 refine .by' (Ξ:=fun r:Int=>∃ k:Nat,r=(k:Int)/\k<=l.length/\(∀ (i:Nat) (h:i<l.length),i<k->l[i].At<n)/\∀ (i:Nat) (h:i<l.length),k<=i->n<=l[i].At) ?_ fun r hr=>?_
 ·refine Tot.count (fun s=>s.1 - s.2) 1 (fun s=>∃ lo hi:Nat,s=((lo:Int),(hi:Int))/\lo<=hi/\hi<=l.length/\(∀ (i:Nat) (h:i<l.length),i<lo->l[i].At<n)/\∀ (i:Nat) (h:i<l.length),hi<=i->n<=l[i].At) ⟨0,l.length,rfl,Nat.zero_le _,Nat.le_refl _,fun i h h'=>by omega,fun i h h'=>by omega⟩ (by show 1 - (0 - (l.length:Int))<_; omega) fun s hs=>?_
  obtain ⟨lo,hi,rfl,h1,h2,h3,h4⟩:=hs
  simp only
  refine Tot.cp (fun hlt=>?_) (fun hge=>.so ⟨lo,rfl,by omega,h3,fun i h h'=>h4 i h (by omega)⟩)
  rw [half (by omega) (by omega)]
  have hm:∃ m:Nat,((lo:Int)+(hi:Int)) / 2=(m:Int)/\lo<=m/\m<hi:=⟨(lo+hi) / 2,by omega,by omega,by omega⟩
  obtain ⟨m,hm,hm1,hm2⟩:=hm
  rw [hm,w64c m (by omega),idx_nat (by omega:m<l.length)]
  obtain ⟨v,hv,hv1,hv2⟩:=c65 (l[m]'(by omega)).At n
  simp only [Option.bind_some,pf67,hv]
  refine .by' (Ξ:=fun j:Int × Int=>(∃ lo' hi':Nat,j=((lo':Int),(hi':Int))/\lo'<=hi'/\hi'<=l.length/\(∀ (i:Nat) (h:i<l.length),i<lo'->l[i].At<n)/\∀ (i:Nat) (h:i<l.length),hi'<=i->n<=l[i].At)/\(lo:Int) - (hi:Int)<j.1 - j.2/\j.1 - j.2<=1) ?_ fun j hj=>.so hj
  refine .by' (Ξ:=fun j:Int × Int=>(∃ lo' hi':Nat,j=((lo':Int),(hi':Int))/\lo'<=hi'/\hi'<=l.length/\(∀ (i:Nat) (h:i<l.length),i<lo'->l[i].At<n)/\∀ (i:Nat) (h:i<l.length),hi'<=i->n<=l[i].At)/\(lo:Int) - (hi:Int)<j.1 - j.2/\j.1 - j.2<=1) ?_ fun j hj=>.so hj
  refine Tot.cp (fun hneg=>.so ⟨⟨m+1,hi,rfl,by omega,h2,fun i h h'=>?_,h4⟩,by show (lo:Int) - hi<((m+1:Nat):Int) - hi; omega,by show ((m+1:Nat):Int) - hi<=1; omega⟩) (fun hpos=>.so ⟨⟨lo,m,rfl,hm1,by omega,h3,fun i h h'=>?_⟩,by show (lo:Int) - hi<lo - m; omega,by show (lo:Int) - m<=1; omega⟩)
  ·have:=asc h (by omega:m<l.length) (by omega)
   have:=hv1.1 hneg
   omega
  ·have:=asc (by omega:m<l.length) h h'
   have:¬ (l[m]'(by omega)).At<n:=fun h=>hpos (hv1.2 h)
   omega
 ·obtain ⟨k,rfl,hk,h1,h2⟩:=hr
  refine .by' (Ξ:=fun c:Int × Bool=>(c.2=true->∃ p,idx l c.1=some p/\p∈l/\p.At=n)/\(c.2=false->∀ p∈l,p.At≠n)) ?_ fun c hc=>.so hc
  refine Tot.cp (fun hlt=>?_) (fun hge=>.so ⟨fun h=>(by cases h),fun _ p hp=>?_⟩)
  ·have hlt:k<l.length:=by omega
   rw [idx_nat hlt]
   obtain ⟨v,hv,hv1,hv2⟩:=c65 l[k].At n
   simp only [Option.bind_some,pf67,hv]
   refine .so ⟨fun h=>⟨_,idx_nat hlt,List.getElem_mem hlt,hv2.1 (of_decide_eq_true h)⟩,fun h p hp=>?_⟩
   obtain ⟨i,hi,rfl⟩:=List.mem_iff_getElem.1 hp
   have hne:l[k].At≠n:=fun e=>of_decide_eq_false h (hv2.2 e)
   by_cases hik:i<k
   ·have:=h1 i hi hik; omega
   ·have a1:=asc hlt hi (by omega)
    have a2:=h2 k hlt (Nat.le_refl _)
    omega
  ·obtain ⟨i,hi,rfl⟩:=List.mem_iff_getElem.1 hp
   have:=h1 i hi (by omega)
   omega
theorem c25 (g:Grammar) (hg:GTk g) (l:List Pair) (n:Int) (ha:Asc ltP l) (hl:l.length<=1000) (hm:∀ p,p∈l↔Pr g.Toks p):Tot (pf25 l n) (TokIs g.Toks n):=by
 unfold pf25
 refine Tot.cp (fun h=>.so (.inl ⟨h,rfl⟩)) (fun h=>?_)
 refine .by' (c66 l n ha hl) fun r hr=>Tot.cd (fun hf=>.so (.inr ⟨by omega,.inr ⟨fun k t ht e=>?_,rfl⟩⟩)) (fun ht=>?_)
 ·exact hr.2 (by simpa using hf) ⟨t.Num,(k:Int)⟩ ((hm _).2 ⟨k,t,ht,by omega,rfl⟩) e
 ·obtain ⟨p,hp,hpm,e⟩:=hr.1 (by simpa using ht)
  rw [hp]
  obtain ⟨k,t,h1,h2,rfl⟩:=(hm p).1 hpm
  exact .so (.inr ⟨by omega,.inl ⟨k,t,h1,e,rfl⟩⟩)
theorem c23 (l m:List Pair) (hl:l.length<=100000) (h:l=m):pf23 l m=some true:=by
 subst h
 suffices h:Tot (pf23 l l) fun r=>r=true by
  obtain ⟨r,hr,e⟩:=h; rw [hr,e]
 unfold pf23
 simp only [decide_true,Bool.not_true,cond_false]
 refine .by' (Ξ:=LR (fun _=>True) (fun _:Bool=>False)) ?_ fun x hx=>?_
 ·refine Tot.upto (fun s=>s) l.length (fun k s=>True) rfl (by omega) trivial fun k s hk he _=>?_
  subst he
  rw [w64c k (by omega)]
  refine Tot.cp (fun hlt=>?_) (fun hge=>.so trivial)
  have hlt:k<l.length:=by omega
  rw [idx_nat hlt]
  simp only [Option.bind_some,decide_true,Bool.and_true,Bool.not_true,cond_false]
  exact .so ⟨hlt,rfl,trivial⟩
 ·rcases x with x | x
  ·exact .so rfl
  ·exact hx.elim
theorem two_ix {α:Type}(a b:α) {i:Int}(h0:0<=i) (h:i<(([a,b]:List α).length:Int)):∃ y,idx [a,b] i=some y/\(y=a\/y=b):=by
 obtain ⟨y,hy,hm⟩:=idx_some' h0 h
 exact ⟨y,hy,by simpa using hm⟩
theorem g20 (s:Source) (hb:SrcB s):Tot (pf20 s) fun r=>r.2=true->GOk r.1/\GTk r.1:=by
 refine (Par.tot (t20 s hb) (Ψ:=fun r=>r.2=true->GTk r.1) ?_).use fun r hr h=>⟨hr.1 h,hr.2 h⟩
 unfold pf20
 exact .by' (p61 s hb) fun r hr=>.so fun h=>hr (of_decide_eq_true h)
theorem same25 (g:Grammar) (ho:GOk g) (hg:GTk g) (l:List Pair) (n:Int) (ha:Asc ltP l) (hl:l.length<=1000) (hm:∀ p,p∈l↔Pr g.Toks p):∃ v,pf25 l n=some v/\pf26 g n=some v:=by
 obtain ⟨v,hv,h1⟩:=c25 g hg l n ha hl hm
 obtain ⟨v',hv',h2⟩:=c26 g n (by have:=ho.tn; omega)
 rw [h1.uniq hg h2] at hv
 exact ⟨v',hv,hv'⟩
theorem t3 (s:Source) (x:yuccalaw0_Gr) (n near:Int):pf3 s x n near=some true:=by
 suffices h:Tot (pf3 s x n near) fun r=>r=true by
  obtain ⟨r,hr,e⟩:=h; rw [hr,e]
 unfold pf3
 rw [w17]
 refine Tot.sm (.by' (t18 s) fun x3 h3=>.by' (t19 x) fun x4 h4=>?_)
 refine Tot.by' (Ξ:=LR (fun _=>True) (fun _=>False)) ?_ fun r hr=>by
  rcases r with r | r
  ·exact .so rfl
  ·exact hr.elim
 refine Tot.count (fun s=>s) 2 (fun s=>0<=s) (Int.le_refl _) (by decide) fun i hi=>?_
 have up:∀ {n:Int},i<n->n<=2->(0<=w64 (i+1))/\i<w64 (i+1)/\w64 (i+1)<=n:=fun {n} h _=>by rw [w64_eq]; omega
 refine Tot.cp (fun hlt=>?_) (fun _=>.so trivial)
 obtain ⟨y,hy,hyc⟩:=two_ix x3 x4 hi hlt
 have hb:SrcB y:=by rcases hyc with rfl | rfl <;> assumption
 rw [hy]
 refine Tot.sm (.by' (g20 y hb) fun gg hgg=>Tot.cd (fun _=>.so ⟨(up hlt (Int.le_refl 2)).1,(up hlt (Int.le_refl 2)).2⟩) (fun hok=>?_))
 obtain ⟨ho,hg⟩:=hgg (by simpa using hok)
 generalize gg.1=g at ho hg
 have hT:g.Toks.length<=1000:=by have:=ho.tn; omega
 obtain ⟨l,hl,ha,hm⟩:=c21 g hT
 obtain ⟨l2,hl2,ha2,hn2,hm2⟩:=c24 g hg hT
 have e:l2=l:=ha2.uniq ordP ha fun p=>(hm2 p).trans (hm p).symm
 subst e
 rw [hl]
 refine Tot.sm (.by' (t22 near 140 (by decide) (by decide)) fun k hk=>?_)
 obtain ⟨v1,e1,e1'⟩:=same25 g ho hg l2 n ha hn2 hm
 obtain ⟨v2,e2,e2'⟩:=same25 g ho hg l2 k ha hn2 hm
 obtain ⟨v3,e3,e3'⟩:=same25 g ho hg l2 (w64 (57340+k)) ha hn2 hm
 rw [hl2]
 simp only [Option.bind_some,c23 l2 l2 (by omega) rfl,e1,e1',e2,e2',e3,e3',Bool.not_true,cond_false,decide_true]
 exact .so ⟨(up hlt (Int.le_refl 2)).1,(up hlt (Int.le_refl 2)).2⟩
theorem t4 (s:Source):pf4 s=some true:=by
 suffices h:Tot (pf4 s) fun r=>r=true by
  obtain ⟨r,hr,e⟩:=h; rw [hr,e]
 unfold pf4
 rw [w17]
 refine Tot.sm (.by' (t18 s) fun x3 h3=>.by' (g20 x3 h3) fun gg hgg=>Tot.cd (fun _=>.so rfl) (fun hok=>?_))
 obtain ⟨ho,hg⟩:=hgg (by simpa using hok)
 generalize gg.1=g at ho hg
 have hT:=ho.tn
 obtain ⟨l,hl,ha,hn,hm⟩:=c24 g hg (by omega)
 rw [hl]
 have key:∀ (k:Nat) (t:Tok),g.Toks[k]?=some t->3<=k->pf25 l t.Num=some (k:Int):=by
  intro k t ht hk
  obtain ⟨v,hv,h1⟩:=c25 g hg l t.Num ha hn hm
  have hp:=(hg.pos k t hk ht).1
  rw [hv]
  rcases h1 with ⟨h1,_⟩ | ⟨_,⟨j,u,h2,h3,h4⟩ | ⟨h2,_⟩⟩
  ·omega
  ·have:=hg.un k j t u ht h2 hp (by omega)
   subst this
   rw [h4]
  ·exact absurd rfl (h2 k t ht)
 have mem:∀ p∈l,∃ (k:Nat) (t:Tok),g.Toks[k]?=some t/\3<=k/\0<t.Num/\p=⟨t.Num,(k:Int)⟩:=by
  intro p hp
  obtain ⟨k,t,h1,h2,h3⟩:=(hm p).1 hp
  refine ⟨k,t,h1,?_,h2,h3⟩
  by_cases e:k<3
  ·have:=hg.hd k t e h1; omega
  ·omega
 -- az many
 have hlen:l.length=g.Toks.length - 3:=by
  have h1:(l.map fun p=>p.Val.toNat).Nodup:=by
   refine List.pairwise_map.2 (List.Pairwise.imp_of_mem ?_ (ha.nd ordP))
   intro p q hp hq hne e
   apply hne
   obtain ⟨k,t,h1,h2,h3,rfl⟩:=mem p hp
   obtain ⟨j,u,g1,g2,g3,rfl⟩:=mem q hq
   simp only [Int.toNat_natCast] at e
   subst e
   rw [h1] at g1; cases g1; rfl
  have h2:(l.map fun p=>p.Val.toNat).Perm (List.range' 3 (g.Toks.length - 3)):=by
   refine (List.perm_ext_iff_of_nodup h1 (List.nodup_range' ..)).2 fun k=>?_
   rw [List.mem_map,List.mem_range'_1]
   constructor
   ·rintro ⟨p,hp,rfl⟩
    obtain ⟨k,t,h1,h2,h3,rfl⟩:=mem p hp
    have:=(List.getElem?_eq_some_iff.1 h1).1
    simp only [Int.toNat_natCast]
    omega
   ·rintro ⟨h3,h4⟩
    have hk:k<g.Toks.length:=by omega
    have hget:g.Toks[k]?=some g.Toks[k]:=List.getElem?_eq_getElem hk
    refine ⟨⟨g.Toks[k].Num,(k:Int)⟩,(hm _).2 ⟨k,_,hget,(hg.pos k _ h3 hget).1,rfl⟩,?_⟩
    show (k:Int).toNat=k
    omega
  have:=h2.length_eq
  simpa using this
 have hw:w64 ((g.Toks.length:Int) - 3)=((g.Toks.length - 3:Nat):Int):=by rw [w64_eq]; omega
 simp only [Option.bind_some]
 rw [hw,hlen]
 simp only [decide_true,Bool.not_true,cond_false]
 have asc:∀ {i j:Nat}(hi:i<l.length) (hj:j<l.length),i<j->l[i].At<l[j].At:=fun {i j} hi hj h=>by
  have h1:=ltP_iff.1 (List.pairwise_iff_getElem.1 ha i j hi hj h)
  rcases h1 with h1 | ⟨h1,h2⟩
  ·exact h1
  ·exfalso
   obtain ⟨k,t,a1,a2,a3,a4⟩:=mem _ (List.getElem_mem hi)
   obtain ⟨k',t',b1,b2,b3,b4⟩:=mem _ (List.getElem_mem hj)
   rw [a4,b4] at h1 h2
   simp only at h1 h2
   have:=hg.un k k' t t' a1 b1 a3 h1
   omega
 have body:∀ (c:Bool) (i:Nat) (hi:i<l.length),((idx l (i:Int)).bind fun x28=>(bif decide (x28.Val<3) then some true else ((idx l (i:Int)).bind fun x30=>(bif decide ((g.Toks.length:Int)<=x30.Val) then some true else ((idx l (i:Int)).bind fun x32=>((idx g.Toks x32.Val).bind fun x33=>((idx l (i:Int)).bind fun x34=>(bif !decide (x33.Num=x34.At) then some true else ((idx l (i:Int)).bind fun x36=>((pf25 l x36.At).bind fun x37=>((idx l (i:Int)).bind fun x38=>some (!decide (x37=x38.Val)))))))))))))=some false:=by
  intro c i hi
  rw [idx_nat hi]
  obtain ⟨k,t,a1,a2,a3,a4⟩:=mem _ (List.getElem_mem hi)
  have hk:=(List.getElem?_eq_some_iff.1 a1).1
  have hit:idx g.Toks (k:Int)=some t:=by simp [idx,a1]
  have c1:decide ((k:Int)<3)=false:=decide_eq_false (by omega)
  have c2:decide ((g.Toks.length:Int)<=(k:Int))=false:=decide_eq_false (by omega)
  simp only [a4,Option.bind_some,c1,c2,hit,cond_false,decide_true,Bool.not_true,key k t a1 a2]
 refine Tot.by' (Ξ:=LR (fun _=>True) (fun _:Bool=>False)) ?_ fun x hx=>?_
 ·refine Tot.upto (fun s=>s) l.length (fun k s=>True) rfl (by omega) trivial fun k s hk he _=>?_
  subst he
  rw [w64c k (by omega),<- hlen]
  refine Tot.cp (fun hlt=>?_) (fun hge=>.so trivial)
  have hlt:k<l.length:=by omega
  refine .by' (Ξ:=fun c=>c=false) (Tot.cp (fun h0=>?_) (fun h0=>?_)) fun c hc=>?_
  ·have hw1:w64 ((k:Int) - 1)=((k - 1:Nat):Int):=by rw [w64_eq]; omega
   have hk1:k - 1<l.length:=by omega
   have hb:=body true k hlt
   rw [idx_nat hlt] at hb
   rw [hw1,idx_nat hlt,idx_nat hk1]
   have:=asc hk1 hlt (by omega)
   have c1:decide (l[k].At<=l[k - 1].At)=false:=decide_eq_false (by omega)
   simp only [Option.bind_some,c1,cond_false] at hb ⊢
   exact ⟨_,hb,rfl⟩
  ·exact ⟨_,body true k hlt,rfl⟩
  ·subst hc
   exact .so ⟨hlt,rfl,trivial⟩
 ·rcases x with x | x
  ·refine Tot.by' (Ξ:=LR (fun _=>True) (fun _:Bool=>False)) ?_ fun x hx=>?_
   ·refine Tot.count (fun s=>s) g.Toks.length (fun s=>∃ k:Nat,s=(k:Int)/\3<=k) ⟨3,rfl,Nat.le_refl 3⟩ (by show (g.Toks.length:Int) - 3<_; omega) fun s hs=>?_
    obtain ⟨k,rfl,h3⟩:=hs
    refine Tot.cp (fun hlt=>?_) (fun hge=>.so trivial)
    have hlt:k<g.Toks.length:=by omega
    rw [w64c k (by omega),idx_nat hlt]
    simp only [Option.bind_some,key k _ (List.getElem?_eq_getElem hlt) h3,decide_true,Bool.not_true,cond_false]
    exact .so ⟨⟨k+1,rfl,by omega⟩,by omega,by omega⟩
   ·rcases x with x | x
    ·exact .so rfl
    ·exact hx.elim
  ·exact hx.elim
end Go.Proofs
namespace Go.Own
open Go
variable {α β γ δ S T R Q:Type}
def Rel (x:Option α) (y:Option β) (Φ:α->β->Prop):Prop:=∃ a b,x=some a/\y=some b/\Φ a b
abbrev LL (p:S->T->Prop) (q:R->Q->Prop):S ⊕ R->T ⊕ Q->Prop
 | .inl a,.inl b=>p a b
 | .inr a,.inr b=>q a b
 | _,_=>False
namespace Rel
variable {Φ Ψ:α->β->Prop}
theorem so {a:α}{b:β}(h:Φ a b):Rel (some a) (some b) Φ:=⟨a,b,rfl,rfl,h⟩
theorem use {x:Option α}{y:Option β}(h:Rel x y Ψ) (hi:∀ a b,Ψ a b->Φ a b):Rel x y Φ:=by
 obtain ⟨a,b,ha,hb,hΨ⟩:=h
 exact ⟨a,b,ha,hb,hi a b hΨ⟩
theorem by' {x:Option γ}{y:Option δ}{f:γ->Option α}{g:δ->Option β}{Ξ:γ->δ->Prop}(h:Rel x y Ξ) (hk:∀ a b,Ξ a b->Rel (f a) (g b) Φ):Rel (x.bind f) (y.bind g) Φ:=by
 obtain ⟨a,b,rfl,rfl,hΞ⟩:=h
 exact hk a b hΞ
theorem l {x:Option γ}{y:Option β}{f:γ->Option α}{Ξ:γ->Prop}(h:Tot x Ξ) (hk:∀ a,Ξ a->Rel (f a) y Φ):Rel (x.bind f) y Φ:=by
 obtain ⟨a,rfl,hΞ⟩:=h
 exact hk a hΞ
theorem r {x:Option α}{y:Option δ}{g:δ->Option β}{Ξ:δ->Prop}(h:Tot y Ξ) (hk:∀ a,Ξ a->Rel x (g a) Φ):Rel x (y.bind g) Φ:=by
 obtain ⟨a,rfl,hΞ⟩:=h
 exact hk a hΞ
theorem cd {c d:Bool}{a b:Option α}{a' b':Option β}(hc:c=d) (ht:c=true->Rel a a' Φ) (hf:c=false->Rel b b' Φ):Rel (cond c a b) (cond d a' b') Φ:=by
 subst hc
 cases c
 ·exact hf rfl
 ·exact ht rfl
theorem cl {c:Bool}{a b:Option α}{y:Option β}(ht:c=true->Rel a y Φ) (hf:c=false->Rel b y Φ):Rel (cond c a b) y Φ:=by
 cases c
 ·exact hf rfl
 ·exact ht rfl
theorem tot {x:Option α}{y:Option β}{P:α->Prop}{Q:β->Prop}(h:Tot x P) (h':Tot y Q) (hi:∀ a b,P a->Q b->Φ a b):Rel x y Φ:=by
 obtain ⟨a,ha,hP⟩:=h
 obtain ⟨b,hb,hQ⟩:=h'
 exact ⟨a,b,ha,hb,hi a b hP hQ⟩
theorem fst {x:Option α}{y:Option β}(h:Rel x y Φ):Tot x fun a=>∃ b,y=some b/\Φ a b:=by
 obtain ⟨a,b,ha,hb,hΦ⟩:=h
 exact ⟨a,ha,b,hb,hΦ⟩
theorem loop {f:S->Option (S ⊕ R)}{g:T->Option (T ⊕ Q)}{s0:S}{t0:T}{Ψ:R->Q->Prop}(Inv:S->T->Prop) (μ:S->Nat) (h0:Inv s0 t0) (hμ:μ s0<fuel)
  (hs:∀ s t,Inv s t->Rel (f s) (g t) (LL (fun s' t'=>Inv s' t'/\μ s'<μ s) Ψ)):Rel (loopM f s0) (loopM g t0) Ψ:=by
 have key:∀ n s t,Inv s t->μ s<n->Rel (iter f n s) (iter g n t) Ψ:=by
  intro n
  induction n with
  | zero=>intro s t _ h; omega
  | succ n ih =>
   intro s t hI hm
   obtain ⟨x,y,hx,hy,hP⟩:=hs s t hI
   rcases x with s' | r <;> rcases y with t' | q
   ·obtain ⟨h1,h2⟩:=hP
    simp only [iter,hx,hy]
    exact ih s' t' h1 (by omega)
   ·exact hP.elim
   ·exact hP.elim
   ·simp only [iter,hx,hy]
    exact ⟨r,q,rfl,rfl,hP⟩
 exact key fuel s0 t0 h0 hμ
theorem upto {f:S->Option (S ⊕ R)}{g:T->Option (T ⊕ Q)}{s0:S}{t0:T}{Ψ:R->Q->Prop}(i:S->Int) (n:Nat) (Inv:Nat->S->T->Prop) (hi:i s0=0) (hn:n<=100000000000000000) (h0:Inv 0 s0 t0)
  (hs:∀ (k:Nat) (s:S) (t:T),k<=n->i s=(k:Int)->Inv k s t->Rel (f s) (g t) (LL (fun s' t'=>k<n/\i s'=((k+1:Nat):Int)/\Inv (k+1) s' t') Ψ)):Rel (loopM f s0) (loopM g t0) Ψ:=by
 refine loop (fun s t=>∃ k:Nat,k<=n/\i s=(k:Int)/\Inv k s t) (fun s=>(n - (i s).toNat)) ⟨0,Nat.zero_le _,hi,h0⟩ (by rw [hi]; show n - 0<1000000000000000000; omega) fun s t ⟨k,hk,he,hI⟩=>(hs k s t hk he hI).use fun x y hxy=>?_
 rcases x with s' | r <;> rcases y with t' | q
 ·obtain ⟨h1,h2,h3⟩:=hxy
  refine ⟨⟨k+1,by omega,h2,h3⟩,?_⟩
  show n - (i s').toNat<n - (i s).toNat
  rw [h2,he]; omega
 ·exact hxy
 ·exact hxy
 ·exact hxy
end Rel
end Go.Own
namespace Go.Proofs
open Go Go.Own
set_option maxRecDepth 100000
set_option linter.unusedVariables false
theorem cat_ok {a b:ByteArray}(h:a.size+b.size<=4611686018427387904):catO a b=some (a++b):=by unfold catO; rw [if_pos h]
open Go Go.Own Go.Sort
inductive Cl (g:Grammar) (l:List Item):Item->Prop
 | base {x:Item}(h:x∈l) (hi:isI g x):Cl g l x
 | step {x:Item}{q:Prod}{p:Nat}(h:Cl g l x) (hp:g.Prods[p]?=some q) (hn:nx g x=1000+q.Left) (h0:1000<=nx g x):Cl g l ⟨p,0⟩
theorem isI_zero {g:Grammar}{p:Nat}{q:Prod}(hp:g.Prods[p]?=some q):isI g ⟨p,0⟩:=⟨q,by simp [idx,hp],Int.le_refl _,by show (0:Int)<=_; omega⟩
theorem Cl.isI {g:Grammar}{l:List Item}{x:Item}(h:Cl g l x):isI g x:=by
 cases h with
 | base _ hi=>exact hi
 | step _ hp _ _=>exact isI_zero hp
theorem nx_bd {g:Grammar}(hg:GOk g) (x:Item):-1<=nx g x/\nx g x<=1023:=by
 by_cases h:0<=nx g x
 ·obtain ⟨_,hs,_⟩:=nx_ok hg h
  have:=hg.nn
  have:=hg.tn
  rcases hs with hs | hs <;> omega
 ·refine ⟨?_,by omega⟩
  revert h
  unfold nx
  cases hq:idx g.Prods x.Prod with
  | none=>intro _; exact Int.le_refl _
  | some q =>
   cases hs:idx q.Right x.Dot with
   | none=>intro _; simp [hs]
   | some s =>
    intro h
    have hm:=(hg.pr q (idx_bd hq).2.2).right s (idx_bd hs).2.2
    simp only [hs,Option.getD_some] at h ⊢
    rcases hm with hm | hm <;> omega
def cnt (m:List Bool):Nat:=(m.filter fun b=>b).length
theorem cnt_set:∀ (m:List Bool) (i:Nat),i<m.length->m.getD i false=false->cnt (m.set i true)=cnt m+1
 | [],i,h,_=>by simp at h
 | b::m,0,_,h=>by
  have:b=false:=by simpa using h
  subst this
  simp [cnt]
 | b::m,i+1,h,h0=>by
  have:=cnt_set m i (by simpa using h) (by simpa using h0)
  unfold cnt at this ⊢
  simp only [List.set_cons_succ,List.filter_cons]
  cases b <;> simp [this]
theorem cnt_le (m:List Bool):cnt m<=m.length:=List.length_filter_le _ _
theorem take_snoc' {α:Type}{r:List α}{k:Nat}(h:k<r.length):r.take (k+1)=r.take k++[r[k]]:=by
 rw [List.take_add_one,List.getElem?_eq_getElem h]; rfl
theorem w64n (k:Nat) (h:k<=1000000000000):w64 ((k:Int)+1)=((k+1:Nat):Int):=by rw [w64_eq]; omega
theorem c36 (g:Grammar) (hg:GOk g) (l:List Item) (hl:l.length<=1000000):Tot (pf36 g l) fun r=>Asc ltI r/\∀ x,x∈r↔Cl g l x:=by
 have hpn:=hg.pn
 have hnn:=hg.nn
 unfold pf36
 refine .by' (Ξ:=fun out=>out.length<=l.length/\∀ x,x∈out↔x∈l/\isI g x) ?_ fun x2 h2=>?_
 ·refine Tot.count (fun s=>s.2) l.length (fun s=>∃ k:Nat,k<=l.length/\s.2=(k:Int)/\s.1.length<=k/\∀ x,x∈s.1↔x∈l.take k/\isI g x) ⟨0,Nat.zero_le _,rfl,Nat.le_refl 0,fun x=>by simp⟩ (by show (l.length:Int) - 0<_; omega) fun s hs=>?_
  obtain ⟨out,k'⟩:=s
  obtain ⟨k,hk,rfl,hlen,hm⟩:=hs
  simp only at hlen hm ⊢
  rw [w64n k (by omega)]
  refine Tot.cp (fun hlt=>?_) (fun hge=>.so ?_)
  ·have hlt:k<l.length:=by omega
   rw [idx_nat hlt]
   refine .by' (Ξ:=fun o:List Item=>o.length<=k+1/\∀ x,x∈o↔x∈l.take (k+1)/\isI g x) ?_ fun o ho=>.so ⟨⟨k+1,by omega,rfl,ho⟩,by show (k:Int)<((k+1:Nat):Int); omega,by show ((k+1:Nat):Int)<=_; omega⟩
   obtain ⟨c,hc,hi⟩:=e68 g l[k]
   rw [take_snoc' hlt]
   refine Tot.sm ?_
   rw [hc]
   refine Tot.sm (.by' (Ξ:=fun o:List Item=>o.length<=k+1/\∀ x,x∈o↔x∈l.take k++[l[k]]/\isI g x) (Tot.cd (fun h=>?_) (fun h=>.so ⟨by omega,fun x=>?_⟩)) fun o ho=>.so ho)
   ·refine .by' (Ξ:=fun _=>True) (Tot.ap (by simp [lim]; omega) trivial) fun _ _=>.so ⟨by simp; omega,fun x=>?_⟩
    rw [List.mem_append,List.mem_append,List.mem_singleton,hm x]
    constructor
    ·rintro (⟨h1,h2⟩ | rfl)
     ·exact ⟨.inl h1,h2⟩
     ·exact ⟨.inr rfl,hi.1 h⟩
    ·rintro ⟨h1 | rfl,h2⟩
     ·exact .inl ⟨h1,h2⟩
     ·exact .inr rfl
   ·rw [List.mem_append,List.mem_singleton,hm x]
    constructor
    ·rintro ⟨h1,h2⟩
     exact ⟨.inl h1,h2⟩
    ·rintro ⟨h1 | rfl,h2⟩
     ·exact ⟨h1,h2⟩
     ·rw [hi.2 h2] at h; cases h
  ·have:k=l.length:=by omega
   subst this
   rw [List.take_length] at hm
   exact ⟨hlen,hm⟩
 obtain ⟨hl2,hm2⟩:=h2
 refine .by' (Ξ:=fun m=>m=List.replicate g.Nons.length false) (Tot.mk (by simp [lim]; omega) (by simp)) fun x11 h11=>?_
 subst h11
 -- the worklist
 refine .by' (Ξ:=fun out:List Item=>out.length<=2000000/\∀ x,x∈out↔Cl g l x) ?_ fun out hout=>?_
 ·refine Tot.loop (fun s=>∃ k:Nat,k<=s.1.length/\s.2.2=(k:Int)/\s.2.1.length=g.Nons.length/\s.1.length<=l.length+60 * cnt s.2.1/\(∀ x∈s.1,Cl g l x)/\(∀ x∈l,isI g x->x∈s.1)/\(∀ j x,j<k->s.1[j]?=some x->1000<=nx g x->s.2.1.getD (nx g x - 1000).toNat false=true)/\∀ (p:Nat) (q:Prod),g.Prods[p]?=some q->s.2.1.getD q.Left.toNat false=true->(⟨p,0⟩:Item)∈s.1)
   (fun s=>l.length+2000 - s.2.2.toNat) ⟨0,Nat.zero_le _,rfl,List.length_replicate ..,by show x2.length<=_; omega,fun x hx=>.base ((hm2 x).1 hx).1 ((hm2 x).1 hx).2,fun x hx hi=>(hm2 x).2 ⟨hx,hi⟩,fun j x hj=>absurd hj (Nat.not_lt_zero _),fun p q hp h=>?_⟩ (by show l.length+2000 - _<1000000000000000000; omega) fun s hs=>?_
  ·rw [List.getD_eq_getElem?_getD,List.getElem?_replicate] at h
   split at h <;> simp at h
  obtain ⟨out,met,k'⟩:=s
  obtain ⟨k,hk,hk',hml,hlen,hsub,hbase,hdone,hmet⟩:=hs
  simp only at hk hk' hml hlen hsub hbase hdone hmet ⊢
  subst hk'
  have hcl:=cnt_le met
  rw [w64n k (by omega)]
  refine Tot.cp (fun hlt=>?_) (fun hge=>.so ⟨by omega,fun x=>⟨hsub x,fun hx=>?_⟩⟩)
  ·have hlt:k<out.length:=by omega
   rw [idx_nat hlt]
   have hxm:=hsub _ (List.getElem_mem hlt)
   generalize hx:out[k]=x at *
   have hxk:out[k]?=some x:=by rw [List.getElem?_eq_getElem hlt,hx]
   have hnb:=nx_bd hg x
   have hw:w64 (nx g x - 1000)=nx g x - 1000:=by rw [w64_eq]; omega
   -- what a round comes to
   refine .by' (Ξ:=fun j:List Item × List Bool=>∃ e,j.1=out++e/\j.2.length=g.Nons.length/\j.1.length<=l.length+60 * cnt j.2/\(∀ x∈e,Cl g l x)/\(∀ i,met.getD i false=true->j.2.getD i false=true)/\(1000<=nx g x->j.2.getD (nx g x - 1000).toNat false=true)/\∀ (p:Nat) (q:Prod),g.Prods[p]?=some q->j.2.getD q.Left.toNat false=true->(⟨p,0⟩:Item)∈j.1) ?_ fun j hj=>?_
   ·refine Tot.sm ?_
    rw [e32 g x]
    refine Tot.sm ?_
    rw [hw]
    have hmi:1000<=nx g x->idx met (nx g x - 1000)=some (met.getD (nx g x - 1000).toNat false):=by
     intro h
     obtain ⟨_,hs,_⟩:=nx_ok hg (x:=x) (by omega)
     have ht:=hg.tn
     have:(nx g x - 1000).toNat<met.length:=by rcases hs with hs | hs <;> omega
     unfold idx
     rw [if_pos (by omega),List.getD_eq_getElem?_getD,List.getElem?_eq_getElem this]; rfl
    refine .by' (Ξ:=fun c:Bool=>(c=true->nx g x<1000\/met.getD (nx g x - 1000).toNat false=true)/\(c=false->1000<=nx g x/\met.getD (nx g x - 1000).toNat false=false)) (Tot.cp (fun h=>.so ⟨fun _=>.inl (by omega),fun h=>(by cases h)⟩) (fun h=>?_)) fun c hc=>Tot.cd (fun h=>.so ⟨[],by simp,hml,hlen,fun x hx=>by simp at hx,fun _ h=>h,fun h1=>(hc.1 h).resolve_left (by omega),hmet⟩) (fun h=>?_)
    ·rw [hmi (by omega)]
     exact Tot.sm (.so ⟨fun h=>.inr h,fun h'=>⟨by omega,h'⟩⟩)
    obtain ⟨h0,hf⟩:=hc.2 h
    rw [hmi h0]
    have hlt2:(nx g x - 1000).toNat<met.length:=by
     obtain ⟨_,hs,_⟩:=nx_ok hg (x:=x) (by omega)
     have ht:=hg.tn
     rcases hs with hs | hs <;> omega
    refine Tot.sm (.by' (Ξ:=fun o:List Item=>∃ e,o=out++e/\e.length<=g.Prods.length/\(∀ x∈e,Cl g l x)/\∀ (p:Nat) (q:Prod),g.Prods[p]?=some q->q.Left=nx g x - 1000->(⟨p,0⟩:Item)∈e) ?_ fun o ho=>?_)
    ·refine Tot.count (fun s=>s.2) g.Prods.length (fun s=>∃ k:Nat,k<=g.Prods.length/\s.2=(k:Int)/\∃ e,s.1=out++e/\e.length<=k/\(∀ x∈e,Cl g l x)/\∀ (p:Nat) (q:Prod),p<k->g.Prods[p]?=some q->q.Left=nx g x - 1000->(⟨p,0⟩:Item)∈e) ⟨0,Nat.zero_le _,rfl,[],by simp,Nat.le_refl 0,fun x hx=>by simp at hx,fun p q hp=>absurd hp (Nat.not_lt_zero _)⟩ (by show (g.Prods.length:Int) - 0<_; omega) fun s hs=>?_
     obtain ⟨o,i'⟩:=s
     obtain ⟨i,hi,rfl,e,rfl,hel,hec,hep⟩:=hs
     simp only
     rw [w64n i (by omega)]
     refine Tot.cp (fun hlti=>?_) (fun hge=>.so ⟨e,rfl,by omega,hec,fun p q hp=>hep p q ?_ hp⟩)
     ·have hlti:i<g.Prods.length:=by omega
      have hpi:g.Prods[i]?=some g.Prods[i]:=List.getElem?_eq_getElem hlti
      rw [idx_nat hlti]
      refine .by' (Ξ:=fun o:List Item=>∃ e,o=out++e/\e.length<=i+1/\(∀ x∈e,Cl g l x)/\∀ (p:Nat) (q:Prod),p<i+1->g.Prods[p]?=some q->q.Left=nx g x - 1000->(⟨p,0⟩:Item)∈e) ?_ fun o ho=>.so ⟨⟨i+1,by omega,rfl,ho⟩,by show (i:Int)<((i+1:Nat):Int); omega,by show ((i+1:Nat):Int)<=_; omega⟩
      refine Tot.sm (.by' (Ξ:=fun o:List Item=>∃ e,o=out++e/\e.length<=i+1/\(∀ x∈e,Cl g l x)/\∀ (p:Nat) (q:Prod),p<i+1->g.Prods[p]?=some q->q.Left=nx g x - 1000->(⟨p,0⟩:Item)∈e) (Tot.cp (fun h=>?_) (fun h=>.so ⟨e,rfl,by omega,hec,fun p q hp hpq hq=>?_⟩)) fun o ho=>.so ho)
      ·refine .by' (Ξ:=fun _=>True) (Tot.ap (by simp [lim]; omega) trivial) fun _ _=>.so ⟨e++[⟨i,0⟩],by simp,by simp; omega,fun y hy=>?_,fun p q hp hpq hq=>?_⟩
       ·rcases List.mem_append.1 hy with hy | hy
        ·exact hec y hy
        ·rw [List.mem_singleton.1 hy]
         exact .step hxm hpi (by omega) h0
       ·by_cases e1:p=i
        ·subst e1; simp
        ·have:=hep p q (by omega) hpq hq
         simp [this]
      ·by_cases e1:p=i
       ·subst e1
        rw [hpi] at hpq; cases hpq
        exact absurd hq h
       ·exact hep p q (by omega) hpq hq
     ·have:=(List.getElem?_eq_some_iff.1 hp).1
      omega
    ·obtain ⟨e,rfl,hel,hec,hep⟩:=ho
     have hcs:=cnt_set met (nx g x - 1000).toNat hlt2 hf
     have hgs:∀ i,(met.set (nx g x - 1000).toNat true).getD i false=true↔(i=(nx g x - 1000).toNat\/met.getD i false=true):=by
      intro i
      rw [List.getD_eq_getElem?_getD,List.getElem?_set]
      by_cases e1:(nx g x - 1000).toNat=i
      ·subst e1; simp [hlt2]
      ·simp [e1,Ne.symm e1,List.getD_eq_getElem?_getD]
     refine .so ⟨e,rfl,by show (met.set _ _).length=_; rw [List.length_set]; exact hml,by show (out++e).length<=_+60 * cnt (met.set _ _); rw [hcs,List.length_append]; omega,hec,fun i hi=>(hgs i).2 (.inr hi),fun _=>(hgs _).2 (.inl rfl),fun p q hpq hq=>?_⟩
     rcases (hgs _).1 hq with h1 | h1
     ·have hql:=(hg.pr q (List.mem_of_getElem? hpq)).left
      exact List.mem_append_right _ (hep p q hpq (by omega))
     ·exact List.mem_append_left _ (hmet p q hpq h1)
   ·obtain ⟨e,he,h1,h2,h3,h4,h5,h6⟩:=hj
    refine .so ⟨⟨k+1,by show _<=j.1.length; rw [he,List.length_append]; omega,rfl,h1,h2,fun y hy=>?_,fun y hy hi=>by show y∈j.1; rw [he]; exact List.mem_append_left _ (hbase y hy hi),fun i y hi hy h0=>?_,h6⟩,?_⟩
    ·have hy:y∈out++e:=he ▸ hy
     rcases List.mem_append.1 hy with hy | hy
     ·exact hsub y hy
     ·exact h3 y hy
    ·have hy2:(out++e)[i]?=some y:=he ▸ hy
     clear hy
     by_cases e1:i=k
     ·rw [e1,List.getElem?_append_left hlt,hxk] at hy2
      cases hy2
      exact h5 h0
     ·rw [List.getElem?_append_left (by omega)] at hy2
      exact h4 _ (hdone i y (by omega) hy2 h0)
    ·show l.length+2000 - ((k+1:Nat):Int).toNat<l.length+2000 - ((k:Nat):Int).toNat
     have:=cnt_le met
     omega
  ·have hkl:k=out.length:=by omega
   induction hx with
   | base h hi=>exact hbase _ h hi
   | @step x q p h hp hn h0 ih =>
    obtain ⟨j,hj,e⟩:=List.mem_iff_getElem.1 ih
    have:=hdone j x (by omega) (by rw [List.getElem?_eq_getElem hj,e]) h0
    have e2:(1000+q.Left - 1000).toNat=q.Left.toNat:=by omega
    rw [hn,e2] at this
    exact hmet p q hp this
 obtain ⟨hol,hom⟩:=hout
 rw [sort_is ordI (fun a _ b _=>c71 a b) (by omega)]
 refine Tot.sm ?_
 have hpl:=(isort_perm ltI out).length_eq
 have:compO (isort ltI out)=some (dedup (isort ltI out)):=by unfold compO; rw [if_pos (by omega)]
 rw [this]
 refine Tot.sm (.so ?_)
 obtain ⟨h1,h2⟩:=dedup_asc ordI out
 exact ⟨h1,fun x=>(h2 x).trans (hom x)⟩
theorem c27z (l:List Int) (x:Int) (h:l.length<=1000000):∃ c,pf27 l x=some c/\(c=true↔x∈l):=by
 suffices h:Tot (pf27 l x) fun c=>(c=true↔x∈l) from h
 unfold pf27
 refine .by' (Ξ:=LR (fun _=>x∉l) (fun r:Bool=>r=true/\x∈l)) ?_ fun r hr=>?_
 ·refine Tot.upto (fun s=>s) l.length (fun k s=>x∉l.take k) rfl (by omega) (by simp) fun k s hk he hI=>?_
  subst he
  rw [w64c k (by omega)]
  refine Tot.cp (fun hlt=>?_) (fun hge=>.so ?_)
  ·have hlt:k<l.length:=by omega
   rw [idx_nat hlt]
   simp only [Option.bind_some]
   refine Tot.cp (fun e=>.so ⟨rfl,by rw [<- e]; exact List.getElem_mem hlt⟩) (fun e=>.so ⟨hlt,rfl,?_⟩)
   rw [take_snoc' hlt,List.mem_append,List.mem_singleton]
   exact fun h=>h.elim hI fun h=>e h.symm
  ·rw [List.take_of_length_le (by omega)] at hI
   exact hI
 ·rcases r with r | r
  ·exact .so ⟨fun h=>(by cases h),fun h=>absurd h hr⟩
  ·obtain ⟨rfl,h⟩:=hr
   exact .so ⟨fun _=>h,fun _=>rfl⟩
abbrev nErr':ByteArray:={ data:=#[101,114,114,111,114] }
abbrev nEnd:ByteArray:={ data:=#[36,101,110,100] }
abbrev nUnk:ByteArray:={ data:=#[36,117,110,107] }
abbrev syN':Sym:=⟨nE,false,0,0⟩
def nmk (k:Int):ByteArray:=({ data:=#[116] }:ByteArray)++((pf28 k).getD nE)
def syk (k:Int):Sym:=⟨nmk k,false,k,0⟩
def tkk (k:Int):Tok:=⟨nmk k,false,k,0,0,nE⟩
def okk (k:Int):Bool :=
 (match pf28 k with | some s=>Nat.ble s.size 100 | none=>false)&&(match pf131 (syk k) true true with | some b=>b | none=>false)&&!decide (nmk k=nS)&&!decide (nmk k=nErr')&&!decide (nmk k=nEnd)&&!decide (nmk k=nUnk)
theorem okk_all:(List.range 30).all (fun k=>okk ((k:Int)+1))=true:=by kernel_rfl
theorem inj_all:(List.range 30).all (fun k=>(List.range 30).all fun j=>decide (j=k)||!decide (nmk ((j:Int)+1)=nmk ((k:Int)+1)))=true:=by kernel_rfl
structure Okk (k:Int):Prop where
 d:∃ s,pf28 k=some s/\s.size<=100/\nmk k=({ data:=#[116] }:ByteArray)++s
 l:pf131 (syk k) true true=some true
 s:nmk k≠nS
 b:∀ t∈T3,t.Name≠nmk k
theorem okk_of {k:Int}(h1:1<=k) (h2:k<=30):Okk k:=by
 have h:=List.all_eq_true.1 okk_all (k - 1).toNat (by rw [List.mem_range]; omega)
 have e:(((k - 1).toNat:Nat):Int)+1=k:=by omega
 rw [e] at h
 unfold okk at h
 simp only [Bool.and_eq_true,Bool.not_eq_true',decide_eq_false_iff_not] at h
 obtain ⟨⟨⟨⟨⟨h1,h2⟩,h3⟩,h4⟩,h5⟩,h6⟩:=h
 refine ⟨?_,?_,h3,fun t ht=>?_⟩
 ·cases h7:pf28 k with
  | none=>rw [h7] at h1; cases h1
  | some s=>rw [h7] at h1; exact ⟨s,rfl,by simpa using h1,by unfold nmk; rw [h7]; rfl⟩
 ·cases h7:pf131 (syk k) true true with
  | none=>rw [h7] at h2; cases h2
  | some b =>
   rw [h7] at h2
   have h2:b=true:=h2
   rw [h2]
 ·simp only [T3,List.mem_cons,List.not_mem_nil,or_false] at ht
  rcases ht with rfl | rfl | rfl
  ·exact fun e=>h5 e.symm
  ·exact fun e=>h4 e.symm
  ·exact fun e=>h6 e.symm
theorem nmk_inj {j k:Int}(h1:1<=j) (h2:j<=30) (h3:1<=k) (h4:k<=30) (h:nmk j=nmk k):j=k:=by
 have a:=List.all_eq_true.1 (List.all_eq_true.1 inj_all (k - 1).toNat (by rw [List.mem_range]; omega)) (j - 1).toNat (by rw [List.mem_range]; omega)
 have e1:(((k - 1).toNat:Nat):Int)+1=k:=by omega
 have e2:(((j - 1).toNat:Nat):Int)+1=j:=by omega
 rw [e1,e2,h] at a
 simp only [decide_true,Bool.not_true,Bool.or_false,decide_eq_true_eq] at a
 omega
structure Own (ks:List Int):Prop where
 n:ks.length<=20
 r:∀ k∈ks,1<=k/\k<=30
 d:ks.Nodup
def dec (ks:List Int):List Decl:=if ks=[] then [] else [⟨1,nE,ks.map syk,0⟩]
abbrev aE:Alt:=⟨[],syN',0⟩
def grn (ks:List Int):Source:=⟨nE,dec ks,[⟨nS,[aE],0⟩],nE⟩
theorem x61 (ks:List Int) (h:Own ks):Par (pf61 (grn ks)) fun r=>r.2.1=0/\r.1.Toks=T3++ks.map tkk/\r.1.Prods=[P0,⟨1,[],-1,nE,[],0⟩]:=by
 have hn:=h.n
 have hfl:((dec ks).flatMap (·.Syms)).length=ks.length:=by
  unfold dec
  split
  ·rename_i e; rw [e]; rfl
  ·simp
 have hT:∀ j,(T3++(ks.take j).map tkk).length=3+min j ks.length:=fun j=>by
  rw [List.length_append,List.length_map,List.length_take]; rfl
 refine (p61x (Td:=fun j=>T3++(ks.take j).map tkk) (Gd:=fun j=>[false,false,false]++(ks.take j).map fun _=>true) (Ta:=fun _=>T3++ks.map tkk) (Ga:=fun _=>[false,false,false]++ks.map fun _=>true)
  (Pa:=fun j=>if j=0 then [P0] else [P0,⟨1,[],-1,nE,[],0⟩]) (ds:=dec ks) (A:=[aE]) ?_ ?_ ?_ (by simp) (by simp) ?_ ?_ rfl rfl ?_ ?_ ?_ rfl ?_ ?_ ?_ ?_ ?_ ?_).use fun r hr=>⟨hr.1,hr.2.1,hr.2.2.1⟩
 ·unfold dec
  split
  ·exact .inl rfl
  ·exact .inr ⟨_,rfl⟩
 ·intro d hd
  unfold dec at hd
  split at hd
  ·cases hd
  ·rw [List.mem_singleton.1 hd]
 ·intro d hd
  unfold dec at hd
  split at hd
  ·cases hd
  ·rename_i hne
   rw [List.mem_singleton.1 hd]
   unfold pf104
   have e2:decide (((ks.map syk).length:Int)=0)=false:=decide_eq_false fun e=>hne (List.eq_nil_of_length_eq_zero (by simpa using e))
   have c1:decide ((1:Int)<1)=false:=rfl
   have c2:decide ((6:Int)<1)=false:=rfl
   have c3:decide ((1:Int)=6)=false:=rfl
   have c4:decide ((1:Int)=5)=false:=rfl
   have c5:decide ((1:Int)=1)=true:=rfl
   have c6:decide ((1:Int)<5)=true:=rfl
   simp only [e2,c1,c2,c3,c4,c6,decide_true,cond_false,Bool.not_true,Option.bind_some]
   refine .by' (Ξ:=LR (fun _=>True) (fun _:Bool=>False)) ?_ fun x hx=>?_
   ·refine Par.loop (fun _=>True) trivial fun s _=>Par.cd (fun _=>.go fun y hy=>?_) (fun _=>.so trivial)
    obtain ⟨k,hk,rfl⟩:=List.mem_map.1 (idx_bd' hy)
    rw [(okk_of (h.r k hk).1 (h.r k hk).2).l]
    exact .so trivial
   ·rcases x with _ | r
    ·exact .so rfl
    ·exact hx.elim
 ·intro d hd
  unfold dec at hd
  split at hd
  ·cases hd
  ·rw [List.mem_singleton.1 hd]; simp; omega
 ·intro a ha
  rw [List.mem_singleton.1 ha]
  have:pf106 aE=some true:=by kernel_rfl
  rw [this]
  exact .so rfl
 ·intro d hd j x hx m hm
  unfold dec at hd
  split at hd
  ·cases hd
  ·rw [List.mem_singleton.1 hd] at hx ⊢
   rw [List.getElem?_map] at hx
   cases hk:ks[j]? with
   | none=>rw [hk] at hx; cases hx
   | some k =>
    rw [hk] at hx
    have hx:syk k=x:=Option.some.inj hx
    subst hx
    have hkm:=List.mem_of_getElem? hk
    have hjl:=(List.getElem?_eq_some_iff.1 hk).1
    have hr:=h.r k hkm
    have ok:=okk_of hr.1 hr.2
    have htk:ks.take (j+1)=ks.take j++[k]:=by rw [List.take_add_one,hk]; rfl
    have hnk:k∉ks.take j:=fun hm=>by
     obtain ⟨i,hi,e⟩:=List.mem_iff_getElem.1 hm
     rw [List.length_take] at hi
     rw [List.getElem_take] at e
     have h3:ks[j]'hjl=k:=by
      rw [List.getElem?_eq_getElem hjl] at hk
      exact Option.some.inj hk
     have:=(List.getElem_inj h.d).1 (e.trans h3.symm)
     omega
    rw [htk,List.map_append,List.map_append,<- List.append_assoc,<- List.append_assoc]
    refine p89x (x:=syk k) hm rfl rfl rfl (by show 0<k; omega) ⟨by rw [hT]; omega,by rw [hT]; omega⟩ (by rw [hT]; simp; omega) (fun t ht=>?_) (fun t ht=>?_)
    ·rcases List.mem_append.1 ht with ht | ht
     ·exact ok.b t ht
     ·obtain ⟨i,hi,rfl⟩:=List.mem_map.1 ht
      intro e
      have hri:=h.r i (List.mem_of_mem_take hi)
      have:=nmk_inj hri.1 hri.2 hr.1 hr.2 e
      subst this
      exact hnk hi
    ·rcases List.mem_append.1 ht with ht | ht
     ·simp only [T3,List.mem_cons,List.not_mem_nil,or_false] at ht
      rcases ht with rfl | rfl | rfl
      ·show (0:Int)≠k; omega
      ·show (-1:Int)≠k; omega
      ·show (-1:Int)≠k; omega
     ·obtain ⟨i,hi,rfl⟩:=List.mem_map.1 ht
      intro e
      have e:i=k:=e
      subst e
      exact hnk hi
 ·rw [hfl,List.take_length]
 ·rw [hfl,List.take_length]
 ·intro t ht
  rcases List.mem_append.1 ht with ht | ht
  ·simp only [T3,List.mem_cons,List.not_mem_nil,or_false] at ht
   rcases ht with rfl | rfl | rfl <;> decide
  ·obtain ⟨k,hk,rfl⟩:=List.mem_map.1 ht
   exact (okk_of (h.r k hk).1 (h.r k hk).2).s
 ·intro j a ha m hm
  have hj:j=0/\a=aE:=by
   cases j with
   | zero=>exact ⟨rfl,by cases ha; rfl⟩
   | succ j=>cases ha
  obtain ⟨rfl,rfl⟩:=hj
  unfold pf93
  refine .by' (p92s hm.lf) fun r hr=>?_
  subst hr
  refine .by' (Ξ:=fun r:Mk × List Int × ByteArray × Int=>r=(m,[],nE,0)) ?_ fun r hr=>?_
  ·refine Par.loop (fun z=>z=(m,[],nE,0,0)) rfl fun z hz=>?_
   subst hz
   have c:decide ((0:Int)<((([]:List Part).length:Nat):Int))=false:=rfl
   simp only [c,cond_false]
   exact .so rfl
  ·subst hr
   refine .by' (Ξ:=fun r:Int=>r=-1) ?_ fun r hr=>?_
   ·refine Par.loop (fun z=>z=(-1,0)) rfl fun z hz=>?_
    subst hz
    have c:decide ((0:Int)<((([]:List Int).length:Nat):Int))=false:=rfl
    simp only [c,cond_false]
    exact .so rfl
   ·subst hr
    simp only [cond_false]
    refine .by' (Ξ:=fun r:Mk × Int=>r=(m,-1)) (.so rfl) fun r hr=>?_
    subst hr
    refine Par.ap fun _=>Par.ap fun _=>.so ⟨hm.e,hm.t,hm.g,hm.ty,hm.lf,hm.inn,?_⟩
    show m.f_g.Prods++_=_
    rw [hm.pr]
    rfl
 ·intro i b hi hb
  rw [List.getElem?_append_right (by simp; omega),List.getElem?_map] at hb
  cases hx:ks[i - [false,false,false].length]? with
  | none=>rw [hx] at hb; cases hb
  | some k=>rw [hx] at hb; exact (Option.some.inj hb).symm
 ·have:=hT ks.length
  rw [List.take_length] at this
  rw [this]; omega
 ·show List.length _<=60
  decide
 ·intro p hp
  have hp:p∈[P0,⟨1,[],-1,nE,[],0⟩]:=hp
  simp only [List.mem_cons,List.not_mem_nil,or_false] at hp
  rcases hp with rfl | rfl <;> decide
theorem srcb (ks:List Int) (h:Own ks):SrcB (grn ks):=by
 have hn:=h.n
 refine ⟨by show (0:Nat)<=big; decide,?_,fun d hd=>?_,by show 1<=1000; decide,fun r hr=>?_⟩
 ·show (dec ks).length<=1000
  unfold dec
  split <;> simp
 ·have hd:d∈dec ks:=hd
  unfold dec at hd
  split at hd
  ·cases hd
  ·rw [List.mem_singleton.1 hd]
   refine ⟨by show (0:Nat)<=big; decide,by rw [List.length_map]; omega,fun x hx=>?_⟩
   obtain ⟨k,hk,rfl⟩:=List.mem_map.1 hx
   obtain ⟨s,_,e2,e3⟩:=(okk_of (h.r k hk).1 (h.r k hk).2).d
   show (nmk k).size<=big
   rw [e3,ByteArray.size_append]
   show 1+s.size<=big
   simp only [big]
   omega
 ·have hr:r∈[(⟨nS,[aE],0⟩:Rule)]:=hr
  rw [List.mem_singleton.1 hr]
  refine ⟨by decide,by decide,fun a ha=>?_⟩
  rw [List.mem_singleton.1 ha]
  exact ⟨by decide,fun p hp=>(by cases hp),by decide⟩
theorem x20 (ks:List Int) (h:Own ks):∃ g,pf20 (grn ks)=some (g,true)/\GOk g/\GTk g/\g.Toks=T3++ks.map tkk:=by
 obtain ⟨r,hr,h1⟩:=g20 (grn ks) (srcb ks h)
 have h2:r.2=true/\r.1.Toks=T3++ks.map tkk:=by
  have:Par (pf20 (grn ks)) fun r=>r.2=true/\r.1.Toks=T3++ks.map tkk:=by
   unfold pf20
   exact .by' (x61 ks h) fun r hr=>.so ⟨decide_eq_true hr.1,hr.2.1⟩
  exact this r hr
 obtain ⟨g,b⟩:=r
 obtain ⟨rfl,h2⟩:=h2
 exact ⟨g,hr,(h1 rfl).1,(h1 rfl).2,h2⟩
theorem t5 (gv:List Int) (n:Int):pf5 gv n=some true:=by
 suffices h:Tot (pf5 gv n) fun r=>r=true by
  obtain ⟨r,hr,e⟩:=h; rw [hr,e]
 unfold pf5
 rw [w17]
 refine Tot.sm (.by' (Ξ:=fun r:List Sym × List Int=>Own r.2/\r.1=r.2.map syk) ?_ fun r hr=>?_)
 ·refine Tot.upto (fun s=>s.2.2) 20 (fun k s=>Own s.2.1/\s.2.1.length<=k/\s.1=s.2.1.map syk) rfl (by omega) ⟨⟨Nat.zero_le _,fun k hk=>(by cases hk),List.nodup_nil⟩,Nat.le_refl 0,rfl⟩ fun k s hk he hI=>?_
  obtain ⟨sy,ks,i⟩:=s
  obtain ⟨h1,h2,h3⟩:=hI
  simp only at he h1 h2 h3 ⊢
  subst he h3
  rw [w64c k (by omega)]
  refine .by' (Ξ:=fun c:Bool=>c=true->k<gv.length/\k<20) (Tot.cp (fun h=>.so fun h'=>⟨by omega,by have:=of_decide_eq_true h'; omega⟩) (fun h=>.so fun h=>by cases h)) fun c hc=>Tot.cd (fun h=>?_) (fun h=>.so ⟨h1,rfl⟩)
  obtain ⟨g1,g2⟩:=hc h
  rw [idx_nat g1]
  simp only [Option.bind_some]
  refine .by' (Ξ:=fun j:List Sym × List Int=>Own j.2/\j.2.length<=k+1/\j.1=j.2.map syk) ?_ fun j hj=>.so ⟨g2,rfl,hj⟩
  refine .by' (t22 _ 30 (by decide) (by decide)) fun v hv=>?_
  have hw:w64 (1+v)=1+v:=by rw [w64_eq]; omega
  obtain ⟨c,ec,hc⟩:=c27z ks (1+v) (by omega)
  rw [hw,ec]
  simp only [Option.bind_some]
  refine .by' (Ξ:=fun j:List Sym × List Int=>Own j.2/\j.2.length<=k+1/\j.1=j.2.map syk) ?_ fun j hj=>.so hj
  cases c with
  | true=>exact .so ⟨h1,by show ks.length<=k+1; omega,rfl⟩
  | false =>
   have ok:=okk_of (k:=1+v) (by omega) (by omega)
   obtain ⟨s,e1,e2,e3⟩:=ok.d
   have hcat:catO ({ data:=#[116] }:ByteArray) s=some (nmk (1+v)):=by
    rw [e3,cat_ok (by show 1+s.size<=_; omega)]
   simp only [Bool.not_false,cond_true]
   refine .by' (Ξ:=fun _=>True) (Tot.ap (by show ks.length+1<=lim; unfold lim; omega) trivial) fun _ _=>?_
   rw [e1]
   simp only [Option.bind_some,hcat]
   refine .by' (Ξ:=fun _=>True) (Tot.ap (by show (ks.map syk).length+1<=lim; rw [List.length_map]; unfold lim; omega) trivial) fun _ _=>.so ⟨⟨by show (ks++[_]).length<=20; simp; omega,fun x hx=>?_,?_⟩,by show (ks++[_]).length<=k+1; simp; omega,by simp [syk]⟩
   ·rcases List.mem_append.1 hx with hx | hx
    ·exact h1.r x hx
    ·rw [List.mem_singleton.1 hx]; omega
   ·refine List.nodup_append.2 ⟨h1.d,by simp,fun a ha b hb=>?_⟩
    rw [List.mem_singleton.1 hb]
    intro e
    subst e
    have:=hc.2 ha
    cases this
 ·obtain ⟨sy,ks⟩:=r
  obtain ⟨hO,hsy⟩:=hr
  simp only at hO hsy ⊢
  subst hsy
  obtain ⟨g,hgr,ho,hg,hT⟩:=x20 ks hO
  refine .by' (Ξ:=fun l:List Decl=>l=dec ks) (Tot.cp (fun h=>.so ?_) (fun h=>.so ?_)) fun l hl=>?_
  ·unfold dec
   rw [if_neg (fun e=>by rw [e] at h; simp at h)]
  ·unfold dec
   rw [if_pos (List.eq_nil_of_length_eq_zero (by omega))]
  ·subst hl
   have hgr:pf20 ⟨{ data:=#[] },dec ks,[⟨{ data:=#[115] },[⟨[],⟨{ data:=#[] },false,0,0⟩,0⟩],0⟩],{ data:=#[] }⟩=some (g,true):=hgr
   rw [hgr]
   simp only [Option.bind_some]
   have hTl:=ho.tn
   obtain ⟨l,hl,ha,hn,hm⟩:=c24 g hg (by omega)
   rw [hl]
   simp only [Option.bind_some]
   have own:∀ k∈ks,∃ i:Nat,3<=i/\g.Toks[i]?=some (tkk k):=fun k hk=>by
    obtain ⟨i,hi⟩:=List.getElem?_of_mem (List.mem_map.2 ⟨k,hk,rfl⟩:tkk k∈ks.map tkk)
    refine ⟨3+i,by omega,?_⟩
    rw [hT,List.getElem?_append_right (by show 3<=3+i; omega)]
    have:3+i - T3.length=i:=by show 3+i - 3=i; omega
    rw [this]; exact hi
   have back:∀ (i:Nat) (t:Tok),g.Toks[i]?=some t->0<t.Num->∃ k∈ks,t=tkk k:=fun i t ht h0=>by
    have hmem:=List.mem_of_getElem? ht
    rw [hT] at hmem
    rcases List.mem_append.1 hmem with h | h
    ·exfalso
     simp only [T3,List.mem_cons,List.not_mem_nil,or_false] at h
     rcases h with rfl | rfl | rfl
     ·exact absurd h0 (by decide)
     ·exact absurd h0 (by decide)
     ·exact absurd h0 (by decide)
    ·obtain ⟨k,hk,rfl⟩:=List.mem_map.1 h
     exact ⟨k,hk,rfl⟩
   refine .by' (Ξ:=LR (fun _=>True) (fun _:Bool=>False)) ?_ fun x hx=>?_
   ·refine Tot.count (fun s=>s) 34 (fun s=>-3<=s) (Int.le_refl _) (by decide) fun s hs=>?_
    refine Tot.cp (fun hlt=>?_) (fun _=>.so trivial)
    have up:(-3<=w64 (s+1))/\s<w64 (s+1)/\w64 (s+1)<=34:=by rw [w64_eq]; omega
    refine .by' (c25 g hg l s ha hn hm) fun v hv=>?_
    obtain ⟨c,ec,hc⟩:=c27z ks s (by have:=hO.n; omega)
    refine .by' (Ξ:=fun c=>c=false) ?_ fun c1 hc1=>?_
    ·refine Tot.cp (fun h=>?_) (fun h=>.so rfl)
     rcases hv with ⟨_,rfl⟩ | ⟨h1,_⟩
     ·exact .so rfl
     ·omega
    ·subst hc1
     simp only [cond_false]
     refine .by' (Ξ:=fun c=>c=false) ?_ fun c1 hc1=>?_
     ·refine Tot.cp (fun h=>?_) (fun h=>.so rfl)
      rw [ec]
      simp only [Option.bind_some]
      cases c with
      | true=>exact .so rfl
      | false =>
       have hno:s∉ks:=fun h=>by have:=hc.2 h; cases this
       rcases hv with ⟨h1,_⟩ | ⟨_,⟨k,t,h2,h3,_⟩ | ⟨_,rfl⟩⟩
       ·omega
       ·obtain ⟨k',hk',rfl⟩:=back k t h2 (by omega)
        have h3:k'=s:=h3
        subst h3
        exact absurd hk' hno
       ·exact .so rfl
     ·subst hc1
      simp only [cond_false]
      refine .by' (Ξ:=fun c=>c=false) ?_ fun c1 hc1=>?_
      ·rw [ec]
       simp only [Option.bind_some]
       cases c with
       | false=>exact .so rfl
       | true =>
        have hs':=hc.1 rfl
        have hr:=hO.r s hs'
        obtain ⟨i,hi3,hi⟩:=own s hs'
        have hvi:v=(i:Int):=by
         rcases hv with ⟨h1,_⟩ | ⟨_,⟨k,t,h2,h3,h4⟩ | ⟨h2,_⟩⟩
         ·omega
         ·have:=hg.un i k (tkk s) t hi h2 (by show 0<s; omega) h3.symm
          omega
         ·exact absurd rfl (h2 i (tkk s) hi)
        subst hvi
        have hil:=(List.getElem?_eq_some_iff.1 hi).1
        obtain ⟨sd,e1,e2,e3⟩:=(okk_of hr.1 hr.2).d
        have hcat:catO ({ data:=#[116] }:ByteArray) sd=some (nmk s):=by
         rw [e3,cat_ok (by show 1+sd.size<=_; omega)]
        have d1:decide ((i:Int)<3)=false:=decide_eq_false (by omega)
        have d2:decide ((g.Toks.length:Int)<=(i:Int))=false:=decide_eq_false (by omega)
        have hii:idx g.Toks (i:Int)=some (tkk s):=by simp [idx,hi]
        have hnm:(tkk s).Name=nmk s:=rfl
        simp only [cond_true,d1,d2,cond_false,hii,e1,hcat,hnm,Option.bind_some,decide_true,Bool.not_true]
        exact .so rfl
      ·subst hc1
       exact .so ⟨up.1,up.2⟩
   ·rcases x with x | x
    ·obtain ⟨v,hv,h1⟩:=c25 g hg l n ha hn hm
     rw [hv]
     simp only [cond_true,Option.bind_some]
     have:(decide (n<=0) == decide (v=0))=true:=by
      rcases h1 with ⟨h1,rfl⟩ | ⟨h1,⟨k,t,h2,h3,rfl⟩ | ⟨_,rfl⟩⟩
      ·rw [decide_eq_true h1]; rfl
      ·obtain ⟨k',hk',rfl⟩:=back k t h2 (by omega)
       have h4:k≠0:=by
        rintro rfl
        have:=hg.hd 0 (tkk k') (by omega) h2
        have h3:k'=n:=h3
        have h5:(tkk k').Num=k':=rfl
        omega
       rw [decide_eq_false (by omega),decide_eq_false (by omega)]; rfl
      ·rw [decide_eq_false (by omega)]; rfl
     rw [this]
     exact .so rfl
    ·exact hx.elim
def ltr (i:Nat):ByteArray:=strOfNums [w8 (w64 (97+(i:Int)))]
abbrev plB:ByteArray:={ data:=#[43] }
def lSym (i:Nat):Sym:=⟨ltr i,true,0,0⟩
abbrev pSym:Sym:=⟨plB,true,0,0⟩
def lTok (i:Nat):Tok:=⟨ltr i,true,97+(i:Int),0,0,nE⟩
abbrev pTok:Tok:=⟨plB,true,43,0,0,nE⟩
def altN (i n:Nat):Alt:=⟨⟨lSym i,nE,0⟩::List.replicate n ⟨pSym,nE,0⟩,syN',0⟩
def okl (i:Nat):Bool :=
 decide ((ltr i).size=1)&&(match bidx (ltr i) 0 with | some b=>decide (b=97+(i:Int)) | none=>false)&&(match pf131 (lSym i) false true with | some b=>b | none=>false)&&!decide (ltr i=plB)
theorem okl_all:(List.range 24).all okl=true:=by kernel_rfl
theorem ltr_all:(List.range 24).all (fun k=>(List.range 24).all fun j=>decide (j=k)||!decide (ltr j=ltr k))=true:=by kernel_rfl
structure Okl (i:Nat):Prop where
 s:(ltr i).size=1
 b:bidx (ltr i) 0=some (97+(i:Int))
 l:pf131 (lSym i) false true=some true
 p:ltr i≠plB
theorem okl_of {i:Nat}(h:i<24):Okl i:=by
 have h:=List.all_eq_true.1 okl_all i (List.mem_range.2 h)
 unfold okl at h
 simp only [Bool.and_eq_true,Bool.not_eq_true',decide_eq_false_iff_not,decide_eq_true_eq] at h
 obtain ⟨⟨⟨h1,h2⟩,h3⟩,h4⟩:=h
 refine ⟨h1,?_,?_,h4⟩
 ·cases h5:bidx (ltr i) 0 with
  | none=>rw [h5] at h2; cases h2
  | some b =>
   rw [h5] at h2
   have h2:b=97+(i:Int):=of_decide_eq_true h2
   rw [h2]
 ·cases h5:pf131 (lSym i) false true with
  | none=>rw [h5] at h3; cases h3
  | some b =>
   rw [h5] at h3
   have h3:b=true:=h3
   rw [h3]
theorem ltr_in2 {i j:Nat}(hi:i<24) (hj:j<24) (h:ltr i=ltr j):i=j:=by
 have a:=List.all_eq_true.1 (List.all_eq_true.1 ltr_all j (List.mem_range.2 hj)) i (List.mem_range.2 hi)
 rw [h] at a
 simp only [decide_true,Bool.not_true,Bool.or_false,decide_eq_true_eq] at a
 exact a
def HasP (T:List Tok):Prop:=∃ t∈T,t.Name=plB
def PLo (T:List Tok) (pl:Int):Prop:=∃ (k:Nat) (t:Tok),pl=(k:Int)/\3<=k/\T[k]?=some t/\t.Name=plB
structure TKs (T:List Tok) (G:List Bool) (j:Nat) (ls:List Int):Prop where
 gl:G.length=T.length
 ln:(HasP T/\T.length=4+j)\/(¬ HasP T/\T.length=3+j)
 gv:∀ (i:Nat) (b:Bool),3<=i->G[i]?=some b->b=true
 ll:ls.length=j
 lt:∀ (i:Nat) (l:Int),ls[i]?=some l->∃ (k:Nat) (t:Tok),l=(k:Int)/\3<=k/\T[k]?=some t/\t.Name=ltr i
 nm:∀ t∈T,t∈T3\/(∃ i,i<j/\t=lTok i)\/t=pTok
 nd:(T.map (·.Name)).Nodup
theorem PLo.snoc {T:List Tok}{pl:Int}(h:PLo T pl) (x:Tok):PLo (T++[x]) pl:=by
 obtain ⟨k,t,h1,h2,h3,h4⟩:=h
 exact ⟨k,t,h1,h2,by rw [List.getElem?_append_left (List.getElem?_eq_some_iff.1 h3).1]; exact h3,h4⟩
theorem PLo.has {T:List Tok}{pl:Int}(h:PLo T pl):HasP T:=by
 obtain ⟨k,t,_,_,h3,h4⟩:=h
 exact ⟨t,List.mem_of_getElem? h3,h4⟩
theorem T3_nm {t:Tok}(h:t∈T3):4<=t.Name.size:=by
 simp only [T3,List.mem_cons,List.not_mem_nil,or_false] at h
 rcases h with rfl | rfl | rfl <;> decide
theorem nod_snoc {T:List Tok}{x:Tok}(h:(T.map (·.Name)).Nodup) (hx:∀ t∈T,t.Name≠x.Name):((T++[x]).map (·.Name)).Nodup:=by
 rw [List.map_append]
 refine List.nodup_append.2 ⟨h,by simp,fun a ha b hb=>?_⟩
 obtain ⟨t,ht,rfl⟩:=List.mem_map.1 ha
 simp only [List.map_cons,List.map_nil,List.mem_singleton] at hb
 subst hb
 exact hx t ht
theorem gv_snoc {G:List Bool}(h:∀ (i:Nat) (b:Bool),3<=i->G[i]?=some b->b=true):∀ (i:Nat) (b:Bool),3<=i->(G++[true])[i]?=some b->b=true:=fun i b hi hb=>by
 rcases snoc_get i hb with ⟨_,h'⟩ | ⟨_,h'⟩
 ·exact h i b hi h'
 ·exact h'
theorem TKs.new {T:List Tok}{G:List Bool}{j:Nat}{ls:List Int}(h:TKs T G j ls) (hj:j<24):∀ t∈T,t.Name≠ltr j:=fun t ht e=>by
 rcases h.nm t ht with h1 | ⟨i,hi,rfl⟩ | rfl
 ·have:=T3_nm h1
  rw [e,(okl_of hj).s] at this
  omega
 ·have:=ltr_in2 (by omega) hj e
  omega
 ·exact (okl_of hj).p e.symm
theorem TKs.letter {T:List Tok}{G:List Bool}{j:Nat}{ls:List Int}(h:TKs T G j ls) (hj:j<24):TKs (T++[lTok j]) (G++[true]) (j+1) (ls++[(T.length:Int)]):=by
 have hP:HasP (T++[lTok j])↔HasP T:=by
  constructor
  ·rintro ⟨t,ht,e⟩
   rcases List.mem_append.1 ht with ht | ht
   ·exact ⟨t,ht,e⟩
   ·rw [List.mem_singleton.1 ht] at e
    exact absurd e (okl_of hj).p
  ·rintro ⟨t,ht,e⟩
   exact ⟨t,List.mem_append.2 (.inl ht),e⟩
 have h3:3<=T.length:=by rcases h.ln with h | h <;> omega
 refine ⟨by rw [List.length_append,List.length_append,h.gl]; rfl,?_,gv_snoc h.gv,by simp [h.ll],fun i l hl=>?_,fun t ht=>?_,nod_snoc h.nd (h.new hj)⟩
 ·rw [hP,List.length_append]
  rcases h.ln with ⟨h1,h2⟩ | ⟨h1,h2⟩
  ·exact .inl ⟨h1,by simp; omega⟩
  ·exact .inr ⟨h1,by simp; omega⟩
 ·have hll:=h.ll
  rcases snoc_get i hl with ⟨hi,h'⟩ | ⟨hi,rfl⟩
  ·obtain ⟨k,t,h1,h2,h4,h5⟩:=h.lt i l h'
   exact ⟨k,t,h1,h2,by rw [List.getElem?_append_left (List.getElem?_eq_some_iff.1 h4).1]; exact h4,h5⟩
  ·refine ⟨T.length,lTok j,rfl,h3,by rw [List.getElem?_append_right (Nat.le_refl _),Nat.sub_self]; rfl,?_⟩
   rw [hi,hll]; rfl
 ·rcases List.mem_append.1 ht with ht | ht
  ·rcases h.nm t ht with h1 | ⟨i,hi,h1⟩ | h1
   ·exact .inl h1
   ·exact .inr (.inl ⟨i,by omega,h1⟩)
   ·exact .inr (.inr h1)
  ·exact .inr (.inl ⟨j,by omega,List.mem_singleton.1 ht⟩)
theorem TKs.plus {T:List Tok}{G:List Bool}{j:Nat}{ls:List Int}(h:TKs T G j ls) (hn:¬ HasP T):TKs (T++[pTok]) (G++[true]) j ls/\PLo (T++[pTok]) (T.length:Int):=by
 have h3:3<=T.length:=by rcases h.ln with h | h <;> omega
 refine ⟨⟨by rw [List.length_append,List.length_append,h.gl]; rfl,.inl ⟨⟨pTok,by simp,rfl⟩,?_⟩,gv_snoc h.gv,h.ll,fun i l hl=>?_,fun t ht=>?_,nod_snoc h.nd fun t ht e=>hn ⟨t,ht,e⟩⟩,T.length,pTok,rfl,h3,by rw [List.getElem?_append_right (Nat.le_refl _),Nat.sub_self]; rfl,rfl⟩
 ·rcases h.ln with h | h
  ·exact absurd h.1 hn
  ·rw [List.length_append]; simp; omega
 ·obtain ⟨k,t,h1,h2,h4,h5⟩:=h.lt i l hl
  exact ⟨k,t,h1,h2,by rw [List.getElem?_append_left (List.getElem?_eq_some_iff.1 h4).1]; exact h4,h5⟩
 ·rcases List.mem_append.1 ht with ht | ht
  ·exact h.nm t ht
  ·exact .inr (.inr (List.mem_singleton.1 ht))
theorem TKs.lit {T:List Tok}{G:List Bool}{j:Nat}{ls:List Int}(h:TKs T G j ls) {t:Tok}(ht:t∈T) (he:t.Name=plB):t.Lit=true:=by
 rcases h.nm t ht with h1 | ⟨i,hi,rfl⟩ | rfl
 ·have:=T3_nm h1
  rw [he] at this
  exact absurd this (by decide)
 ·rfl
 ·rfl
theorem p109n {m:Mk}{x:Sym}{T:List Tok}{G:List Bool}{P:List Prod}{b:Int}(hm:MS m T G [nS] P) (hx:x.Lit=true) (hb:bidx x.Name 0=some b) (h0:0<=b/\b<=255) (hT:T.length<=1000) (h1:∀ t∈T,t.Name≠x.Name) (h2:∀ t∈T,t.Num≠b) :
  Par (pf109 m x) fun r=>r.1=(T.length:Int)/\MS r.2 (T++[⟨x.Name,true,b,0,0,nE⟩]) (G++[true]) [nS] P:=by
 have hw:w64 b=b:=by rw [w64_eq]; omega
 unfold pf109
 rw [hx]
 simp only [cond_true]
 refine .by' (Ξ:=fun r:Int × Mk=>r.1=(T.length:Int)/\MS r.2 (T++[⟨x.Name,true,b,0,0,nE⟩]) (G++[true]) [nS] P) ?_ fun r hr=>.so hr
 unfold pf107
 refine .by' (p91x (by rw [hm.t]; exact h1)) fun i hi=>?_
 subst hi
 have c0:decide (0<=(-1:Int))=false:=rfl
 rw [c0,hx]
 simp only [cond_false,cond_true]
 refine .by' (Ξ:=fun r:Mk × Int=>r=(m,b)) ?_ fun r hr=>?_
 ·rw [hb]
  simp only [Option.bind_some,hw]
  refine .by' (p108x (n:=b) (by rw [hm.t]; exact h2)) fun i hi=>?_
  subst hi
  rw [c0]
  exact .so rfl
 ·subst hr
  refine Par.ap fun _=>Par.ap fun _=>.so ⟨?_,hm.e,by show m.f_g.Toks++_=_; rw [hm.t],by show m.f_given++_=_; rw [hm.g],hm.ty,hm.lf,hm.inn,hm.pr⟩
  show w64 (((m.f_g.Toks++[_]).length:Int) - 1)=_
  rw [hm.t,List.length_append]
  have:w64 (((T.length+[(⟨x.Name,true,b,0,0,nE⟩:Tok)].length:Nat):Int) - 1)=(T.length:Int):=by
   simp only [List.length_cons,List.length_nil]
   rw [w64_eq]; omega
  exact this
theorem p109o {m:Mk}{x:Sym}{T:List Tok}{G:List Bool}{P:List Prod}{k:Nat}{t:Tok}(hm:MS m T G [nS] P) (hx:x.Lit=true) (hT:T.length<=1000) (hk:3<=k) (ht:T[k]?=some t) (he:t.Name=x.Name) (hl:t.Lit=true) (hnd:(T.map (·.Name)).Nodup) :
  Par (pf109 m x) fun r=>r.1=(k:Int)/\r.2=m:=by
 unfold pf109
 rw [hx]
 simp only [cond_true]
 refine .by' (Ξ:=fun r:Int × Mk=>r.1=(k:Int)/\r.2=m) ?_ fun r hr=>.so hr
 unfold pf107
 refine .by' (p91f (by rw [hm.t]; exact hT)) fun i hi=>?_
 rcases hi with ⟨k',t',rfl,h1,h2,h3⟩ | ⟨_,h1⟩
 ·have c0:decide (0<=(k':Int))=true:=decide_eq_true (by omega)
  rw [c0]
  rw [hm.t] at h2
  have hkl:=(List.getElem?_eq_some_iff.1 ht).1
  have hkl':=(List.getElem?_eq_some_iff.1 h2).1
  have e:k'=k:=by
   have e1:(T.map (·.Name))[k']?=some x.Name:=by rw [List.getElem?_map,h2]; simp [h3]
   have e2:(T.map (·.Name))[k]?=some x.Name:=by rw [List.getElem?_map,ht]; simp [he]
   have l1:k'<(T.map (·.Name)).length:=by rw [List.length_map]; exact hkl'
   have l2:k<(T.map (·.Name)).length:=by rw [List.length_map]; exact hkl
   rw [List.getElem?_eq_getElem l1] at e1
   rw [List.getElem?_eq_getElem l2] at e2
   exact (List.getElem_inj hnd).1 ((Option.some.inj e1).trans (Option.some.inj e2).symm)
  exact .so ⟨by rw [e],rfl⟩
 ·rw [hm.t] at h1
  exact absurd he (h1 k t (by omega) (by omega) ht (by rw [hl,hx]))
def rts (ls:List Int) (ns:List Nat) (pl:Int):List (List Int):=List.zipWith (fun l n=>l::List.replicate n pl) ls ns
def LR2 (p:Prod):Int × List Int:=(p.Left,p.Right)
def JJ (ns:List Nat) (j:Nat) (T:List Tok) (G:List Bool) (P:List Prod):Prop :=
 ∃ (ls:List Int) (pl:Int),TKs T G j ls/\(PLo T pl\/(¬ HasP T/\∀ n∈ns.take j,n=0))/\P.map LR2=(0,[1001])::(rts ls (ns.take j) pl).map fun r=>(1,r)
theorem rts_zero:∀ (ls:List Int) (ns:List Nat) (p q:Int),(∀ n∈ns,n=0)->rts ls ns p=rts ls ns q
 | [],_,_,_,_=>rfl
 | _::_,[],_,_,_=>rfl
 | l::ls,n::ns,p,q,h=>by
  have h0:n=0:=h n (by simp)
  subst h0
  show (_::rts ls ns p)=(_::rts ls ns q)
  rw [rts_zero ls ns p q fun n hn=>h n (by simp [hn])]
  rfl
theorem rts_snoc (ls:List Int) (ns:List Nat) (l:Int) (n:Nat) (p:Int) (h:ls.length=ns.length):rts (ls++[l]) (ns++[n]) p=rts ls ns p++[l::List.replicate n p]:=by
 unfold rts
 rw [List.zipWith_append h]
 rfl
theorem rep_get {n i:Nat}{x y z:Part}(h:(x::List.replicate n y)[i]?=some z):(i=0/\z=x)\/(1<=i/\i<=n/\z=y):=by
 cases i with
 | zero=>exact .inl ⟨rfl,by cases h; rfl⟩
 | succ i =>
  have h:(List.replicate n y)[i]?=some z:=h
  rw [List.getElem?_replicate] at h
  split at h
  ·cases h; exact .inr ⟨by omega,by omega,rfl⟩
  ·cases h
theorem p93L {ns:List Nat}{j n:Nat}(hns:ns[j]?=some n) (hj:j<24) (hn7:n<=7) (m:Mk) (hm:MQ m (JJ ns j)):Par (pf93 m nS (altN j n)) fun m'=>MQ m' (JJ ns (j+1)):=by
 obtain ⟨ls,pl0,hT,hpl,hP⟩:=hm.q
 have hMS:MS m m.f_g.Toks m.f_given [nS] m.f_g.Prods:=⟨hm.e,rfl,rfl,hm.ty,hm.lf,hm.inn,rfl⟩
 generalize m.f_g.Toks=T at *
 generalize m.f_given=G at *
 generalize m.f_g.Prods=P at *
 have hTl:T.length<=28:=by rcases hT.ln with h | h <;> omega
 have hT3:3<=T.length:=by rcases hT.ln with h | h <;> omega
 unfold pf93
 refine .by' (p92s hm.lf) fun r hr=>?_
 subst hr
 refine .by' (Ξ:=fun r:Mk × List Int × ByteArray × Int=>∃ (T':List Tok) (G':List Bool) (pl:Int),MS r.1 T' G' [nS] P/\TKs T' G' (j+1) (ls++[(T.length:Int)])/\(PLo T' pl\/(¬ HasP T'/\n=0))/\r.2.1=(T.length:Int)::List.replicate n pl/\(PLo T pl0->pl=pl0)/\r.2.2.1=nE/\(HasP T->HasP T')) ?_ fun r hr=>?_
 ·refine Par.loop (fun s=>s.2.2.1=nE/\((s.2.2.2.2=0/\MS s.1 T G [nS] P/\s.2.1=[])\/∃ (i:Nat) (T':List Tok) (G':List Bool) (pl:Int),s.2.2.2.2=((i+1:Nat):Int)/\i<=n/\MS s.1 T' G' [nS] P/\TKs T' G' (j+1) (ls++[(T.length:Int)])/\(PLo T' pl\/(¬ HasP T'/\i=0))/\s.2.1=(T.length:Int)::List.replicate i pl/\(PLo T pl0->pl=pl0)/\(HasP T->HasP T'))) ⟨rfl,.inl ⟨rfl,hMS,rfl⟩⟩ fun s hs=>?_
  obtain ⟨m1,rt,cd,at_,ix⟩:=s
  obtain ⟨hcd,hs⟩:=hs
  simp only at hcd hs ⊢
  subst hcd
  have hlen:((altN j n).Parts.length:Int)=((n+1:Nat):Int):=by simp [altN]
  rw [hlen]
  rcases hs with ⟨rfl,hM,rfl⟩ | ⟨i,T',G',pl,rfl,hin,hM,hT',hp',rfl,hpp,hsub⟩
  ·refine Par.cp (fun _=>?_) (fun h=>absurd (by omega) h)
   have e0:idx (altN j n).Parts 0=some ⟨lSym j,nE,0⟩:=rfl
   rw [e0]
   simp only [Option.bind_some]
   have hj1:=okl_of hj
   refine .by' (Ξ:=fun r:Mk × List Int × ByteArray × Int=>MS r.1 (T++[lTok j]) (G++[true]) [nS] P/\r.2.1=[(T.length:Int)]/\r.2.2.1=nE) ?_ fun r hr=>.so ⟨hr.2.2,.inr ⟨0,T++[lTok j],G++[true],pl0,rfl,Nat.zero_le _,hr.1,hT.letter hj,?_,hr.2.1,fun _=>rfl,fun ⟨t,ht,e⟩=>⟨t,List.mem_append.2 (.inl ht),e⟩⟩⟩
   ·refine .by' (Ξ:=fun r:Mk × List Int × ByteArray × Int=>MS r.1 (T++[lTok j]) (G++[true]) [nS] P/\r.2.1=[(T.length:Int)]/\r.2.2.1=nE) ?_ fun r hr=>.so hr
    refine .by' (Ξ:=fun r:Mk × List Int × ByteArray × Int=>MS r.1 (T++[lTok j]) (G++[true]) [nS] P/\r.2.1=[(T.length:Int)]/\r.2.2.1=nE) ?_ fun r hr=>.so hr
    refine .by' (p109n (x:=lSym j) hM rfl hj1.b ⟨by omega,by omega⟩ (by omega) (hT.new hj) fun t ht e=>?_) fun r hr=>Par.ap fun _=>.so ⟨hr.2,by show []++[r.1]=_; rw [hr.1]; rfl,rfl⟩
    rcases hT.nm t ht with h1 | ⟨i,hi,rfl⟩ | rfl
    ·simp only [T3,List.mem_cons,List.not_mem_nil,or_false] at h1
     rcases h1 with rfl | rfl | rfl
     ·have e:(0:Int)=97+(j:Int):=e; omega
     ·have e:(-1:Int)=97+(j:Int):=e; omega
     ·have e:(-1:Int)=97+(j:Int):=e; omega
    ·have e:97+(i:Int)=97+(j:Int):=e; omega
    ·have e:(43:Int)=97+(j:Int):=e; omega
   ·rcases hpl with h | ⟨h,_⟩
    ·exact .inl (h.snoc _)
    ·refine .inr ⟨?_,rfl⟩
     rintro ⟨t,ht,e⟩
     rcases List.mem_append.1 ht with ht | ht
     ·exact h ⟨t,ht,e⟩
     ·rw [List.mem_singleton.1 ht] at e
      exact absurd e hj1.p
  ·have hw:w64 (((i+1:Nat):Int)+1)=((i+1+1:Nat):Int):=w64c (i+1) (by omega)
   rw [hw]
   refine Par.cp (fun hlt=>.by' (Ξ:=fun r:Mk × List Int × ByteArray × Int=>∃ (T2:List Tok) (G2:List Bool) (pl2:Int),MS r.1 T2 G2 [nS] P/\TKs T2 G2 (j+1) (ls++[(T.length:Int)])/\PLo T2 pl2/\r.2.1=(T.length:Int)::List.replicate (i+1) pl2/\(PLo T pl0->pl2=pl0)/\r.2.2.1=nE) (.go fun y hy=>?_) fun r hr=>?_) (fun hge=>.so ?_)
   ·obtain ⟨_,_,hy⟩:=idx_at hy
    have hlt:i+1<n+1:=by omega
    have hyp:y=⟨pSym,nE,0⟩:=by
     rcases rep_get hy with ⟨h0,_⟩ | ⟨_,_,h⟩
     ·omega
     ·exact h
    subst hyp
    dsimp only
    have hTl':T'.length<=28:=by rcases hT'.ln with h | h <;> omega
    ·refine .by' (Ξ:=fun r:Mk × List Int × ByteArray × Int=>∃ (T2:List Tok) (G2:List Bool) (pl2:Int),MS r.1 T2 G2 [nS] P/\TKs T2 G2 (j+1) (ls++[(T.length:Int)])/\PLo T2 pl2/\r.2.1=(T.length:Int)::List.replicate (i+1) pl2/\(PLo T pl0->pl2=pl0)/\r.2.2.1=nE) ?_ fun r hr=>.so hr
     refine .by' (Ξ:=fun r:Mk × List Int × ByteArray × Int=>∃ (T2:List Tok) (G2:List Bool) (pl2:Int),MS r.1 T2 G2 [nS] P/\TKs T2 G2 (j+1) (ls++[(T.length:Int)])/\PLo T2 pl2/\r.2.1=(T.length:Int)::List.replicate (i+1) pl2/\(PLo T pl0->pl2=pl0)/\r.2.2.1=nE) ?_ fun r hr=>.so hr
     rcases hp' with hp' | ⟨hno,rfl⟩
     ·obtain ⟨k,t,rfl,hk3,hkt,hkn⟩:=hp'
      refine .by' (p109o (x:=pSym) hM rfl (by omega) hk3 hkt hkn (hT'.lit (List.mem_of_getElem? hkt) hkn) hT'.nd) fun r hr=>Par.ap fun _=>.so ⟨T',G',(k:Int),by rw [hr.2]; exact hM,hT',⟨k,t,rfl,hk3,hkt,hkn⟩,?_,hpp,rfl⟩
      show ((T.length:Int)::List.replicate i (k:Int))++[r.1]=_
      rw [hr.1,List.cons_append,<- List.replicate_succ']
     ·obtain ⟨hT2,hP2⟩:=hT'.plus hno
      refine .by' (p109n (x:=pSym) (b:=43) hM rfl rfl (by decide) (by omega) (fun t ht e=>hno ⟨t,ht,e⟩) fun t ht e=>?_) fun r hr=>Par.ap fun _=>.so ⟨_,_,_,hr.2,hT2,hP2,?_,fun h=>?_,rfl⟩
      ·rcases hT'.nm t ht with h1 | ⟨i,hi,rfl⟩ | rfl
       ·simp only [T3,List.mem_cons,List.not_mem_nil,or_false] at h1
        rcases h1 with rfl | rfl | rfl
        ·exact absurd e (by decide)
        ·exact absurd e (by decide)
        ·exact absurd e (by decide)
       ·have e:97+(i:Int)=43:=e; omega
       ·exact hno ⟨_,ht,rfl⟩
      ·show [(T.length:Int)]++[r.1]=_
       rw [hr.1]; rfl
      ·exact absurd (hsub h.has) hno
   ·obtain ⟨T2,G2,pl2,h1,h2,h3,h4,h5,h6⟩:=hr
    exact .so ⟨h6,.inr ⟨i+1,T2,G2,pl2,rfl,by omega,h1,h2,.inl h3,h4,h5,fun _=>h3.has⟩⟩
   ·have:i=n:=by omega
    subst this
    exact ⟨T',G',pl,hM,hT',hp',rfl,hpp,rfl,hsub⟩
 ·obtain ⟨m1,rt,cd,at_⟩:=r
  obtain ⟨T',G',pl,hM,hT',hp',hrt,hpp,hcd,hsub⟩:=hr
  simp only at hM hrt hcd ⊢
  subst hrt hcd
  refine .by' (Ξ:=fun _=>True) (fun _ _=>trivial) fun pr _=>?_
  simp only [altN,cond_false]
  refine .by' (Ξ:=fun r:Mk × Int=>r.1=m1) (.so rfl) fun r hr=>?_
  obtain ⟨m2,pr2⟩:=r
  have hr:m2=m1:=hr
  subst hr
  refine Par.ap fun _=>Par.ap fun _=>.so ⟨hM.e,?_,hM.ty,hM.lf,hM.inn⟩
  show JJ ns (j+1) m2.f_g.Toks m2.f_given (m2.f_g.Prods++[_])
  rw [hM.t,hM.g,hM.pr]
  have htk:ns.take (j+1)=ns.take j++[n]:=by rw [List.take_add_one,hns]; rfl
  have hjl:=(List.getElem?_eq_some_iff.1 hns).1
  refine ⟨ls++[(T.length:Int)],pl,hT',?_,?_⟩
  ·rcases hp' with h | ⟨h,rfl⟩
   ·exact .inl h
   ·refine .inr ⟨h,fun x hx=>?_⟩
    rw [htk] at hx
    rcases List.mem_append.1 hx with hx | hx
    ·rcases hpl with h' | ⟨_,h'⟩
     ·exact absurd (hsub h'.has) h
     ·exact h' x hx
    ·exact List.mem_singleton.1 hx
  ·rw [List.map_append,hP,htk,rts_snoc _ _ _ _ _ (by rw [hT.ll,List.length_take]; omega),List.map_append,List.cons_append]
   congr 1
   have:rts ls (ns.take j) pl0=rts ls (ns.take j) pl:=by
    rcases hpl with h' | ⟨_,h'⟩
    ·rw [hpp h']
    ·exact rts_zero _ _ _ _ h'
   rw [this]
   rfl
def allI (g:Grammar):List Item:=(List.range g.Prods.length).flatMap fun p=>(List.range 9).map fun d=>(⟨(p:Nat),(d:Nat)⟩:Item)
theorem allI_len (g:Grammar):(allI g).length=g.Prods.length * 9:=by
 have:∀ l:List Nat,(l.map fun _=>9).sum=l.length * 9:=fun l=>by
  induction l with
  | nil=>rfl
  | cons a l ih=>simp only [List.map_cons,List.sum_cons,ih,List.length_cons]; omega
 simp [allI,List.length_flatMap,this]
theorem mem_allI {g:Grammar}(hg:GOk g) {x:Item}(h:isI g x):x∈allI g:=by
 obtain ⟨q,hq,h0,h1⟩:=h
 obtain ⟨h2,h3,h4⟩:=idx_bd hq
 have:=hg.rn q h4
 refine List.mem_flatMap.2 ⟨x.Prod.toNat,by simp; omega,List.mem_map.2 ⟨x.Dot.toNat,by simp; omega,?_⟩⟩
 obtain ⟨a,b⟩:=x
 simp only at h0 h2 ⊢
 congr 1 <;> omega
theorem asc_len {g:Grammar}(hg:GOk g) {l:List Item}(hl:Asc ltI l) (hi:∀ x∈l,isI g x):l.length<=540:=by
 have:=nd_le (hl.nd ordI) fun x hx=>mem_allI hg (hi x hx)
 rw [allI_len] at this
 have:=hg.pn
 omega
theorem asc_get {l:List Item}(hl:Asc ltI l) {i j:Nat}(hi:i<l.length) (hj:j<l.length) (h:i<j):ltI l[i] l[j]=true:=List.pairwise_iff_getElem.1 hl i j hi hj h
theorem c74 (l:List Item) (x:Item) (hl:Asc ltI l) (hn:l.length<=100000):Tot (pf74 l x) fun r=>Asc ltI r/\(∀ y,y∈r↔y∈l\/y=x):=by
 unfold pf74
 refine .by' (Ξ:=fun z:Int=>∃ k:Nat,z=(k:Int)/\k<=l.length/\(∀ (i:Nat) (h:i<l.length),k<=i->ltI x l[i]=true)/\∀ (h:0<k),ltI x (l[k - 1]?.getD default)=false) ?_ fun z hz=>?_
 ·refine Tot.count (fun s=>-s) 1 (fun s=>∃ k:Nat,s=(k:Int)/\k<=l.length/\∀ (i:Nat) (h:i<l.length),k<=i->ltI x l[i]=true) ⟨l.length,rfl,Nat.le_refl _,fun i h hk=>by omega⟩ (by show 1 - -(l.length:Int)<_; omega) fun s hs=>?_
  obtain ⟨k,rfl,hk,hup⟩:=hs
  refine .by' (Ξ:=fun c:Bool=>(c=true->0<k/\ltI x (l[k - 1]?.getD default)=true)/\(c=false->∀ (h:0<k),ltI x (l[k - 1]?.getD default)=false)) ?_ fun c hc=>Tot.cd (fun h=>?_) (fun h=>.so ⟨k,rfl,hk,hup,hc.2 h⟩)
  ·refine Tot.cp (fun h=>?_) (fun h=>.so ⟨fun h'=>(by cases h'),fun _ h'=>by omega⟩)
   have hk1:k - 1<l.length:=by omega
   have hw:w64 ((k:Int) - 1)=((k - 1:Nat):Int):=by rw [w64_eq]; omega
   rw [hw,idx_nat hk1,List.getElem?_eq_getElem hk1]
   simp only [Option.bind_some,Option.getD_some]
   generalize l[k - 1]=y
   refine Tot.cp (fun h1=>.so ⟨fun _=>⟨by omega,ltI_iff.2 (.inl h1)⟩,fun h'=>(by cases h')⟩) (fun h1=>Tot.cp (fun h2=>.so ⟨fun h3=>⟨by omega,ltI_iff.2 (.inr ⟨h2.symm,of_decide_eq_true h3⟩)⟩,fun h3 _=>?_⟩) (fun h2=>.so ⟨fun h'=>(by cases h'),fun _ _=>?_⟩))
   ·have:=of_decide_eq_false h3
    rw [ltI_not]; omega
   ·rw [ltI_not]; omega
  ·obtain ⟨h0,h1⟩:=hc.1 h
   refine .so ⟨⟨k - 1,by rw [w64_eq]; omega,by omega,fun i hi hki=>?_⟩,by show -(k:Int) < -w64 _; rw [w64_eq]; omega,by show -w64 _<=1; rw [w64_eq]; omega⟩
   by_cases e:i=k - 1
   ·subst e
    rw [List.getElem?_eq_getElem hi] at h1
    exact h1
   ·exact hup i hi (by omega)
 ·obtain ⟨k,rfl,hk,hup,hlo⟩:=hz
  refine .by' (Ξ:=fun c:Bool=>(c=true↔(0<k/\l[k - 1]?.getD default=x))) ?_ fun c hc=>Tot.cd (fun h=>?_) (fun h=>?_)
  ·refine Tot.cp (fun h=>?_) (fun h=>.so ⟨fun h'=>(by cases h'),fun h'=>by omega⟩)
   have hk1:k - 1<l.length:=by omega
   have hw:w64 ((k:Int) - 1)=((k - 1:Nat):Int):=by rw [w64_eq]; omega
   rw [hw,idx_nat hk1,List.getElem?_eq_getElem hk1]
   simp only [Option.bind_some,Option.getD_some]
   generalize l[k - 1]=y
   refine .so ?_
   obtain ⟨y1,y2⟩:=y
   obtain ⟨x1,x2⟩:=x
   simp only [Bool.and_true,Bool.and_eq_true,decide_eq_true_eq,Item.mk.injEq]
   exact ⟨fun h'=>⟨by omega,h'⟩,fun h'=>h'.2⟩
  ·obtain ⟨h0,h1⟩:=hc.1 h
   have hk1:k - 1<l.length:=by omega
   rw [List.getElem?_eq_getElem hk1] at h1
   have hx:x∈l:=by rw [<- h1]; exact List.getElem_mem hk1
   exact .so ⟨hl,fun y=>⟨.inl,fun h=>h.elim id fun e=>e ▸ hx⟩⟩
  ·have hne:∀ (i:Nat) (hi:i<l.length),i<k->ltI l[i] x=true:=by
    intro i hi hik
    have hk1:k - 1<l.length:=by omega
    have hlo:=hlo (by omega)
    have hn:l[k - 1]?.getD default≠x:=fun e=>by rw [hc.2 ⟨by omega,e⟩] at h; cases h
    rw [List.getElem?_eq_getElem hk1] at hlo hn
    simp only [Option.getD_some] at hlo hn
    have hk2:ltI l[k - 1] x=true:=by
     cases hh:ltI l[k - 1] x with
     | true=>rfl
     | false=>exact absurd (ordI.tot _ _ hh hlo) hn
    by_cases e:i=k - 1
    ·subst e; exact hk2
    ·exact ordI.swo.trans _ _ _ (asc_get hl hi hk1 (by omega)) hk2
   refine .by' (Ξ:=fun z=>z=l.take k) (Tot.sub ⟨by omega,by omega,by omega⟩ (by simp)) fun z hz=>?_
   subst hz
   refine .by' (Ξ:=fun _=>True) (Tot.ap (by simp [lim]; omega) trivial) fun _ _=>.by' (Ξ:=fun _=>True) (Tot.ap (by simp [lim]; omega) trivial) fun _ _=>?_
   refine .by' (Ξ:=fun z=>z=l.drop k) (Tot.sub ⟨by omega,by omega,by omega⟩ ?_) fun z hz=>?_
   ·rw [List.take_of_length_le]
    ·congr 1
    ·rw [List.length_drop]; omega
   subst hz
   refine .by' (Ξ:=fun _=>True) (Tot.ap (by simp [lim]; omega) trivial) fun _ _=>.so ?_
   rw [List.nil_append]
   constructor
   ·have h1:∀ a∈l.take k,ltI a x=true:=by
     intro a ha
     obtain ⟨i,hi,rfl⟩:=List.mem_iff_getElem.1 ha
     rw [List.length_take] at hi
     rw [List.getElem_take]
     exact hne i (by omega) (by omega)
    have h2:∀ a∈l.drop k,ltI x a=true:=by
     intro a ha
     obtain ⟨i,hi,rfl⟩:=List.mem_iff_getElem.1 ha
     rw [List.length_drop] at hi
     rw [List.getElem_drop]
     exact hup (k+i) (by omega) (by omega)
    unfold Asc
    rw [List.append_assoc,List.pairwise_append]
    refine ⟨List.Pairwise.sublist (List.take_sublist k l) hl,?_,fun a ha b hb=>?_⟩
    ·rw [List.singleton_append,List.pairwise_cons]
     exact ⟨h2,List.Pairwise.sublist (List.drop_sublist k l) hl⟩
    ·rcases List.mem_append.1 hb with hb | hb
     ·rw [List.mem_singleton.1 hb]; exact h1 a ha
     ·exact ordI.swo.trans _ _ _ (h1 a ha) (h2 b hb)
   ·intro y
    rw [List.append_assoc,List.mem_append,List.mem_append,List.mem_singleton]
    have hm:y∈l↔y∈l.take k\/y∈l.drop k:=by
     rw [<- List.mem_append,List.take_append_drop]
    rw [hm]
    constructor
    ·rintro (h | h | h)
     ·exact .inl (.inl h)
     ·exact .inr h
     ·exact .inl (.inr h)
    ·rintro ((h | h) | h)
     ·exact .inl h
     ·exact .inr (.inr h)
     ·exact .inr (.inl h)
theorem c73 (g:Grammar) (hg:GOk g) (l:List Item) (hl:l.length<=1000000):Tot (pf73 g l) fun r=>Asc ltI r/\∀ x,x∈r↔x∈l/\isI g x:=by
 unfold pf73
 refine .by' (Ξ:=fun r=>Asc ltI r/\∀ x,x∈r↔x∈l/\isI g x) ?_ fun r hr=>.so hr
 refine Tot.count (fun s=>s.2) l.length (fun s=>∃ k:Nat,k<=l.length/\s.2=(k:Int)/\Asc ltI s.1/\∀ x,x∈s.1↔x∈l.take k/\isI g x) ⟨0,Nat.zero_le _,rfl,List.Pairwise.nil,fun x=>by simp⟩ (by show (l.length:Int) - 0<_; omega) fun s hs=>?_
 obtain ⟨out,k'⟩:=s
 obtain ⟨k,hk,rfl,ha,hm⟩:=hs
 simp only at ha hm ⊢
 rw [w64n k (by omega)]
 refine Tot.cp (fun hlt=>?_) (fun hge=>.so ?_)
 ·have hlt:k<l.length:=by omega
  rw [idx_nat hlt]
  refine .by' (Ξ:=fun o:List Item=>Asc ltI o/\∀ x,x∈o↔x∈l.take (k+1)/\isI g x) ?_ fun o ho=>.so ⟨⟨k+1,by omega,rfl,ho⟩,by show (k:Int)<((k+1:Nat):Int); omega,by show ((k+1:Nat):Int)<=_; omega⟩
  obtain ⟨c,hc,hi⟩:=e69 g l[k]
  rw [take_snoc' hlt]
  refine Tot.sm ?_
  rw [hc]
  refine Tot.sm (.by' (Ξ:=fun o:List Item=>Asc ltI o/\∀ x,x∈o↔x∈l.take k++[l[k]]/\isI g x) (Tot.cd (fun h=>?_) (fun h=>.so ⟨ha,fun x=>?_⟩)) fun o ho=>.so ho)
  ·have hol:=asc_len hg ha fun x hx=>((hm x).1 hx).2
   refine Tot.sm (.by' (c74 out _ ha (by omega)) fun o ho=>.so ⟨ho.1,fun x=>?_⟩)
   rw [ho.2 x,List.mem_append,List.mem_singleton,hm x]
   constructor
   ·rintro (⟨h1,h2⟩ | rfl)
    ·exact ⟨.inl h1,h2⟩
    ·exact ⟨.inr rfl,hi.1 h⟩
   ·rintro ⟨h1 | rfl,h2⟩
    ·exact .inl ⟨h1,h2⟩
    ·exact .inr rfl
  ·rw [List.mem_append,List.mem_singleton,hm x]
   constructor
   ·rintro ⟨h1,h2⟩
    exact ⟨.inl h1,h2⟩
   ·rintro ⟨h1 | rfl,h2⟩
    ·exact ⟨h1,h2⟩
    ·rw [hi.2 h2] at h; cases h
 ·have:k=l.length:=by omega
  subst this
  rw [List.take_length] at hm
  exact ⟨ha,hm⟩
def Closed (g:Grammar) (out:List Item) (x:Item):Prop:=1000<=nx g x->∀ (p:Nat) (q:Prod),g.Prods[p]?=some q->q.Left=nx g x - 1000->(⟨p,0⟩:Item)∈out
theorem c37 (g:Grammar) (hg:GOk g) (l:List Item) (hl:l.length<=1000000):Tot (pf37 g l) fun r=>Asc ltI r/\∀ x,x∈r↔Cl g l x:=by
 have hpn:=hg.pn
 unfold pf37
 refine .by' (c73 g hg l hl) fun x1 h1=>.by' (Ξ:=fun r=>Asc ltI r/\∀ x,x∈r↔Cl g l x) ?_ fun r hr=>.so hr
 obtain ⟨ha1,hm1⟩:=h1
 refine Tot.loop (fun s=>Asc ltI s.1/\(∀ x∈s.1,Cl g l x)/\(∀ x∈l,isI g x->x∈s.1)/\(s.2=(s.1.length:Int)->∀ x∈s.1,Closed g s.1 x)) (fun s=>2 * (1000 - s.1.length)+(if s.2=(s.1.length:Int) then 0 else 1)) ⟨ha1,fun x hx=>.base ((hm1 x).1 hx).1 ((hm1 x).1 hx).2,fun x hx hi=>(hm1 x).2 ⟨hx,hi⟩,fun h=>by have h:(-1:Int)=_:=h; omega⟩ (by
  show 2 * (1000 - x1.length)+(if (-1:Int)=_ then 0 else 1)<1000000000000000000
  split <;> omega) fun s hs=>?_
 obtain ⟨out,n⟩:=s
 obtain ⟨ha,hsub,hbase,hcl⟩:=hs
 simp only at ha hsub hbase hcl ⊢
 have hol:=asc_len hg ha fun x hx=>(hsub x hx).isI
 refine Tot.cn (fun hne=>?_) (fun he=>.so ⟨ha,fun x=>⟨hsub x,fun hx=>?_⟩⟩)
 ·refine .by' (Ξ:=fun j:List Item × Int=>j.2=(out.length:Int)/\Asc ltI j.1/\(∀ x∈j.1,Cl g l x)/\(∀ x∈out,x∈j.1)/\(j.1.length=out.length->∀ x∈j.1,Closed g j.1 x)) ?_ fun j hj=>?_
  ·refine .by' (Ξ:=fun r:List Item=>Asc ltI r/\(∀ x∈r,Cl g l x)/\(∀ x∈out,x∈r)/\(r.length=out.length->∀ x∈r,Closed g r x)) ?_ fun r hr=>.so ⟨rfl,hr⟩
   refine .by' (Ξ:=fun r:List Item=>Asc ltI r/\(∀ x∈r,Cl g l x)/\(∀ x∈out,x∈r)/\(r.length=out.length->∀ x∈r,Closed g r x)) ?_ fun r hr=>.so hr
   refine Tot.count (fun s=>s.2) out.length (fun s=>∃ k:Nat,k<=out.length/\s.2=(k:Int)/\s.1=out/\∀ (j:Nat) (h:j<out.length),j<k->Closed g out out[j]) ⟨0,Nat.zero_le _,rfl,rfl,fun j _ hj=>absurd hj (Nat.not_lt_zero _)⟩ (by show (out.length:Int) - 0<_; omega) fun s hs=>?_
   obtain ⟨cur,k'⟩:=s
   obtain ⟨k,hk,rfl,rfl,hdone⟩:=hs
   simp only
   rw [w64n k (by omega)]
   refine Tot.cp (fun hlt=>?_) (fun hge=>.so ⟨ha,hsub,fun _ h=>h,fun _ x hx=>?_⟩)
   ·have hlt:k<cur.length:=by omega
    rw [idx_nat hlt]
    have hxm:=hsub _ (List.getElem_mem hlt)
    have hxe:∀ P:Item->Prop,P cur[k]->∀ (j:Nat) (h:j<cur.length),j=k->P cur[j]:=fun P hP j h e=>by subst e; exact hP
    generalize hx:cur[k]=x at *
    have hnb:=nx_bd hg x
    have hw:w64 (nx g x - 1000)=nx g x - 1000:=by rw [w64_eq]; omega
    simp only [Option.bind_some,e33 g x,hw]
    refine (.by' (Ξ:=fun r:List Item=>Asc ltI r/\(∀ x∈r,Cl g l x)/\(∀ x∈cur,x∈r)/\Closed g r x) ?_ fun r hr=>?_)
    ·refine Tot.count (fun s=>s.2) g.Prods.length (fun s=>∃ i:Nat,i<=g.Prods.length/\s.2=(i:Int)/\Asc ltI s.1/\(∀ x∈s.1,Cl g l x)/\(∀ x∈cur,x∈s.1)/\∀ (p:Nat) (q:Prod),p<i->g.Prods[p]?=some q->q.Left=nx g x - 1000->(⟨p,0⟩:Item)∈s.1) ⟨0,Nat.zero_le _,rfl,ha,hsub,fun _ h=>h,fun p q hp=>absurd hp (Nat.not_lt_zero _)⟩ (by show (g.Prods.length:Int) - 0<_; omega) fun s hs=>?_
     obtain ⟨o,i'⟩:=s
     obtain ⟨i,hi,rfl,hoa,hoc,hos,hop⟩:=hs
     simp only at hoa hoc hos hop ⊢
     rw [w64n i (by omega)]
     refine .by' (Ξ:=fun c:Bool=>(c=true->i<g.Prods.length/\1000<=nx g x)/\(c=false->g.Prods.length<=i\/nx g x<1000)) (Tot.cp (fun h=>.so ⟨fun h'=>⟨by omega,of_decide_eq_true h'⟩,fun h'=>.inr (by have:=of_decide_eq_false h'; omega)⟩) (fun h=>.so ⟨fun h'=>(by cases h'),fun _=>.inl (by omega)⟩)) fun c hc=>Tot.cd (fun h=>?_) (fun h=>.so ⟨hoa,hoc,hos,fun h0 p q hp=>?_⟩)
     ·obtain ⟨hlti,h0⟩:=hc.1 h
      have hpi:g.Prods[i]?=some g.Prods[i]:=List.getElem?_eq_getElem hlti
      rw [idx_nat hlti]
      refine .by' (Ξ:=fun o:List Item=>Asc ltI o/\(∀ x∈o,Cl g l x)/\(∀ x∈cur,x∈o)/\∀ (p:Nat) (q:Prod),p<i+1->g.Prods[p]?=some q->q.Left=nx g x - 1000->(⟨p,0⟩:Item)∈o) ?_ fun o ho=>.so ⟨⟨i+1,by omega,rfl,ho⟩,by show (i:Int)<((i+1:Nat):Int); omega,by show ((i+1:Nat):Int)<=_; omega⟩
      refine Tot.sm (.by' (Ξ:=fun o:List Item=>Asc ltI o/\(∀ x∈o,Cl g l x)/\(∀ x∈cur,x∈o)/\∀ (p:Nat) (q:Prod),p<i+1->g.Prods[p]?=some q->q.Left=nx g x - 1000->(⟨p,0⟩:Item)∈o) (Tot.cp (fun h=>?_) (fun h=>.so ⟨hoa,hoc,hos,fun p q hp hpq hq=>?_⟩)) fun o ho=>.so ho)
      ·have hll:=asc_len hg hoa fun x hx=>(hoc x hx).isI
       refine .by' (c74 o ⟨(i:Nat),0⟩ hoa (by omega)) fun r hr=>.so ⟨hr.1,fun y hy=>?_,fun y hy=>(hr.2 y).2 (.inl (hos y hy)),fun p q hp hpq hq=>?_⟩
       ·rcases (hr.2 y).1 hy with hy | rfl
        ·exact hoc y hy
        ·exact .step hxm hpi (by omega) h0
       ·by_cases e1:p=i
        ·subst e1; exact (hr.2 _).2 (.inr rfl)
        ·exact (hr.2 _).2 (.inl (hop p q (by omega) hpq hq))
      ·by_cases e1:p=i
       ·subst e1
        rw [hpi] at hpq; cases hpq
        exact absurd hq h
       ·exact hop p q (by omega) hpq hq
     ·rcases hc.2 h with h1 | h1
      ·exact hop p q (by have:=(List.getElem?_eq_some_iff.1 hp).1; omega) hp
      ·omega
    ·obtain ⟨hra,hrc,hrs,hrx⟩:=hr
     have hle:cur.length<=r.length:=nd_le (ha.nd ordI) hrs
     refine Tot.cn (fun hnl=>.so ⟨hra,hrc,hrs,fun e=>absurd (by omega) hnl⟩) (fun heq=>?_)
     have hrl:r.length=cur.length:=by omega
     have hsame:r=cur:=by
      have hmem:∀ y,y∈cur↔y∈r:=by
       intro y
       refine ⟨hrs y,fun hy=>Classical.byContradiction fun hn=>?_⟩
       have:=nd_le (l:=y::cur) (m:=r) (List.nodup_cons.2 ⟨hn,ha.nd ordI⟩) fun z hz=>by
        rcases List.mem_cons.1 hz with rfl | hz
        ·exact hy
        ·exact hrs z hz
       simp at this
       omega
      exact (Asc.uniq ordI ha hra hmem).symm
     subst hsame
     refine .so ⟨⟨k+1,by omega,rfl,rfl,fun j hj hjk=>?_⟩,by show (k:Int)<((k+1:Nat):Int); omega,by show ((k+1:Nat):Int)<=_; omega⟩
     by_cases e1:j=k
     ·exact hxe (Closed g r) hrx j hj e1
     ·exact hdone j hj (by omega)
   ·obtain ⟨j,hj,rfl⟩:=List.mem_iff_getElem.1 hx
    exact hdone j hj (by omega)
  ·obtain ⟨h1,h2,h3,h4,h5⟩:=hj
   have hle:out.length<=j.1.length:=nd_le (ha.nd ordI) h4
   have hjl:=asc_len hg h2 fun x hx=>(h3 x hx).isI
   refine .so ⟨⟨h2,h3,fun x hx hi=>h4 x (hbase x hx hi),fun e=>h5 (by show j.1.length=_; have e:j.2=(j.1.length:Int):=e; omega)⟩,?_⟩
   show 2 * (1000 - j.1.length)+(if j.2=(j.1.length:Int) then 0 else 1)<2 * (1000 - out.length)+(if n=(out.length:Int) then 0 else 1)
   rw [if_neg hne]
   split
   ·omega
   ·have:j.1.length≠out.length:=fun e=>by omega
    omega
 ·have hc:=hcl he
  induction hx with
  | base h hi=>exact hbase _ h hi
  | @step x q p h hp hn h0 ih=>exact hc x ih h0 p q hp (by omega)
def Ov (g:Grammar) (l:List Item) (a:Int) (y:Item):Prop:=∃ x,Cl g l x/\nx g x=a/\0<=a/\y=⟨x.Prod,x.Dot+1⟩
theorem isI_step {g:Grammar}(hg:GOk g) {x:Item}(h:0<=nx g x):isI g ⟨x.Prod,x.Dot+1⟩:=by
 obtain ⟨_,_,q,hq,hs⟩:=nx_ok hg h
 obtain ⟨h0,h1,_⟩:=idx_bd hs
 exact ⟨q,hq,by show 0<=x.Dot+1; omega,by show x.Dot+1<=_; omega⟩
theorem isI_dot {g:Grammar}(hg:GOk g) {x:Item}(h:isI g x):0<=x.Dot/\x.Dot<=8:=by
 obtain ⟨q,hq,h0,h1⟩:=h
 have:=hg.rn q (idx_bd hq).2.2
 omega
theorem ltI_succ {a b:Item}(h:ltI a b=true):ltI ⟨a.Prod,a.Dot+1⟩ ⟨b.Prod,b.Dot+1⟩=true:=by
 rw [ltI_iff] at h ⊢
 show a.Prod<b.Prod\/a.Prod=b.Prod/\a.Dot+1<b.Dot+1
 omega
theorem c75 (g:Grammar) (hg:GOk g) (l c:List Item) (a:Int) (hc:Asc ltI c/\∀ x,x∈c↔Cl g l x):Tot (pf75 g c a) fun r=>Asc ltI r/\∀ y,y∈r↔Ov g l a y:=by
 have hcl:=asc_len hg hc.1 fun x hx=>((hc.2 x).1 hx).isI
 unfold pf75
 refine .by' (Ξ:=fun r=>Asc ltI r/\∀ y,y∈r↔Ov g l a y) ?_ fun r hr=>.so hr
 refine Tot.count (fun s=>s.2) c.length (fun s=>∃ k:Nat,k<=c.length/\s.2=(k:Int)/\s.1=((c.take k).filter fun x=>decide (0<=nx g x/\nx g x=a)).map fun x=>(⟨x.Prod,x.Dot+1⟩:Item)) ⟨0,Nat.zero_le _,rfl,rfl⟩ (by show (c.length:Int) - 0<_; omega) fun s hs=>?_
 obtain ⟨o,k'⟩:=s
 obtain ⟨k,hk,rfl,ho⟩:=hs
 simp only at ho ⊢
 rw [w64n k (by omega)]
 have hol:o.length<=540:=by
  have hfl:=List.length_filter_le (fun x=>decide (0<=nx g x/\nx g x=a)) (c.take k)
  rw [List.length_take] at hfl
  rw [ho,List.length_map]; omega
 refine Tot.cp (fun hlt=>?_) (fun hge=>.so ?_)
 ·have hlt:k<c.length:=by omega
  have hxi:=((hc.2 _).1 (List.getElem_mem hlt)).isI
  have htk:c.take (k+1)=c.take k++[c[k]]:=take_snoc' hlt
  rw [idx_nat hlt]
  generalize c[k]=x at *
  have hd:=isI_dot hg hxi
  have hw:w64 (x.Dot+1)=x.Dot+1:=by rw [w64_eq]; omega
  refine .by' (Ξ:=fun o:List Item=>o=((c.take (k+1)).filter fun x=>decide (0<=nx g x/\nx g x=a)).map fun x=>(⟨x.Prod,x.Dot+1⟩:Item)) ?_ fun o ho=>.so ⟨⟨k+1,by omega,rfl,ho⟩,by show (k:Int)<((k+1:Nat):Int); omega,by show ((k+1:Nat):Int)<=_; omega⟩
  refine Tot.sm ?_
  rw [e32 g x,hw,htk,List.filter_append,List.map_append,<- ho]
  refine Tot.sm (.by' (Ξ:=fun b:Bool=>b=decide (0<=nx g x/\nx g x=a)) (Tot.cp (fun h=>.so (by simp [h])) (fun h=>.so (by simp [h]))) fun b hb=>?_)
  subst hb
  refine .by' (Ξ:=fun o':List Item=>o'=o++([x].filter fun x=>decide (0<=nx g x/\nx g x=a)).map fun x=>(⟨x.Prod,x.Dot+1⟩:Item)) (Tot.cp (fun h=>?_) (fun h=>.so ?_)) fun o ho=>.so ho
  ·refine .by' (Ξ:=fun _=>True) (Tot.ap (by simp [lim]; omega) trivial) fun _ _=>.so ?_
   rw [List.filter_cons,if_pos (by simpa using h)]; rfl
  ·rw [List.filter_cons,if_neg (by simpa using h)]; simp
 ·have:k=c.length:=by omega
  subst this
  rw [List.take_length] at ho
  rw [ho]
  refine ⟨?_,fun y=>?_⟩
  ·unfold Asc
   rw [List.pairwise_map]
   exact (List.Pairwise.sublist List.filter_sublist hc.1).imp fun h=>ltI_succ h
  ·rw [List.mem_map]
   constructor
   ·rintro ⟨x,hx,rfl⟩
    rw [List.mem_filter,decide_eq_true_eq] at hx
    exact ⟨x,(hc.2 x).1 hx.1,hx.2.2,by omega,rfl⟩
   ·rintro ⟨x,hx,h1,h2,rfl⟩
    exact ⟨x,by rw [List.mem_filter,decide_eq_true_eq]; exact ⟨(hc.2 x).2 hx,by omega,h1⟩,rfl⟩
theorem c38 (g:Grammar) (hg:GOk g) (l:List Item) (a:Int) (hl:l.length<=1000000):Tot (pf38 g l a) fun r=>Asc ltI r/\∀ y,y∈r↔Ov g l a y:=by
 unfold pf38
 exact .by' (c36 g hg l hl) fun c hc=>.by' (c75 g hg l c a hc) fun r hr=>.so hr
theorem Ov.isI {g:Grammar}(hg:GOk g) {l:List Item}{a:Int}{y:Item}(h:Ov g l a y):isI g y:=by
 obtain ⟨x,_,h1,h2,rfl⟩:=h
 exact isI_step hg (by omega)
theorem c39 (g:Grammar) (hg:GOk g) (l:List Item) (a:Int) (hl:l.length<=1000000):Tot (pf39 g l a) fun r=>Asc ltI r/\∀ y,y∈r↔Ov g l a y:=by
 unfold pf39
 refine .by' (c37 g hg l hl) fun c hc=>.by' (Ξ:=fun r=>Asc ltI r/\∀ y,y∈r↔Ov g l a y) ?_ fun r hr=>.so hr
 have hcl:=asc_len hg hc.1 fun x hx=>((hc.2 x).1 hx).isI
 refine Tot.count (fun s=>s.2) c.length (fun s=>∃ k:Nat,k<=c.length/\s.2=(k:Int)/\Asc ltI s.1/\∀ y,y∈s.1↔∃ x∈c.take k,nx g x=a/\0<=a/\y=⟨x.Prod,x.Dot+1⟩) ⟨0,Nat.zero_le _,rfl,List.Pairwise.nil,fun y=>by simp⟩ (by show (c.length:Int) - 0<_; omega) fun s hs=>?_
 obtain ⟨o,k'⟩:=s
 obtain ⟨k,hk,rfl,hoa,hom⟩:=hs
 simp only at hoa hom ⊢
 rw [w64n k (by omega)]
 refine Tot.cp (fun hlt=>?_) (fun hge=>.so ⟨hoa,fun y=>?_⟩)
 ·have hlt:k<c.length:=by omega
  have hxi:=((hc.2 _).1 (List.getElem_mem hlt)).isI
  have htk:c.take (k+1)=c.take k++[c[k]]:=take_snoc' hlt
  rw [idx_nat hlt]
  generalize c[k]=x at *
  have hd:=isI_dot hg hxi
  have hw:w64 (x.Dot+1)=x.Dot+1:=by rw [w64_eq]; omega
  refine .by' (Ξ:=fun o:List Item=>Asc ltI o/\∀ y,y∈o↔∃ x∈c.take (k+1),nx g x=a/\0<=a/\y=⟨x.Prod,x.Dot+1⟩) ?_ fun o ho=>.so ⟨⟨k+1,by omega,rfl,ho⟩,by show (k:Int)<((k+1:Nat):Int); omega,by show ((k+1:Nat):Int)<=_; omega⟩
  have hmem:∀ y,(∃ z∈c.take (k+1),nx g z=a/\0<=a/\y=(⟨z.Prod,z.Dot+1⟩:Item))↔(y∈o\/(nx g x=a/\0<=a/\y=⟨x.Prod,x.Dot+1⟩)):=by
   intro y
   rw [hom y,htk]
   constructor
   ·rintro ⟨z,hz,h⟩
    rcases List.mem_append.1 hz with hz | hz
    ·exact .inl ⟨z,hz,h⟩
    ·rw [List.mem_singleton.1 hz] at h; exact .inr h
   ·rintro (⟨z,hz,h⟩ | h)
    ·exact ⟨z,by simp [hz],h⟩
    ·exact ⟨x,by simp,h⟩
  simp only [Option.bind_some,e33 g x,hw]
  refine (.by' (Ξ:=fun b:Bool=>b=decide (0<=nx g x/\nx g x=a)) (Tot.cp (fun h=>.so (by simp [h])) (fun h=>.so (by simp [h]))) fun b hb=>?_)
  subst hb
  refine .by' (Ξ:=fun o:List Item=>Asc ltI o/\∀ y,y∈o↔∃ x∈c.take (k+1),nx g x=a/\0<=a/\y=⟨x.Prod,x.Dot+1⟩) (Tot.cp (fun h=>?_) (fun h=>.so ⟨hoa,fun y=>?_⟩)) fun o ho=>.so ho
  ·have hol:=asc_len hg hoa fun y hy=>by
    obtain ⟨z,_,h1,h2,rfl⟩:=(hom y).1 hy
    exact isI_step hg (by omega)
   refine (.by' (c74 o _ hoa (by omega)) fun r hr=>.so ⟨hr.1,fun y=>?_⟩)
   rw [hr.2 y,hmem y]
   constructor
   ·rintro (h1 | h1)
    ·exact .inl h1
    ·exact .inr ⟨h.2,by omega,h1⟩
   ·rintro (h1 | h1)
    ·exact .inl h1
    ·exact .inr h1.2.2
  ·rw [hmem y]
   exact ⟨.inl,fun h'=>h'.elim id fun h'=>absurd ⟨by omega,h'.1⟩ h⟩
 ·have:k=c.length:=by omega
  subst this
  rw [List.take_length] at hom
  rw [hom y]
  constructor
  ·rintro ⟨x,hx,h⟩
   exact ⟨x,(hc.2 x).1 hx,h⟩
  ·rintro ⟨x,hx,h⟩
   exact ⟨x,(hc.2 x).2 hx,h⟩
abbrev nErr:ByteArray:={ data:=#[101,114,114,111,114] }
abbrev cod1:ByteArray:={ data:=#[123,36,36,32,61,32,36,49,125] }
abbrev cod2:ByteArray:={ data:=#[123,102,40,36,36,41,125] }
def Ltr:List ByteArray:=[⟨#[112]⟩,⟨#[113]⟩,⟨#[114]⟩,⟨#[115]⟩]
def NT4:List ByteArray:=[⟨#[97]⟩,⟨#[98]⟩,⟨#[99]⟩,⟨#[100]⟩]
def LT:List Sym:=[⟨⟨#[112]⟩,true,0,0⟩,⟨⟨#[113]⟩,true,0,0⟩,⟨⟨#[114]⟩,true,0,0⟩,⟨⟨#[115]⟩,true,0,0⟩]
def NT:List Sym:=[⟨⟨#[97]⟩,false,0,0⟩,⟨⟨#[98]⟩,false,0,0⟩,⟨⟨#[99]⟩,false,0,0⟩,⟨⟨#[100]⟩,false,0,0⟩,⟨nErr,false,0,0⟩]
abbrev syN:Sym:=⟨nE,false,0,0⟩
def PartN (L:List ByteArray) (p:Part):Prop :=
 (∃ x,x∈LT/\p=⟨x,nE,0⟩)\/(∃ x,x∈NT/\p=⟨x,nE,0⟩/\x.Name∈nErr::L)\/p=⟨syN,cod1,0⟩\/p=⟨syN,cod2,0⟩
structure AltN (L:List ByteArray) (a:Alt):Prop where
 n:a.Parts.length<=6
 parts:∀ p∈a.Parts,PartN L p
 prec:a.Prec=syN
structure RuleN (L:List ByteArray) (r:Rule):Prop where
 left:r.Left∈L
 n:1<=r.Alts.length/\r.Alts.length<=13
 alts:∀ a∈r.Alts,AltN L a
structure DeclN (d:Decl):Prop where
 kind:2<=d.Kind/\d.Kind<=4
 tag:d.Tag=nE
 n:1<=d.Syms.length/\d.Syms.length<=4
 syms:∀ x∈d.Syms,x∈LT
def codes (l:List Part):Nat:=(l.filter fun p=>!decide (p.Code=nE)).length
def cA (l:List Alt):Nat:=(l.map fun a=>codes a.Parts).sum
def nA (l:List Rule):Nat:=(l.map fun r=>r.Alts.length).sum
def nC (l:List Rule):Nat:=(l.map fun r=>cA r.Alts).sum
def names (l:List Decl):List ByteArray:=(l.flatMap (·.Syms)).map (·.Name)
structure SrcN (s:Source):Prop where
 pro:s.Pro=nE
 decls:∀ d∈s.Decls,DeclN d
 dn:s.Decls.length<=4
 nd:(names s.Decls).Nodup
 rules:∀ r∈s.Rules,RuleN (s.Rules.map (·.Left)) r
 lefts:∀ r∈s.Rules,r.Left∈NT4
 rn:1<=s.Rules.length/\s.Rules.length<=4
 na:nA s.Rules<=13
 nc:nC s.Rules<=18
theorem n133:pf133 syN=some true:=by kernel_rfl
theorem nd_len {α:Type} [DecidableEq α]:∀ (l m:List α),l.Nodup->(∀ x∈l,x∈m)->l.length<=m.length
 | [],_,_,_=>Nat.zero_le _
 | x::l,m,hd,hm=>by
  have hx:=hm x (by simp)
  have hd':=List.nodup_cons.1 hd
  have:=nd_len l (m.erase x) hd'.2 fun y hy=>by
   have hne:y≠x:=fun e=>hd'.1 (e ▸ hy)
   exact (List.mem_erase_of_ne hne).2 (hm y (by simp [hy]))
  have hl:=List.length_erase_of_mem hx
  have hp:=List.length_pos_of_mem hx
  simp only [List.length_cons]
  omega
structure K0 (m:Mk) (ns:List ByteArray):Prop where
 e:m.f_e=0
 tk:∃ l:List Tok,m.f_g.Toks=T3++l/\l.map (·.Name)=ns/\∀ t∈l,t.Lit=true/\t.Name∈Ltr/\t.Num=byteAt t.Name 0/\t.Tag=nE
 gv:m.f_given.length=m.f_g.Toks.length
 nd:ns.Nodup
theorem K0.mem {m:Mk}{ns:List ByteArray}(h:K0 m ns):∀ n∈ns,n∈Ltr:=by
 obtain ⟨l,_,rfl,hl⟩:=h.tk
 intro n hn
 obtain ⟨t,ht,rfl⟩:=List.mem_map.1 hn
 exact (hl t ht).2.1
theorem K0.len {m:Mk}{ns:List ByteArray}(h:K0 m ns):m.f_g.Toks.length=3+ns.length/\ns.length<=4:=by
 have h4:=nd_len ns Ltr h.nd h.mem
 obtain ⟨l,e,rfl,hl⟩:=h.tk
 refine ⟨by rw [e]; simp [T3]; omega,h4⟩
structure Rs (m m':Mk):Prop where
 lf:m'.f_lefts=m.f_lefts
 pr:m'.f_g.Prods=m.f_g.Prods
 inn:m'.f_inner=m.f_inner
 ty:m'.f_types=m.f_types
 lvl:m'.f_level=m.f_level
theorem Rs.rf (m:Mk):Rs m m:=⟨rfl,rfl,rfl,rfl,rfl⟩
structure KA (m:Mk) (lf:List ByteArray) (Q I:Nat):Prop where
 k:∃ ns,K0 m ns
 lf:m.f_lefts=lf
 q:m.f_g.Prods.length<=Q
 i:0<=m.f_inner/\m.f_inner<=I
 r:∀ p∈m.f_g.Prods,p.Right.length<=8
 ty:m.f_types.length<=100
theorem KA.mono {m:Mk}{lf:List ByteArray}{Q I Q' I':Nat}(h:KA m lf Q I) (hQ:Q<=Q') (hI:I<=I'):KA m lf Q' I' :=
 ⟨h.k,h.lf,Nat.le_trans h.q hQ,⟨h.i.1,by have:=h.i.2; omega⟩,h.r,h.ty⟩
theorem K0.lvl {m:Mk}{ns:List ByteArray}(h:K0 m ns) (l:Int):K0 (⟨m.f_g,m.f_given,m.f_types,m.f_lefts,m.f_e,m.f_at,m.f_name,l,m.f_inner⟩:yuccaref9_maker) ns:=⟨h.e,h.tk,h.gv,h.nd⟩
structure KD (m:Mk) (ns:List ByteArray):Prop where
 k:K0 m ns
 lf:m.f_lefts=[]
 pr:m.f_g.Prods=[]
 inn:m.f_inner=0
 ty:m.f_types=[]
structure DeclM (n:Nat) (d:Decl):Prop where
 kind:2<=d.Kind/\d.Kind<=4
 tag:d.Tag=nE
 n:1<=d.Syms.length/\d.Syms.length<=n
 syms:∀ x∈d.Syms,x∈LT
theorem DeclM.mono {n m:Nat}{d:Decl}(h:DeclM n d) (hm:n<=m):DeclM m d:=⟨h.kind,h.tag,⟨h.n.1,Nat.le_trans h.n.2 hm⟩,h.syms⟩
theorem sum_set (f:Rule->Nat):∀ (l:List Rule) (k:Nat) (r r':Rule),l[k]?=some r->((l.set k r').map f).sum+f r=(l.map f).sum+f r'
 | x::l,0,r,r',h=>by
  simp only [List.getElem?_cons_zero,Option.some.injEq] at h
  subst h
  simp only [List.set_cons_zero,List.map_cons,List.sum_cons]
  omega
 | x::l,k+1,r,r',h=>by
  simp only [List.getElem?_cons_succ] at h
  have:=sum_set f l k r r' h
  simp only [List.set_cons_succ,List.map_cons,List.sum_cons]
  omega
theorem left_set:∀ (l:List Rule) (k:Nat) (r r':Rule),l[k]?=some r->r'.Left=r.Left->(l.set k r').map (·.Left)=l.map (·.Left)
 | x::l,0,r,r',h,e=>by
  simp only [List.getElem?_cons_zero,Option.some.injEq] at h
  subst h
  simp only [List.set_cons_zero,List.map_cons,e]
 | x::l,k+1,r,r',h,e=>by
  simp only [List.getElem?_cons_succ] at h
  simp only [List.set_cons_succ,List.map_cons,left_set l k r r' h e]
structure RM (l:List Rule) (n:Nat) (A C:Nat):Prop where
 lf:l.map (·.Left)=NT4.take n
 alts:∀ r∈l,∀ a∈r.Alts,AltN (NT4.take n) a
 a:nA l<=A
 c:nC l<=C
theorem RM.mono {l:List Rule}{n A C A' C':Nat}(h:RM l n A C) (hA:A<=A') (hC:C<=C'):RM l n A' C':=⟨h.lf,h.alts,Nat.le_trans h.a hA,Nat.le_trans h.c hC⟩
theorem RM.add {l:List Rule}{n A C k:Nat}{r:Rule}{a:Alt}{c:Nat}(h:RM l n A C) (hr:l[k]?=some r) (ha:AltN (NT4.take n) a) (hc:codes a.Parts<=c) :
  RM (l.set k ⟨r.Left,r.Alts++[a],r.At⟩) n (A+1) (C+c):=by
 have hm:=List.mem_of_getElem? hr
 refine ⟨?_,fun r' hr' b hb=>?_,?_,?_⟩
 ·rw [left_set l k r ⟨r.Left,r.Alts++[a],r.At⟩ hr rfl]; exact h.lf
 ·rcases mem_set2 hr' with h' | rfl
  ·exact h.alts r' h' b hb
  ·rcases List.mem_append.1 hb with hb | hb
   ·exact h.alts r hm b hb
   ·rw [List.mem_singleton.1 hb]; exact ha
 ·have:=sum_set (fun r=>r.Alts.length) l k r ⟨r.Left,r.Alts++[a],r.At⟩ hr
  have ha:=h.a
  unfold nA at ha ⊢
  simp only [List.length_append,List.length_singleton] at this
  omega
 ·have:=sum_set (fun r=>cA r.Alts) l k r ⟨r.Left,r.Alts++[a],r.At⟩ hr
  have hcc:=h.c
  unfold nC at hcc ⊢
  have e:cA (r.Alts++[a])=cA r.Alts+codes a.Parts:=by
   unfold cA
   rw [List.map_append,List.sum_append]; rfl
  simp only [e] at this
  omega
theorem eq_item (x y:Item):(decide (x.Prod=y.Prod)&&(decide (x.Dot=y.Dot)&&true))=decide (x=y):=by
 obtain ⟨x1,x2⟩:=x
 obtain ⟨y1,y2⟩:=y
 simp
theorem c35 (a b:List Item) (h:a.length<=1000000):Tot (pf35 a b) fun c=>(c=true↔a=b):=by
 unfold pf35
 refine Tot.cn (fun hne=>.so ⟨fun h=>(by cases h),fun e=>absurd (by rw [e]) hne⟩) (fun he=>?_)
 have hl:a.length=b.length:=by omega
 refine Tot.by' (Ξ:=LR (fun _=>a=b) (fun x:Bool=>x=false/\a≠b)) ?_ fun x hx=>?_
 ·refine Tot.count (fun s=>s) a.length (fun s=>∃ k:Nat,k<=a.length/\s=(k:Int)/\∀ (j:Nat) (h:j<a.length),j<k->a[j]=b[j]) ⟨0,Nat.zero_le _,rfl,fun j _ hj=>absurd hj (Nat.not_lt_zero _)⟩ (by show (a.length:Int) - 0<_; omega) fun s hs=>?_
  obtain ⟨k,hk,rfl,hE⟩:=hs
  rw [w64n k (by omega)]
  refine Tot.cp (fun hlt=>?_) (fun hge=>.so ?_)
  ·have hlt:k<a.length:=by omega
   have hltb:k<b.length:=by omega
   rw [idx_nat hlt,idx_nat hltb]
   simp only [Option.bind_some,eq_item]
   refine Tot.cn (fun hne=>.so ⟨rfl,fun e=>hne (by subst e; rfl)⟩) (fun heq=>.so ⟨⟨k+1,by omega,rfl,fun j hj hjk=>?_⟩,by show (k:Int)<((k+1:Nat):Int); omega,by show ((k+1:Nat):Int)<=_; omega⟩)
   by_cases e:j=k
   ·subst e; exact heq
   ·exact hE j hj (by omega)
  ·exact List.ext_getElem hl fun i h1 h2=>hE i h1 (by omega)
 ·rcases x with _ | x
  ·exact .so ⟨fun _=>hx,fun _=>rfl⟩
  ·obtain ⟨rfl,hne⟩:x=false/\a≠b:=hx
   exact .so ⟨fun h=>(by cases h),fun h=>absurd h hne⟩
theorem c30 (g:Grammar) (hg:GOk g) (l:List Int) (n:Int) (h0:0<=n) (hn:n<=1000):Tot (pf30 g l n) fun r=>r.length<=1000:=by
 have hpn:=hg.pn
 unfold pf30
 refine .by' (Ξ:=fun r:List Item=>r.length<=1000) ?_ fun r hr=>.so hr
 refine Tot.count (fun s=>s.2) n (fun s=>0<=s.2/\s.2<=n/\(s.1.length:Int)=s.2) ⟨Int.le_refl _,h0,rfl⟩ (by show n - 0<_; omega) fun s hs=>?_
 obtain ⟨o,i⟩:=s
 obtain ⟨h1,h2,h3⟩:=hs
 simp only at h1 h2 h3 ⊢
 have hw:w64 (i+1)=i+1:=by rw [w64_eq]; omega
 have hw2:w64 (8 * (w64 ((g.Prods.length:Int)+1)))=8 * ((g.Prods.length:Int)+1):=by
  have:w64 ((g.Prods.length:Int)+1)=(g.Prods.length:Int)+1:=by rw [w64_eq]; omega
  rw [this,w64_eq]; omega
 rw [hw,hw2]
 refine .by' (Ξ:=fun c:Bool=>c=true->i<l.length/\i<n) (Tot.cp (fun h=>.so fun h'=>⟨h,of_decide_eq_true h'⟩) (fun h=>.so fun h'=>(by cases h'))) fun c hc=>Tot.cd (fun h=>?_) (fun h=>.so (show o.length<=1000 by omega))
 obtain ⟨hi,hin⟩:=hc h
 obtain ⟨y,hy,_⟩:=idx_some' h1 hi
 rw [hy]
 refine Tot.sm (.by' (t22 y (8 * ((g.Prods.length:Int)+1)) (by omega) (by omega)) fun z hz=>.by' (Ξ:=fun _=>True) (Tot.quo (by decide) trivial) fun _ _=>.by' (Ξ:=fun _=>True) (Tot.rem (by decide) trivial) fun _ _=>.by' (Ξ:=fun _=>True) (Tot.ap (by simp [lim]; omega) trivial) fun _ _=>.so ⟨⟨by show 0<=i+1; omega,by show i+1<=n; omega,?_⟩,by show i<i+1; omega,by show i+1<=n; omega⟩)
 show (((o++[_]).length:Nat):Int)=i+1
 simp; omega
theorem c31 (l:List Item):Tot (pf31 l 6) fun r=>r.length<=6:=by
 unfold pf31
 refine Tot.cp (fun h=>.by' (Ξ:=fun r:List Item=>r.length<=6) (Tot.sub ⟨by decide,by decide,by omega⟩ ?_) fun r hr=>.so hr) (fun h=>.so (by omega))
 rw [List.length_take]; exact Nat.min_le_left _ _
def syms (g:Grammar):List Int:=(List.range g.Toks.length).map (fun k:Nat=>(k:Int))++(List.range g.Nons.length).map (fun k:Nat=>1000+(k:Int))
theorem c79 (g:Grammar) (ho:GOk g):Tot (pf79 g) fun l=>l=syms g:=by
 have hT:=ho.tn
 have hN:=ho.nn
 unfold pf79
 refine .by' (Ξ:=fun l:List Int=>l=(List.range g.Toks.length).map (fun k:Nat=>(k:Int))) ?_ fun l hl=>?_
 ·refine Tot.upto (fun s=>s.2) g.Toks.length (fun k s=>s.1=(List.range k).map (fun k:Nat=>(k:Int))) rfl (by omega) rfl fun k s hk he hI=>?_
  obtain ⟨l,i⟩:=s
  simp only at he hI ⊢
  subst he hI
  rw [w64c k (by omega)]
  refine Tot.cp (fun hlt=>?_) (fun hge=>.so ?_)
  ·refine .by' (Ξ:=fun _=>True) (Tot.ap (by simp [lim]; omega) trivial) fun _ _=>.so ⟨by omega,rfl,?_⟩
   show _=(List.range (k+1)).map _
   rw [List.range_succ,List.map_append]; rfl
  ·have:k=g.Toks.length:=by omega
   subst this; rfl
 ·subst hl
  refine .by' (Ξ:=fun l:List Int=>l=syms g) ?_ fun r hr=>.so hr
  refine Tot.upto (fun s=>s.2) g.Nons.length (fun k s=>s.1=(List.range g.Toks.length).map (fun k:Nat=>(k:Int))++(List.range k).map (fun k:Nat=>1000+(k:Int))) rfl (by omega) (by simp) fun k s hk he hI=>?_
  obtain ⟨l,i⟩:=s
  simp only at he hI ⊢
  subst he hI
  rw [w64c k (by omega)]
  refine Tot.cp (fun hlt=>?_) (fun hge=>.so ?_)
  ·refine .by' (Ξ:=fun _=>True) (Tot.ap (by simp [lim]; omega) trivial) fun _ _=>.so ⟨by omega,rfl,?_⟩
   have hw:w64 (1000+(k:Int))=1000+(k:Int):=by rw [w64_eq]; omega
   show _=_++(List.range (k+1)).map _
   rw [hw,List.range_succ,List.map_append,List.append_assoc]; rfl
  ·have:k=g.Nons.length:=by omega
   subst this; rfl
theorem c54 (g:Grammar) (ho:GOk g):Tot (pf54 g) fun l=>l=syms g:=c79 g ho
theorem syms_len (g:Grammar):(syms g).length=g.Toks.length+g.Nons.length:=by simp [syms]
theorem mem_syms {g:Grammar}{s:Int}:s∈syms g↔(0<=s/\s<g.Toks.length)\/(1000<=s/\s<1000+g.Nons.length):=by
 unfold syms
 rw [List.mem_append,List.mem_map,List.mem_map]
 constructor
 ·rintro (⟨k,hk,rfl⟩ | ⟨k,hk,rfl⟩)
  ·rw [List.mem_range] at hk; exact .inl (by omega)
  ·rw [List.mem_range] at hk; exact .inr (by omega)
 ·rintro (h | h)
  ·exact .inl ⟨s.toNat,by rw [List.mem_range]; omega,by omega⟩
  ·exact .inr ⟨(s - 1000).toNat,by rw [List.mem_range]; omega,by omega⟩
def ov (g:Grammar) (K:List Item) (s:Int):List Item:=(pf38 g K s).getD []
structure KOk (g:Grammar) (K:List Item):Prop where
 a:Asc ltI K
 i:∀ x∈K,isI g x
theorem KOk.len {g:Grammar}(ho:GOk g) {K:List Item}(h:KOk g K):K.length<=540:=asc_len ho h.a h.i
theorem ov_spec {g:Grammar}(ho:GOk g) {K:List Item}(hl:K.length<=1000000) (s:Int):pf38 g K s=some (ov g K s)/\pf39 g K s=some (ov g K s)/\KOk g (ov g K s)/\∀ y,y∈ov g K s↔Ov g K s y:=by
 obtain ⟨r,hr,h1,h2⟩:=c38 g ho K s hl
 obtain ⟨r',hr',h1',h2'⟩:=c39 g ho K s hl
 have e:r=r':=h1.uniq ordI h1' fun x=>(h2 x).trans (h2' x).symm
 subst e
 have e2:ov g K s=r:=by unfold ov; rw [hr]; rfl
 rw [e2]
 exact ⟨hr,hr',⟨h1,fun x hx=>((h2 x).1 hx).isI ho⟩,h2⟩
theorem step_spec {g:Grammar}(ho:GOk g) {K c:List Item}(hl:K.length<=1000000) (hc:Asc ltI c/\∀ x,x∈c↔Cl g K x) (s:Int):pf75 g c s=some (ov g K s):=by
 obtain ⟨_,_,h1,h2⟩:=ov_spec ho hl s
 obtain ⟨r,hr,h3,h4⟩:=c75 g ho K c s hc
 rw [hr,h3.uniq ordI h1.a fun x=>(h4 x).trans (h2 x).symm]
theorem ov_dot {g:Grammar}(ho:GOk g) {K:List Item}(hl:K.length<=1000000) {s:Int}{y:Item}(h:y∈ov g K s):1<=y.Dot:=by
 obtain ⟨x,hx,_,_,rfl⟩:=((ov_spec ho hl s).2.2.2 y).1 h
 have:=isI_dot ho hx.isI
 show 1<=x.Dot+1
 omega
def Fnd (m:List State) (k:List Item) (r:Int):Prop:=(r=-1/\∀ (i:Nat) (st:State),m[i]?=some st->st.Kernel≠k)\/∃ (i:Nat) (st:State),m[i]?=some st/\st.Kernel=k/\r=(i:Int)
def Dst (m:List State):Prop:=∀ (i j:Nat) (s t:State),m[i]?=some s->m[j]?=some t->s.Kernel=t.Kernel->i=j
theorem Fnd.uniq {m:List State}(hd:Dst m) {k:List Item}{r r':Int}(h:Fnd m k r) (h':Fnd m k r'):r=r':=by
 rcases h with ⟨h1,h2⟩ | ⟨i,s,h1,h2,h3⟩ <;> rcases h' with ⟨h1',h2'⟩ | ⟨i',s',h1',h2',h3'⟩
 ·omega
 ·exact absurd h2' (h2 _ _ h1')
 ·exact absurd h2 (h2' _ _ h1)
 ·have:=hd i i' s s' h1 h1' (h2.trans h2'.symm)
  omega
def MSz (m:List State):Prop:=m.length<=1000/\∀ st∈m,st.Kernel.length<=1000000
theorem c84 (a b:List Item) (h:a.length<=1000000):Tot (pf84 a b) fun c=>(c=true↔a=b):=c35 a b h
theorem fnd_loop {f:State->Option Bool}{k:List Item}(m:List State) (hm:MSz m) (hf:∀ st∈m,Tot (f st) fun c=>(c=true↔st.Kernel=k)) :
  Tot ((loopM (R:=(Unit) ⊕ (Int)) (fun (s1:Int) =>
   (bif decide (s1<(m.length:Int)) then
   (idx m s1).bind fun x6 =>
   (f x6).bind fun x7 =>
   (bif x7 then
   some (.inr (.inr s1))
   else
   some (.inl (w64 (s1+1))))
   else
   some (.inr (.inl ())))) 0).bind fun x2 =>
   (match x2 with
   | .inl x3 =>
   some (-1)
   | .inr x4 =>
   some x4)) (Fnd m k):=by
 have hl:=hm.1
 refine .by' (Ξ:=LR (fun _=>∀ (i:Nat) (st:State),m[i]?=some st->st.Kernel≠k) (fun r:Int=>∃ (i:Nat) (st:State),m[i]?=some st/\st.Kernel=k/\r=(i:Int))) ?_ fun x hx=>?_
 ·refine Tot.upto (fun s=>s) m.length (fun j s=>∀ (i:Nat) (st:State),i<j->m[i]?=some st->st.Kernel≠k) rfl (by omega) (fun i st h=>by omega) fun j s hj he hI=>?_
  subst he
  rw [w64c j (by omega)]
  refine Tot.cp (fun hlt=>?_) (fun hge=>.so fun i st hi=>hI i st (by have:=(List.getElem?_eq_some_iff.1 hi).1; omega) hi)
  have hlt:j<m.length:=by omega
  rw [idx_nat hlt]
  have hget:m[j]?=some m[j]:=List.getElem?_eq_getElem hlt
  refine Tot.sm (.by' (hf _ (List.getElem_mem hlt)) fun c hc=>Tot.cd (fun h=>.so ⟨j,_,hget,hc.1 h,rfl⟩) (fun h=>.so ⟨hlt,rfl,fun i st hi ht=>?_⟩))
  by_cases e:i=j
  ·subst e
   rw [hget] at ht; cases ht
   intro e
   rw [hc.2 e] at h; cases h
  ·exact hI i st (by omega) ht
 ·rcases x with x | x
  ·exact .so (.inl ⟨rfl,hx⟩)
  ·exact .so (.inr hx)
theorem c80 (m:List State) (k:List Item) (hm:MSz m):Tot (pf80 m k) (Fnd m k) :=
 fnd_loop m hm fun st hst=>c35 st.Kernel k (hm.2 st hst)
theorem c82 (m:List State) (k:List Item) (hm:MSz m):Tot (pf82_83 m k) (Fnd m k) :=
 fnd_loop (f:=fun st=>pf83 st k) m hm fun st hst=>by
  unfold pf83
  exact .by' (c84 st.Kernel k (hm.2 st hst)) fun c hc=>.so hc
theorem c48 (m:List State) (k:List Item) (hm:MSz m) (hk:k.length<=1000000):Tot (pf48 m k) (Fnd m (dedup (isort ltI k))):=by
 unfold pf48
 have e1:pf81 k=some k:=by unfold pf81 cloneO; rw [if_pos (by omega)]
 have e2:sortO (fun a b=>pf71 a b) k=some (isort ltI k):=sort_is ordI (fun a _ b _=>c71 a b) (by omega)
 have e3:compO (isort ltI k)=some (dedup (isort ltI k)):=by
  unfold compO
  rw [if_pos (by rw [(isort_perm ltI k).length_eq]; omega)]
 rw [e1]
 simp only [Option.bind_some,e2,e3]
 exact .by' (c82 m _ hm) fun r hr=>.so hr
theorem asc_dd {k:List Item}(h:Asc ltI k):dedup (isort ltI k)=k:=by
 obtain ⟨h1,h2⟩:=dedup_asc ordI k
 exact h1.uniq ordI h h2
def nxt:Int->List Move->Option Int
 | n,[]=>some n
 | n,v::l=>if n<v.To\/v.To<1 then none else nxt (if v.To=n then n+1 else n) l
theorem nxt_app:∀ (l m:List Move) (n:Int),nxt n (l++m)=(nxt n l).bind fun n'=>nxt n' m
 | [],m,n=>rfl
 | v::l,m,n=>by
  simp only [List.cons_append,nxt]
  split
  ·rfl
  ·exact nxt_app l m _
def flat (m:List State):List Move:=m.flatMap (·.Moves)
def MvOk (g:Grammar) (m:List State) (K:List Item) (L:List Int) (Mv:List Move):Prop :=
 Mv.map (·.Sym)=L.filter (fun s=>decide (ov g K s≠[]))/\∀ v∈Mv,∃ (t:Nat) (st:State),v.To=(t:Int)/\m[t]?=some st/\st.Kernel=ov g K v.Sym
structure Mach (g:Grammar) (m:List State) (q j:Nat):Prop where
 n0:0<m.length
 n1:m.length<=150
 k0:∃ st,m[0]?=some st/\st.Kernel=[(⟨0,0⟩:Item)]
 ko:∀ (i:Nat) (st:State),m[i]?=some st->KOk g st.Kernel
 ds:Dst m
 mv:∀ (i:Nat) (st:State),m[i]?=some st->MvOk g m st.Kernel (if i<q then syms g else if i=q then (syms g).take j else []) st.Moves
 nm:nxt 1 (flat m)=some (m.length:Int)
 nb:∀ i,i<=q->i<m.length->∃ n:Int,nxt 1 (flat (m.take i))=some n/\(i:Int)<n
theorem Mach.sz {g:Grammar}(ho:GOk g) {m:List State}{q j:Nat}(h:Mach g m q j):MSz m:=by
 refine ⟨by have:=h.n1; omega,fun st hst=>?_⟩
 obtain ⟨i,hi⟩:=List.getElem?_of_mem hst
 have:=(h.ko i st hi).len ho
 omega
theorem Mach.k0len {g:Grammar}(ho:GOk g) {m:List State}{q j:Nat}(h:Mach g m q j) {i:Nat}{st:State}(hi:m[i]?=some st):st.Kernel.length<=1000000:=by
 have:=(h.ko i st hi).len ho
 omega
theorem flat_at {m:List State}{q:Nat}{st:State}(hq:m[q]?=some st) (hr:∀ (i:Nat) (s:State),q<i->m[i]?=some s->s.Moves=[]):flat m=flat (m.take q)++st.Moves:=by
 have hlt:=(List.getElem?_eq_some_iff.1 hq).1
 have e:m=m.take q++st::m.drop (q+1):=by
  have h1:=List.take_append_drop q m
  have h2:m.drop q=st::m.drop (q+1):=by
   rw [List.drop_eq_getElem_cons hlt]
   rw [List.getElem?_eq_getElem hlt] at hq
   cases hq; rfl
  rw [<- h2]; exact h1.symm
 have h3:flat (m.drop (q+1))=[]:=by
  unfold flat
  rw [List.flatMap_eq_nil_iff]
  intro s hs
  obtain ⟨i,hi⟩:=List.getElem?_of_mem hs
  rw [List.getElem?_drop] at hi
  exact hr _ s (by omega) hi
 have h4:flat m=flat (m.take q++st::m.drop (q+1)):=by rw [<- e]
 have h5:∀ a b:List State,flat (a++b)=flat a++flat b:=fun a b=>by simp [flat]
 rw [h4,h5,show (st::m.drop (q+1))=[st]++m.drop (q+1) from rfl,h5,h3,List.append_nil]
 simp [flat]
theorem Mach.late {g:Grammar}{m:List State}{q j:Nat}(h:Mach g m q j) {i:Nat}{s:State}(hi:q<i) (hs:m[i]?=some s):s.Moves=[]:=by
 have:=(h.mv i s hs).1
 rw [if_neg (by omega),if_neg (by omega)] at this
 simpa using this
theorem snoc_get' {α:Type}{l ext:List α}{i:Nat}{y:α}(h:l[i]?=some y):(l++ext)[i]?=some y:=by
 rw [List.getElem?_append_left (List.getElem?_eq_some_iff.1 h).1]; exact h
theorem Mach.skip {g:Grammar}{m:List State}{q j:Nat}{st:State}{s:Int}(h:Mach g m q j) (hq:m[q]?=some st) (hs:(syms g)[j]?=some s) (he:ov g st.Kernel s=[]):Mach g m q (j+1):=by
 refine ⟨h.n0,h.n1,h.k0,h.ko,h.ds,fun i si hi=>?_,h.nm,h.nb⟩
 have h1:=h.mv i si hi
 by_cases e:i=q
 ·subst e
  rw [hq] at hi; cases hi
  rw [if_neg (by omega),if_pos rfl] at h1 ⊢
  refine ⟨?_,h1.2⟩
  rw [h1.1,List.take_add_one,hs,List.filter_append]
  simp [he]
 ·rw [if_neg e] at h1 ⊢
  exact h1
theorem Mach.move {g:Grammar}(ho:GOk g) {m ext:List State}{q j t:Nat}{st:State}{s:Int}(h:Mach g m q j) (hq:m[q]?=some st) (hs:(syms g)[j]?=some s) (hne:ov g st.Kernel s≠[])
  (he:(ext=[]/\∃ u,m[t]?=some u/\u.Kernel=ov g st.Kernel s)\/(ext=[⟨ov g st.Kernel s,[]⟩]/\t=m.length/\(∀ (i:Nat) (u:State),m[i]?=some u->u.Kernel≠ov g st.Kernel s)/\m.length<150)) :
  Mach g ((m++ext).set q (⟨st.Kernel,st.Moves++[⟨s,(t:Int)⟩]⟩:State)) q (j+1):=by
 have hqm:=(List.getElem?_eq_some_iff.1 hq).1
 have hKl:=h.k0len ho hq
 have hov:=(ov_spec ho hKl s).2.2.1
 have hql:q<(m++ext).length:=by rw [List.length_append]; omega
 have hXl:((m++ext).set q (⟨st.Kernel,st.Moves++[⟨s,(t:Int)⟩]⟩:State)).length=m.length+ext.length:=by rw [List.length_set,List.length_append]
 -- states ahead
 have pre:∀ (i:Nat) (u:State),(m++ext)[i]?=some u->(m[i]?=some u)\/(i=m.length/\u=⟨ov g st.Kernel s,[]⟩/\(∀ (i:Nat) (u:State),m[i]?=some u->u.Kernel≠ov g st.Kernel s)):=fun i u hu=>by
  rcases he with ⟨rfl,_⟩ | ⟨rfl,_,hn,_⟩
  ·rw [List.append_nil] at hu; exact .inl hu
  ·rcases snoc_get i hu with ⟨_,h'⟩ | ⟨h',h''⟩
   ·exact .inl h'
   ·exact .inr ⟨h',h'',hn⟩
 have tgt:∃ u,(m++ext)[t]?=some u/\u.Kernel=ov g st.Kernel s:=by
  rcases he with ⟨rfl,u,hu,e⟩ | ⟨rfl,rfl,_⟩
  ·exact ⟨u,snoc_get' hu,e⟩
  ·exact ⟨⟨ov g st.Kernel s,[]⟩,by rw [List.getElem?_append_right (Nat.le_refl _),Nat.sub_self]; rfl,rfl⟩
 have back:∀ (i:Nat) (u:State),((m++ext).set q (⟨st.Kernel,st.Moves++[⟨s,(t:Int)⟩]⟩:State))[i]?=some u->(i=q/\u=⟨st.Kernel,st.Moves++[⟨s,(t:Int)⟩]⟩)\/(i≠q/\(m++ext)[i]?=some u):=fun i u hu=>by
  rw [set_get hql] at hu
  split at hu
  ·rename_i e; exact .inl ⟨e,by cases hu; rfl⟩
  ·rename_i e; exact .inr ⟨e,hu⟩
 have fwd:∀ (i:Nat) (u:State),(m++ext)[i]?=some u->∃ u',((m++ext).set q (⟨st.Kernel,st.Moves++[⟨s,(t:Int)⟩]⟩:State))[i]?=some u'/\u'.Kernel=u.Kernel:=fun i u hu=>by
  rw [set_get hql]
  by_cases e:i=q
  ·subst e
   rw [snoc_get' hq] at hu
   cases hu
   exact ⟨_,if_pos rfl,rfl⟩
  ·exact ⟨u,by rw [if_neg e]; exact hu,rfl⟩
 have ker:∀ (i:Nat) (u:State),((m++ext).set q (⟨st.Kernel,st.Moves++[⟨s,(t:Int)⟩]⟩:State))[i]?=some u->∃ u',(m++ext)[i]?=some u'/\u'.Kernel=u.Kernel:=fun i u hu=>by
  rcases back i u hu with ⟨rfl,rfl⟩ | ⟨_,h'⟩
  ·exact ⟨st,snoc_get' hq,rfl⟩
  ·exact ⟨u,h',rfl⟩
 have hext:ext.length<=1/\m.length+ext.length<=150:=by
  rcases he with ⟨rfl,_⟩ | ⟨rfl,_,_,h3⟩
  ·exact ⟨by simp,by have:=h.n1; simpa using this⟩
  ·exact ⟨by simp,by simp; omega⟩
 have dst:Dst (m++ext):=fun i k a b ha hb e=>by
  rcases pre i a ha with ha' | ⟨e1,rfl,hn⟩ <;> rcases pre k b hb with hb' | ⟨e2,rfl,hn'⟩
  ·exact h.ds i k a b ha' hb' e
  ·exact absurd e (hn' i a ha')
  ·exact absurd e.symm (hn k b hb')
  ·omega
 have liftMv:∀ {K:List Item}{L:List Int}{Mv:List Move},MvOk g m K L Mv->MvOk g ((m++ext).set q (⟨st.Kernel,st.Moves++[⟨s,(t:Int)⟩]⟩:State)) K L Mv:=fun hm=>⟨hm.1,fun v hv=>by
  obtain ⟨a,u,h1,h2,h3⟩:=hm.2 v hv
  obtain ⟨u',h4,h5⟩:=fwd a u (snoc_get' h2)
  exact ⟨a,u',h1,h4,h5.trans h3⟩⟩
 have nil:∀ {K:List Item},MvOk g ((m++ext).set q (⟨st.Kernel,st.Moves++[⟨s,(t:Int)⟩]⟩:State)) K [] []:=⟨rfl,fun v hv=>by cases hv⟩
 have late:∀ (i:Nat) (u:State),q<i->((m++ext).set q (⟨st.Kernel,st.Moves++[⟨s,(t:Int)⟩]⟩:State))[i]?=some u->u.Moves=[]:=fun i u hi hu=>by
  rcases back i u hu with ⟨rfl,_⟩ | ⟨_,h'⟩
  ·omega
  ·rcases pre i u h' with h'' | ⟨_,rfl,_⟩
   ·exact h.late hi h''
   ·rfl
 have tk:∀ i,i<=q->((m++ext).set q (⟨st.Kernel,st.Moves++[⟨s,(t:Int)⟩]⟩:State)).take i=m.take i:=fun i hi=>by
  rw [List.take_set_of_le hi,List.take_append_of_le_length (by omega)]
 have hself:((m++ext).set q (⟨st.Kernel,st.Moves++[⟨s,(t:Int)⟩]⟩:State))[q]?=some ⟨st.Kernel,st.Moves++[⟨s,(t:Int)⟩]⟩:=by rw [set_get hql,if_pos rfl]
 have ht0:t≠0:=by
  rintro rfl
  obtain ⟨u,hu,hk⟩:=tgt
  obtain ⟨st0,h0,hk0⟩:=h.k0
  rw [snoc_get' h0] at hu
  cases hu
  rw [hk0] at hk
  have:=ov_dot ho hKl (s:=s) (y:=⟨0,0⟩) (by rw [<- hk]; simp)
  simp at this
 refine ⟨by rw [hXl]; have:=h.n0; omega,by rw [hXl]; exact hext.2,?_,fun i u hu=>?_,fun i k a b ha hb e=>?_,fun i u hu=>?_,?_,fun i hi hlt=>?_⟩
 ·obtain ⟨st0,h0,hk0⟩:=h.k0
  obtain ⟨u,h1,h2⟩:=fwd 0 st0 (snoc_get' h0)
  exact ⟨u,h1,h2.trans hk0⟩
 ·obtain ⟨u',h1,h2⟩:=ker i u hu
  rw [<- h2]
  rcases pre i u' h1 with h' | ⟨_,rfl,_⟩
  ·exact h.ko i u' h'
  ·exact hov
 ·obtain ⟨a',h1,h2⟩:=ker i a ha
  obtain ⟨b',h3,h4⟩:=ker k b hb
  exact dst i k a' b' h1 h3 (by rw [h2,h4,e])
 ·rcases back i u hu with ⟨rfl,rfl⟩ | ⟨hne',h'⟩
  ·have h1:=h.mv i st hq
   rw [if_neg (by omega),if_pos rfl] at h1 ⊢
   refine ⟨?_,fun v hv=>?_⟩
   ·rw [List.map_append,h1.1,List.take_add_one,hs,List.filter_append]
    simp [hne]
   ·rcases List.mem_append.1 hv with hv | hv
    ·exact (liftMv h1).2 v hv
    ·rw [List.mem_singleton.1 hv]
     obtain ⟨u,hu,hk⟩:=tgt
     obtain ⟨u',h4,h5⟩:=fwd t u hu
     exact ⟨t,u',rfl,h4,h5.trans hk⟩
  ·rcases pre i u h' with h'' | ⟨e1,rfl,_⟩
   ·have h1:=h.mv i u h''
    rw [if_neg hne'] at h1 ⊢
    exact liftMv h1
   ·rw [if_neg (by omega),if_neg hne']
    exact nil
 ·rw [flat_at hself late,tk q (Nat.le_refl _),<- List.append_assoc,nxt_app,<- flat_at hq (fun i s hi hs=>h.late hi hs),h.nm,hXl]
  simp only [Option.bind_some,nxt]
  rcases he with ⟨rfl,u,hu,_⟩ | ⟨rfl,rfl,_⟩
  ·have:=(List.getElem?_eq_some_iff.1 hu).1
   rw [if_neg (by omega),if_neg (by omega)]; simp
  ·rw [if_neg (by omega),if_pos rfl]; simp
 ·rw [tk i hi]
  exact h.nb i hi (by omega)
theorem Mach.next {g:Grammar}{m:List State}{q j:Nat}(h:Mach g m q j) (hq:q<m.length) (hj:(syms g).length<=j):Mach g m (q+1) 0:=by
 have hget:m[q]?=some m[q]:=List.getElem?_eq_getElem hq
 refine ⟨h.n0,h.n1,h.k0,h.ko,h.ds,fun i s hs=>?_,h.nm,fun i hi hlt=>?_⟩
 ·have h1:=h.mv i s hs
  by_cases e:i<q
  ·rw [if_pos e] at h1; rw [if_pos (by omega)]; exact h1
  ·rw [if_neg e] at h1
   by_cases e2:i=q
   ·rw [if_pos e2,List.take_of_length_le hj] at h1
    rw [if_pos (by omega)]; exact h1
   ·rw [if_neg e2] at h1
    rw [if_neg (by omega)]
    split
    ·rw [List.take_zero]; exact h1
    ·exact h1
 ·by_cases e:i<=q
  ·exact h.nb i e hlt
  ·have:i=q+1:=by omega
   subst this
   refine ⟨(m.length:Int),?_,by omega⟩
   rw [List.take_add_one,hget]
   have h5:∀ a b:List State,flat (a++b)=flat a++flat b:=fun a b=>by simp [flat]
   have:=flat_at hget fun i s hi hs=>h.late hi hs
   rw [h5]
   have e3:flat (some m[q]).toList=m[q].Moves:=by simp [flat]
   rw [e3,<- this]
   exact h.nm
theorem idx_of {α:Type}{m:List α}{q:Nat}{x:α}(h:m[q]?=some x):idx m (q:Int)=some x:=by simp [idx,h]
theorem c27 (l:List Int) (x:Int) (h:l.length<=1000000):∃ c,pf27 l x=some c/\(c=true↔x∈l):=by
 suffices h:Tot (pf27 l x) fun c=>(c=true↔x∈l) from h
 unfold pf27
 refine .by' (Ξ:=LR (fun _=>x∉l) (fun r:Bool=>r=true/\x∈l)) ?_ fun r hr=>?_
 ·refine Tot.upto (fun s=>s) l.length (fun k s=>x∉l.take k) rfl (by omega) (by simp) fun k s hk he hI=>?_
  subst he
  rw [w64c k (by omega)]
  refine Tot.cp (fun hlt=>?_) (fun hge=>.so ?_)
  ·have hlt:k<l.length:=by omega
   rw [idx_nat hlt]
   simp only [Option.bind_some]
   refine Tot.cp (fun e=>.so ⟨rfl,by rw [<- e]; exact List.getElem_mem hlt⟩) (fun e=>.so ⟨hlt,rfl,?_⟩)
   rw [take_snoc' hlt,List.mem_append,List.mem_singleton]
   exact fun h=>h.elim hI fun h=>e h.symm
  ·rw [List.take_of_length_le (by omega)] at hI
   exact hI
 ·rcases r with r | r
  ·exact .so ⟨fun h=>(by cases h),fun h=>absurd h hr⟩
  ·obtain ⟨rfl,h⟩:=hr
   exact .so ⟨fun _=>h,fun _=>rfl⟩
theorem ov_ne {g:Grammar}(ho:GOk g) {K:List Item}(hl:K.length<=1000000) {s:Int}:ov g K s≠[]↔∃ x,Cl g K x/\nx g x=s/\0<=s:=by
 have h:=(ov_spec ho hl s).2.2.2
 constructor
 ·intro hne
  obtain ⟨y,hy⟩:=List.exists_mem_of_ne_nil _ hne
  obtain ⟨x,h1,h2,h3,_⟩:=(h y).1 hy
  exact ⟨x,h1,h2,h3⟩
 ·rintro ⟨x,h1,h2,h3⟩ e
  have:=(h ⟨x.Prod,x.Dot+1⟩).2 ⟨x,h1,h2,h3,rfl⟩
  rw [e] at this; cases this
theorem Mach.start {g:Grammar}(ho:GOk g):Mach g [(⟨[(⟨0,0⟩:Item)],([]:List Move)⟩:State)] 0 0:=by
 have only:∀ (i:Nat) (st:State),[(⟨[(⟨0,0⟩:Item)],([]:List Move)⟩:State)][i]?=some st->i=0/\st=⟨[(⟨0,0⟩:Item)],[]⟩:=fun i st h=>by
  cases i with
  | zero=>exact ⟨rfl,by cases h; rfl⟩
  | succ i=>cases h
 have hp:=ho.pn
 refine ⟨by simp,by simp,⟨_,rfl,rfl⟩,fun i st h=>?_,fun i j a b ha hb _=>?_,fun i st h=>?_,rfl,fun i hi hlt=>?_⟩
 ·obtain ⟨_,rfl⟩:=only i st h
  refine ⟨List.pairwise_singleton ..,fun x hx=>?_⟩
  rw [List.mem_singleton.1 hx]
  obtain ⟨q,hq⟩:∃ q,g.Prods[0]?=some q:=⟨g.Prods[0]'(by omega),List.getElem?_eq_getElem _⟩
  exact isI_zero (p:=0) hq
 ·have:=(only i a ha).1
  have:=(only j b hb).1
  omega
 ·obtain ⟨rfl,rfl⟩:=only i st h
  exact ⟨rfl,fun v hv=>by cases hv⟩
 ·have:i=0:=by omega
  subst this
  exact ⟨1,rfl,by decide⟩
theorem mv_len {g:Grammar}(ho:GOk g) {m:List State}{q j:Nat}(h:Mach g m q j) {i:Nat}{st:State}(hi:m[i]?=some st):st.Moves.length<=64:=by
 have h1:=congrArg List.length (h.mv i st hi).1
 rw [List.length_map] at h1
 have h2:=List.length_filter_le (fun s=>decide (ov g st.Kernel s≠[])) (if i<q then syms g else if i=q then (syms g).take j else [])
 have h3:(if i<q then syms g else if i=q then (syms g).take j else []).length<=(syms g).length:=by
  split
  ·exact Nat.le_refl _
  ·split
   ·rw [List.length_take]; omega
   ·simp
 have h4:=syms_len g
 have:=ho.tn
 have:=ho.nn
 omega
def Ends (g:Grammar) (a:List State × Int):Prop:=(a.2=0/\Mach g a.1 a.1.length 0)\/(a.2=4/\a.1=[])
theorem c4445 (g:Grammar) (ho:GOk g):Rel (pf44 g) (pf45 g) fun a b=>a=b/\Ends g a:=by
 have hT:=ho.tn
 have hN:=ho.nn
 unfold pf44 pf45
 refine Rel.l (c79 g ho) fun x1 h1=>Rel.r (c54 g ho) fun y1 h1'=>?_
 subst h1 h1'
 have hL:=syms_len g
 refine Rel.by' (Ξ:=LL (fun a b=>a=b/\Mach g a a.length 0) (fun a b=>a=b/\a=(([]:List State),(4:Int)))) ?_ fun a b hab=>?_
 ·refine Rel.loop (fun s t=>s=t/\∃ q:Nat,s.2=(q:Int)/\q<=s.1.length/\Mach g s.1 q 0) (fun s=>151 - s.2.toNat) ⟨rfl,0,rfl,Nat.zero_le _,Mach.start ho⟩ (by show 151 - 0<1000000000000000000; omega) fun s t hst=>?_
  obtain ⟨rfl,q,he,hq,hM⟩:=hst
  obtain ⟨m,i⟩:=s
  simp only at he hq hM ⊢
  subst he
  have hn1:=hM.n1
  rw [w64c q (by omega)]
  refine Rel.cd rfl (fun hlt=>?_) (fun hge=>.so ?_)
  ·have hlt:q<m.length:=by have:=of_decide_eq_true hlt; omega
   obtain ⟨st,hst⟩:∃ st,m[q]?=some st:=⟨_,List.getElem?_eq_getElem hlt⟩
   rw [idx_of hst]
   simp only [Option.bind_some]
   have hKl:=hM.k0len ho hst
   refine Rel.l (c36 g ho st.Kernel hKl) fun c hc=>Rel.r (c37 g ho st.Kernel hKl) fun c' hc'=>?_
   have ecc:c'=c:=hc'.1.uniq ordI hc.1 fun x=>(hc'.2 x).trans (hc.2 x).symm
   subst ecc
   have hcl:=asc_len ho hc.1 fun x hx=>((hc.2 x).1 hx).isI
   refine Rel.r (Ξ:=fun l:List Int=>l.length<=1000/\∀ a,a∈l↔∃ x∈c',nx g x=a/\0<=a) ?_ fun aft haft=>?_
   ·refine Tot.upto (fun s=>s.2) c'.length (fun k s=>Asc ltZ s.1/\s.1.length<=k/\∀ a,a∈s.1↔∃ x∈c'.take k,nx g x=a/\0<=a) rfl (by omega) ⟨.nil,Nat.le_refl 0,fun a=>by simp⟩ fun k s hk he hI=>?_
    obtain ⟨l,i⟩:=s
    obtain ⟨g1,g2,g3⟩:=hI
    simp only at he g1 g2 g3 ⊢
    subst he
    rw [w64c k (by omega)]
    refine Tot.cp (fun hlt=>?_) (fun hge=>.so ⟨by omega,fun a=>?_⟩)
    ·have hlt:k<c'.length:=by omega
     have htk:=take_snoc' hlt
     rw [idx_nat hlt]
     generalize c'[k]=x at *
     refine .by' (Ξ:=fun l:List Int=>Asc ltZ l/\l.length<=k+1/\∀ a,a∈l↔∃ x∈c'.take (k+1),nx g x=a/\0<=a) ?_ fun o ho=>.so ⟨hlt,rfl,ho⟩
     refine Tot.sm ?_
     rw [e33 g x]
     refine Tot.sm (.by' (Ξ:=fun l:List Int=>Asc ltZ l/\l.length<=k+1/\∀ a,a∈l↔∃ x∈c'.take (k+1),nx g x=a/\0<=a) ?_ fun o ho=>.so ho)
     refine Tot.cp (fun hp=>.by' (c62 l (nx g x) g1 (by omega)) fun r hr=>.so ⟨hr.1,by have:=hr.2.1; omega,fun a=>?_⟩) (fun hp=>.so ⟨g1,by omega,fun a=>?_⟩)
     ·rw [hr.2.2,g3,htk]
      constructor
      ·rintro (⟨z,hz,h⟩ | rfl)
       ·exact ⟨z,List.mem_append.2 (.inl hz),h⟩
       ·exact ⟨x,List.mem_append.2 (.inr (by simp)),rfl,hp⟩
      ·rintro ⟨z,hz,h⟩
       rcases List.mem_append.1 hz with hz | hz
       ·exact .inl ⟨z,hz,h⟩
       ·rw [List.mem_singleton.1 hz] at h
        exact .inr h.1.symm
     ·rw [g3,htk]
      constructor
      ·rintro ⟨z,hz,h⟩
       exact ⟨z,List.mem_append.2 (.inl hz),h⟩
      ·rintro ⟨z,hz,h⟩
       rcases List.mem_append.1 hz with hz | hz
       ·exact ⟨z,hz,h⟩
       ·rw [List.mem_singleton.1 hz] at h
        omega
    ·rw [List.take_of_length_le (by omega)] at g3
     exact g3 a
   ·obtain ⟨haf1,haf2⟩:=haft
    refine Rel.by' (Ξ:=LL (fun a b=>a=b/\Mach g a q (syms g).length/\q<a.length) (fun a b=>a=b/\a=(([]:List State),(4:Int)))) ?_ fun a b hab=>?_
    ·refine Rel.upto (fun s=>s.2) (syms g).length (fun k s t=>s=t/\Mach g s.1 q k/\∃ u,s.1[q]?=some u/\u.Kernel=st.Kernel) rfl (by omega) ⟨rfl,hM,st,hst,rfl⟩ fun k s t hk he hI=>?_
     obtain ⟨rfl,hMk,u,hu,huK⟩:=hI
     obtain ⟨m,i⟩:=s
     simp only at he hMk hu ⊢
     subst he
     rw [w64c k (by omega)]
     have hqm:=(List.getElem?_eq_some_iff.1 hu).1
     have hml:=hMk.n1
     refine Rel.cd rfl (fun hlt=>?_) (fun hge=>.so ⟨rfl,?_,hqm⟩)
     ·have hlt:k<(syms g).length:=by have:=of_decide_eq_true hlt; omega
      have hs:(syms g)[k]?=some (syms g)[k]:=List.getElem?_eq_getElem hlt
      rw [idx_nat hlt]
      generalize (syms g)[k]=s at *
      obtain ⟨hv,hv',hvk,hvm⟩:=ov_spec ho hKl s
      have hvl:=hvk.len ho
      obtain ⟨cc,ec,hcc⟩:=c27 aft s (by omega)
      simp only [Option.bind_some]
      rw [step_spec ho hKl hc s,ec]
      simp only [Option.bind_some]
      have hiff:cc=true↔ov g st.Kernel s≠[]:=by
       rw [hcc,haf2,ov_ne ho hKl]
       constructor
       ·rintro ⟨x,hx,h⟩
        exact ⟨x,(hc.2 x).1 hx,h⟩
       ·rintro ⟨x,hx,h⟩
        exact ⟨x,(hc.2 x).2 hx,h⟩
      have huK':(⟨u.Kernel,u.Moves⟩:State)=u:=rfl
      by_cases hne:ov g st.Kernel s=[]
      ·have e1:cc=false:=by cases cc with | true=>exact absurd hne (hiff.1 rfl) | false=>rfl
       subst e1
       rw [hne]
       simp only [List.length_nil,Bool.not_false,cond_true]
       refine .so ⟨hlt,rfl,rfl,hMk.skip hu hs (by rw [huK]; exact hne),u,hu,huK⟩
      ·have e1:=hiff.2 hne
       subst e1
       have e2:decide (((ov g st.Kernel s).length:Int)=0)=false:=decide_eq_false fun e=>hne (List.eq_nil_of_length_eq_zero (by omega))
       rw [idx_of hu,e2]
       simp only [cond_false,Bool.not_true,Option.bind_some,huK]
       rw [hv']
       simp only [Option.bind_some]
       have hsz:=hMk.sz ho
       obtain ⟨r1,er1,hr1⟩:=c48 m (ov g st.Kernel s) hsz (by omega)
       rw [asc_dd hvk.a] at hr1
       obtain ⟨r2,er2,hr2⟩:=c80 m (ov g st.Kernel s) hsz
       have e3:=hr2.uniq hMk.ds hr1
       subst e3
       rw [er1,er2]
       simp only [Option.bind_some]
       have hmvl:=mv_len ho hMk hu
       rcases hr1 with ⟨rfl,hno⟩ | ⟨t,w,hw1,hw2,rfl⟩
       ·have e4:decide ((-1:Int)<0)=true:=rfl
        rw [e4]
        simp only [cond_true]
        have e5:appO m [(⟨ov g st.Kernel s,([]:List Move)⟩:State)]=some (m++[⟨ov g st.Kernel s,[]⟩]):=by
         unfold appO; rw [if_pos (by simp [lim]; omega)]
        rw [e5]
        simp only [Option.bind_some]
        by_cases hfull:m.length=150
        ·have e6:decide ((150:Int)<=(m.length:Int))=true:=decide_eq_true (by omega)
         have e7:decide ((m.length:Int)=150)=true:=decide_eq_true (by omega)
         rw [e6,e7]
         exact .so ⟨rfl,rfl⟩
        ·have e6:decide ((150:Int)<=(m.length:Int))=false:=decide_eq_false (by omega)
         have e7:decide ((m.length:Int)=150)=false:=decide_eq_false (by omega)
         have hu2:=snoc_get' (ext:=[(⟨ov g st.Kernel s,[]⟩:State)]) hu
         have e8:appO u.Moves [(⟨s,(m.length:Int)⟩:Move)]=some (u.Moves++[⟨s,(m.length:Int)⟩]):=by
          unfold appO; rw [if_pos (by simp [lim]; omega)]
         rw [e6,e7]
         simp only [cond_false]
         rw [idx_of hu2]
         simp only [Option.bind_some,e8]
         have hmove:=hMk.move ho (ext:=[(⟨ov g u.Kernel s,[]⟩:State)]) (t:=m.length) hu hs (by rw [huK]; exact hne) (.inr ⟨rfl,rfl,by rw [huK]; exact hno,by omega⟩)
         rw [huK] at hmove
         refine .so ⟨hlt,rfl,rfl,?_,⟨st.Kernel,u.Moves++[⟨s,(m.length:Int)⟩]⟩,?_,rfl⟩
         ·show Mach g (List.set _ (q:Int).toNat _) q (k+1)
          rw [Int.toNat_natCast,huK]; exact hmove
         ·show (List.set _ (q:Int).toNat _)[q]?=_
          rw [Int.toNat_natCast,set_get (by rw [List.length_append]; omega),if_pos rfl,huK]
       ·have ht:=(List.getElem?_eq_some_iff.1 hw1).1
        have e4:decide ((t:Int)<0)=false:=decide_eq_false (by omega)
        have e6:decide ((150:Int)<=(t:Int))=false:=decide_eq_false (by omega)
        rw [e4]
        simp only [cond_false,Option.bind_some,e6]
        rw [idx_of hu]
        have e8:appO u.Moves [(⟨s,(t:Int)⟩:Move)]=some (u.Moves++[⟨s,(t:Int)⟩]):=by
         unfold appO; rw [if_pos (by simp [lim]; omega)]
        simp only [Option.bind_some,e8]
        have hmove:=hMk.move ho (ext:=[]) (t:=t) hu hs (by rw [huK]; exact hne) (.inl ⟨rfl,w,hw1,by rw [huK]; exact hw2⟩)
        rw [List.append_nil,huK] at hmove
        refine .so ⟨hlt,rfl,by rw [huK],?_,⟨st.Kernel,u.Moves++[⟨s,(t:Int)⟩]⟩,?_,rfl⟩
        ·show Mach g (List.set _ (q:Int).toNat _) q (k+1)
         rw [Int.toNat_natCast,huK]; exact hmove
        ·show (List.set _ (q:Int).toNat _)[q]?=_
         rw [Int.toNat_natCast,set_get hqm,if_pos rfl,huK]
     ·have hge:=of_decide_eq_false hge
      have:k=(syms g).length:=by omega
      subst this
      exact hMk
    ·rcases a with a | a <;> rcases b with b | b
     ·obtain ⟨rfl,hMe,hqa⟩:=hab
      refine .so ⟨⟨rfl,q+1,rfl,hqa,hMe.next hqa (Nat.le_refl _)⟩,?_⟩
      show 151 - ((q+1:Nat):Int).toNat<151 - (q:Int).toNat
      omega
     ·exact hab.elim
     ·exact hab.elim
     ·obtain ⟨rfl,rfl⟩:=hab
      exact .so ⟨rfl,rfl⟩
  ·have hge:=of_decide_eq_false hge
   have:q=m.length:=by omega
   subst this
   exact ⟨rfl,hM⟩
 ·rcases a with a | a <;> rcases b with b | b
  ·obtain ⟨rfl,hM⟩:=hab
   exact .so ⟨rfl,.inl ⟨rfl,hM⟩⟩
  ·exact hab.elim
  ·exact hab.elim
  ·obtain ⟨rfl,rfl⟩:=hab
   exact .so ⟨rfl,.inr ⟨rfl,rfl⟩⟩
theorem w43:pf43=some true:=by kernel_rfl
theorem Ends.sz {g:Grammar}(ho:GOk g) {a:List State × Int}(h:Ends g a):a.1.length<=150/\∀ st∈a.1,st.Kernel.length<=1000000/\st.Moves.length<=1000000:=by
 rcases h with ⟨_,hM⟩ | ⟨_,e⟩
 ·refine ⟨hM.n1,fun st hst=>?_⟩
  obtain ⟨i,hi⟩:=List.getElem?_of_mem hst
  have:=mv_len ho hM hi
  exact ⟨hM.k0len ho hi,by omega⟩
 ·rw [e]
  exact ⟨by simp,fun st hst=>by cases hst⟩
theorem c44 (g:Grammar) (ho:GOk g):Tot (pf44 g) (Ends g):=(c4445 g ho).fst.use fun a ⟨b,_,_,h⟩=>h
def kw (g:Grammar) (K:List Item) (l:List Int):List Item:=l.foldl (ov g) K
theorem ov_nil (g:Grammar) (ho:GOk g) (s:Int):ov g [] s=[]:=by
 cases h:ov g [] s with
 | nil=>rfl
 | cons a l =>
  have hne:ov g [] s≠[]:=by rw [h]; simp
  obtain ⟨x,hx,_⟩:=(ov_ne ho (by simp)).1 hne
  have key:∀ x,¬ Cl g [] x:=fun x hx=>by
   induction hx with
   | base h=>cases h
   | step _ _ _ _ ih=>exact ih
  exact absurd hx (key x)
theorem kw_nil (g:Grammar) (ho:GOk g):∀ l:List Int,kw g [] l=[]
 | []=>rfl
 | s::l=>by
  show kw g (ov g [] s) l=[]
  rw [ov_nil g ho]; exact kw_nil g ho l
theorem kw_snoc (g:Grammar) (K:List Item) (l:List Int) (s:Int):kw g K (l++[s])=ov g (kw g K l) s:=by
 unfold kw; rw [List.foldl_append]; rfl
theorem kw_app (g:Grammar) (K:List Item) (l m:List Int):kw g K (l++m)=kw g (kw g K l) m:=by
 unfold kw; rw [List.foldl_append]
def Wk (m:List State) (K:List Item) (r:Int):Prop:=(K=[]/\r=-1)\/(K≠[]/\∃ (t:Nat) (u:State),r=(t:Int)/\m[t]?=some u/\u.Kernel=K)
theorem Wk.uniq {m:List State}(hd:Dst m) {K:List Item}{r r':Int}(h:Wk m K r) (h':Wk m K r'):r=r':=by
 rcases h with ⟨h1,h2⟩ | ⟨h1,t,u,h2,h3,h4⟩ <;> rcases h' with ⟨h1',h2'⟩ | ⟨h1',t',u',h2',h3',h4'⟩
 ·omega
 ·exact absurd h1 h1'
 ·exact absurd h1' h1
 ·have:=hd t t' u u' h3 h3' (h4.trans h4'.symm)
  omega
theorem ov_sym {g:Grammar}(ho:GOk g) {K:List Item}(hl:K.length<=1000000) {s:Int}(h:ov g K s≠[]):s∈syms g:=by
 obtain ⟨x,_,rfl,h0⟩:=(ov_ne ho hl).1 h
 have hn:=ho.nn
 rw [mem_syms]
 rcases (nx_ok ho h0).2.1 with h1 | h1
 ·exact .inl h1
 ·exact .inr (by omega)
theorem mv_sym {g:Grammar}(ho:GOk g) {m:List State}(hM:Mach g m m.length 0) {q:Nat}{st:State}(hst:m[q]?=some st) (s:Int):s∈st.Moves.map (·.Sym)↔ov g st.Kernel s≠[]:=by
 have hlt:=(List.getElem?_eq_some_iff.1 hst).1
 have hmv:=hM.mv q st hst
 rw [if_pos hlt] at hmv
 rw [hmv.1,List.mem_filter,decide_eq_true_eq]
 exact ⟨fun h=>h.2,fun h=>⟨ov_sym ho (hM.k0len ho hst) h,h⟩⟩
theorem mv_to {g:Grammar}{m:List State}(hM:Mach g m m.length 0) {q:Nat}{st:State}(hst:m[q]?=some st) {v:Move}(hv:v∈st.Moves):∃ (t:Nat) (u:State),v.To=(t:Int)/\m[t]?=some u/\u.Kernel=ov g st.Kernel v.Sym:=by
 have hlt:=(List.getElem?_eq_some_iff.1 hst).1
 have hmv:=hM.mv q st hst
 rw [if_pos hlt] at hmv
 exact hmv.2 v hv
theorem wk_of {g:Grammar}(ho:GOk g) {m:List State}(hM:Mach g m m.length 0) {q:Nat}{st:State}(hst:m[q]?=some st) {v:Move}(hv:v∈st.Moves):Wk m (ov g st.Kernel v.Sym) v.To:=by
 obtain ⟨t,u,h1,h2,h3⟩:=mv_to hM hst hv
 exact .inr ⟨(mv_sym ho hM hst v.Sym).1 (List.mem_map.2 ⟨v,hv,rfl⟩),t,u,h1,h2,h3⟩
theorem wk_no {g:Grammar}(ho:GOk g) {m:List State}(hM:Mach g m m.length 0) {q:Nat}{st:State}(hst:m[q]?=some st) {s:Int}(hn:∀ v∈st.Moves,v.Sym≠s):Wk m (ov g st.Kernel s) (-1):=by
 refine .inl ⟨?_,rfl⟩
 cases h:ov g st.Kernel s with
 | nil=>rfl
 | cons a l =>
  have:=(mv_sym ho hM hst s).2 (by rw [h]; simp)
  obtain ⟨v,hv,e⟩:=List.mem_map.1 this
  exact absurd e (hn v hv)
theorem c103 {g:Grammar}(ho:GOk g) {m:List State}(hM:Mach g m m.length 0) {q:Nat}{st:State}(hst:m[q]?=some st) (s:Int):Tot (pf103 m q s) (Wk m (ov g st.Kernel s)):=by
 have hmvl:=mv_len ho hM hst
 unfold pf103
 rw [idx_of hst]
 simp only [Option.bind_some]
 refine .by' (Ξ:=LR (fun _=>∀ v∈st.Moves,v.Sym≠s) (fun r:Int=>Wk m (ov g st.Kernel s) r)) ?_ fun x hx=>?_
 ·refine Tot.upto (fun s=>s) st.Moves.length (fun k _=>∀ v∈st.Moves.take k,v.Sym≠s) rfl (by omega) (by simp) fun k z hk he hI=>?_
  subst he
  rw [w64c k (by omega)]
  refine Tot.cp (fun hlt=>?_) (fun hge=>.so ?_)
  ·have hlt:k<st.Moves.length:=by omega
   rw [idx_nat hlt]
   simp only [Option.bind_some]
   refine Tot.cp (fun e=>.so ?_) (fun e=>.so ⟨hlt,rfl,fun v hv=>?_⟩)
   ·have:=wk_of ho hM hst (List.getElem_mem hlt)
    rw [e] at this; exact this
   ·rw [take_snoc' hlt] at hv
    rcases List.mem_append.1 hv with hv | hv
    ·exact hI v hv
    ·rw [List.mem_singleton.1 hv]; exact e
  ·rw [List.take_of_length_le (by omega)] at hI
   exact hI
 ·rcases x with x | x
  ·exact .so (wk_no ho hM hst hx)
  ·exact .so hx
theorem c52 {g:Grammar}(ho:GOk g) {m:List State}(hM:Mach g m m.length 0) (l:List Int) (hl:l.length<=1000000):Tot (pf52 m l) (Wk m (kw g [⟨0,0⟩] l)):=by
 obtain ⟨st0,h0,hk0⟩:=hM.k0
 unfold pf52 pf85
 refine .by' (Ξ:=Wk m (kw g [⟨0,0⟩] l)) ?_ fun r hr=>.so hr
 refine .by' (Ξ:=LR (fun r:Int=>Wk m (kw g [⟨0,0⟩] l) r) (fun r:Int=>Wk m (kw g [⟨0,0⟩] l) r)) ?_ fun x hx=>?_
 ·refine Tot.upto (fun s=>s.2) l.length (fun k s=>∃ (q:Nat) (st:State),s.1=(q:Int)/\m[q]?=some st/\st.Kernel=kw g [⟨0,0⟩] (l.take k)/\st.Kernel≠[]) rfl (by omega) ⟨0,st0,rfl,h0,hk0,by rw [hk0]; simp⟩ fun k s hk he hI=>?_
  obtain ⟨q',k'⟩:=s
  obtain ⟨q,st,hq,hst,hK,hne⟩:=hI
  simp only at he hq ⊢
  subst he hq
  rw [w64c k (by omega)]
  refine Tot.cp (fun hlt=>?_) (fun hge=>.so ?_)
  ·have hlt:k<l.length:=by omega
   rw [idx_nat hlt]
   have htk:=take_snoc' hlt
   have hdr:l=l.take (k+1)++l.drop (k+1):=(List.take_append_drop _ _).symm
   generalize l[k]=s at *
   have hk1:kw g [⟨0,0⟩] (l.take (k+1))=ov g st.Kernel s:=by rw [htk,kw_snoc,hK]
   simp only [Option.bind_some]
   refine .by' (c103 ho hM hst s) fun r hr=>?_
   rcases hr with ⟨h1,rfl⟩ | ⟨h1,t,u,rfl,h2,h3⟩
   ·have e:decide ((-1:Int)<0)=true:=rfl
    rw [e]
    refine .so (.inl ⟨?_,rfl⟩)
    rw [hdr,kw_app,hk1,h1]
    exact kw_nil g ho _
   ·have e:decide ((t:Int)<0)=false:=decide_eq_false (by omega)
    rw [e]
    exact .so ⟨hlt,rfl,t,u,rfl,h2,by rw [hk1,h3],by rw [h3]; exact h1⟩
  ·rw [List.take_of_length_le (by omega)] at hK
   exact .inr ⟨by rw [<- hK]; exact hne,q,st,rfl,hst,hK⟩
 ·rcases x with x | x
  ·exact .so hx
  ·exact .so hx
structure Lng (g:Grammar) (rs:List (List Int)):Prop where
 ho:GOk g
 p:g.Prods.map (fun p=>(p.Left,p.Right))=(0,[1001])::rs.map fun r=>(1,r)
 tk:∀ r∈rs,∀ s∈r,0<=s/\s<1000
 hd:∀ (i j:Nat) (a b:List Int) (x:Int),rs[i]?=some a->rs[j]?=some b->a[0]?=some x->b[0]?=some x->i=j
namespace Lng
variable {g:Grammar}{rs:List (List Int)}
theorem at0 (h:Lng g rs):∃ q,g.Prods[0]?=some q/\q.Left=0/\q.Right=[1001]:=by
 have e:=congrArg (fun l=>l[0]?) h.p
 simp only [List.getElem?_map,List.getElem?_cons_zero] at e
 cases hq:g.Prods[0]? with
 | none=>rw [hq] at e; cases e
 | some q =>
  rw [hq] at e
  have e:=Option.some.inj e
  exact ⟨q,rfl,congrArg Prod.fst e,congrArg Prod.snd e⟩
theorem atS (h:Lng g rs) {i:Nat}{r:List Int}(hr:rs[i]?=some r):∃ q,g.Prods[i+1]?=some q/\q.Left=1/\q.Right=r:=by
 have e:=congrArg (fun l=>l[i+1]?) h.p
 simp only [List.getElem?_map,List.getElem?_cons_succ,hr] at e
 cases hq:g.Prods[i+1]? with
 | none=>rw [hq] at e; cases e
 | some q =>
  rw [hq] at e
  have e:=Option.some.inj e
  exact ⟨q,rfl,congrArg Prod.fst e,congrArg Prod.snd e⟩
theorem ofP (h:Lng g rs) {k:Nat}{q:Prod}(hq:g.Prods[k]?=some q):(k=0/\q.Left=0/\q.Right=[1001])\/∃ (i:Nat) (r:List Int),k=i+1/\rs[i]?=some r/\q.Left=1/\q.Right=r:=by
 cases k with
 | zero =>
  obtain ⟨q',h1,h2⟩:=h.at0
  rw [hq] at h1; cases h1
  exact .inl ⟨rfl,h2⟩
 | succ i =>
  have e:=congrArg (fun l=>l[i+1]?) h.p
  simp only [List.getElem?_map,List.getElem?_cons_succ,hq] at e
  cases hr:rs[i]? with
  | none=>rw [hr] at e; cases e
  | some r =>
   rw [hr] at e
   have e:=Option.some.inj e
   exact .inr ⟨i,r,rfl,hr,congrArg Prod.fst e,congrArg Prod.snd e⟩
theorem nx0 (h:Lng g rs) (d:Nat):nx g ⟨0,(d:Int)⟩=([1001]:List Int)[d]?.getD (-1):=by
 obtain ⟨q,hq,_,hr⟩:=h.at0
 have:idx g.Prods 0=some q:=idx_of (q:=0) hq
 unfold nx
 simp only [this,hr]
 congr 1
theorem nxS (h:Lng g rs) {i:Nat}{r:List Int}(hr:rs[i]?=some r) (d:Nat):nx g ⟨((i+1:Nat):Int),(d:Int)⟩=r[d]?.getD (-1):=by
 obtain ⟨q,hq,_,hR⟩:=h.atS hr
 unfold nx
 simp only [idx_of hq,hR]
 congr 1
theorem nxlt (h:Lng g rs) {i:Nat}{r:List Int}(hr:rs[i]?=some r) (d:Nat):nx g ⟨((i+1:Nat):Int),(d:Int)⟩<1000:=by
 rw [h.nxS hr]
 cases hs:r[d]? with
 | none=>decide
 | some s=>exact (h.tk r (List.mem_of_getElem? hr) s (List.mem_of_getElem? hs)).2
theorem cl1 {y:Item}(hy:isI g y) (hn:nx g y<1000) (x:Item):Cl g [y] x↔x=y:=by
 constructor
 ·intro h
  induction h with
  | base h _=>exact List.mem_singleton.1 h
  | step _ _ _ h0 ih=>subst ih; omega
 ·rintro rfl
  exact .base (by simp) hy
theorem isI0 (h:Lng g rs):isI g ⟨0,0⟩:=by
 obtain ⟨q,hq,_⟩:=h.at0
 exact isI_zero (p:=0) hq
theorem cl0 (h:Lng g rs) (x:Item):Cl g [⟨0,0⟩] x↔x=⟨0,0⟩\/∃ (i:Nat) (r:List Int),rs[i]?=some r/\x=⟨((i+1:Nat):Int),0⟩:=by
 have e0:nx g ⟨0,0⟩=1001:=h.nx0 0
 constructor
 ·intro hc
  induction hc with
  | base hm _=>exact .inl (List.mem_singleton.1 hm)
  | @step x q p _ hp hn h0 ih =>
   rcases ih with rfl | ⟨i,r,hr,rfl⟩
   ·rw [e0] at hn
    rcases h.ofP hp with ⟨_,h1,_⟩ | ⟨i,r,rfl,hr,_⟩
    ·omega
    ·exact .inr ⟨i,r,hr,rfl⟩
   ·have:=h.nxlt hr 0
    have e:((0:Nat):Int)=0:=rfl
    rw [e] at this
    omega
 ·rintro (rfl | ⟨i,r,hr,rfl⟩)
  ·exact .base (by simp) h.isI0
  ·obtain ⟨q,hq,hl,_⟩:=h.atS hr
   exact .step (.base (by simp) h.isI0) hq (by rw [e0,hl]; rfl) (by rw [e0]; decide)
theorem one_of {l:List Item}{y:Item}(ha:Asc ltI l) (h:∀ x,x∈l↔x=y):l=[y] :=
 ha.uniq ordI (List.pairwise_singleton ..) fun x=>by rw [h,List.mem_singleton]
def go:Nat->List (List Int)->List Item
 | _,[]=>[]
 | k,r::rs=>((List.range r.length).map fun d=>(⟨(k:Int),((d+1:Nat):Int)⟩:Item))++go (k+1) rs
theorem go_len:∀ (rs:List (List Int)) (k:Nat),(go k rs).length=(rs.map (·.length)).sum
 | [],_=>rfl
 | r::rs,k=>by simp [go,go_len rs]
theorem go_mem:∀ (rs:List (List Int)) (k:Nat) (x:Item),x∈go k rs↔∃ (i:Nat) (r:List Int) (d:Nat),rs[i]?=some r/\d<r.length/\x=⟨((k+i:Nat):Int),((d+1:Nat):Int)⟩
 | [],k,x=>by simp [go]
 | r::rs,k,x=>by
  unfold go
  rw [List.mem_append,go_mem rs (k+1) x,List.mem_map]
  constructor
  ·rintro (⟨d,hd,rfl⟩ | ⟨i,r',d,h1,h2,rfl⟩)
   ·exact ⟨0,r,d,rfl,List.mem_range.1 hd,rfl⟩
   ·exact ⟨i+1,r',d,h1,h2,by congr 2; omega⟩
  ·rintro ⟨i,r',d,h1,h2,rfl⟩
   cases i with
   | zero =>
    have:r=r':=by simpa using h1
    subst this
    exact .inl ⟨d,List.mem_range.2 h2,rfl⟩
   | succ i=>exact .inr ⟨i,r',d,h1,h2,by congr 2; omega⟩
theorem go_asc:∀ (rs:List (List Int)) (k:Nat),Asc ltI (go k rs)
 | [],_=>.nil
 | r::rs,k=>by
  unfold go Asc
  rw [List.pairwise_append]
  refine ⟨?_,go_asc rs (k+1),fun a ha b hb=>?_⟩
  ·rw [List.pairwise_map]
   refine (List.pairwise_lt_range (n:=r.length)).imp fun {a b} h=>?_
   rw [ltI_iff]
   right
   exact ⟨rfl,by show ((a+1:Nat):Int)<((b+1:Nat):Int); omega⟩
  ·obtain ⟨d,_,rfl⟩:=List.mem_map.1 ha
   obtain ⟨i,r',d',_,_,rfl⟩:=(go_mem rs (k+1) b).1 hb
   rw [ltI_iff]
   left
   show (k:Int)<((k+1+i:Nat):Int)
   omega
def items (rs:List (List Int)):List Item:=⟨0,0⟩::⟨0,1⟩::go 1 rs
theorem items_len (rs:List (List Int)):(items rs).length=2+(rs.map (·.length)).sum:=by
 unfold items
 simp [go_len]
 omega
theorem items_asc (rs:List (List Int)):Asc ltI (items rs):=by
 have hgo:∀ b∈go 1 rs,1<=b.Prod:=fun b hb=>by
  obtain ⟨i,r,d,_,_,rfl⟩:=(go_mem rs 1 b).1 hb
  show (1:Int)<=((1+i:Nat):Int)
  omega
 unfold items Asc
 rw [List.pairwise_cons,List.pairwise_cons]
 refine ⟨fun b hb=>?_,fun b hb=>?_,go_asc rs 1⟩
 ·rw [ltI_iff]
  rcases List.mem_cons.1 hb with rfl | hb
  ·right; exact ⟨rfl,by decide⟩
  ·left; have:=hgo b hb; show (0:Int)<b.Prod; omega
 ·rw [ltI_iff]
  left; have:=hgo b hb; show (0:Int)<b.Prod; omega
theorem ov_in (h:Lng g rs) {x:Item}(hx:x∈items rs) (s:Int) (hne:ov g [x] s≠[]):∃ y∈items rs,ov g [x] s=[y]:=by
 obtain ⟨_,_,ha,hm⟩:=ov_spec h.ho (K:=[x]) (by simp) s
 have e1:nx g ⟨0,1⟩=-1:=h.nx0 1
 have e0:nx g ⟨0,0⟩=1001:=h.nx0 0
 have isx:∀ {y:Item}{z:Item},Cl g [y] z->isI g z:=fun hc=>hc.isI
 rcases List.mem_cons.1 hx with rfl | hx
 ·-- the first one
  by_cases hs:s=1001
  ·subst hs
   refine ⟨⟨0,1⟩,by simp [items],one_of ha.a fun y=>?_⟩
   rw [hm]
   constructor
   ·rintro ⟨z,hz,hn,_,rfl⟩
    rcases (h.cl0 z).1 hz with rfl | ⟨i,r,hr,rfl⟩
    ·rfl
    ·have:=h.nxlt hr 0
     have e:((0:Nat):Int)=0:=rfl
     rw [e,hn] at this
     omega
   ·rintro rfl
    exact ⟨⟨0,0⟩,(h.cl0 _).2 (.inl rfl),e0,by decide,rfl⟩
  ·obtain ⟨z,hz,hn,h0⟩:=(ov_ne h.ho (by simp)).1 hne
   rcases (h.cl0 z).1 hz with rfl | ⟨i,r,hr,rfl⟩
   ·omega
   ·have hn1:=h.nxS hr 0
    have e:((0:Nat):Int)=0:=rfl
    rw [e,hn] at hn1
    have hr0:r[0]?=some s:=by
     cases h5:r[0]? with
     | none=>rw [h5] at hn1; have:s=-1:=hn1; omega
     | some s'=>rw [h5] at hn1; have:s=s':=hn1; rw [this]
    have hlen:=(List.getElem?_eq_some_iff.1 hr0).1
    refine ⟨⟨((i+1:Nat):Int),1⟩,?_,one_of ha.a fun y=>?_⟩
    ·refine List.mem_cons.2 (.inr (List.mem_cons.2 (.inr ((go_mem rs 1 _).2 ⟨i,r,0,hr,hlen,?_⟩))))
     congr 2; omega
    ·rw [hm]
     constructor
     ·rintro ⟨w,hw,hn2,_,rfl⟩
      rcases (h.cl0 w).1 hw with rfl | ⟨j,r',hr',rfl⟩
      ·omega
      ·have hn3:=h.nxS hr' 0
       rw [e,hn2] at hn3
       have hr0':r'[0]?=some s:=by
        cases h5:r'[0]? with
        | none=>rw [h5] at hn3; have:s=-1:=hn3; omega
        | some s'=>rw [h5] at hn3; have:s=s':=hn3; rw [this]
       have:=h.hd i j r r' s hr hr' hr0 hr0'
       subst this; rfl
     ·rintro rfl
      exact ⟨⟨((i+1:Nat):Int),0⟩,(h.cl0 _).2 (.inr ⟨i,r,hr,rfl⟩),hn,h0,rfl⟩
 ·rcases List.mem_cons.1 hx with rfl | hx
  ·obtain ⟨z,hz,hn,h0⟩:=(ov_ne h.ho (by simp)).1 hne
   have hi:isI g ⟨0,1⟩:=by
    obtain ⟨q,hq,_,hR⟩:=h.at0
    exact ⟨q,idx_of (q:=0) hq,by decide,by rw [hR]; decide⟩
   have:=(cl1 hi (by rw [e1]; decide) z).1 hz
   subst this
   omega
  ·obtain ⟨i,r,d,hr,hd,rfl⟩:=(go_mem rs 1 x).1 hx
   have ei:(1+i:Nat)=i+1:=by omega
   rw [ei] at hne ha hm ⊢
   obtain ⟨q,hq,_,hR⟩:=h.atS hr
   have hi:isI g ⟨((i+1:Nat):Int),((d+1:Nat):Int)⟩:=⟨q,idx_of hq,by show (0:Int)<=((d+1:Nat):Int); omega,by rw [hR]; show ((d+1:Nat):Int)<=_; omega⟩
   have hcl:=fun z=>cl1 hi (h.nxlt hr (d+1)) z
   obtain ⟨z,hz,hn,h0⟩:=(ov_ne h.ho (by simp)).1 hne
   have:=(hcl z).1 hz
   subst this
   have hn1:=h.nxS hr (d+1)
   rw [hn] at hn1
   have hrd:r[d+1]?=some s:=by
    cases h5:r[d+1]? with
    | none=>rw [h5] at hn1; have:s=-1:=hn1; omega
    | some s'=>rw [h5] at hn1; have:s=s':=hn1; rw [this]
   have hlen:=(List.getElem?_eq_some_iff.1 hrd).1
   refine ⟨⟨((i+1:Nat):Int),((d+1+1:Nat):Int)⟩,?_,one_of ha.a fun y=>?_⟩
   ·refine List.mem_cons.2 (.inr (List.mem_cons.2 (.inr ((go_mem rs 1 _).2 ⟨i,r,d+1,hr,hlen,?_⟩))))
    congr 2; omega
   ·rw [hm]
    constructor
    ·rintro ⟨w,hw,_,_,rfl⟩
     rw [(hcl w).1 hw]
     show (⟨_,((d+1:Nat):Int)+1⟩:Item)=_
     congr 1
    ·rintro rfl
     exact ⟨_,(hcl _).2 rfl,hn,h0,by congr 1⟩
end Lng
theorem appear:∀ (l:List Move) (n r t:Int),nxt n l=some r->n<=t->t<r->∃ v∈l,v.To=t
 | [],n,r,t,h,h1,h2=>by cases h; omega
 | v::l,n,r,t,h,h1,h2=>by
  simp only [nxt] at h
  split at h
  ·cases h
  ·by_cases e:v.To=n
   ·rw [if_pos e] at h
    by_cases et:t=n
    ·exact ⟨v,by simp,e.trans et.symm⟩
    ·obtain ⟨w,hw,hwt⟩:=appear l (n+1) r t h (by omega) h2
     exact ⟨w,by simp [hw],hwt⟩
   ·rw [if_neg e] at h
    obtain ⟨w,hw,hwt⟩:=appear l n r t h h1 h2
    exact ⟨w,by simp [hw],hwt⟩
theorem Mach.from {g:Grammar}{m:List State}{q j:Nat}(hM:Mach g m q j) {t:Nat}(ht:0<t) {st:State}(hst:m[t]?=some st):∃ (i:Nat) (u:State) (s:Int),i<t/\m[i]?=some u/\st.Kernel=ov g u.Kernel s/\ov g u.Kernel s≠[]:=by
 have htl:=(List.getElem?_eq_some_iff.1 hst).1
 have key:∃ (i:Nat) (u:State) (v:Move),i<t/\m[i]?=some u/\v∈u.Moves/\v.To=(t:Int):=by
  by_cases hq:t<=q
  ·obtain ⟨n,h1,h2⟩:=hM.nb t hq htl
   obtain ⟨v,hv,e⟩:=appear _ _ _ (t:Int) h1 (by omega) h2
   unfold flat at hv
   obtain ⟨u,hu,hvu⟩:=List.mem_flatMap.1 hv
   obtain ⟨i,hi⟩:=List.getElem?_of_mem hu
   have hil:=(List.getElem?_eq_some_iff.1 hi).1
   rw [List.length_take] at hil
   rw [List.getElem?_take] at hi
   split at hi
   ·exact ⟨i,u,v,by omega,hi,hvu,e⟩
   ·cases hi
  ·obtain ⟨v,hv,e⟩:=appear _ _ _ (t:Int) hM.nm (by omega) (by omega)
   unfold flat at hv
   obtain ⟨u,hu,hvu⟩:=List.mem_flatMap.1 hv
   obtain ⟨i,hi⟩:=List.getElem?_of_mem hu
   refine ⟨i,u,v,?_,hi,hvu,e⟩
   by_cases hiq:q<i
   ·rw [hM.late hiq hi] at hvu; cases hvu
   ·omega
 obtain ⟨i,u,v,hi,hu,hv,e⟩:=key
 have hmv:=hM.mv i u hu
 obtain ⟨t',st',h1,h2,h3⟩:=hmv.2 v hv
 have:t'=t:=by omega
 subst this
 rw [hst] at h2; cases h2
 refine ⟨i,u,v.Sym,hi,hu,h3,?_⟩
 have:v.Sym∈u.Moves.map (·.Sym):=List.mem_map.2 ⟨v,hv,rfl⟩
 rw [hmv.1,List.mem_filter,decide_eq_true_eq] at this
 exact this.2
theorem Lng.sub {g:Grammar}{rs:List (List Int)}(h:Lng g rs) {m:List State}{q j:Nat}(hM:Mach g m q j):∀ (t:Nat) (st:State),m[t]?=some st->∃ x∈items rs,st.Kernel=[x]:=by
 intro t
 induction t using Nat.strongRecOn with
 | _ t ih =>
  intro st hst
  by_cases ht:t=0
  ·subst ht
   obtain ⟨st0,h0,hk⟩:=hM.k0
   rw [hst] at h0; cases h0
   exact ⟨⟨0,0⟩,by simp [items],hk⟩
  ·obtain ⟨i,u,s,hi,hu,hk,hne⟩:=hM.from (by omega) hst
   obtain ⟨x,hx,hux⟩:=ih i hi u hu
   rw [hux] at hk hne
   obtain ⟨y,hy,e⟩:=h.ov_in hx s hne
   exact ⟨y,hy,by rw [hk,e]⟩
theorem ker_nodup {m:List State}(hd:Dst m):(m.map (·.Kernel)).Nodup:=by
 refine List.pairwise_map.2 ?_
 rw [List.pairwise_iff_getElem]
 intro i j hi hj hij e
 have:=hd i j m[i] m[j] (List.getElem?_eq_getElem hi) (List.getElem?_eq_getElem hj) e
 omega
theorem Lng.le {g:Grammar}{rs:List (List Int)}(h:Lng g rs) {m:List State}{q j:Nat}(hM:Mach g m q j):m.length<=2+(rs.map (·.length)).sum:=by
 have:=nd_le (ker_nodup hM.ds) (m:=(items rs).map fun x=>[x]) fun K hK=>by
  obtain ⟨st,hst,rfl⟩:=List.mem_map.1 hK
  obtain ⟨t,ht⟩:=List.getElem?_of_mem hst
  obtain ⟨x,hx,e⟩:=h.sub hM t st ht
  exact List.mem_map.2 ⟨x,hx,e.symm⟩
 rw [List.length_map,List.length_map,items_len] at this
 exact this
theorem Lng.lt {g:Grammar}{rs:List (List Int)}(h:Lng g rs) {m:List State}{q j:Nat}(hM:Mach g m q j) {st:State}{s:Int}(hst:m[q]?=some st) (hne:ov g st.Kernel s≠[]) (hno:∀ (i:Nat) (u:State),m[i]?=some u->u.Kernel≠ov g st.Kernel s):m.length+1<=2+(rs.map (·.length)).sum:=by
 obtain ⟨x,hx,hk⟩:=h.sub hM q st hst
 rw [hk] at hne hno
 obtain ⟨y,hy,e⟩:=h.ov_in hx s hne
 have hnd:([y]::m.map (·.Kernel)).Nodup:=by
  rw [List.nodup_cons]
  refine ⟨fun hm=>?_,ker_nodup hM.ds⟩
  obtain ⟨u,hu,hk⟩:=List.mem_map.1 hm
  obtain ⟨i,hi⟩:=List.getElem?_of_mem hu
  exact hno i u hi (by rw [hk,e])
 have:=nd_le hnd (m:=(items rs).map fun x=>[x]) fun K hK=>by
  rcases List.mem_cons.1 hK with rfl | hK
  ·exact List.mem_map.2 ⟨y,hy,rfl⟩
  ·obtain ⟨st,hst,rfl⟩:=List.mem_map.1 hK
   obtain ⟨t,ht⟩:=List.getElem?_of_mem hst
   obtain ⟨x,hx,e⟩:=h.sub hM t st ht
   exact List.mem_map.2 ⟨x,hx,e.symm⟩
 rw [List.length_cons,List.length_map,List.length_map,items_len] at this
 exact this
theorem Lng.has {g:Grammar}{rs:List (List Int)}(h:Lng g rs) {m:List State}(hM:Mach g m m.length 0):∀ x∈items rs,∃ (t:Nat) (st:State),m[t]?=some st/\st.Kernel=[x]:=by
  have go':∀ {x:Item}{s:Int}{y:Item},(∃ (t:Nat) (st:State),m[t]?=some st/\st.Kernel=[x])->ov g [x] s=[y]->∃ (t:Nat) (st:State),m[t]?=some st/\st.Kernel=[y]:=by
    rintro x s y ⟨t,st,ht,hk⟩ he
    have hin:=(mv_sym h.ho hM ht s).2 (by rw [hk,he]; simp)
    obtain ⟨v,hv,rfl⟩:=List.mem_map.1 hin
    obtain ⟨t',u,_,h2,h3⟩:=mv_to hM ht hv
    exact ⟨t',u,h2,by rw [h3,hk,he]⟩
  have first:∃ (t:Nat) (st:State),m[t]?=some st/\st.Kernel=[⟨0,0⟩]:=by
    obtain ⟨st0,h0,hk⟩:=hM.k0
    exact ⟨0,st0,h0,hk⟩
  have e0:nx g ⟨0,0⟩=1001:=h.nx0 0
  intro x hx
  rcases List.mem_cons.1 hx with rfl | hx
  · exact first
  · rcases List.mem_cons.1 hx with rfl | hx
    · refine go' (s:=1001) first ?_
      obtain ⟨_,_,ha,hm⟩:=ov_spec h.ho (K:=[⟨0,0⟩]) (by simp) 1001
      refine Lng.one_of ha.a fun y=>?_
      rw [hm]
      constructor
      · rintro ⟨z,hz,hn,_,rfl⟩
        rcases (h.cl0 z).1 hz with rfl | ⟨i,r,hr,rfl⟩
        · rfl
        · have:=h.nxlt hr 0
          have e:((0:Nat):Int)=0:=rfl
          rw [e,hn] at this
          omega
      · rintro rfl
        exact ⟨⟨0,0⟩,(h.cl0 _).2 (.inl rfl),e0,by decide,rfl⟩
    · obtain ⟨i,r,d,hr,hd,rfl⟩:=(Lng.go_mem rs 1 x).1 hx
      have key:∀ d:Nat,d<r.length->∃ (t:Nat) (st:State),m[t]?=some st/\st.Kernel=[⟨((1+i:Nat):Int),((d+1:Nat):Int)⟩]:=by
       intro d
       induction d with
       | zero =>
         intro hd
         have hr0:r[0]?=some r[0]:=List.getElem?_eq_getElem hd
         refine go' (s:=r[0]) first ?_
         have hn:=h.nxS hr 0
         rw [hr0] at hn
         have e:((0:Nat):Int)=0:=rfl
         rw [e] at hn
         have hn:nx g ⟨((i+1:Nat):Int),0⟩=r[0]:=hn
         have hs0:=h.tk r (List.mem_of_getElem? hr) r[0] (List.getElem_mem hd)
         obtain ⟨y,hy,e⟩:=h.ov_in (x:=⟨0,0⟩) (by simp [Lng.items]) r[0] ((ov_ne h.ho (by simp)).2 ⟨⟨((i+1:Nat):Int),0⟩,(h.cl0 _).2 (.inr ⟨i,r,hr,rfl⟩),hn,hs0.1⟩)
         have hmem:=((ov_spec h.ho (K:=[⟨0,0⟩]) (by simp) r[0]).2.2.2 ⟨((i+1:Nat):Int),1⟩).2 ⟨⟨((i+1:Nat):Int),0⟩,(h.cl0 _).2 (.inr ⟨i,r,hr,rfl⟩),hn,hs0.1,rfl⟩
         rw [e] at hmem ⊢
         rw [<- List.mem_singleton.1 hmem]
         congr 2
         omega
       | succ d ih =>
         intro hd
         have hrd:r[d+1]?=some r[d+1]:=List.getElem?_eq_getElem hd
         refine go' (s:=r[d+1]) (ih (by omega)) ?_
         have ei:(1+i:Nat)=i+1:=by omega
         rw [ei]
         have hn:=h.nxS hr (d+1)
         rw [hrd] at hn
         have hn:nx g ⟨((i+1:Nat):Int),((d+1:Nat):Int)⟩=r[d+1]:=hn
         have hs0:=h.tk r (List.mem_of_getElem? hr) r[d+1] (List.getElem_mem hd)
         obtain ⟨q,hq,_,hR⟩:=h.atS hr
         have hi:isI g ⟨((i+1:Nat):Int),((d+1:Nat):Int)⟩:=⟨q,idx_of hq,by show (0:Int)<=((d+1:Nat):Int); omega,by rw [hR]; show ((d+1:Nat):Int)<=_; omega⟩
         obtain ⟨_,_,ha,hm⟩:=ov_spec h.ho (K:=[⟨((i+1:Nat):Int),((d+1:Nat):Int)⟩]) (by simp) r[d+1]
         refine Lng.one_of ha.a fun y=>?_
         rw [hm]
         have hcl:=fun z=>Lng.cl1 hi (h.nxlt hr (d+1)) z
         constructor
         · rintro ⟨w,hw,_,_,rfl⟩
           rw [(hcl w).1 hw]
           show (⟨_,((d+1:Nat):Int)+1⟩:Item)=_
           congr 1
         · rintro rfl
           exact ⟨_,(hcl _).2 rfl,hn,hs0.1,by congr 1⟩
      exact key d hd
theorem Lng.eq {g:Grammar}{rs:List (List Int)}(h:Lng g rs) {m:List State}(hM:Mach g m m.length 0):m.length=2+(rs.map (·.length)).sum:=by
 have h1:=h.le hM
 have hnd:((Lng.items rs).map fun x=>[x]).Nodup:=by
  refine List.pairwise_map.2 (((Lng.items_asc rs).nd ordI).imp fun {a b} hab e=>hab ?_)
  cases e; rfl
 have h2:=nd_le hnd (m:=m.map (·.Kernel)) fun K hK=>by
  obtain ⟨x,hx,rfl⟩:=List.mem_map.1 hK
  obtain ⟨t,st,ht,hk⟩:=h.has hM x hx
  exact List.mem_map.2 ⟨st,List.mem_of_getElem? ht,hk⟩
 rw [List.length_map,List.length_map,Lng.items_len] at h2
 omega
open Go Go.Own Go.Sort
set_option maxRecDepth 100000
set_option linter.unusedVariables false
def Err (g:Grammar):Prop:=∃ (m:List State) (q j:Nat) (st:State) (s:Int),Mach g m q j/\m.length=150/\m[q]?=some st/\ov g st.Kernel s≠[]/\∀ (i:Nat) (u:State),m[i]?=some u->u.Kernel≠ov g st.Kernel s
theorem c44x (g:Grammar) (ho:GOk g):Tot (pf44 g) fun a=>(a.2=0/\Mach g a.1 a.1.length 0)\/(a.2=4/\a.1=[]/\Err g):=by
 have hT:=ho.tn
 have hN:=ho.nn
 have hL:=syms_len g
 unfold pf44
 refine .by' (c79 g ho) fun x1 h1=>?_
 subst h1
 refine .by' (Ξ:=LR (fun m:List State=>Mach g m m.length 0) (fun r:List State × Int=>r.2=4/\r.1=[]/\Err g)) ?_ fun x hx=>?_
 ·refine Tot.count (fun s=>s.2) 150 (fun s=>∃ q:Nat,s.2=(q:Int)/\q<=s.1.length/\Mach g s.1 q 0) ⟨0,rfl,Nat.zero_le _,Mach.start ho⟩ (by decide) fun s hst=>?_
  obtain ⟨q,he,hq,hM⟩:=hst
  obtain ⟨m,i⟩:=s
  simp only at he hq hM ⊢
  subst he
  have hn1:=hM.n1
  rw [w64c q (by omega)]
  refine Tot.cp (fun hlt=>?_) (fun hge=>.so ?_)
  ·have hlt:q<m.length:=by omega
   obtain ⟨st,hst⟩:∃ st,m[q]?=some st:=⟨_,List.getElem?_eq_getElem hlt⟩
   rw [idx_of hst]
   simp only [Option.bind_some]
   have hKl:=hM.k0len ho hst
   refine .by' (c36 g ho st.Kernel hKl) fun c hc=>?_
   refine .by' (Ξ:=LR (fun a:List State=>Mach g a q (syms g).length/\q<a.length) (fun r:List State × Int=>r.2=4/\r.1=[]/\Err g)) ?_ fun x hx=>?_
   ·refine Tot.upto (fun s=>s.2) (syms g).length (fun k s=>Mach g s.1 q k/\∃ u,s.1[q]?=some u/\u.Kernel=st.Kernel) rfl (by omega) ⟨hM,st,hst,rfl⟩ fun k s hk he hI=>?_
    obtain ⟨hMk,u,hu,huK⟩:=hI
    obtain ⟨m,i⟩:=s
    simp only at he hMk hu ⊢
    subst he
    rw [w64c k (by omega)]
    have hqm:=(List.getElem?_eq_some_iff.1 hu).1
    have hml:=hMk.n1
    refine Tot.cp (fun hlt=>?_) (fun hge=>.so ⟨?_,hqm⟩)
    ·have hlt:k<(syms g).length:=by omega
     have hs:(syms g)[k]?=some (syms g)[k]:=List.getElem?_eq_getElem hlt
     rw [idx_nat hlt]
     generalize (syms g)[k]=s at *
     obtain ⟨hv,hv',hvk,hvm⟩:=ov_spec ho hKl s
     have hvl:=hvk.len ho
     simp only [Option.bind_some]
     rw [step_spec ho hKl hc s]
     simp only [Option.bind_some]
     by_cases hne:ov g st.Kernel s=[]
     ·rw [hne]
      refine .so ⟨hlt,rfl,hMk.skip hu hs (by rw [huK]; exact hne),u,hu,huK⟩
     ·have e2:decide (((ov g st.Kernel s).length:Int)=0)=false:=decide_eq_false fun e=>hne (List.eq_nil_of_length_eq_zero (by omega))
      rw [e2]
      simp only [cond_false]
      have hsz:=hMk.sz ho
      obtain ⟨r1,er1,hr1⟩:=c48 m (ov g st.Kernel s) hsz (by omega)
      rw [asc_dd hvk.a] at hr1
      rw [er1]
      simp only [Option.bind_some]
      have hmvl:=mv_len ho hMk hu
      rcases hr1 with ⟨rfl,hno⟩ | ⟨t,w,hw1,hw2,rfl⟩
      ·have e4:decide ((-1:Int)<0)=true:=rfl
       rw [e4]
       simp only [cond_true]
       have e5:appO m [(⟨ov g st.Kernel s,([]:List Move)⟩:State)]=some (m++[⟨ov g st.Kernel s,[]⟩]):=by
        unfold appO; rw [if_pos (by simp [lim]; omega)]
       rw [e5]
       simp only [Option.bind_some]
       by_cases hfull:m.length=150
       ·have e6:decide ((150:Int)<=(m.length:Int))=true:=decide_eq_true (by omega)
        rw [e6]
        exact .so ⟨rfl,rfl,m,q,k,u,s,hMk,hfull,hu,by rw [huK]; exact hne,by rw [huK]; exact hno⟩
       ·have e6:decide ((150:Int)<=(m.length:Int))=false:=decide_eq_false (by omega)
        have hu2:=snoc_get' (ext:=[(⟨ov g st.Kernel s,[]⟩:State)]) hu
        have e8:appO u.Moves [(⟨s,(m.length:Int)⟩:Move)]=some (u.Moves++[⟨s,(m.length:Int)⟩]):=by
         unfold appO; rw [if_pos (by simp [lim]; omega)]
        rw [e6]
        simp only [cond_false]
        rw [idx_of hu2]
        simp only [Option.bind_some,e8]
        have hmove:=hMk.move ho (ext:=[(⟨ov g u.Kernel s,[]⟩:State)]) (t:=m.length) hu hs (by rw [huK]; exact hne) (.inr ⟨rfl,rfl,by rw [huK]; exact hno,by omega⟩)
        rw [huK] at hmove
        refine .so ⟨hlt,rfl,?_,⟨st.Kernel,u.Moves++[⟨s,(m.length:Int)⟩]⟩,?_,rfl⟩
        ·show Mach g (List.set _ (q:Int).toNat _) q (k+1)
         rw [Int.toNat_natCast,huK]; exact hmove
        ·show (List.set _ (q:Int).toNat _)[q]?=_
         rw [Int.toNat_natCast,set_get (by rw [List.length_append]; omega),if_pos rfl,huK]
      ·have ht:=(List.getElem?_eq_some_iff.1 hw1).1
       have e4:decide ((t:Int)<0)=false:=decide_eq_false (by omega)
       have e6:decide ((150:Int)<=(t:Int))=false:=decide_eq_false (by omega)
       rw [e4]
       simp only [cond_false,Option.bind_some,e6]
       rw [idx_of hu]
       have e8:appO u.Moves [(⟨s,(t:Int)⟩:Move)]=some (u.Moves++[⟨s,(t:Int)⟩]):=by
        unfold appO; rw [if_pos (by simp [lim]; omega)]
       simp only [Option.bind_some,e8]
       have hmove:=hMk.move ho (ext:=[]) (t:=t) hu hs (by rw [huK]; exact hne) (.inl ⟨rfl,w,hw1,by rw [huK]; exact hw2⟩)
       rw [List.append_nil,huK] at hmove
       refine .so ⟨hlt,rfl,?_,⟨st.Kernel,u.Moves++[⟨s,(t:Int)⟩]⟩,?_,rfl⟩
       ·show Mach g (List.set _ (q:Int).toNat _) q (k+1)
        rw [Int.toNat_natCast,huK]; exact hmove
       ·show (List.set _ (q:Int).toNat _)[q]?=_
        rw [Int.toNat_natCast,set_get hqm,if_pos rfl,huK]
    ·have:k=(syms g).length:=by omega
     subst this
     exact hMk
   ·rcases x with x | x
    ·obtain ⟨hMe,hqa⟩:=hx
     have:=hMe.n1
     exact .so ⟨⟨q+1,rfl,hqa,hMe.next hqa (Nat.le_refl _)⟩,by show (q:Int)<((q+1:Nat):Int); omega,by show ((q+1:Nat):Int)<=150; omega⟩
    ·exact .so hx
  ·have:q=m.length:=by omega
   subst this
   exact hM
 ·rcases x with x | x
  ·exact .so (.inl ⟨rfl,hx⟩)
  ·exact .so (.inr hx)
def sumL (ns:List Nat):Nat:=(ns.map fun n=>n+1).sum
theorem rts_sum:∀ (ls:List Int) (ns:List Nat) (pl:Int),ls.length=ns.length->((rts ls ns pl).map (·.length)).sum=sumL ns
 | [],[],_,_=>rfl
 | l::ls,n::ns,pl,h=>by
  have ih:=rts_sum ls ns pl (by simpa using h)
  show ((l::List.replicate n pl).length::(rts ls ns pl).map (·.length)).sum=((n+1)::ns.map fun n=>n+1).sum
  rw [List.sum_cons,List.sum_cons,ih]
  simp [sumL]
theorem rts_get {ls:List Int}{ns:List Nat}{pl:Int}{i:Nat}{r:List Int}(h:(rts ls ns pl)[i]?=some r):∃ (l:Int) (n:Nat),ls[i]?=some l/\ns[i]?=some n/\r=l::List.replicate n pl:=by
 unfold rts at h
 rw [List.getElem?_zipWith] at h
 cases h1:ls[i]? with
 | none=>rw [h1] at h; simp at h
 | some l =>
  cases h2:ns[i]? with
  | none=>rw [h1,h2] at h; simp at h
  | some n =>
   rw [h1,h2] at h
   exact ⟨l,n,rfl,rfl,(Option.some.inj h).symm⟩
def altsN:Nat->List Nat->List Alt
 | _,[]=>[]
 | i,n::ns=>altN i n::altsN (i+1) ns
theorem altsN_get:∀ (ns:List Nat) (i k:Nat),(altsN i ns)[k]?=(ns[k]?).map (altN (i+k))
 | [],_,_=>rfl
 | n::ns,i,0=>rfl
 | n::ns,i,k+1=>by
  show (altsN (i+1) ns)[k]?=_
  rw [altsN_get ns (i+1) k]
  show _=(ns[k]?).map _
  rw [show i+1+k=i+(k+1) by omega]
theorem altsN_len:∀ (ns:List Nat) (i:Nat),(altsN i ns).length=ns.length
 | [],_=>rfl
 | n::ns,i=>by simp [altsN,altsN_len ns]
theorem altsN_app:∀ (ns:List Nat) (i n:Nat),altsN i (ns++[n])=altsN i ns++[altN (i+ns.length) n]
 | [],i,n=>rfl
 | m::ns,i,n=>by
  show altN i m::altsN (i+1) (ns++[n])=_
  rw [altsN_app ns (i+1) n]
  show _=altN i m::(altsN (i+1) ns++_)
  rw [List.length_cons,show i+1+ns.length=i+(ns.length+1) by omega]
structure LOk (ns:List Nat):Prop where
 n:ns.length<=24
 r:∀ n∈ns,n<=7
theorem l106 {i n:Nat}(hi:i<24):Par (pf106 (altN i n)) fun r=>r=true:=by
 unfold pf106
 refine .by' (Ξ:=LR (fun _=>True) (fun _:Bool=>False)) ?_ fun x hx=>?_
 ·refine Par.loop (fun _=>True) trivial fun s _=>Par.cd (fun _=>.go fun y hy=>?_) (fun _=>.so trivial)
  have hp:pf131 pSym false true=some true:=by kernel_rfl
  refine .by' (Ξ:=fun c=>c=false) ?_ fun c hc=>by subst hc; exact .so trivial
  rcases List.mem_cons.1 (idx_bd' hy) with rfl | hm
  ·have c:decide (nE=({ data:=#[] }:ByteArray))=true:=rfl
   dsimp only
   rw [c,(okl_of hi).l]
   exact .so rfl
  ·have:=(List.mem_replicate.1 hm).2
   subst this
   have c:decide (nE=({ data:=#[] }:ByteArray))=true:=rfl
   dsimp only
   rw [c,hp]
   exact .so rfl
 ·rcases x with _ | r
  ·have e:pf133 (altN i n).Prec=some true:=by
    show pf133 syN'=some true
    kernel_rfl
   rw [e]
   exact .so rfl
  ·exact hx.elim
def grl (ns:List Nat):Source:=⟨nE,[],[⟨nS,if ns=[] then [aE] else altsN 0 ns,0⟩],nE⟩
theorem l61 (ns:List Nat) (h:LOk ns) (hne:ns≠[]):Par (pf61 ⟨nE,[],[⟨nS,altsN 0 ns,0⟩],nE⟩) fun r=>r.2.1=0/\∃ G,JJ ns ns.length r.1.Toks G r.1.Prods:=by
 have hn:=h.n
 have hlen:=altsN_len ns 0
 have key:=p61y (A:=altsN 0 ns) (J:=JJ ns) (fun e=>hne (List.eq_nil_of_length_eq_zero (by rw [<- hlen,e]; rfl))) (by omega) (fun a ha=>?_) ?_ (fun j a ha m hm=>?_) fun T G P hJ=>?_
 ·rw [hlen] at key; exact key
 ·obtain ⟨k,hk⟩:=List.getElem?_of_mem ha
  rw [altsN_get] at hk
  cases hx:ns[k]? with
  | none=>rw [hx] at hk; cases hk
  | some n =>
   rw [hx] at hk
   have hk:=Option.some.inj hk
   subst hk
   have:=(List.getElem?_eq_some_iff.1 hx).1
   exact l106 (by omega)
 ·refine ⟨[],0,⟨rfl,.inr ⟨?_,rfl⟩,fun i b hi hb=>?_,rfl,fun i l hl=>(by cases hl),fun t ht=>.inl ht,by decide⟩,.inr ⟨?_,fun n hn=>by simp at hn⟩,?_⟩
  ·rintro ⟨t,ht,e⟩
   have:=T3_nm ht
   rw [e] at this
   exact absurd this (by decide)
  ·have:=(List.getElem?_eq_some_iff.1 hb).1
   simp at this
   omega
  ·rintro ⟨t,ht,e⟩
   have:=T3_nm ht
   rw [e] at this
   exact absurd this (by decide)
  ·simp [rts,LR2]
 ·rw [altsN_get] at ha
  cases hx:ns[j]? with
  | none=>rw [hx] at ha; cases ha
  | some n =>
   rw [hx] at ha
   have ha:=Option.some.inj ha
   subst ha
   have hjl:=(List.getElem?_eq_some_iff.1 hx).1
   rw [Nat.zero_add]
   exact p93L hx (by omega) (h.r n (List.mem_of_getElem? hx)) m hm
 ·rw [hlen] at hJ
  obtain ⟨ls,pl,hT,hpl,hP⟩:=hJ
  rw [List.take_length] at hP
  have hPl:=congrArg List.length hP
  have hll:=hT.ll
  rw [List.length_map,List.length_cons,List.length_map] at hPl
  have hrl:(rts ls ns pl).length=ns.length:=by unfold rts; rw [List.length_zipWith]; omega
  refine ⟨hT.gv,by rcases hT.ln with h | h <;> omega,by omega,fun p hp=>?_⟩
  have:LR2 p∈P.map LR2:=List.mem_map.2 ⟨p,hp,rfl⟩
  rw [hP] at this
  rcases List.mem_cons.1 this with e | e
  ·have:p.Right=[1001]:=congrArg Prod.snd e
   rw [this]; decide
  ·obtain ⟨r,hr,e⟩:=List.mem_map.1 e
   have:p.Right=r:=(congrArg Prod.snd e).symm
   rw [this]
   obtain ⟨i,hi⟩:=List.getElem?_of_mem hr
   obtain ⟨l,n,_,h2,rfl⟩:=rts_get hi
   have:=h.r n (List.mem_of_getElem? h2)
   simp
   omega
theorem lsrc (ns:List Nat) (h:LOk ns):SrcB (grl ns):=by
 have hn:=h.n
 refine ⟨by show (0:Nat)<=big; decide,by show 0<=1000; decide,(fun d hd=>by cases hd),by show 1<=1000; decide,fun r hr=>?_⟩
 have hr:r∈[(⟨nS,if ns=[] then [aE] else altsN 0 ns,0⟩:Rule)]:=hr
 rw [List.mem_singleton.1 hr]
 refine ⟨by show (1:Nat)<=big; decide,?_,fun a ha=>?_⟩
 ·show (if ns=[] then [aE] else altsN 0 ns).length<=1000
  split
  ·decide
  ·rw [altsN_len]; omega
 ·have ha:a∈if ns=[] then [aE] else altsN 0 ns:=ha
  split at ha
  ·rw [List.mem_singleton.1 ha]
   exact ⟨by decide,fun p hp=>(by cases hp),by decide⟩
  ·obtain ⟨k,hk⟩:=List.getElem?_of_mem ha
   rw [altsN_get] at hk
   cases hx:ns[k]? with
   | none=>rw [hx] at hk; cases hk
   | some n =>
    rw [hx] at hk
    have hk:=Option.some.inj hk
    subst hk
    have hkl:=(List.getElem?_eq_some_iff.1 hx).1
    have hn7:=h.r n (List.mem_of_getElem? hx)
    refine ⟨by simp [altN]; omega,fun p hp=>?_,by show (0:Nat)<=big; decide⟩
    rcases List.mem_cons.1 hp with rfl | hm
    ·refine ⟨?_,by show (0:Nat)<=big; decide⟩
     show (ltr (0+k)).size<=big
     rw [(okl_of (by omega)).s]; decide
    ·rw [(List.mem_replicate.1 hm).2]
     exact ⟨by decide,by decide⟩
theorem l20 (ns:List Nat) (h:LOk ns):∃ g rs,pf20 (grl ns)=some (g,true)/\Lng g rs/\(rs.map (·.length)).sum=sumL ns:=by
 obtain ⟨r,hr,h1⟩:=t20 (grl ns) (lsrc ns h)
 by_cases hne:ns=[]
 ·subst hne
  have h2:r.2=true/\r.1.Prods=[P0,⟨1,[],-1,nE,[],0⟩]:=by
   have:Par (pf20 (grl [])) fun r=>r.2=true/\r.1.Prods=[P0,⟨1,[],-1,nE,[],0⟩]:=by
    unfold pf20
    exact .by' (x61 [] ⟨Nat.zero_le _,fun k hk=>(by cases hk),List.nodup_nil⟩) fun r hr=>.so ⟨decide_eq_true hr.1,hr.2.2⟩
   exact this r hr
  obtain ⟨g,b⟩:=r
  obtain ⟨rfl,h2⟩:=h2
  simp only at h1 h2
  refine ⟨g,[[]],hr,⟨h1 trivial,by rw [h2]; rfl,fun r hr s hs=>?_,fun i j a b x ha hb hx _=>?_⟩,rfl⟩
  ·rw [List.mem_singleton.1 hr] at hs; cases hs
  ·cases i with
   | zero =>
    have:a=[]:=by cases ha; rfl
    subst this; cases hx
   | succ i=>cases ha
 ·have h2:r.2=true/\∃ G,JJ ns ns.length r.1.Toks G r.1.Prods:=by
   have:Par (pf20 (grl ns)) fun r=>r.2=true/\∃ G,JJ ns ns.length r.1.Toks G r.1.Prods:=by
    unfold pf20 grl
    rw [if_neg hne]
    exact .by' (l61 ns h hne) fun r hr=>.so ⟨decide_eq_true hr.1,hr.2⟩
   exact this r hr
  obtain ⟨g,b⟩:=r
  obtain ⟨rfl,G,ls,pl,hT,hpl,hP⟩:=h2
  have ho:GOk g:=h1 rfl
  simp only at hT hpl hP
  rw [List.take_length] at hpl hP
  have hll:=hT.ll
  have hn:=h.n
  have hTl:g.Toks.length<=40:=ho.tn.2
  have lsd:∀ (i j:Nat) (x:Int),ls[i]?=some x->ls[j]?=some x->i=j:=fun i j x hi hj=>by
   obtain ⟨k,t,h1,_,h3,h4⟩:=hT.lt i x hi
   obtain ⟨k',t',h1',_,h3',h4'⟩:=hT.lt j x hj
   have:k=k':=by omega
   subst this
   rw [h3] at h3'; cases h3'
   have hi':=(List.getElem?_eq_some_iff.1 hi).1
   have hj':=(List.getElem?_eq_some_iff.1 hj).1
   exact ltr_in2 (by omega) (by omega) (h4.symm.trans h4')
  refine ⟨g,rts ls ns pl,hr,⟨ho,hP,fun r hr s hs=>?_,fun i j a b x ha hb hax hbx=>?_⟩,rts_sum ls ns pl hll⟩
  ·obtain ⟨i,hi⟩:=List.getElem?_of_mem hr
   obtain ⟨l,n,hl,hn',rfl⟩:=rts_get hi
   rcases List.mem_cons.1 hs with rfl | hs
   ·obtain ⟨k,t,h1,_,h3,_⟩:=hT.lt i s hl
    have:=(List.getElem?_eq_some_iff.1 h3).1
    omega
   ·obtain ⟨hn0,rfl⟩:=List.mem_replicate.1 hs
    rcases hpl with ⟨k,t,h1,_,h3,_⟩ | ⟨_,h0⟩
    ·have:=(List.getElem?_eq_some_iff.1 h3).1
     omega
    ·exact absurd (h0 n (List.mem_of_getElem? hn')) hn0
  ·obtain ⟨l,n,hl,_,rfl⟩:=rts_get ha
   obtain ⟨l',n',hl',_,rfl⟩:=rts_get hb
   have e1:l=x:=by simpa using hax
   have e2:l'=x:=by simpa using hbx
   subst e1 e2
   exact lsd i j _ hl hl'
theorem t14 (lens:List Int):pf14 lens=some true:=by
 suffices h:Tot (pf14 lens) fun r=>r=true by
  obtain ⟨r,hr,e⟩:=h; rw [hr,e]
 unfold pf14
 rw [w43]
 refine Tot.sm (.by' (Ξ:=fun r:List Alt × Int=>∃ ns:List Nat,LOk ns/\r.1=altsN 0 ns/\r.2=2+(sumL ns:Int)) ?_ fun r hr=>?_)
 ·refine Tot.upto (fun s=>s.2.2) 24 (fun k s=>∃ ns:List Nat,ns.length=k/\(∀ n∈ns,n<=7)/\s.1=altsN 0 ns/\s.2.1=2+(sumL ns:Int)/\sumL ns<=8 * k) rfl (by omega) ⟨[],rfl,fun n hn=>(by cases hn),rfl,rfl,Nat.le_refl 0⟩ fun k s hk he hI=>?_
  obtain ⟨al,wt,i⟩:=s
  obtain ⟨ns,h1,h2,h3,h4,h5⟩:=hI
  simp only at he h3 h4 ⊢
  subst he h3 h4
  rw [w64c k (by omega)]
  refine .by' (Ξ:=fun c:Bool=>c=true->k<lens.length/\k<24) (Tot.cp (fun h=>.so fun h'=>⟨by omega,by have:=of_decide_eq_true h'; omega⟩) (fun h=>.so fun h=>by cases h)) fun c hc=>Tot.cd (fun h=>?_) (fun h=>.so ⟨ns,⟨by omega,h2⟩,rfl,rfl⟩)
  obtain ⟨g1,g2⟩:=hc h
  rw [idx_nat g1]
  simp only [Option.bind_some]
  refine .by' (t22 _ 8 (by decide) (by decide)) fun v hv=>?_
  obtain ⟨n,rfl⟩:∃ n:Nat,v=(n:Int):=⟨v.toNat,by omega⟩
  have hn8:n<=7:=by omega
  refine .by' (Ξ:=fun l:List Part=>l=(altN k n).Parts) ?_ fun l hl=>?_
  ·refine Tot.upto (fun s=>s.2) n (fun i s=>s.1=(⟨lSym k,nE,0⟩:Part)::List.replicate i ⟨pSym,nE,0⟩) rfl (by omega) rfl fun i s hi he hI=>?_
   obtain ⟨l,i'⟩:=s
   simp only at he hI ⊢
   subst he hI
   rw [w64c i (by omega)]
   refine Tot.cp (fun hlt=>?_) (fun hge=>.so ?_)
   ·refine .by' (Ξ:=fun _=>True) (Tot.ap (by simp [lim]; omega) trivial) fun _ _=>.so ⟨by omega,rfl,?_⟩
    show (_::List.replicate i _)++[_]=_::List.replicate (i+1) _
    rw [List.cons_append,<- List.replicate_succ']
   ·have:i=n:=by omega
    subst this; rfl
  ·subst hl
   have hal:=altsN_len ns 0
   refine .by' (Ξ:=fun _=>True) (Tot.ap (by simp [lim]; omega) trivial) fun _ _=>.so ⟨g2,rfl,ns++[n],by simp; omega,fun x hx=>?_,?_,?_,?_⟩
   ·rcases List.mem_append.1 hx with hx | hx
    ·exact h2 x hx
    ·rw [List.mem_singleton.1 hx]; exact hn8
   ·rw [altsN_app,Nat.zero_add,h1]; rfl
   ·have e:sumL (ns++[n])=sumL ns+(n+1):=by simp [sumL]
    have hw:w64 ((n:Int)+1)=((n+1:Nat):Int):=w64c n (by omega)
    show w64 (2+(sumL ns:Int)+w64 ((n:Int)+1))=_
    rw [e,hw,w64_eq]; omega
   ·have e:sumL (ns++[n])=sumL ns+(n+1):=by simp [sumL]
    rw [e]; omega
 ·obtain ⟨al,wt⟩:=r
  obtain ⟨ns,hL,rfl,rfl⟩:=hr
  obtain ⟨g,rs,hg,hl,hsum⟩:=l20 ns hL
  refine .by' (Ξ:=fun l:List Alt=>l=if ns=[] then [aE] else altsN 0 ns) (Tot.cp (fun h=>.so ?_) (fun h=>.so ?_)) fun l hl'=>?_
  ·rw [if_pos (List.eq_nil_of_length_eq_zero (by rw [altsN_len] at h; omega))]
  ·rw [if_neg (fun e=>by rw [e] at h; exact h rfl)]
  ·subst hl'
   have hg:pf20 ⟨{ data:=#[] },[],[⟨{ data:=#[115] },if ns=[] then [aE] else altsN 0 ns,0⟩],{ data:=#[] }⟩=some (g,true):=hg
   rw [hg]
   simp only [Option.bind_some]
   refine .by' (c44x g hl.ho) fun a ha=>?_
   obtain ⟨m,e⟩:=a
   rcases ha with ⟨he,hM⟩ | ⟨he,hm,m',q,j,st,s,hM,h150,hst,hne,hno⟩
   ·simp only at he hM ⊢
    subst he
    have:=hl.eq hM
    have hn1:=hM.n1
    have c1:decide (150<2+(sumL ns:Int))=false:=decide_eq_false (by omega)
    have c2:decide ((m.length:Int)=2+(sumL ns:Int))=true:=decide_eq_true (by omega)
    rw [c1]
    simp only [cond_false,cond_true,decide_true,c2,Option.bind_some]
    exact .so rfl
   ·simp only at he hm ⊢
    subst he hm
    have:=hl.lt hM hst hne hno
    have c1:decide (150<2+(sumL ns:Int))=true:=decide_eq_true (by omega)
    rw [c1]
    exact .so rfl
end Go.Proofs
