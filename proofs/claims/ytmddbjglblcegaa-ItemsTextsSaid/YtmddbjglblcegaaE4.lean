/-
  What is proved here: parts of the proof that the last text states: rules for walks through code, and of this program's functions what they answer. No condition of their own.
-/
import Derived.Test.YtmddbjglblcegaaE3
namespace Go.Proofs
open Go Go.Own
set_option maxRecDepth 100000
set_option linter.unusedVariables false
theorem idx_bd' {α:Type}{l:List α}{i:Int}{y:α}(h:idx l i=some y):y∈l:=List.mem_of_getElem? (idx_at h).2.2
theorem TI.setL {m:Mk}(h:TI m) {k:Nat}{t t':Tok}(hk:m.f_g.Toks[k]?=some t) (hn:t'.Name=t.Name) (hl:t'.Lit=t.Lit) (hu:t'.Num=t.Num):TI0 (m.f_g.Toks.set k t') m.f_given∧(m.f_e=0→TI1 (m.f_g.Toks.set k t') m.f_given) :=
 ⟨h.a.set hk hn hl (by rw [hu]; exact h.a.le t (List.mem_of_getElem? hk)) rfl,fun e=>(h.b e).setL hk hu⟩
theorem TI.failT {m m':Mk}(h:TI m) (hs:Same m m'∧m'.f_e≠0):TI (⟨(⟨m.f_g.Toks,m'.f_g.Nons,m'.f_g.Prods,m'.f_g.Pro,m'.f_g.Tail⟩:Grammar),m'.f_given,m'.f_types,m'.f_lefts,m'.f_e,m'.f_at,m'.f_name,m'.f_level,m'.f_inner⟩:Mk) :=
 ⟨by show TI0 m.f_g.Toks m'.f_given; rw [hs.1.gv]; exact h.a,fun e=>absurd e hs.2,by show ∀ y∈m'.f_lefts,_; rw [hs.1.lf]; exact h.lf⟩
theorem p89 (m:Mk) (d:Decl) (x:Sym) (hm:TI m) (hx:SymN x) (hs:x.Name.size≤big):Par (pf89 m d x) TI:=by
 unfold pf89
 refine Par.cd (fun _=>?_) (fun _=>?_)
 ·refine .by' (Ξ:=fun _=>True) (fun _ _=>trivial) fun k _=>.by' (Ξ:=TI) ?_ fun m' hm=>.so hm
  refine Par.cp (fun _=>Par.ap fun _=>.so ⟨hm.a,hm.b,hm.lf⟩) (fun _=>?_)
  refine .go fun y _=>.by' (Ξ:=TI) (Par.cd (fun _=>.by' (p90 m _ _) fun m' h=>.so (hm.fail h)) (fun _=>.so hm)) fun m' hm=>.so hm
 ·refine .by' (p107 m x hm hx hs) fun r hr=>?_
  obtain ⟨hr,hr1⟩:=hr
  refine .go fun y hy=>?_
  refine .by' (Ξ:=TI) ?_ fun j12 h12=>?_
  ·refine Par.cd (fun _=>?_) (fun _=>.so hr)
   refine .by' (Ξ:=TI) (Par.cd (fun _=>.by' (p90 r.2 _ _) fun m' h=>.so (hr.failT h)) (fun _=>.so hr)) fun j14 h14=>?_
   refine .go fun z hz=>?_
   obtain ⟨_,_,hz⟩:=idx_at hz
   rw [List.set_set]
   obtain ⟨h1,h2⟩:=h14.setL (t':=(⟨z.Name,z.Lit,z.Num,j14.f_level,w64 (d.Kind - 1),z.Tag⟩:Tok)) hz rfl rfl rfl
   exact .so ⟨h1,h2,h14.lf⟩
  refine .go fun y _=>?_
  refine .by' (Ξ:=TI) ?_ fun j19 h19=>?_
  ·refine Par.cp (fun hpos=>?_) (fun _=>.so h12)
   refine .by' (Ξ:=fun c:Bool=>c=false→r.1≠1∧∀ (i:Nat) (t:Tok),3≤i→j12.f_g.Toks[i]?=some t→t.Num≠x.Num) ?_ fun c hc=>?_
   ·refine Par.cp (fun _=>.so fun h=>by cases h) (fun h1=>.go fun gv _=>Par.cd (fun _=>.so fun h=>by cases h) (fun _=>.by' (p108 j12 x.Num h12.a.lo h12.a.hi) fun o ho=>.so fun h=>⟨h1,ho (by have:=of_decide_eq_false h; omega)⟩))
   refine .by' (Ξ:=fun j=>TI j∧(j.f_e=0→r.1≠1∧∀ (i:Nat) (t:Tok),3≤i→j.f_g.Toks[i]?=some t→t.Num≠x.Num)) (Par.cd (fun _=>.by' (p90 j12 _ _) fun m' h=>.so ⟨h12.failT h,fun e=>absurd e h.2⟩) (fun h=>.so ⟨h12,fun _=>hc h⟩)) fun j26 h26=>?_
   obtain ⟨h26,hn⟩:=h26
   refine .go fun z hz=>.go fun gv hgv=>.so ?_
   obtain ⟨h0,hlt,hz⟩:=idx_at hz
   obtain ⟨_,hltg,hgv⟩:=idx_at hgv
   have hle:=hx.num
   refine ⟨h26.a.set (t':=(⟨z.Name,z.Lit,x.Num,z.Level,z.Assoc,z.Tag⟩:Tok)) hz rfl rfl hle.2 (by simp),fun e=>?_,h26.lf⟩
   obtain ⟨h3,h4⟩:=hn e
   have hb:=h26.b e
   refine hb.setN (t':=(⟨z.Name,z.Lit,x.Num,z.Level,z.Assoc,z.Tag⟩:Tok)) hz (by omega) hltg hpos fun i t ht=>?_
   by_cases h3i:3≤i
   ·exact h4 i t h3i ht
   ·have:=hb.hd i t (by omega) ht
    show t.Num≠x.Num
    omega
  refine .go fun y _=>.by' (Ξ:=TI) ?_ fun j hj=>.so hj
  refine Par.cd (fun _=>?_) (fun _=>.so h19)
  refine .by' (Ξ:=fun _=>True) (fun _ _=>trivial) fun c _=>?_
  refine .by' (Ξ:=TI) (Par.cd (fun _=>.by' (p90 j19 _ _) fun m' h=>.so (h19.failT h)) (fun _=>.so h19)) fun j36 h36=>?_
  refine .go fun z hz=>?_
  obtain ⟨_,_,hz⟩:=idx_at hz
  obtain ⟨h1,h2⟩:=h36.setL (t':=(⟨z.Name,z.Lit,z.Num,z.Level,z.Assoc,d.Tag⟩:Tok)) hz rfl rfl rfl
  exact .so ⟨h1,h2,h36.lf⟩
theorem p109 (m:Mk) (x:Sym) (hm:TI m) (hx:SymN x) (hs:x.Name.size≤big):Par (pf109 m x) fun r=>TI r.2:=by
 unfold pf109
 refine Par.cd (fun _=>.by' (p107 m x hm hx hs) fun r hr=>.so hr.1) (fun _=>.by' (Ξ:=fun _=>True) (fun _ _=>trivial) fun k _=>Par.cd (fun _=>.so hm) (fun _=>.by' (Ξ:=fun _=>True) (fun _ _=>trivial) fun t _=>Par.cd (fun _=>.by' (p90 m _ _) fun m' h=>.so (hm.fail h)) (fun _=>.so hm)))
theorem p93 (m:Mk) (left:ByteArray) (a:Alt) (hm:TI m) (hb:AltB a) (ha:(∀ p∈a.Parts,SymN p.Sym)∧SymN a.Prec):Par (pf93 m left a) TI:=by
 have hn:=hb.n
 unfold pf93
 refine .by' (Ξ:=fun _=>True) (fun _ _=>trivial) fun x1 _=>?_
 refine .by' (Ξ:=fun r:Mk × List Int × ByteArray × Int=>TI r.1) ?_ fun x3 h3=>?_
 ·refine Par.loop (fun s=>TI s.1∧0≤s.2.2.2.2) ⟨hm,Int.le_refl 0⟩ fun s hs=>?_
  obtain ⟨m1,rt,cd,at_,i⟩:=s
  obtain ⟨hs,h0⟩:=hs
  simp only at hs h0 ⊢
  refine Par.cp (fun hlt=>?_) (fun _=>.so hs)
  refine .by' (Ξ:=fun j:Mk × List Int × ByteArray × Int=>TI j.1) ?_ fun j hj=>.so ⟨hj,by show 0≤w64 (i+1); rw [w64_eq]; omega⟩
  refine .go fun y hy=>.by' (Ξ:=fun j:Mk × List Int × ByteArray × Int=>TI j.1) ?_ fun j hj=>.so hj
  have hym:=(idx_bd' hy)
  refine .by' (Ξ:=fun j:Mk × List Int × ByteArray × Int=>TI j.1) ?_ fun j hj=>.so hj
  refine Par.cd (fun _=>?_) (fun _=>?_)
  ·exact .by' (p109 m1 y.Sym hs (ha.1 y hym) (hb.parts y hym).1) fun r hr=>Par.ap fun _=>.so hr
  ·exact .by' (Ξ:=fun _=>True) (fun _ _=>trivial) fun j _=>.so ⟨hs.a,hs.b,hs.lf⟩
 ·refine .by' (Ξ:=fun _=>True) (fun _ _=>trivial) fun pr _=>?_
  refine .by' (Ξ:=fun j:Mk × Int=>TI j.1) ?_ fun j hj=>Par.ap fun _=>Par.ap fun _=>.so ⟨hj.a,hj.b,hj.lf⟩
  refine Par.cd (fun _=>?_) (fun _=>.so h3)
  refine .by' (Ξ:=fun _=>True) (fun _ _=>trivial) fun c _=>.by' (Ξ:=fun j:Mk × Int=>TI j.1) ?_ fun j hj=>.so hj
  exact Par.cd (fun _=>.by' (p109 x3.1 a.Prec h3 ha.2 hb.prec) fun r hr=>.so hr) (fun _=>.by' (p90 x3.1 _ _) fun m' h=>.so (h3.fail h))
structure GTk (g:Grammar):Prop where
 hd:∀ (i:Nat) (t:Tok),i<3→g.Toks[i]?=some t→t.Num≤0
 pos:∀ (i:Nat) (t:Tok),3≤i→g.Toks[i]?=some t→0<t.Num∧t.Num≤100000
 un:∀ (i j:Nat) (s t:Tok),g.Toks[i]?=some s→g.Toks[j]?=some t→0<s.Num→s.Num=t.Num→i=j
 nm:∀ t∈g.Toks,t.Name.size≤big∧(t.Lit=true→t.Name.size=1)
 nn:∀ x∈g.Nons,x.Name.size≤4 * big
theorem p61 (s:Source) (hb:SrcB s):Par (pf61 s) fun r=>r.2.1=0→GTk r.1:=by
 have hdn:=hb.dn
 have hrn:=hb.rn
 unfold pf61
 refine .by' (p88 s hb) fun c hc=>Par.cd (fun _=>.so fun h=>absurd h (by decide)) (fun hc1=>?_)
 have ok:SrcM s:=hc (by simpa using hc1)
 refine .by' (Ξ:=fun l=>l=List.replicate 3 false) (fun a e=>by unfold mkO at e; split at e <;> cases e; rfl) fun x3 hx3=>?_
 subst hx3
 -- declarations
 refine .by' (Ξ:=fun r:Mk × ByteArray=>TI r.1) ?_ fun x5 h5=>?_
 ·refine Par.loop (fun z=>TI z.1∧0≤z.2.2) ⟨⟨⟨rfl,Nat.le_refl 3,by show 3≤lim; unfold lim; omega,fun t ht=>?_,fun t ht=>?_⟩,fun _=>⟨fun i t hi ht=>?_,fun i j a b ha hb h0 he=>?_,fun i t hi ht=>?_⟩,fun y hy=>by cases hy⟩,Int.le_refl 0⟩ fun z hz=>?_
  ·have ht:t∈[_,_,_]:=ht
   simp only [List.mem_cons,List.not_mem_nil,or_false] at ht
   rcases ht with rfl | rfl | rfl <;> exact ⟨by decide,fun h=>by cases h⟩
  ·have ht:t∈[_,_,_]:=ht
   simp only [List.mem_cons,List.not_mem_nil,or_false] at ht
   rcases ht with rfl | rfl | rfl <;> decide
  ·have ht:t∈[_,_,_]:=List.mem_of_getElem? ht
   simp only [List.mem_cons,List.not_mem_nil,or_false] at ht
   rcases ht with rfl | rfl | rfl <;> decide
  ·have ha:a∈[_,_,_]:=List.mem_of_getElem? ha
   simp only [List.mem_cons,List.not_mem_nil,or_false] at ha
   rcases ha with rfl | rfl | rfl <;> exact absurd h0 (by decide)
  ·have:=(List.getElem?_eq_some_iff.1 ht).1
   have:i<3:=this
   omega
  ·obtain ⟨m,st,i⟩:=z
   obtain ⟨hm,h0⟩:=hz
   simp only at hm h0 ⊢
   refine Par.cp (fun hlt=>?_) (fun _=>.so hm)
   refine .go fun d hd=>?_
   have hdm:=idx_bd' hd
   refine .by' (Ξ:=fun _=>True) (fun _ _=>trivial) fun _ _=>.by' (Ξ:=fun _=>True) (fun _ _=>trivial) fun j11 _=>?_
   refine .by' (Ξ:=fun r:Mk × ByteArray=>TI r.1) ?_ fun r hr=>.so ⟨hr,by show 0≤w64 (i+1); rw [w64_eq]; omega⟩
   refine Par.loop (fun z=>TI z.1∧0≤z.2.2) ⟨⟨hm.a,hm.b,hm.lf⟩,Int.le_refl 0⟩ fun z hz=>?_
   obtain ⟨m,st,k⟩:=z
   obtain ⟨hm,h0k⟩:=hz
   simp only at hm h0k ⊢
   have hdk:=(hb.decls d hdm).n
   refine Par.cp (fun hltk=>?_) (fun _=>.so hm)
   refine .by' (Ξ:=fun r:Mk × ByteArray=>TI r.1) ?_ fun r hr=>.so ⟨hr,by show 0≤w64 (k+1); rw [w64_eq]; omega⟩
   refine Par.cd (fun _=>.go fun x hx=>?_) (fun _=>?_)
   ·have hxm:=idx_bd' hx
    exact .by' (p89 m d x hm (ok.decls d hdm x hxm) ((hb.decls d hdm).syms x hxm)) fun m' hm'=>.so hm'
   ·refine .by' (Ξ:=TI) (Par.cd (fun _=>.go fun _ _=>.go fun _ _=>.by' (p90 m _ _) fun m' h=>.so (hm.fail h)) (fun _=>.so hm)) fun m' hm'=>.go fun _ _=>.so hm'
 -- what stands on the left
 refine .by' (Ξ:=TI) ?_ fun x28 h28=>?_
 ·refine Par.loop (fun z=>TI z.1∧0≤z.2) ⟨h5,Int.le_refl 0⟩ fun z hz=>?_
  obtain ⟨m,i⟩:=z
  obtain ⟨hm,h0⟩:=hz
  simp only at hm h0 ⊢
  refine Par.cp (fun hlt=>?_) (fun _=>.so hm)
  refine .by' (Ξ:=TI) ?_ fun r hr=>.so ⟨hr,by show 0≤w64 (i+1); rw [w64_eq]; omega⟩
  refine .go fun r hr=>.by' (Ξ:=fun _=>True) (fun _ _=>trivial) fun _ _=>?_
  refine .by' (Ξ:=TI) (Par.cd (fun _=>.by' (p90 m _ _) fun m' h=>.so (hm.fail h)) (fun _=>.so hm)) fun j34 h34=>?_
  refine .by' (Ξ:=fun _=>True) (fun _ _=>trivial) fun _ _=>?_
  refine .by' (Ξ:=fun l:List ByteArray=>∀ y∈l,y.size≤big) (Par.cd (fun _=>Par.ap fun _=>.so fun y hy=>?_) (fun _=>.so h34.lf)) fun l hl=>.so ⟨h34.a,h34.b,hl⟩
  rcases List.mem_append.1 hy with hy | hy
  ·exact h34.lf y hy
  ·rw [List.mem_singleton.1 hy]; exact (hb.rules r (idx_bd' hr)).left
 -- types and starts
 refine .by' (Ξ:=TI) ?_ fun x42 h42=>?_
 ·refine Par.loop (fun z=>TI z.1) h28 fun z hm=>?_
  obtain ⟨m,i⟩:=z
  simp only at hm ⊢
  refine Par.cp (fun hlt=>?_) (fun _=>.so hm)
  refine .by' (Ξ:=TI) ?_ fun r hr=>.so hr
  refine Par.loop (fun z=>TI z.1) hm fun z hm=>?_
  obtain ⟨m,k⟩:=z
  simp only at hm ⊢
  refine .go fun d _=>Par.cp (fun hlt=>?_) (fun _=>.so hm)
  refine .by' (Ξ:=TI) ?_ fun r hr=>.so hr
  refine .go fun _ _=>.go fun _ _=>.by' (Ξ:=fun _=>True) (fun _ _=>trivial) fun _ _=>?_
  exact .by' (Ξ:=TI) (Par.cd (fun _=>.by' (p90 m _ _) fun m' h=>.so (hm.fail h)) (fun _=>.so hm)) fun m' hm'=>.so hm'
 refine .by' (Ξ:=fun _=>True) (fun _ _=>trivial) fun j60 _=>.by' (Ξ:=fun _=>True) (fun _ _=>trivial) fun x63 _=>?_
 -- the alternatives
 refine .by' (Ξ:=TI) ?_ fun x65 h65=>?_
 ·refine Par.loop (fun z=>TI z.1∧0≤z.2) ⟨⟨h42.a,h42.b,h42.lf⟩,Int.le_refl 0⟩ fun z hz=>?_
  obtain ⟨m,i⟩:=z
  obtain ⟨hm,h0⟩:=hz
  simp only at hm h0 ⊢
  refine Par.cp (fun hlt=>?_) (fun _=>.so hm)
  refine .by' (Ξ:=TI) ?_ fun r hr=>.so ⟨hr,by show 0≤w64 (i+1); rw [w64_eq]; omega⟩
  refine Par.loop (fun z=>TI z.1∧0≤z.2) ⟨hm,Int.le_refl 0⟩ fun z hz=>?_
  obtain ⟨m,k⟩:=z
  obtain ⟨hm,h0k⟩:=hz
  simp only at hm h0k ⊢
  refine .go fun d hd=>Par.cp (fun hltk=>?_) (fun _=>.so hm)
  have hdm:=idx_bd' hd
  have hdk:=(hb.rules d hdm).n
  refine .go fun d1 hd1=>.go fun d2 hd2=>.go fun a ha=>?_
  rw [hd] at hd1 hd2
  cases hd1; cases hd2
  have ham:=idx_bd' ha
  exact .by' (p93 m d.Left a hm ((hb.rules d hdm).alts a ham) (ok.rules d hdm a ham)) fun m' hm'=>.so ⟨hm',by show 0≤w64 (k+1); rw [w64_eq]; omega⟩
 refine Par.cn (fun h=>.so fun h'=>absurd h' h) (fun he=>?_)
 have hti:=h65.b he
 -- nonterminals
 refine .by' (Ξ:=fun l:List Non=>1≤l.length∧∀ x∈l,x.Name.size≤4 * big) ?_ fun x79 h79=>?_
 ·refine Par.loop (fun z=>1≤z.1.length∧∀ x∈z.1,x.Name.size≤4 * big) ⟨Nat.le_refl 1,fun x hx=>?_⟩ fun z hz=>?_
  ·rw [List.mem_singleton.1 hx]; decide
  ·refine Par.cd (fun _=>.go fun y hy=>.go fun _ _=>.by' (Ξ:=fun _=>True) (fun _ _=>trivial) fun _ _=>Par.ap fun _=>.so ⟨by show 1≤(z.1++[_]).length; simp,fun x hx=>?_⟩) (fun _=>.so hz)
   rcases List.mem_append.1 hx with hx | hx
   ·exact hz.2 x hx
   ·rw [List.mem_singleton.1 hx]
    have:=h65.lf y (idx_bd' hy)
    show y.size≤4 * big
    omega
 refine .by' (Ξ:=fun l:List Non=>l.length≤24→∀ x∈l,x.Name.size≤4 * big) ?_ fun x89 h89=>?_
 ·refine Par.loop (fun z=>(z.1.length≤24→∀ x∈z.1,x.Name.size≤4 * big)∧0≤z.2∧z.2≤z.1.length) ⟨fun _=>h79.2,by show (0:Int)≤1; decide,by have:=h79.1; show (1:Int)≤(x79.length:Int); omega⟩ fun z hz=>?_
  obtain ⟨l,i⟩:=z
  obtain ⟨hl,h0,hi⟩:=hz
  simp only at hl h0 hi ⊢
  refine Par.cp (fun hle=>.go fun y hy=>?_) (fun _=>.so hl)
  refine Par.cat (Par.ap fun hlim=>.so ⟨fun hlen x hx=>?_,by show 0≤w64 (i+1); unfold lim at hlim; simp only [List.length_cons,List.length_nil] at hlim; rw [w64_eq]; omega,by show w64 (i+1)≤(((l++[_]).length:Nat):Int); unfold lim at hlim; simp only [List.length_cons,List.length_nil,List.length_append] at hlim ⊢; rw [w64_eq]; omega⟩)
  have hlen:(l++[_]).length≤24:=hlen
  simp only [List.length_append,List.length_cons,List.length_nil] at hlen
  rcases List.mem_append.1 hx with hx | hx
  ·exact hl (by omega) x hx
  ·rw [List.mem_singleton.1 hx]
   have hsz:=(t28 i h0 (by omega)).eq hy
   show (_++y).size≤4 * big
   rw [ByteArray.size_append]
   show 1+y.size≤4 * big
   simp only [big]; omega
 -- numbers
 have hT:=h65.a
 have hlim:x65.f_g.Toks.length≤1000000000000000:=by have:=hT.hi; unfold lim at this; omega
 refine .by' (Ξ:=fun l:List Tok=>∃ (i next:Int),l.length=x65.f_g.Toks.length∧(l.length:Int)≤i∧(∀ (j:Nat) (t:Tok),l[j]?=some t→∃ t0,x65.f_g.Toks[j]?=some t0∧t.Name=t0.Name∧t.Lit=t0.Lit∧((t.Num=t0.Num∧(¬ (3≤j∧(j:Int)<i)∨x65.f_given[j]?=some true))∨(57346≤t.Num∧t.Num<next∧3≤j∧(j:Int)<i)))∧(∀ (j k:Nat) (s t:Tok),l[j]?=some s→l[k]?=some t→57346≤s.Num→s.Num=t.Num→j=k)∧57346≤next∧next≤57343+i∧i≤l.length) ?_ fun x96 h96=>?_
 ·refine Par.loop (fun z=>z.1.length=x65.f_g.Toks.length∧(∀ (j:Nat) (t:Tok),z.1[j]?=some t→∃ t0,x65.f_g.Toks[j]?=some t0∧t.Name=t0.Name∧t.Lit=t0.Lit∧((t.Num=t0.Num∧(¬ (3≤j∧(j:Int)<z.2.2)∨x65.f_given[j]?=some true))∨(57346≤t.Num∧t.Num<z.2.1∧3≤j∧(j:Int)<z.2.2)))∧(∀ (j k:Nat) (s t:Tok),z.1[j]?=some s→z.1[k]?=some t→57346≤s.Num→s.Num=t.Num→j=k)∧57346≤z.2.1∧z.2.1≤57343+z.2.2∧3≤z.2.2∧z.2.2≤z.1.length) ⟨rfl,fun j t ht=>⟨t,ht,rfl,rfl,.inl ⟨rfl,.inl (by show ¬ (3≤j∧(j:Int)<3); omega)⟩⟩,fun j k s t hs ht h0 he=>?_,by show (57346:Int)≤57346; decide,by show (57346:Int)≤57343+3; decide,Int.le_refl 3,by have:=hT.lo; show (3:Int)≤(x65.f_g.Toks.length:Nat); omega⟩ fun z hz=>?_
  ·have:=hT.le s (List.mem_of_getElem? hs); omega
  obtain ⟨l,next,i⟩:=z
  obtain ⟨hl,hB,hC,hn0,hn1,hi3,hil⟩:=hz
  simp only at hl hB hC hn0 hn1 hi3 hil ⊢
  have hw:w64 (i+1)=i+1:=by rw [w64_eq]; omega
  have hwn:w64 (next+1)=next+1:=by rw [w64_eq]; omega
  rw [hw,hwn]
  refine Par.cp (fun hlt=>?_) (fun hge=>.so ⟨i,next,hl,by omega,hB,hC,hn0,hn1,hil⟩)
  have hilt:i.toNat<l.length:=by omega
  refine .by' (Ξ:=fun j:List Tok × Int=>j.1.length=x65.f_g.Toks.length∧(∀ (k:Nat) (t:Tok),j.1[k]?=some t→∃ t0,x65.f_g.Toks[k]?=some t0∧t.Name=t0.Name∧t.Lit=t0.Lit∧((t.Num=t0.Num∧(¬ (3≤k∧(k:Int)<i+1)∨x65.f_given[k]?=some true))∨(57346≤t.Num∧t.Num<j.2∧3≤k∧(k:Int)<i+1)))∧(∀ (a k:Nat) (s t:Tok),j.1[a]?=some s→j.1[k]?=some t→57346≤s.Num→s.Num=t.Num→a=k)∧57346≤j.2∧j.2≤57343+(i+1)) ?_ fun j hj=>.so ⟨hj.1,hj.2.1,hj.2.2.1,hj.2.2.2.1,hj.2.2.2.2,by show 3≤i+1; omega,by show i+1≤(j.1.length:Nat); rw [hj.1,← hl]; omega⟩
  refine .go fun gv hgv=>.by' (Ξ:=fun j:List Tok × Int=>j.1.length=x65.f_g.Toks.length∧(∀ (k:Nat) (t:Tok),j.1[k]?=some t→∃ t0,x65.f_g.Toks[k]?=some t0∧t.Name=t0.Name∧t.Lit=t0.Lit∧((t.Num=t0.Num∧(¬ (3≤k∧(k:Int)<i+1)∨x65.f_given[k]?=some true))∨(57346≤t.Num∧t.Num<j.2∧3≤k∧(k:Int)<i+1)))∧(∀ (a k:Nat) (s t:Tok),j.1[a]?=some s→j.1[k]?=some t→57346≤s.Num→s.Num=t.Num→a=k)∧57346≤j.2∧j.2≤57343+(i+1)) ?_ fun j hj=>.so hj
  obtain ⟨_,_,hgv⟩:=idx_at hgv
  refine Par.cd (fun hg=>.go fun y hy=>.so ?_) (fun hg=>.so ⟨hl,fun k t ht=>?_,hC,hn0,by omega⟩)
  ·obtain ⟨_,_,hy⟩:=idx_at hy
   obtain ⟨t0,e0,e1,e2,e3⟩:=hB _ y hy
   have hlast:y.Num<next:=by
    rcases e3 with ⟨e3,_⟩ | e3
    ·have:=hT.le t0 (List.mem_of_getElem? e0); omega
    ·exact e3.2.1
   have hlo:∀ (k:Nat) (t:Tok),l[k]?=some t→t.Num<next:=fun k t ht=>by
    obtain ⟨t1,f0,_,_,f3⟩:=hB k t ht
    rcases f3 with ⟨f3,_⟩ | f3
    ·have:=hT.le t1 (List.mem_of_getElem? f0); omega
    ·exact f3.2.1
   refine ⟨by show (l.set _ _).length=_; rw [List.length_set]; exact hl,fun k t ht=>?_,fun a k s t hs ht h0 he=>?_,by show 57346≤next+1; omega,by show next+1≤_; omega⟩
   ·have ht:(l.set i.toNat _)[k]?=some t:=ht
    rw [set_get hilt] at ht
    by_cases e:k=i.toNat
    ·rw [if_pos e] at ht
     cases ht
     subst e
     exact ⟨t0,e0,e1,e2,.inr ⟨hn0,by show next<next+1; omega,by omega,by omega⟩⟩
    ·rw [if_neg e] at ht
     obtain ⟨t1,f0,f1,f2,f3⟩:=hB k t ht
     refine ⟨t1,f0,f1,f2,?_⟩
     rcases f3 with ⟨f3,f4⟩ | f3
     ·exact .inl ⟨f3,f4.imp (fun h=>by omega) id⟩
     ·exact .inr ⟨f3.1,by show t.Num<next+1; omega,f3.2.2.1,by omega⟩
   ·have hs:(l.set i.toNat _)[a]?=some s:=hs
    have ht:(l.set i.toNat _)[k]?=some t:=ht
    rw [set_get hilt] at hs ht
    by_cases e:a=i.toNat
    ·rw [if_pos e] at hs
     cases hs
     by_cases e':k=i.toNat
     ·omega
     ·rw [if_neg e'] at ht
      have h1:=hlo k t ht
      have he:next=t.Num:=he
      omega
    ·rw [if_neg e] at hs
     by_cases e':k=i.toNat
     ·rw [if_pos e'] at ht
      cases ht
      have h1:=hlo a s hs
      have he:s.Num=next:=he
      omega
     ·rw [if_neg e'] at ht
      exact hC a k s t hs ht h0 he
  ·obtain ⟨t1,f0,f1,f2,f3⟩:=hB k t ht
   refine ⟨t1,f0,f1,f2,?_⟩
   rcases f3 with ⟨f3,f4⟩ | f3
   ·by_cases e:k=i.toNat
    ·refine .inl ⟨f3,.inr ?_⟩
     rw [e,hgv]
     simpa using hg
    ·exact .inl ⟨f3,f4.imp (fun h=>by omega) id⟩
   ·exact .inr ⟨f3.1,f3.2.1,f3.2.2.1,by omega⟩
 -- limits
 refine .by' (Ξ:=fun c=>c=false→x96.length≤40∧x89.length≤24) ?_ fun c106 h106=>?_
 ·exact Par.cp (fun _=>.so fun h=>by cases h) (fun h1=>Par.cp (fun _=>.so fun h=>by cases h) (fun h2=>.so fun h=>by omega))
 refine .by' (Ξ:=fun c=>c=false→c106=false) ?_ fun x108 h108=>?_
 ·refine Par.loop (fun z=>z.1=false→c106=false) id fun z hz=>?_
  refine Par.cd (fun _=>?_) (fun _=>.so hz)
  exact .by' (Ξ:=fun c=>c=false→c106=false) (Par.cd (fun _=>.so fun h=>by cases h) (fun h=>.go fun _ _=>.so fun _=>hz h)) fun c hc=>.so hc
 refine Par.cd (fun _=>.so fun h=>absurd h (by decide)) (fun hc=>.so fun _=>?_)
 obtain ⟨hx1,hx2⟩:=h106 (h108 hc)
 obtain ⟨i,next,hl,hge,hB,hC,hn0,hn1,hil⟩:=h96
 refine ⟨fun j t hj ht=>?_,fun j t hj ht=>?_,fun j k s t hs ht h0 he2=>?_,fun t ht=>?_,h89 hx2⟩
 ·obtain ⟨t0,e0,_,_,e3⟩:=hB j t ht
  rcases e3 with ⟨e3,_⟩ | e3
  ·rw [e3]; exact hti.hd j t0 hj e0
  ·omega
 ·have hjl:j<x96.length:=(List.getElem?_eq_some_iff.1 ht).1
  obtain ⟨t0,e0,_,_,e3⟩:=hB j t ht
  rcases e3 with ⟨e3,e4⟩ | e3
  ·rcases e4 with e4 | e4
   ·omega
   ·have h1:=(hti.gv j t0 hj e0).1 e4
    have h2:=hT.le t0 (List.mem_of_getElem? e0)
    omega
  ·omega
 ·by_cases h57:57346≤s.Num
  ·exact hC j k s t hs ht h57 he2
  ·obtain ⟨s0,e0,_,_,e3⟩:=hB j s hs
   obtain ⟨t0,f0,_,_,f3⟩:=hB k t ht
   rcases e3 with ⟨e3,_⟩ | e3
   ·rcases f3 with ⟨f3,_⟩ | f3
    ·exact hti.un j k s0 t0 e0 f0 (by omega) (by omega)
    ·omega
   ·omega
 ·obtain ⟨j,hj,rfl⟩:=List.mem_iff_getElem.1 ht
  obtain ⟨t0,e0,e1,e2,_⟩:=hB j _ (List.getElem?_eq_getElem hj)
  have:=hT.nm t0 (List.mem_of_getElem? e0)
  rw [e1,e2]; exact this
end Go.Proofs
namespace Go.Own
open Go Go.Sort
variable {α:Type} [DecidableEq α]
structure Ord (lt:α→α→Bool):Prop where
 swo:SWO lt
 tot:∀ x y,lt x y=false→lt y x=false→x=y
def Asc (lt:α→α→Bool) (l:List α):Prop:=l.Pairwise fun a b=>lt a b=true
omit [DecidableEq α] in
theorem Asc.nd {lt:α→α→Bool}(h:Ord lt) {l:List α}(hl:Asc lt l):l.Nodup:=hl.imp fun {a b} hab e=>by
 subst e
 rw [h.swo.irrefl] at hab; cases hab
omit [DecidableEq α] in
theorem Asc.uniq {lt:α→α→Bool}(h:Ord lt) {l m:List α}(hl:Asc lt l) (hm:Asc lt m) (he:∀ x,x∈l↔x∈m):l=m :=
 List.Perm.eq_of_pairwise (le:=fun a b=>lt a b=true) (fun a b _ _ h1 h2=>by have:=h.swo.trans _ _ _ h1 h2; rw [h.swo.irrefl] at this; cases this) hl hm ((List.perm_ext_iff_of_nodup (hl.nd h) (hm.nd h)).2 he)
theorem sort_tot {lt:α→α→Bool}(h:Ord lt) {cf:α→α→Option Int}{l:List α}(hc:∀ a∈l,∀ b∈l,∃ v,cf a b=some v∧(v<0↔lt a b=true)) (hn:l.length<4611686018427387904):sortO cf l=some (isort (ltO cf) l)∧∀ a∈l,∀ b∈l,ltO cf a b=lt a b:=by
 have hlt:∀ a∈l,∀ b∈l,ltO cf a b=lt a b:=by
  intro a ha b hb
  obtain ⟨v,hv,h⟩:=hc a ha b hb
  unfold ltO
  simp only [hv,Option.getD_some]
  cases hk:lt a b with
  | true=>exact decide_eq_true (h.2 hk)
  | false=>exact decide_eq_false fun hh=>by rw [h.1 hh] at hk; cases hk
 refine ⟨?_,hlt⟩
 unfold sortO
 rw [if_pos]
 simp only [Bool.and_eq_true,decide_eq_true_eq,List.all_eq_true]
 refine ⟨⟨fun a ha b hb=>?_,?_⟩,hn⟩
 ·obtain ⟨v,hv,_⟩:=hc a ha b hb
  rw [hv]; rfl
 ·unfold ordB
  simp only [List.all_eq_true,Bool.and_eq_true,Bool.or_eq_true,Bool.not_eq_true',decide_eq_true_eq]
  intro a ha
  refine ⟨by rw [hlt a ha a ha]; exact h.swo.irrefl a,fun b hb=>⟨?_,fun c hc=>⟨?_,?_⟩⟩⟩
  ·rw [hlt a ha b hb,hlt b hb a ha]
   cases h1:lt a b with
   | true=>exact .inl (.inl rfl)
   | false =>
    cases h2:lt b a with
    | true=>exact .inl (.inr rfl)
    | false=>exact .inr (h.tot _ _ h1 h2)
  ·rw [hlt a ha b hb,hlt b hb c hc,hlt a ha c hc]
   cases h1:lt a b with
   | false=>exact .inl rfl
   | true =>
    cases h2:lt b c with
    | false=>exact .inl rfl
    | true=>exact .inr (h.swo.trans _ _ _ h1 h2)
  ·rw [hlt a ha b hb,hlt b hb c hc,hlt a ha c hc]
   cases h1:lt a b with
   | true=>exact .inl (.inl rfl)
   | false =>
    cases h2:lt b c with
    | true=>exact .inl (.inr rfl)
    | false=>exact .inr (h.swo.ntrans _ _ _ h1 h2)
omit [DecidableEq α] in
theorem ins_congr {lt lt':α→α→Bool}(x:α):∀ l:List α,(∀ y∈l,lt y x=lt' y x)→ins lt x l=ins lt' x l
 | [],_=>rfl
 | y::l,h=>by
  simp only [ins,h y (by simp)]
  rw [ins_congr x l fun z hz=>h z (by simp [hz])]
omit [DecidableEq α] in
theorem isort_congr {lt lt':α→α→Bool}:∀ l:List α,(∀ a∈l,∀ b∈l,lt a b=lt' a b)→isort lt l=isort lt' l
 | [],_=>rfl
 | x::l,h=>by
  simp only [isort]
  rw [isort_congr l fun a ha b hb=>h a (by simp [ha]) b (by simp [hb])]
  exact ins_congr x _ fun y hy=>h y (by simp [(isort_perm lt' l).mem_iff.1 hy]) x (by simp)
theorem sort_is {lt:α→α→Bool}(h:Ord lt) {cf:α→α→Option Int}{l:List α}(hc:∀ a∈l,∀ b∈l,∃ v,cf a b=some v∧(v<0↔lt a b=true)) (hn:l.length<4611686018427387904):sortO cf l=some (isort lt l):=by
 obtain ⟨h1,h2⟩:=sort_tot h hc hn
 rw [h1,isort_congr l h2]
end Go.Own
namespace Go.Proofs
open Go Go.Own Go.Sort
set_option maxRecDepth 100000
set_option linter.unusedVariables false
def isI (g:Grammar) (x:Item):Prop:=∃ q,idx g.Prods x.Prod=some q∧0≤x.Dot∧x.Dot≤q.Right.length
def nx (g:Grammar) (x:Item):Int:=match idx g.Prods x.Prod with
 | some q=>(idx q.Right x.Dot).getD (-1)
 | none=>-1
theorem idx_bd {α:Type}{l:List α}{i:Int}{y:α}(h:idx l i=some y):0≤i∧i<l.length∧y∈l:=by
 unfold idx at h
 split at h
 ·rename_i h0
  obtain ⟨h1,h2⟩:=List.getElem?_eq_some_iff.1 h
  exact ⟨h0,by omega,List.mem_of_getElem? h⟩
 ·cases h
theorem idx_none' {α:Type}{l:List α}{i:Int}(h:i<0∨(l.length:Int)≤i):idx l i=none:=by
 unfold idx
 split
 ·exact List.getElem?_eq_none (by omega)
 ·rfl
theorem idx_some' {α:Type}{l:List α}{i:Int}(h0:0≤i) (h1:i<l.length):∃ y,idx l i=some y∧y∈l:=by
 have hlt:i.toNat<l.length:=by omega
 exact ⟨l[i.toNat],by simp [idx,h0,hlt],List.getElem_mem hlt⟩
theorem idx_nat {α:Type}{l:List α}{k:Nat}(h:k<l.length):idx l (k:Int)=some l[k]:=by simp [idx,h]
theorem e68 (g:Grammar) (x:Item):∃ c,pf68 g x=some c∧(c=true↔isI g x):=by
 unfold pf68
 by_cases h0:0≤x.Prod
 ·by_cases h1:x.Prod<g.Prods.length
  ·obtain ⟨q,hq,_⟩:=idx_some' h0 h1
   by_cases h2:0≤x.Dot
   ·refine ⟨decide (x.Dot≤(q.Right.length:Int)),by simp [h0,h1,h2,hq],?_⟩
    rw [decide_eq_true_eq]
    exact ⟨fun h=>⟨q,hq,h2,h⟩,fun ⟨q',hq',_,h⟩=>by rw [hq] at hq'; cases hq'; exact h⟩
   ·exact ⟨false,by simp [h0,h1,h2],fun h=>(by cases h),fun ⟨_,_,h,_⟩=>absurd h h2⟩
  ·exact ⟨false,by simp [h0,h1],fun h=>(by cases h),fun ⟨_,h,_⟩=>absurd (idx_bd h).2.1 h1⟩
 ·exact ⟨false,by simp [h0],fun h=>(by cases h),fun ⟨_,h,_⟩=>absurd (idx_bd h).1 h0⟩
theorem e69 (g:Grammar) (x:Item):∃ c,pf69 g x=some c∧(c=true↔isI g x):=e68 g x
theorem e32 (g:Grammar) (x:Item):pf32 g x=some (nx g x):=by
 unfold pf32 nx
 obtain ⟨c,hc,hi⟩:=e68 g x
 rw [hc]
 simp only [Option.bind_some]
 cases c with
 | false =>
  have hn:¬ isI g x:=fun h=>by have:=hi.2 h; cases this
  simp only [Bool.not_false,cond_true,Option.bind_some]
  cases hq:idx g.Prods x.Prod with
  | none=>rfl
  | some q =>
   have:idx q.Right x.Dot=none:=idx_none' (by
    by_cases h0:0≤x.Dot
    ·right
     by_cases h1:x.Dot≤q.Right.length
     ·exact absurd ⟨q,hq,h0,h1⟩ hn
     ·omega
    ·left; omega)
   simp [this]
 | true =>
  obtain ⟨q,hq,h0,h1⟩:=hi.1 rfl
  simp only [Bool.not_true,cond_false,hq,Option.bind_some]
  by_cases he:x.Dot=q.Right.length
  ·rw [idx_none' (.inr (by omega))]
   simp [he]
  ·obtain ⟨s,hs,_⟩:=idx_some' (l:=q.Right) (i:=x.Dot) h0 (by omega)
   simp [he,hs]
end Go.Proofs
namespace Go.Proofs
open Go Go.Own Go.Sort
set_option maxRecDepth 100000
set_option linter.unusedVariables false
def ltZ (a b:Int):Bool:=decide (a<b)
theorem ltZ_iff {a b:Int}:ltZ a b=true↔a<b:=by simp [ltZ]
theorem ltZ_not {a b:Int}:ltZ a b=false↔¬ a<b:=by simp [ltZ]
theorem ordZ:Ord ltZ where
 swo:=⟨fun x=>by rw [ltZ_not]; omega,fun x y z h1 h2=>by rw [ltZ_iff] at *; omega,fun x y z h1 h2=>by rw [ltZ_not] at *; omega⟩
 tot:=fun x y h1 h2=>by rw [ltZ_not] at *; omega
theorem ascZ_get {l:List Int}(hl:Asc ltZ l) {i j:Nat}(hi:i<l.length) (hj:j<l.length) (h:i<j):ltZ l[i] l[j]=true:=List.pairwise_iff_getElem.1 hl i j hi hj h
theorem c62 (l:List Int) (x:Int) (hl:Asc ltZ l) (hn:l.length≤100000):Tot (pf62 l x) fun r=>Asc ltZ r∧r.length≤l.length+1∧(∀ y,y∈r↔y∈l∨y=x):=by
 unfold pf62
 refine .by' (Ξ:=fun z:Int=>∃ k:Nat,z=(k:Int)∧k≤l.length∧(∀ (i:Nat) (h:i<l.length),k≤i→ltZ x l[i]=true)∧∀ (h:0<k),ltZ x (l[k - 1]?.getD default)=false) ?_ fun z hz=>?_
 ·refine Tot.count (fun s=>-s) 1 (fun s=>∃ k:Nat,s=(k:Int)∧k≤l.length∧∀ (i:Nat) (h:i<l.length),k≤i→ltZ x l[i]=true) ⟨l.length,rfl,Nat.le_refl _,fun i h hk=>by omega⟩ (by show 1 - -(l.length:Int)<_; omega) fun s hs=>?_
  obtain ⟨k,rfl,hk,hup⟩:=hs
  refine .by' (Ξ:=fun c:Bool=>(c=true→0<k∧ltZ x (l[k - 1]?.getD default)=true)∧(c=false→∀ (h:0<k),ltZ x (l[k - 1]?.getD default)=false)) ?_ fun c hc=>Tot.cd (fun h=>?_) (fun h=>.so ⟨k,rfl,hk,hup,hc.2 h⟩)
  ·refine Tot.cp (fun h=>?_) (fun h=>.so ⟨fun h'=>(by cases h'),fun _ h'=>by omega⟩)
   have hk1:k - 1<l.length:=by omega
   have hw:w64 ((k:Int) - 1)=((k - 1:Nat):Int):=by rw [w64_eq]; omega
   rw [hw,idx_nat hk1,List.getElem?_eq_getElem hk1]
   simp only [Option.bind_some,Option.getD_some]
   exact .so ⟨fun h'=>⟨by omega,h'⟩,fun h' _=>h'⟩
  ·obtain ⟨h0,h1⟩:=hc.1 h
   refine .so ⟨⟨k - 1,by rw [w64_eq]; omega,by omega,fun i hi hki=>?_⟩,by show -(k:Int) < -w64 _; rw [w64_eq]; omega,by show -w64 _≤1; rw [w64_eq]; omega⟩
   by_cases e:i=k - 1
   ·subst e
    rw [List.getElem?_eq_getElem hi] at h1
    exact h1
   ·exact hup i hi (by omega)
 ·obtain ⟨k,rfl,hk,hup,hlo⟩:=hz
  refine .by' (Ξ:=fun c:Bool=>(c=true↔(0<k∧l[k - 1]?.getD default=x))) ?_ fun c hc=>Tot.cd (fun h=>?_) (fun h=>?_)
  ·refine Tot.cp (fun h=>?_) (fun h=>.so ⟨fun h'=>(by cases h'),fun h'=>by omega⟩)
   have hk1:k - 1<l.length:=by omega
   have hw:w64 ((k:Int) - 1)=((k - 1:Nat):Int):=by rw [w64_eq]; omega
   rw [hw,idx_nat hk1,List.getElem?_eq_getElem hk1]
   simp only [Option.bind_some,Option.getD_some]
   generalize l[k - 1]=y
   refine .so ?_
   exact ⟨fun h'=>⟨by omega,of_decide_eq_true h'⟩,fun h'=>decide_eq_true h'.2⟩
  ·obtain ⟨h0,h1⟩:=hc.1 h
   have hk1:k - 1<l.length:=by omega
   rw [List.getElem?_eq_getElem hk1] at h1
   have hx:x∈l:=by rw [← h1]; exact List.getElem_mem hk1
   exact .so ⟨hl,by omega,fun y=>⟨.inl,fun h=>h.elim id fun e=>e ▸ hx⟩⟩
  ·have hne:∀ (i:Nat) (hi:i<l.length),i<k→ltZ l[i] x=true:=by
    intro i hi hik
    have hk1:k - 1<l.length:=by omega
    have hlo:=hlo (by omega)
    have hn:l[k - 1]?.getD default≠x:=fun e=>by rw [hc.2 ⟨by omega,e⟩] at h; cases h
    rw [List.getElem?_eq_getElem hk1] at hlo hn
    simp only [Option.getD_some] at hlo hn
    have hk2:ltZ l[k - 1] x=true:=by
     cases hh:ltZ l[k - 1] x with
     | true=>rfl
     | false=>exact absurd (ordZ.tot _ _ hh hlo) hn
    by_cases e:i=k - 1
    ·subst e; exact hk2
    ·exact ordZ.swo.trans _ _ _ (ascZ_get hl hi hk1 (by omega)) hk2
   refine .by' (Ξ:=fun z=>z=l.take k) (Tot.sub ⟨by omega,by omega,by omega⟩ (by simp)) fun z hz=>?_
   subst hz
   refine .by' (Ξ:=fun _=>True) (Tot.ap (by simp [lim]; omega) trivial) fun _ _=>.by' (Ξ:=fun _=>True) (Tot.ap (by simp [lim]; omega) trivial) fun _ _=>?_
   refine .by' (Ξ:=fun z=>z=l.drop k) (Tot.sub ⟨by omega,by omega,by omega⟩ ?_) fun z hz=>?_
   ·rw [List.take_of_length_le]
    ·congr 1
    ·rw [List.length_drop]; omega
   subst hz
   refine .by' (Ξ:=fun _=>True) (Tot.ap (by simp [lim]; omega) trivial) fun _ _=>.so ?_
   rw [List.nil_append]
   refine ⟨?_,?_,?_⟩
   ·have h1:∀ a∈l.take k,ltZ a x=true:=by
     intro a ha
     obtain ⟨i,hi,rfl⟩:=List.mem_iff_getElem.1 ha
     rw [List.length_take] at hi
     rw [List.getElem_take]
     exact hne i (by omega) (by omega)
    have h2:∀ a∈l.drop k,ltZ x a=true:=by
     intro a ha
     obtain ⟨i,hi,rfl⟩:=List.mem_iff_getElem.1 ha
     rw [List.length_drop] at hi
     rw [List.getElem_drop]
     exact hup (k+i) (by omega) (by omega)
    unfold Asc
    rw [List.append_assoc,List.pairwise_append]
    refine ⟨List.Pairwise.sublist (List.take_sublist k l) hl,?_,fun a ha b hb=>?_⟩
    ·rw [List.singleton_append,List.pairwise_cons]
     exact ⟨h2,List.Pairwise.sublist (List.drop_sublist k l) hl⟩
    ·rcases List.mem_append.1 hb with hb | hb
     ·rw [List.mem_singleton.1 hb]; exact h1 a ha
     ·exact ordZ.swo.trans _ _ _ (h1 a ha) (h2 b hb)
   ·simp only [List.length_append,List.length_take,List.length_drop,List.length_cons,List.length_nil]; omega
   ·intro y
    rw [List.append_assoc,List.mem_append,List.mem_append,List.mem_singleton]
    have hm:y∈l↔y∈l.take k∨y∈l.drop k:=by
     rw [← List.mem_append,List.take_append_drop]
    rw [hm]
    constructor
    ·rintro (h | h | h)
     ·exact .inl (.inl h)
     ·exact .inr h
     ·exact .inl (.inr h)
    ·rintro ((h | h) | h)
     ·exact .inl h
     ·exact .inr (.inr h)
     ·exact .inr (.inl h)
end Go.Proofs
namespace Go.Proofs
open Go Go.Own Go.Sort
set_option maxRecDepth 100000
set_option linter.unusedVariables false
def ltP (a b:Pair):Bool:=decide (a.At<b.At)||(decide (a.At=b.At)&&decide (a.Val<b.Val))
theorem ltP_iff {a b:Pair}:ltP a b=true↔(a.At<b.At∨(a.At=b.At∧a.Val<b.Val)):=by simp [ltP]
theorem ltP_not {a b:Pair}:ltP a b=false↔¬ (a.At<b.At∨(a.At=b.At∧a.Val<b.Val)):=by
 rw [← ltP_iff]; simp
theorem ordP:Ord ltP where
 swo:=⟨fun x=>by rw [ltP_not]; omega,fun x y z h1 h2=>by rw [ltP_iff] at *; omega,fun x y z h1 h2=>by rw [ltP_not] at *; omega⟩
 tot x y h1 h2:=by
  rw [ltP_not] at h1 h2
  obtain ⟨x1,x2⟩:=x
  obtain ⟨y1,y2⟩:=y
  simp only at h1 h2
  have:x1=y1:=by omega
  have:x2=y2:=by omega
  subst_vars; rfl
theorem asc_sort {α:Type} [DecidableEq α] {lt:α→α→Bool}(h:Ord lt) {l:List α}(hn:l.Nodup):Asc lt (isort lt l):=by
 have h1:=isort_sorted h.swo l
 have h2:(isort lt l).Nodup:=(isort_perm lt l).nodup_iff.2 hn
 refine List.Pairwise.imp (fun {a b} hab=>?_) (h1.and h2)
 cases hh:lt a b with
 | true=>rfl
 | false=>exact absurd (h.tot _ _ hh (by simpa using hab.1)) hab.2
def Pr (T:List Tok) (p:Pair):Prop:=∃ (k:Nat) (t:Tok),T[k]?=some t∧0<t.Num∧p=⟨t.Num,(k:Int)⟩
theorem Pr.val {T:List Tok}{p:Pair}(h:Pr T p):∃ (k:Nat) (t:Tok),T[k]?=some t∧p.Val=(k:Int)∧p.At=t.Num∧0<t.Num:=by
 obtain ⟨k,t,h1,h2,rfl⟩:=h
 exact ⟨k,t,h1,rfl,rfl,h2⟩
theorem c65 (a b:Int):∃ v,pf65 a b=some v∧(v<0↔a<b)∧(v=0↔a=b):=by
 have e:∀ a,pf97 a=some false:=fun a=>by simp [pf97]
 unfold pf65
 simp only [e,Option.bind_some,cond_false]
 by_cases h1:a<b
 ·exact ⟨-1,by simp [h1],by omega,by omega⟩
 ·by_cases h2:b<a
  ·exact ⟨1,by simp [h1,h2],by omega,by omega⟩
  ·exact ⟨0,by simp [h1,h2],by omega,by omega⟩
theorem c24 (g:Grammar) (hg:GTk g) (hl:g.Toks.length≤1000):Tot (pf24 g) fun l=>Asc ltP l∧l.length≤1000∧∀ p,p∈l↔Pr g.Toks p:=by
 unfold pf24
 refine .by' (Ξ:=fun l:List Pair=>(l.length≤1000∧∀ p,p∈l↔Pr g.Toks p)∧l.Pairwise fun a b=>a.Val<b.Val) ?_ fun l hl=>?_
 ·refine Tot.upto (fun s=>s.2) g.Toks.length (fun k s=>(s.1.length≤k∧∀ p,p∈s.1↔(Pr g.Toks p∧p.Val<(k:Int)))∧s.1.Pairwise fun a b=>a.Val<b.Val) rfl (by omega) ⟨⟨Nat.le_refl 0,fun p=>⟨fun h=>(by cases h),fun h=>by obtain ⟨k,t,_,e,_⟩:=h.1.val; omega⟩⟩,.nil⟩ fun k s hk he hI=>?_
  obtain ⟨l,i⟩:=s
  obtain ⟨⟨h1,h2⟩,h5⟩:=hI
  simp only at he h1 h2 h5 ⊢
  subst he
  rw [w64c k (by omega)]
  refine Tot.cp (fun hlt=>?_) (fun hge=>.so ⟨⟨by omega,fun p=>(h2 p).trans ⟨fun h=>h.1,fun h=>⟨h,?_⟩⟩⟩,h5⟩)
  ·have hlt:k<g.Toks.length:=by omega
   rw [idx_nat hlt]
   have hget:g.Toks[k]?=some g.Toks[k]:=List.getElem?_eq_getElem hlt
   refine .by' (Ξ:=fun o:List Pair=>(o.length≤k+1∧∀ p,p∈o↔(Pr g.Toks p∧p.Val<((k+1:Nat):Int)))∧o.Pairwise fun a b=>a.Val<b.Val) ?_ fun o ho=>.so ⟨hlt,rfl,ho⟩
   simp only [Option.bind_some]
   refine .by' (Ξ:=fun o:List Pair=>(o.length≤k+1∧∀ p,p∈o↔(Pr g.Toks p∧p.Val<((k+1:Nat):Int)))∧o.Pairwise fun a b=>a.Val<b.Val) ?_ fun o ho=>.so ho
   refine Tot.cp (fun hp=>.by' (Ξ:=fun _=>True) (Tot.ap (by simp [lim]; omega) trivial) fun _ _=>.so ⟨⟨by simp; omega,fun p=>?_⟩,?_⟩) (fun hp=>.so ⟨⟨by omega,fun p=>?_⟩,h5⟩)
   ·rw [List.mem_append,List.mem_singleton,h2]
    constructor
    ·rintro (h | rfl)
     ·exact ⟨h.1,by omega⟩
     ·exact ⟨⟨k,_,hget,hp,rfl⟩,by show (k:Int)<((k+1:Nat):Int); omega⟩
    ·rintro ⟨h,hv⟩
     obtain ⟨j,t,h3,h4,rfl⟩:=h
     simp only at hv
     by_cases e:j=k
     ·subst e
      rw [hget] at h3; cases h3
      exact .inr rfl
     ·exact .inl ⟨⟨j,t,h3,h4,rfl⟩,by show (j:Int)<k; omega⟩
   ·refine List.pairwise_append.2 ⟨h5,List.pairwise_singleton ..,fun a ha b hb=>?_⟩
    rw [List.mem_singleton.1 hb]
    exact ((h2 a).1 ha).2
   ·rw [h2]
    constructor
    ·rintro ⟨h,hv⟩
     exact ⟨h,by omega⟩
    ·rintro ⟨h,hv⟩
     obtain ⟨j,t,h3,h4,rfl⟩:=h
     simp only at hv
     refine ⟨⟨j,t,h3,h4,rfl⟩,?_⟩
     show (j:Int)<k
     by_cases e:j=k
     ·subst e
      rw [hget] at h3; cases h3
      exact absurd h4 hp
     ·omega
  ·obtain ⟨j,t,h3,_,rfl⟩:=h
   have:=(List.getElem?_eq_some_iff.1 h3).1
   show (j:Int)<k
   omega
 ·obtain ⟨hl,hpw⟩:=hl
  have hs:sortO (fun a b=>pf64 a b) l=some (isort ltP l):=by
   refine sort_is ordP (fun a ha b hb=>?_) (by omega)
   obtain ⟨v,hv,h1,h2⟩:=c65 a.At b.At
   refine ⟨v,by unfold pf64; rw [hv]; rfl,h1.trans ?_⟩
   rw [ltP_iff]
   constructor
   ·exact .inl
   ·rintro (h | ⟨h,h'⟩)
    ·exact h
    ·exfalso
     obtain ⟨i,s,e1,e2,rfl⟩:=(hl.2 a).1 ha
     obtain ⟨j,t,e3,e4,rfl⟩:=(hl.2 b).1 hb
     simp only at h h'
     have:=hg.un i j s t e1 e3 e2 h
     omega
  rw [hs]
  refine .so ⟨asc_sort ordP (hpw.imp fun {a b} h e=>by subst e; omega),by rw [(isort_perm ltP l).length_eq]; exact hl.1,fun p=>((isort_perm ltP l).mem_iff).trans (hl.2 p)⟩
theorem c21 (g:Grammar) (hl:g.Toks.length≤1000):Tot (pf21 g) fun l=>Asc ltP l∧∀ p,p∈l↔Pr g.Toks p:=by
 unfold pf21
 refine .by' (Ξ:=fun l:List Int=>Asc ltZ l∧l.length≤1000∧∀ x,x∈l↔∃ (k:Nat) (t:Tok),g.Toks[k]?=some t∧0<t.Num∧x=t.Num) ?_ fun l hl=>?_
 ·refine Tot.upto (fun s=>s.2) g.Toks.length (fun k s=>Asc ltZ s.1∧s.1.length≤k∧∀ x,x∈s.1↔∃ (j:Nat) (t:Tok),g.Toks[j]?=some t∧0<t.Num∧x=t.Num∧j<k) rfl (by omega) ⟨.nil,Nat.le_refl 0,fun p=>⟨fun h=>(by cases h),fun ⟨j,t,h⟩=>by omega⟩⟩ fun k s hk he hI=>?_
  obtain ⟨l,i⟩:=s
  obtain ⟨h1,h2,h3⟩:=hI
  simp only at he h1 h2 h3 ⊢
  subst he
  rw [w64c k (by omega)]
  refine Tot.cp (fun hlt=>?_) (fun hge=>.so ⟨h1,by omega,fun x=>(h3 x).trans ⟨fun ⟨j,t,a,b,c,_⟩=>⟨j,t,a,b,c⟩,fun ⟨j,t,a,b,c⟩=>⟨j,t,a,b,c,?_⟩⟩⟩)
  ·have hlt:k<g.Toks.length:=by omega
   rw [idx_nat hlt]
   have hget:g.Toks[k]?=some g.Toks[k]:=List.getElem?_eq_getElem hlt
   simp only [Option.bind_some]
   refine .by' (Ξ:=fun o:List Int=>Asc ltZ o∧o.length≤k+1∧∀ x,x∈o↔∃ (j:Nat) (t:Tok),g.Toks[j]?=some t∧0<t.Num∧x=t.Num∧j<k+1) ?_ fun o ho=>.so ⟨hlt,rfl,ho⟩
   refine .by' (Ξ:=fun o:List Int=>Asc ltZ o∧o.length≤k+1∧∀ x,x∈o↔∃ (j:Nat) (t:Tok),g.Toks[j]?=some t∧0<t.Num∧x=t.Num∧j<k+1) ?_ fun o ho=>.so ho
   refine Tot.cp (fun hp=>.by' (c62 l _ h1 (by omega)) fun r hr=>.so ⟨hr.1,by have:=hr.2.1; omega,fun x=>?_⟩) (fun hp=>.so ⟨h1,by omega,fun x=>?_⟩)
   ·rw [hr.2.2 x,h3]
    constructor
    ·rintro (⟨j,t,a,b,c,d⟩ | rfl)
     ·exact ⟨j,t,a,b,c,by omega⟩
     ·exact ⟨k,_,hget,hp,rfl,by omega⟩
    ·rintro ⟨j,t,a,b,c,d⟩
     by_cases e:j=k
     ·subst e
      rw [hget] at a; cases a
      exact .inr c
     ·exact .inl ⟨j,t,a,b,c,by omega⟩
   ·rw [h3]
    constructor
    ·rintro ⟨j,t,a,b,c,d⟩
     exact ⟨j,t,a,b,c,by omega⟩
    ·rintro ⟨j,t,a,b,c,d⟩
     refine ⟨j,t,a,b,c,?_⟩
     by_cases e:j=k
     ·subst e
      rw [hget] at a; cases a
      exact absurd b hp
     ·omega
  ·have:=(List.getElem?_eq_some_iff.1 a).1
   omega
 ·obtain ⟨ha,hn,hm⟩:=hl
  refine .by' (Ξ:=fun l:List Pair=>Asc ltP l∧∀ p,p∈l↔Pr g.Toks p) ?_ fun r hr=>.so hr
  refine Tot.upto (fun s=>s.2) l.length (fun k s=>Asc ltP s.1∧s.1.length≤1000 * k∧∀ p,p∈s.1↔(Pr g.Toks p∧p.At∈l.take k)) rfl (by omega) ⟨.nil,Nat.le_refl 0,fun p=>⟨fun h=>(by cases h),fun h=>(by simp at h)⟩⟩ fun k s hk he hI=>?_
  obtain ⟨out,i⟩:=s
  obtain ⟨h1,h2,h3⟩:=hI
  simp only at he h1 h2 h3 ⊢
  subst he
  rw [w64c k (by omega)]
  refine Tot.cp (fun hlt=>?_) (fun hge=>.so ⟨h1,fun p=>(h3 p).trans ⟨fun h=>h.1,fun h=>⟨h,?_⟩⟩⟩)
  ·have hlt:k<l.length:=by omega
   have hx:∃ x,x=l[k]:=⟨_,rfl⟩
   obtain ⟨x,hx⟩:=hx
   have hxm:x∈l:=by rw [hx]; exact List.getElem_mem hlt
   obtain ⟨_,_,_,hx0,_⟩:=(hm x).1 hxm
   have htk:l.take (k+1)=l.take k++[x]:=by rw [List.take_add_one,List.getElem?_eq_getElem hlt,hx]; rfl
   have hlo:∀ y∈l.take k,y<x:=fun y hy=>by
    obtain ⟨j,hj,rfl⟩:=List.mem_iff_getElem.1 hy
    rw [List.length_take] at hj
    rw [List.getElem_take,hx]
    exact ltZ_iff.1 (ascZ_get ha (by omega) hlt (by omega))
   refine .by' (Ξ:=fun o:List Pair=>Asc ltP o∧o.length≤1000 * (k+1)∧∀ p,p∈o↔(Pr g.Toks p∧p.At∈l.take (k+1))) ?_ fun o ho=>.so ⟨hlt,rfl,ho⟩
   refine Tot.upto (fun s=>s.2) g.Toks.length (fun j s=>Asc ltP s.1∧s.1.length≤1000 * k+j∧∀ p,p∈s.1↔(Pr g.Toks p∧(p.At∈l.take k∨(p.At=x∧p.Val<(j:Int))))) rfl (by omega) ⟨h1,by show out.length≤1000 * k+0; omega,fun p=>(h3 p).trans ⟨fun h=>⟨h.1,.inl h.2⟩,fun h=>⟨h.1,h.2.elim id fun h'=>?_⟩⟩⟩ fun j s hj he hI=>?_
   ·obtain ⟨i,t,_,e,_⟩:=h.1.val
    omega
   obtain ⟨o,i⟩:=s
   obtain ⟨g1,g2,g3⟩:=hI
   simp only at he g1 g2 g3 ⊢
   subst he
   rw [w64c j (by omega)]
   refine Tot.cp (fun hlt2=>?_) (fun hge=>.so ⟨g1,by omega,fun p=>(g3 p).trans ?_⟩)
   ·have hlt2:j<g.Toks.length:=by omega
    rw [idx_nat hlt2,idx_nat hlt,← hx]
    have hget:g.Toks[j]?=some g.Toks[j]:=List.getElem?_eq_getElem hlt2
    simp only [Option.bind_some]
    refine .by' (Ξ:=fun o:List Pair=>Asc ltP o∧o.length≤1000 * k+(j+1)∧∀ p,p∈o↔(Pr g.Toks p∧(p.At∈l.take k∨(p.At=x∧p.Val<((j+1:Nat):Int))))) ?_ fun o ho=>.so ⟨hlt2,rfl,ho⟩
    refine .by' (Ξ:=fun o:List Pair=>Asc ltP o∧o.length≤1000 * k+(j+1)∧∀ p,p∈o↔(Pr g.Toks p∧(p.At∈l.take k∨(p.At=x∧p.Val<((j+1:Nat):Int))))) ?_ fun o ho=>.so ho
    refine Tot.cp (fun hp=>.by' (Ξ:=fun _=>True) (Tot.ap (by simp [lim]; omega) trivial) fun _ _=>.so ⟨?_,by simp; omega,fun p=>?_⟩) (fun hp=>.so ⟨g1,by omega,fun p=>(g3 p).trans ?_⟩)
    ·refine List.pairwise_append.2 ⟨g1,List.pairwise_singleton ..,fun a ha b hb=>?_⟩
     rw [List.mem_singleton.1 hb,ltP_iff]
     rcases ((g3 a).1 ha).2 with h | h
     ·exact .inl (hlo _ h)
     ·exact .inr h
    ·rw [List.mem_append,List.mem_singleton,g3]
     constructor
     ·rintro (⟨h,h' | ⟨h',h''⟩⟩ | rfl)
      ·exact ⟨h,.inl h'⟩
      ·exact ⟨h,.inr ⟨h',by omega⟩⟩
      ·exact ⟨⟨j,_,hget,by omega,by rw [hp]⟩,.inr ⟨rfl,by show (j:Int)<((j+1:Nat):Int); omega⟩⟩
     ·rintro ⟨h,h' | ⟨h',h''⟩⟩
      ·exact .inl ⟨h,.inl h'⟩
      ·by_cases e:p.Val=(j:Int)
       ·right
        obtain ⟨a,b⟩:=p
        simp only at h' e
        rw [h',e]
       ·exact .inl ⟨h,.inr ⟨h',by omega⟩⟩
    ·constructor
     ·rintro ⟨h,h' | ⟨h',h''⟩⟩
      ·exact ⟨h,.inl h'⟩
      ·exact ⟨h,.inr ⟨h',by omega⟩⟩
     ·rintro ⟨h,h' | ⟨h',h''⟩⟩
      ·exact ⟨h,.inl h'⟩
      ·refine ⟨h,.inr ⟨h',?_⟩⟩
       obtain ⟨i,t,e1,e2,e3,_⟩:=h.val
       by_cases e:i=j
       ·subst e
        rw [hget] at e1; cases e1
        exact absurd (e3.symm.trans h') hp
       ·omega
   ·rw [htk,List.mem_append,List.mem_singleton]
    constructor
    ·rintro ⟨h,h' | ⟨h',_⟩⟩
     ·exact ⟨h,.inl h'⟩
     ·exact ⟨h,.inr h'⟩
    ·rintro ⟨h,h' | h'⟩
     ·exact ⟨h,.inl h'⟩
     ·obtain ⟨i,t,e1,e2,e3,_⟩:=h.val
      have:=(List.getElem?_eq_some_iff.1 e1).1
      exact ⟨h,.inr ⟨h',by omega⟩⟩
  ·rw [List.take_of_length_le (by omega),hm]
   obtain ⟨i,t,e1,e2,e3,e4⟩:=h.val
   exact ⟨i,t,e1,e4,e3⟩
end Go.Proofs
namespace Go.Proofs
open Go Go.Own Go.Sort
set_option maxRecDepth 100000
set_option linter.unusedVariables false
def TokIs (T:List Tok) (n v:Int):Prop:=(n≤0∧v=0)∨(0<n∧((∃ (k:Nat) (t:Tok),T[k]?=some t∧t.Num=n∧v=(k:Int))∨((∀ (k:Nat) (t:Tok),T[k]?=some t→t.Num≠n)∧v=2)))
theorem TokIs.uniq {g:Grammar}(hg:GTk g) {n v v':Int}(h:TokIs g.Toks n v) (h':TokIs g.Toks n v'):v=v':=by
 rcases h with ⟨h1,h2⟩ | ⟨h1,⟨k,t,h2,h3,h4⟩ | ⟨h2,h3⟩⟩ <;> rcases h' with ⟨h1',h2'⟩ | ⟨h1',⟨k',t',h2',h3',h4'⟩ | ⟨h2',h3'⟩⟩
 ·omega
 ·omega
 ·omega
 ·omega
 ·have:=hg.un k k' t t' h2 h2' (by omega) (by omega)
  omega
 ·exact absurd h3 (h2' _ _ h2)
 ·omega
 ·exact absurd h3' (h2 _ _ h2')
 ·omega
theorem c26 (g:Grammar) (n:Int) (hl:g.Toks.length≤1000):Tot (pf26 g n) (TokIs g.Toks n):=by
 unfold pf26
 refine Tot.cp (fun h=>.so (.inl ⟨h,rfl⟩)) (fun h=>?_)
 refine .by' (Ξ:=LR (fun _=>∀ (k:Nat) (t:Tok),g.Toks[k]?=some t→t.Num≠n) (fun r:Int=>∃ (k:Nat) (t:Tok),g.Toks[k]?=some t∧t.Num=n∧r=(k:Int))) ?_ fun x hx=>?_
 ·refine Tot.upto (fun s=>s) g.Toks.length (fun k s=>∀ (j:Nat) (t:Tok),j<k→g.Toks[j]?=some t→t.Num≠n) rfl (by omega) (fun j t h=>by omega) fun k s hk he hI=>?_
  subst he
  rw [w64c k (by omega)]
  refine Tot.cp (fun hlt=>?_) (fun hge=>.so fun j t ht=>hI j t (by have:=(List.getElem?_eq_some_iff.1 ht).1; omega) ht)
  have hlt:k<g.Toks.length:=by omega
  rw [idx_nat hlt]
  have hget:g.Toks[k]?=some g.Toks[k]:=List.getElem?_eq_getElem hlt
  simp only [Option.bind_some]
  refine Tot.cp (fun e=>.so ⟨k,_,hget,e,rfl⟩) (fun e=>.so ⟨hlt,rfl,fun j t hj ht=>?_⟩)
  by_cases ej:j=k
  ·subst ej; rw [hget] at ht; cases ht; exact e
  ·exact hI j t (by omega) ht
 ·rcases x with x | x
  ·exact .so (.inr ⟨by omega,.inr ⟨hx,rfl⟩⟩)
  ·exact .so (.inr ⟨by omega,.inl hx⟩)
theorem half {x:Int}(h0:0≤x) (h1:x≤1000000):w64 (shrK .u64 (IntKind.u64.wrap (w64 x)) 1)=x / 2:=by
 have e1:w64 x=x:=by rw [w64_eq]; omega
 have e2:IntKind.u64.wrap x=x:=by rw [IntKind.wrap_u64]; omega
 rw [e1,e2]
 have e3:shrK .u64 x 1=x / 2:=by
  show x.fdiv (2 ^ 1)=x / 2
  rw [Int.fdiv_eq_ediv_of_nonneg _ (by decide)]
  rfl
 rw [e3,w64_eq]; omega
theorem c66 (l:List Pair) (n:Int) (ha:Asc ltP l) (hl:l.length≤1000):Tot (pf66_67 l n) fun r=>(r.2=true→∃ p,idx l r.1=some p∧p∈l∧p.At=n)∧(r.2=false→∀ p∈l,p.At≠n):=by
 have asc:∀ {i j:Nat}(hi:i<l.length) (hj:j<l.length),i≤j→l[i].At≤l[j].At:=fun {i j} hi hj h=>by
  by_cases e:i=j
  ·subst e; omega
  ·have:=ltP_iff.1 (List.pairwise_iff_getElem.1 ha i j hi hj (by omega))
   omega
 unfold pf66_67
 refine .by' (Ξ:=fun r:Int=>∃ k:Nat,r=(k:Int)∧k≤l.length∧(∀ (i:Nat) (h:i<l.length),i<k→l[i].At<n)∧∀ (i:Nat) (h:i<l.length),k≤i→n≤l[i].At) ?_ fun r hr=>?_
 ·refine Tot.count (fun s=>s.1 - s.2) 1 (fun s=>∃ lo hi:Nat,s=((lo:Int),(hi:Int))∧lo≤hi∧hi≤l.length∧(∀ (i:Nat) (h:i<l.length),i<lo→l[i].At<n)∧∀ (i:Nat) (h:i<l.length),hi≤i→n≤l[i].At) ⟨0,l.length,rfl,Nat.zero_le _,Nat.le_refl _,fun i h h'=>by omega,fun i h h'=>by omega⟩ (by show 1 - (0 - (l.length:Int))<_; omega) fun s hs=>?_
  obtain ⟨lo,hi,rfl,h1,h2,h3,h4⟩:=hs
  simp only
  refine Tot.cp (fun hlt=>?_) (fun hge=>.so ⟨lo,rfl,by omega,h3,fun i h h'=>h4 i h (by omega)⟩)
  rw [half (by omega) (by omega)]
  have hm:∃ m:Nat,((lo:Int)+(hi:Int)) / 2=(m:Int)∧lo≤m∧m<hi:=⟨(lo+hi) / 2,by omega,by omega,by omega⟩
  obtain ⟨m,hm,hm1,hm2⟩:=hm
  rw [hm,w64c m (by omega),idx_nat (by omega:m<l.length)]
  obtain ⟨v,hv,hv1,hv2⟩:=c65 (l[m]'(by omega)).At n
  simp only [Option.bind_some,pf67,hv]
  refine .by' (Ξ:=fun j:Int × Int=>(∃ lo' hi':Nat,j=((lo':Int),(hi':Int))∧lo'≤hi'∧hi'≤l.length∧(∀ (i:Nat) (h:i<l.length),i<lo'→l[i].At<n)∧∀ (i:Nat) (h:i<l.length),hi'≤i→n≤l[i].At)∧(lo:Int) - (hi:Int)<j.1 - j.2∧j.1 - j.2≤1) ?_ fun j hj=>.so hj
  refine .by' (Ξ:=fun j:Int × Int=>(∃ lo' hi':Nat,j=((lo':Int),(hi':Int))∧lo'≤hi'∧hi'≤l.length∧(∀ (i:Nat) (h:i<l.length),i<lo'→l[i].At<n)∧∀ (i:Nat) (h:i<l.length),hi'≤i→n≤l[i].At)∧(lo:Int) - (hi:Int)<j.1 - j.2∧j.1 - j.2≤1) ?_ fun j hj=>.so hj
  refine Tot.cp (fun hneg=>.so ⟨⟨m+1,hi,rfl,by omega,h2,fun i h h'=>?_,h4⟩,by show (lo:Int) - hi<((m+1:Nat):Int) - hi; omega,by show ((m+1:Nat):Int) - hi≤1; omega⟩) (fun hpos=>.so ⟨⟨lo,m,rfl,hm1,by omega,h3,fun i h h'=>?_⟩,by show (lo:Int) - hi<lo - m; omega,by show (lo:Int) - m≤1; omega⟩)
  ·have:=asc h (by omega:m<l.length) (by omega)
   have:=hv1.1 hneg
   omega
  ·have:=asc (by omega:m<l.length) h h'
   have:¬ (l[m]'(by omega)).At<n:=fun h=>hpos (hv1.2 h)
   omega
 ·obtain ⟨k,rfl,hk,h1,h2⟩:=hr
  refine .by' (Ξ:=fun c:Int × Bool=>(c.2=true→∃ p,idx l c.1=some p∧p∈l∧p.At=n)∧(c.2=false→∀ p∈l,p.At≠n)) ?_ fun c hc=>.so hc
  refine Tot.cp (fun hlt=>?_) (fun hge=>.so ⟨fun h=>(by cases h),fun _ p hp=>?_⟩)
  ·have hlt:k<l.length:=by omega
   rw [idx_nat hlt]
   obtain ⟨v,hv,hv1,hv2⟩:=c65 l[k].At n
   simp only [Option.bind_some,pf67,hv]
   refine .so ⟨fun h=>⟨_,idx_nat hlt,List.getElem_mem hlt,hv2.1 (of_decide_eq_true h)⟩,fun h p hp=>?_⟩
   obtain ⟨i,hi,rfl⟩:=List.mem_iff_getElem.1 hp
   have hne:l[k].At≠n:=fun e=>of_decide_eq_false h (hv2.2 e)
   by_cases hik:i<k
   ·have:=h1 i hi hik; omega
   ·have a1:=asc hlt hi (by omega)
    have a2:=h2 k hlt (Nat.le_refl _)
    omega
  ·obtain ⟨i,hi,rfl⟩:=List.mem_iff_getElem.1 hp
   have:=h1 i hi (by omega)
   omega
theorem c25 (g:Grammar) (hg:GTk g) (l:List Pair) (n:Int) (ha:Asc ltP l) (hl:l.length≤1000) (hm:∀ p,p∈l↔Pr g.Toks p):Tot (pf25 l n) (TokIs g.Toks n):=by
 unfold pf25
 refine Tot.cp (fun h=>.so (.inl ⟨h,rfl⟩)) (fun h=>?_)
 refine .by' (c66 l n ha hl) fun r hr=>Tot.cd (fun hf=>.so (.inr ⟨by omega,.inr ⟨fun k t ht e=>?_,rfl⟩⟩)) (fun ht=>?_)
 ·exact hr.2 (by simpa using hf) ⟨t.Num,(k:Int)⟩ ((hm _).2 ⟨k,t,ht,by omega,rfl⟩) e
 ·obtain ⟨p,hp,hpm,e⟩:=hr.1 (by simpa using ht)
  rw [hp]
  obtain ⟨k,t,h1,h2,rfl⟩:=(hm p).1 hpm
  exact .so (.inr ⟨by omega,.inl ⟨k,t,h1,e,rfl⟩⟩)
theorem c23 (l m:List Pair) (hl:l.length≤100000) (h:l=m):pf23 l m=some true:=by
 subst h
 suffices h:Tot (pf23 l l) fun r=>r=true by
  obtain ⟨r,hr,e⟩:=h; rw [hr,e]
 unfold pf23
 simp only [decide_true,Bool.not_true,cond_false]
 refine .by' (Ξ:=LR (fun _=>True) (fun _:Bool=>False)) ?_ fun x hx=>?_
 ·refine Tot.upto (fun s=>s) l.length (fun k s=>True) rfl (by omega) trivial fun k s hk he _=>?_
  subst he
  rw [w64c k (by omega)]
  refine Tot.cp (fun hlt=>?_) (fun hge=>.so trivial)
  have hlt:k<l.length:=by omega
  rw [idx_nat hlt]
  simp only [Option.bind_some,decide_true,Bool.and_true,Bool.not_true,cond_false]
  exact .so ⟨hlt,rfl,trivial⟩
 ·rcases x with x | x
  ·exact .so rfl
  ·exact hx.elim
end Go.Proofs
namespace Go.Proofs
open Go Go.Own Go.Sort
set_option maxRecDepth 100000
set_option linter.unusedVariables false
theorem two_ix {α:Type}(a b:α) {i:Int}(h0:0≤i) (h:i<(([a,b]:List α).length:Int)):∃ y,idx [a,b] i=some y∧(y=a∨y=b):=by
 obtain ⟨y,hy,hm⟩:=idx_some' h0 h
 exact ⟨y,hy,by simpa using hm⟩
theorem g20 (s:Source) (hb:SrcB s):Tot (pf20 s) fun r=>r.2=true→GOk r.1∧GTk r.1:=by
 refine (Par.tot (t20 s hb) (Ψ:=fun r=>r.2=true→GTk r.1) ?_).use fun r hr h=>⟨hr.1 h,hr.2 h⟩
 unfold pf20
 exact .by' (p61 s hb) fun r hr=>.so fun h=>hr (of_decide_eq_true h)
theorem same25 (g:Grammar) (ho:GOk g) (hg:GTk g) (l:List Pair) (n:Int) (ha:Asc ltP l) (hl:l.length≤1000) (hm:∀ p,p∈l↔Pr g.Toks p):∃ v,pf25 l n=some v∧pf26 g n=some v:=by
 obtain ⟨v,hv,h1⟩:=c25 g hg l n ha hl hm
 obtain ⟨v',hv',h2⟩:=c26 g n (by have:=ho.tn; omega)
 rw [h1.uniq hg h2] at hv
 exact ⟨v',hv,hv'⟩
theorem t3 (s:Source) (x:yuccalaw0_Gr) (n near:Int):pf3 s x n near=some true:=by
 suffices h:Tot (pf3 s x n near) fun r=>r=true by
  obtain ⟨r,hr,e⟩:=h; rw [hr,e]
 unfold pf3
 rw [w17]
 refine Tot.sm (.by' (t18 s) fun x3 h3=>.by' (t19 x) fun x4 h4=>?_)
 refine Tot.by' (Ξ:=LR (fun _=>True) (fun _=>False)) ?_ fun r hr=>by
  rcases r with r | r
  ·exact .so rfl
  ·exact hr.elim
 refine Tot.count (fun s=>s) 2 (fun s=>0≤s) (Int.le_refl _) (by decide) fun i hi=>?_
 have up:∀ {n:Int},i<n→n≤2→(0≤w64 (i+1))∧i<w64 (i+1)∧w64 (i+1)≤n:=fun {n} h _=>by rw [w64_eq]; omega
 refine Tot.cp (fun hlt=>?_) (fun _=>.so trivial)
 obtain ⟨y,hy,hyc⟩:=two_ix x3 x4 hi hlt
 have hb:SrcB y:=by rcases hyc with rfl | rfl <;> assumption
 rw [hy]
 refine Tot.sm (.by' (g20 y hb) fun gg hgg=>Tot.cd (fun _=>.so ⟨(up hlt (Int.le_refl 2)).1,(up hlt (Int.le_refl 2)).2⟩) (fun hok=>?_))
 obtain ⟨ho,hg⟩:=hgg (by simpa using hok)
 generalize gg.1=g at ho hg
 have hT:g.Toks.length≤1000:=by have:=ho.tn; omega
 obtain ⟨l,hl,ha,hm⟩:=c21 g hT
 obtain ⟨l2,hl2,ha2,hn2,hm2⟩:=c24 g hg hT
 have e:l2=l:=ha2.uniq ordP ha fun p=>(hm2 p).trans (hm p).symm
 subst e
 rw [hl]
 refine Tot.sm (.by' (t22 near 140 (by decide) (by decide)) fun k hk=>?_)
 obtain ⟨v1,e1,e1'⟩:=same25 g ho hg l2 n ha hn2 hm
 obtain ⟨v2,e2,e2'⟩:=same25 g ho hg l2 k ha hn2 hm
 obtain ⟨v3,e3,e3'⟩:=same25 g ho hg l2 (w64 (57340+k)) ha hn2 hm
 rw [hl2]
 simp only [Option.bind_some,c23 l2 l2 (by omega) rfl,e1,e1',e2,e2',e3,e3',Bool.not_true,cond_false,decide_true]
 exact .so ⟨(up hlt (Int.le_refl 2)).1,(up hlt (Int.le_refl 2)).2⟩
theorem t4 (s:Source):pf4 s=some true:=by
 suffices h:Tot (pf4 s) fun r=>r=true by
  obtain ⟨r,hr,e⟩:=h; rw [hr,e]
 unfold pf4
 rw [w17]
 refine Tot.sm (.by' (t18 s) fun x3 h3=>.by' (g20 x3 h3) fun gg hgg=>Tot.cd (fun _=>.so rfl) (fun hok=>?_))
 obtain ⟨ho,hg⟩:=hgg (by simpa using hok)
 generalize gg.1=g at ho hg
 have hT:=ho.tn
 obtain ⟨l,hl,ha,hn,hm⟩:=c24 g hg (by omega)
 rw [hl]
 have key:∀ (k:Nat) (t:Tok),g.Toks[k]?=some t→3≤k→pf25 l t.Num=some (k:Int):=by
  intro k t ht hk
  obtain ⟨v,hv,h1⟩:=c25 g hg l t.Num ha hn hm
  have hp:=(hg.pos k t hk ht).1
  rw [hv]
  rcases h1 with ⟨h1,_⟩ | ⟨_,⟨j,u,h2,h3,h4⟩ | ⟨h2,_⟩⟩
  ·omega
  ·have:=hg.un k j t u ht h2 hp (by omega)
   subst this
   rw [h4]
  ·exact absurd rfl (h2 k t ht)
 have mem:∀ p∈l,∃ (k:Nat) (t:Tok),g.Toks[k]?=some t∧3≤k∧0<t.Num∧p=⟨t.Num,(k:Int)⟩:=by
  intro p hp
  obtain ⟨k,t,h1,h2,h3⟩:=(hm p).1 hp
  refine ⟨k,t,h1,?_,h2,h3⟩
  by_cases e:k<3
  ·have:=hg.hd k t e h1; omega
  ·omega
 -- az many
 have hlen:l.length=g.Toks.length - 3:=by
  have h1:(l.map fun p=>p.Val.toNat).Nodup:=by
   refine List.pairwise_map.2 (List.Pairwise.imp_of_mem ?_ (ha.nd ordP))
   intro p q hp hq hne e
   apply hne
   obtain ⟨k,t,h1,h2,h3,rfl⟩:=mem p hp
   obtain ⟨j,u,g1,g2,g3,rfl⟩:=mem q hq
   simp only [Int.toNat_natCast] at e
   subst e
   rw [h1] at g1; cases g1; rfl
  have h2:(l.map fun p=>p.Val.toNat).Perm (List.range' 3 (g.Toks.length - 3)):=by
   refine (List.perm_ext_iff_of_nodup h1 (List.nodup_range' ..)).2 fun k=>?_
   rw [List.mem_map,List.mem_range'_1]
   constructor
   ·rintro ⟨p,hp,rfl⟩
    obtain ⟨k,t,h1,h2,h3,rfl⟩:=mem p hp
    have:=(List.getElem?_eq_some_iff.1 h1).1
    simp only [Int.toNat_natCast]
    omega
   ·rintro ⟨h3,h4⟩
    have hk:k<g.Toks.length:=by omega
    have hget:g.Toks[k]?=some g.Toks[k]:=List.getElem?_eq_getElem hk
    refine ⟨⟨g.Toks[k].Num,(k:Int)⟩,(hm _).2 ⟨k,_,hget,(hg.pos k _ h3 hget).1,rfl⟩,?_⟩
    show (k:Int).toNat=k
    omega
  have:=h2.length_eq
  simpa using this
 have hw:w64 ((g.Toks.length:Int) - 3)=((g.Toks.length - 3:Nat):Int):=by rw [w64_eq]; omega
 simp only [Option.bind_some]
 rw [hw,hlen]
 simp only [decide_true,Bool.not_true,cond_false]
 have asc:∀ {i j:Nat}(hi:i<l.length) (hj:j<l.length),i<j→l[i].At<l[j].At:=fun {i j} hi hj h=>by
  have h1:=ltP_iff.1 (List.pairwise_iff_getElem.1 ha i j hi hj h)
  rcases h1 with h1 | ⟨h1,h2⟩
  ·exact h1
  ·exfalso
   obtain ⟨k,t,a1,a2,a3,a4⟩:=mem _ (List.getElem_mem hi)
   obtain ⟨k',t',b1,b2,b3,b4⟩:=mem _ (List.getElem_mem hj)
   rw [a4,b4] at h1 h2
   simp only at h1 h2
   have:=hg.un k k' t t' a1 b1 a3 h1
   omega
 have body:∀ (c:Bool) (i:Nat) (hi:i<l.length),((idx l (i:Int)).bind fun x28=>(bif decide (x28.Val<3) then some true else ((idx l (i:Int)).bind fun x30=>(bif decide ((g.Toks.length:Int)≤x30.Val) then some true else ((idx l (i:Int)).bind fun x32=>((idx g.Toks x32.Val).bind fun x33=>((idx l (i:Int)).bind fun x34=>(bif !decide (x33.Num=x34.At) then some true else ((idx l (i:Int)).bind fun x36=>((pf25 l x36.At).bind fun x37=>((idx l (i:Int)).bind fun x38=>some (!decide (x37=x38.Val)))))))))))))=some false:=by
  intro c i hi
  rw [idx_nat hi]
  obtain ⟨k,t,a1,a2,a3,a4⟩:=mem _ (List.getElem_mem hi)
  have hk:=(List.getElem?_eq_some_iff.1 a1).1
  have hit:idx g.Toks (k:Int)=some t:=by simp [idx,a1]
  have c1:decide ((k:Int)<3)=false:=decide_eq_false (by omega)
  have c2:decide ((g.Toks.length:Int)≤(k:Int))=false:=decide_eq_false (by omega)
  simp only [a4,Option.bind_some,c1,c2,hit,cond_false,decide_true,Bool.not_true,key k t a1 a2]
 refine Tot.by' (Ξ:=LR (fun _=>True) (fun _:Bool=>False)) ?_ fun x hx=>?_
 ·refine Tot.upto (fun s=>s) l.length (fun k s=>True) rfl (by omega) trivial fun k s hk he _=>?_
  subst he
  rw [w64c k (by omega),← hlen]
  refine Tot.cp (fun hlt=>?_) (fun hge=>.so trivial)
  have hlt:k<l.length:=by omega
  refine .by' (Ξ:=fun c=>c=false) (Tot.cp (fun h0=>?_) (fun h0=>?_)) fun c hc=>?_
  ·have hw1:w64 ((k:Int) - 1)=((k - 1:Nat):Int):=by rw [w64_eq]; omega
   have hk1:k - 1<l.length:=by omega
   have hb:=body true k hlt
   rw [idx_nat hlt] at hb
   rw [hw1,idx_nat hlt,idx_nat hk1]
   have:=asc hk1 hlt (by omega)
   have c1:decide (l[k].At≤l[k - 1].At)=false:=decide_eq_false (by omega)
   simp only [Option.bind_some,c1,cond_false] at hb ⊢
   exact ⟨_,hb,rfl⟩
  ·exact ⟨_,body true k hlt,rfl⟩
  ·subst hc
   exact .so ⟨hlt,rfl,trivial⟩
 ·rcases x with x | x
  ·refine Tot.by' (Ξ:=LR (fun _=>True) (fun _:Bool=>False)) ?_ fun x hx=>?_
   ·refine Tot.count (fun s=>s) g.Toks.length (fun s=>∃ k:Nat,s=(k:Int)∧3≤k) ⟨3,rfl,Nat.le_refl 3⟩ (by show (g.Toks.length:Int) - 3<_; omega) fun s hs=>?_
    obtain ⟨k,rfl,h3⟩:=hs
    refine Tot.cp (fun hlt=>?_) (fun hge=>.so trivial)
    have hlt:k<g.Toks.length:=by omega
    rw [w64c k (by omega),idx_nat hlt]
    simp only [Option.bind_some,key k _ (List.getElem?_eq_getElem hlt) h3,decide_true,Bool.not_true,cond_false]
    exact .so ⟨⟨k+1,rfl,by omega⟩,by omega,by omega⟩
   ·rcases x with x | x
    ·exact .so rfl
    ·exact hx.elim
  ·exact hx.elim
end Go.Proofs
namespace Go.Own
open Go
variable {α β γ δ S T R Q:Type}
def Rel (x:Option α) (y:Option β) (Φ:α→β→Prop):Prop:=∃ a b,x=some a∧y=some b∧Φ a b
abbrev LL (p:S→T→Prop) (q:R→Q→Prop):S ⊕ R→T ⊕ Q→Prop
 | .inl a,.inl b=>p a b
 | .inr a,.inr b=>q a b
 | _,_=>False
namespace Rel
variable {Φ Ψ:α→β→Prop}
theorem so {a:α}{b:β}(h:Φ a b):Rel (some a) (some b) Φ:=⟨a,b,rfl,rfl,h⟩
theorem use {x:Option α}{y:Option β}(h:Rel x y Ψ) (hi:∀ a b,Ψ a b→Φ a b):Rel x y Φ:=by
 obtain ⟨a,b,ha,hb,hΨ⟩:=h
 exact ⟨a,b,ha,hb,hi a b hΨ⟩
theorem by' {x:Option γ}{y:Option δ}{f:γ→Option α}{g:δ→Option β}{Ξ:γ→δ→Prop}(h:Rel x y Ξ) (hk:∀ a b,Ξ a b→Rel (f a) (g b) Φ):Rel (x.bind f) (y.bind g) Φ:=by
 obtain ⟨a,b,rfl,rfl,hΞ⟩:=h
 exact hk a b hΞ
theorem l {x:Option γ}{y:Option β}{f:γ→Option α}{Ξ:γ→Prop}(h:Tot x Ξ) (hk:∀ a,Ξ a→Rel (f a) y Φ):Rel (x.bind f) y Φ:=by
 obtain ⟨a,rfl,hΞ⟩:=h
 exact hk a hΞ
theorem r {x:Option α}{y:Option δ}{g:δ→Option β}{Ξ:δ→Prop}(h:Tot y Ξ) (hk:∀ a,Ξ a→Rel x (g a) Φ):Rel x (y.bind g) Φ:=by
 obtain ⟨a,rfl,hΞ⟩:=h
 exact hk a hΞ
theorem cd {c d:Bool}{a b:Option α}{a' b':Option β}(hc:c=d) (ht:c=true→Rel a a' Φ) (hf:c=false→Rel b b' Φ):Rel (cond c a b) (cond d a' b') Φ:=by
 subst hc
 cases c
 ·exact hf rfl
 ·exact ht rfl
theorem cl {c:Bool}{a b:Option α}{y:Option β}(ht:c=true→Rel a y Φ) (hf:c=false→Rel b y Φ):Rel (cond c a b) y Φ:=by
 cases c
 ·exact hf rfl
 ·exact ht rfl
theorem tot {x:Option α}{y:Option β}{P:α→Prop}{Q:β→Prop}(h:Tot x P) (h':Tot y Q) (hi:∀ a b,P a→Q b→Φ a b):Rel x y Φ:=by
 obtain ⟨a,ha,hP⟩:=h
 obtain ⟨b,hb,hQ⟩:=h'
 exact ⟨a,b,ha,hb,hi a b hP hQ⟩
theorem loop {f:S→Option (S ⊕ R)}{g:T→Option (T ⊕ Q)}{s0:S}{t0:T}{Ψ:R→Q→Prop}(Inv:S→T→Prop) (μ:S→Nat) (h0:Inv s0 t0) (hμ:μ s0<fuel)
  (hs:∀ s t,Inv s t→Rel (f s) (g t) (LL (fun s' t'=>Inv s' t'∧μ s'<μ s) Ψ)):Rel (loopM f s0) (loopM g t0) Ψ:=by
 have key:∀ n s t,Inv s t→μ s<n→Rel (iter f n s) (iter g n t) Ψ:=by
  intro n
  induction n with
  | zero=>intro s t _ h; omega
  | succ n ih =>
   intro s t hI hm
   obtain ⟨x,y,hx,hy,hP⟩:=hs s t hI
   rcases x with s' | r <;> rcases y with t' | q
   ·obtain ⟨h1,h2⟩:=hP
    simp only [iter,hx,hy]
    exact ih s' t' h1 (by omega)
   ·exact hP.elim
   ·exact hP.elim
   ·simp only [iter,hx,hy]
    exact ⟨r,q,rfl,rfl,hP⟩
 exact key fuel s0 t0 h0 hμ
theorem upto {f:S→Option (S ⊕ R)}{g:T→Option (T ⊕ Q)}{s0:S}{t0:T}{Ψ:R→Q→Prop}(i:S→Int) (n:Nat) (Inv:Nat→S→T→Prop) (hi:i s0=0) (hn:n≤100000000000000000) (h0:Inv 0 s0 t0)
  (hs:∀ (k:Nat) (s:S) (t:T),k≤n→i s=(k:Int)→Inv k s t→Rel (f s) (g t) (LL (fun s' t'=>k<n∧i s'=((k+1:Nat):Int)∧Inv (k+1) s' t') Ψ)):Rel (loopM f s0) (loopM g t0) Ψ:=by
 refine loop (fun s t=>∃ k:Nat,k≤n∧i s=(k:Int)∧Inv k s t) (fun s=>(n - (i s).toNat)) ⟨0,Nat.zero_le _,hi,h0⟩ (by rw [hi]; show n - 0<1000000000000000000; omega) fun s t ⟨k,hk,he,hI⟩=>(hs k s t hk he hI).use fun x y hxy=>?_
 rcases x with s' | r <;> rcases y with t' | q
 ·obtain ⟨h1,h2,h3⟩:=hxy
  refine ⟨⟨k+1,by omega,h2,h3⟩,?_⟩
  show n - (i s').toNat<n - (i s).toNat
  rw [h2,he]; omega
 ·exact hxy
 ·exact hxy
 ·exact hxy
end Rel
end Go.Own
namespace Go.Proofs
open Go Go.Own
set_option maxRecDepth 100000
set_option linter.unusedVariables false
theorem q100:(List.range 256).all (fun b=>match pf100 (b:Int),pf102 (b:Int) with | some x,some y=>decide (x=y)&&Nat.ble x.size 4 | _,_=>false)=true:=by kernel_rfl
theorem n100 (b:Int) (h0:0≤b) (h1:b≤255):∃ r,pf100 b=some r∧pf102 b=some r∧r.size≤4:=by
 have h:=List.all_eq_true.1 q100 b.toNat (by simp; omega)
 have e:((b.toNat:Nat):Int)=b:=by omega
 rw [e] at h
 cases h1:pf100 b with
 | none=>rw [h1] at h; cases h
 | some x =>
  cases h2:pf102 b with
  | none=>rw [h1,h2] at h; cases h
  | some y =>
   rw [h1,h2] at h
   simp only [Bool.and_eq_true,decide_eq_true_eq,Nat.ble_eq] at h
   obtain ⟨rfl,h⟩:=h
   exact ⟨x,rfl,rfl,h⟩
theorem n76 (g:Grammar) (ho:GOk g) (hg:GTk g) (s:Int) (h:SyOk g.Toks.length (g.Nons.length - 1) s):∃ r,pf76 g s=some r∧pf77 g s=some r∧r.size≤4 * big+4:=by
 have hT:=ho.tn
 have hN:=ho.nn
 rcases h with ⟨h0,h1⟩ | ⟨h0,h1⟩
 ·have c1:decide (0≤s)=true:=decide_eq_true h0
  have c2:decide (s<(g.Toks.length:Int))=true:=decide_eq_true h1
  have c3:decide (1000≤s)=false:=decide_eq_false (by omega)
  obtain ⟨t,ht,htm⟩:=idx_some' h0 h1
  have hn:=hg.nm t htm
  unfold pf76 pf77 pf101
  simp only [c1,c2,c3,cond_true,cond_false,ht,Option.bind_some,Bool.not_true]
  cases hl:t.Lit with
  | true =>
   have hs:=hn.2 hl
   have hb:=byteAt_range t.Name 0
   obtain ⟨r,e1,e2,e3⟩:=n100 (byteAt t.Name 0) hb.1 hb.2
   have e0:bidx t.Name 0=some (byteAt t.Name 0):=by unfold bidx; rw [if_pos (by omega)]
   simp only [cond_true,e0,Option.bind_some,e1,e2]
   exact ⟨r,rfl,rfl,by omega⟩
  | false =>
   simp only [cond_false]
   exact ⟨_,rfl,rfl,by have:=hn.1; omega⟩
 ·have c1:decide (0≤s)=true:=decide_eq_true (by omega)
  have c2:decide (s<(g.Toks.length:Int))=false:=decide_eq_false (by omega)
  have c3:decide (1000≤s)=true:=decide_eq_true h0
  have hw:w64 (s - 1000)=s - 1000:=by rw [w64_eq]; omega
  have hw2:w64 (1000+(g.Nons.length:Int))=1000+g.Nons.length:=by rw [w64_eq]; omega
  have c4:decide (s - 1000<(g.Nons.length:Int))=true:=decide_eq_true (by omega)
  have c5:decide (s<1000+(g.Nons.length:Int))=true:=decide_eq_true (by omega)
  obtain ⟨t,ht,htm⟩:=idx_some' (l:=g.Nons) (i:=s - 1000) (by omega) (by omega)
  have hn:=hg.nn t htm
  unfold pf76 pf77 pf101
  simp only [c1,c2,c3,cond_true,cond_false,hw,hw2,c4,c5,ht,Option.bind_some,Bool.not_true]
  exact ⟨_,rfl,rfl,by omega⟩
theorem cat_ok {a b:ByteArray}(h:a.size+b.size≤4611686018427387904):catO a b=some (a++b):=by unfold catO; rw [if_pos h]
theorem n40 (g:Grammar) (ho:GOk g) (hg:GTk g) (x:Item):Rel (pf40 g x) (pf41 g x) fun a b=>a=b:=by
 have hT:=ho.tn
 have hN:=ho.nn
 obtain ⟨c,hc,h1⟩:=e68 g x
 obtain ⟨c',hc',h1'⟩:=e69 g x
 have e:c=c':=by rw [Bool.eq_iff_iff]; exact h1.trans h1'.symm
 subst e
 unfold pf40 pf41
 rw [hc,hc']
 simp only [Option.bind_some]
 refine Rel.cd rfl (fun _=>.so rfl) (fun h=>?_)
 obtain ⟨q,hq,h0,h2⟩:=h1.1 (by simpa using h)
 have hqm:=idx_bd' hq
 have hp:=ho.pr q hqm
 have hr8:=ho.rn q hqm
 rw [hq]
 simp only [Option.bind_some]
 have hl:=hp.left
 obtain ⟨t,ht,htm⟩:=idx_some' (l:=g.Nons) (i:=q.Left) hl.1 (by omega)
 have hn:=hg.nn t htm
 have hw:w64 (1000+q.Left)=1000+q.Left:=by rw [w64_eq]; omega
 have hw2:w64 (1000+q.Left - 1000)=q.Left:=by rw [w64_eq]; omega
 have e1:pf76 g (1000+q.Left)=some t.Name:=by
  have c1:decide (0≤1000+q.Left)=true:=decide_eq_true (by omega)
  have c2:decide (1000+q.Left<(g.Toks.length:Int))=false:=decide_eq_false (by omega)
  have c3:decide (1000≤1000+q.Left)=true:=decide_eq_true (by omega)
  have c4:decide (q.Left<(g.Nons.length:Int))=true:=decide_eq_true (by omega)
  unfold pf76
  simp only [c1,c2,c3,hw2,c4,cond_true,cond_false,Option.bind_some,ht]
 rw [hw,e1,ht]
 simp only [big] at hn
 have hs2:({ data:=#[32,58] }:ByteArray).size=2:=rfl
 have hs1:({ data:=#[32] }:ByteArray).size=1:=rfl
 have hs3:({ data:=#[32,46] }:ByteArray).size=2:=rfl
 simp only [Option.bind_some]
 rw [cat_ok (by omega)]
 simp only [Option.bind_some]
 refine Rel.by' (Ξ:=fun a b=>a=b∧a.size≤100000000000000) ?_ fun a b hab=>?_
 ·refine Rel.upto (fun s=>s.2) q.Right.length (fun k s t=>s=t∧s.2=(k:Int)∧s.1.size≤4000000000002+k * 4000000000010) rfl (by omega) ⟨rfl,rfl,by show (t.Name++_).size≤_; rw [ByteArray.size_append]; omega⟩ fun k s t hk he hI=>?_
  obtain ⟨rfl,_,hsz⟩:=hI
  obtain ⟨s,i⟩:=s
  simp only at he hsz ⊢
  subst he
  rw [w64c k (by omega)]
  refine Rel.cd rfl (fun hlt=>?_) (fun hge=>.so ⟨rfl,?_⟩)
  ·have hlt:=of_decide_eq_true hlt
   have hlt:k<q.Right.length:=by omega
   rw [idx_nat hlt]
   obtain ⟨r,r1,r2,r3⟩:=n76 g ho hg q.Right[k] (hp.right _ (List.getElem_mem hlt))
   simp only [big] at r3
   have key:∃ u,((bif decide ((k:Int)=x.Dot) then ((catO s ({ data:=#[32,46] })).bind fun x13=>some x13) else some s)=some u)∧u.size≤s.size+2:=by
    by_cases hd:(k:Int)=x.Dot
    ·exact ⟨_,by rw [decide_eq_true hd,cond_true,cat_ok (by omega)]; rfl,by rw [ByteArray.size_append]; omega⟩
    ·exact ⟨_,by rw [decide_eq_false hd,cond_false],by omega⟩
   obtain ⟨u,hu,hus⟩:=key
   rw [hu]
   simp only [Option.bind_some,r1,r2]
   rw [cat_ok (by omega)]
   have hsz2:(({ data:=#[32] }:ByteArray)++r).size=1+r.size:=by rw [ByteArray.size_append,hs1]
   have hsz3:(u++({ data:=#[32] }:ByteArray)).size=u.size+1:=by rw [ByteArray.size_append,hs1]
   simp only [Option.bind_some]
   rw [cat_ok (by omega),cat_ok (by omega)]
   simp only [Option.bind_some]
   rw [cat_ok (by omega)]
   simp only [Option.bind_some]
   refine .so ⟨hlt,rfl,?_,rfl,?_⟩
   ·show (_,_)=(_,_)
    rw [ByteArray.append_assoc]
   ·show (u++_).size≤_
    rw [ByteArray.size_append,hsz2]
    omega
  ·show s.size≤_
   omega
 ·obtain ⟨rfl,hsz⟩:=hab
  by_cases hd:x.Dot=(q.Right.length:Int)
  ·rw [decide_eq_true hd,cond_true,cat_ok (by omega)]
   exact .so rfl
  ·rw [decide_eq_false hd,cond_false]
   exact .so rfl
theorem t7 (s:Source) (x:yuccalaw0_Gr) (raw:Item):pf7 s x raw=some true:=by
 suffices h:Tot (pf7 s x raw) fun r=>r=true by
  obtain ⟨r,hr,e⟩:=h; rw [hr,e]
 unfold pf7
 rw [w29]
 refine Tot.sm (.by' (t18 s) fun x3 h3=>.by' (t19 x) fun x4 h4=>?_)
 refine Tot.by' (Ξ:=LR (fun _=>True) (fun _=>False)) ?_ fun r hr=>by
  rcases r with r | r
  ·exact .so rfl
  ·exact hr.elim
 refine Tot.count (fun s=>s) 2 (fun s=>0≤s) (Int.le_refl _) (by decide) fun i hi=>?_
 have up:∀ {n:Int},i<n→n≤2→(0≤w64 (i+1))∧i<w64 (i+1)∧w64 (i+1)≤n:=fun {n} h _=>by rw [w64_eq]; omega
 refine Tot.cp (fun hlt=>?_) (fun _=>.so trivial)
 obtain ⟨y,hy,hyc⟩:=two_ix x3 x4 hi hlt
 have hb:SrcB y:=by rcases hyc with rfl | rfl <;> assumption
 rw [hy]
 refine Tot.sm (.by' (g20 y hb) fun gg hgg=>Tot.cd (fun _=>.so ⟨(up hlt (Int.le_refl 2)).1,(up hlt (Int.le_refl 2)).2⟩) (fun hok=>?_))
 obtain ⟨ho,hg⟩:=hgg (by simpa using hok)
 generalize gg.1=g at ho hg
 have hP:=ho.pn
 have same:∀ x:Item,∃ a,pf40 g x=some a∧pf41 g x=some a:=fun x=>by
  obtain ⟨a,b,h1,h2,rfl⟩:=n40 g ho hg x
  exact ⟨a,h1,h2⟩
 refine Tot.by' (Ξ:=LR (fun _=>True) (fun _=>False)) ?_ fun r hr=>?_
 ·refine Tot.count (fun s=>s) (g.Prods.length+1) (fun s=>-1≤s) (Int.le_refl _) (by show (g.Prods.length:Int)+1 - -1<_; omega) fun p hp=>?_
  refine Tot.cp (fun hlt=>?_) (fun _=>.so trivial)
  refine Tot.by' (Ξ:=LR (fun _=>True) (fun _=>False)) ?_ fun r hr=>?_
  ·refine Tot.count (fun s=>s) 10 (fun s=>-1≤s) (Int.le_refl _) (by decide) fun d hd=>?_
   refine Tot.cp (fun hlt2=>?_) (fun _=>.so trivial)
   obtain ⟨a,h1,h2⟩:=same ⟨p,d⟩
   rw [h1,h2]
   simp only [Option.bind_some,decide_true,Bool.not_true,cond_false]
   exact .so ⟨by show -1≤w64 (d+1); rw [w64_eq]; omega,by show d<w64 (d+1); rw [w64_eq]; omega,by show w64 (d+1)≤10; rw [w64_eq]; omega⟩
  ·rcases r with r | r
   ·exact .so ⟨by show -1≤w64 (p+1); rw [w64_eq]; omega,by show p<w64 (p+1); rw [w64_eq]; omega,by show w64 (p+1)≤_; rw [w64_eq]; omega⟩
   ·exact hr.elim
 ·rcases r with r | r
  ·obtain ⟨a,h1,h2⟩:=same raw
   rw [h1,h2]
   simp only [Option.bind_some,decide_true,Bool.not_true,cond_false]
   exact .so ⟨(up hlt (Int.le_refl 2)).1,(up hlt (Int.le_refl 2)).2⟩
  ·exact hr.elim
end Go.Proofs
