/-
  What is proved here: parts of the proof that the last text states: rules for walks through code, and of this program's functions what they answer. No condition of their own.
-/
import Derived.KernelRfl
import Derived.Test.YtbcajhiedeghlaaE3
namespace Go.Proofs
open Go Go.Own Go.Sort
set_option maxRecDepth 100000
set_option linter.unusedVariables false
def jc (a b:Int):Bool:=decide (a<b)
theorem LN {a b:Int}:jc a b=true↔a<b:=by simp [jc]
theorem Hc {a b:Int}:jc a b=false↔¬ a<b:=by simp [jc]
theorem AL:Ord jc where
 swo:=⟨λx=>by rw [Hc]; omega,λx y z h1 al=>by rw [LN] at *; omega,λx y z h1 al=>by rw [Hc] at *; omega⟩
 j6:=λx y h1 al=>by rw [Hc] at *; omega
theorem IW {l:List Int}(ao:gm jc l) {i af:Nat}(hi:i<l.length) (aa:af<l.length) (h:i<af):jc l[i] l[af]=true:=List.pairwise_iff_getElem.1 ao i af hi aa h
theorem Ck (l:List Int) (x:Int) (ao:gm jc l) (aL:l.length<=100000):Tot (pB l x) λr=>gm jc r/\r.length<=l.length+1/\(∀ y,y∈r↔y∈l\/y=x):=by
 unfold pB
 refine .aK (Ξ:=λz:Int=>∃ k:Nat,z=(k:Int)/\k<=l.length/\(∀ (i:Nat) (h:i<l.length),k<=i->jc x l[i]=true)/\∀ (h:0<k),jc x (l[k - 1]?.getD default)=false) ?_ λz bJ=>?_
 ·refine Tot.count (λs=>-s) 1 (λs=>∃ k:Nat,s=(k:Int)/\k<=l.length/\∀ (i:Nat) (h:i<l.length),k<=i->jc x l[i]=true) ⟨l.length,rfl,Nat.le_refl _,λi h hk=>by omega⟩ (by show 1 - -(l.length:Int)<_; omega) λs aM=>?_
  obtain ⟨k,rfl,hk,q4⟩:=aM
  refine .aK (Ξ:=λc:Bool=>(c=true->0<k/\jc x (l[k - 1]?.getD default)=true)/\(c=false->∀ (h:0<k),jc x (l[k - 1]?.getD default)=false)) ?_ λc ab=>Tot.cz (λh=>?_) (λh=>.aB ⟨k,rfl,hk,q4,ab.2 h⟩)
  ·refine Tot.cb (λh=>?_) (λh=>.aB ⟨λaS=>(by cases aS),λ_ aS=>by omega⟩)
   have hx:k - 1<l.length:=by omega
   have hw:aO ((k:Int) - 1)=((k - 1:Nat):Int):=by rw [dQ]; omega
   rw [hw,eQ hx,List.getElem?_eq_getElem hx]
   simp only [Option.bind_some,Option.getD_some]
   exact .aB ⟨λaS=>⟨by omega,aS⟩,λaS _=>aS⟩
  ·obtain ⟨bd,h1⟩:=ab.1 h
   refine .aB ⟨⟨k - 1,by rw [dQ]; omega,by omega,λi hi R1=>?_⟩,by show -(k:Int) < -aO _; rw [dQ]; omega,by show -aO _<=1; rw [dQ]; omega⟩
   by_cases e:i=k - 1
   ·subst e
    rw [List.getElem?_eq_getElem hi] at h1
    exact h1
   ·exact q4 i hi (by omega)
 ·obtain ⟨k,rfl,hk,q4,mx⟩:=bJ
  refine .aK (Ξ:=λc:Bool=>(c=true↔(0<k/\l[k - 1]?.getD default=x))) ?_ λc ab=>Tot.cz (λh=>?_) (λh=>?_)
  ·refine Tot.cb (λh=>?_) (λh=>.aB ⟨λaS=>(by cases aS),λaS=>by omega⟩)
   have hx:k - 1<l.length:=by omega
   have hw:aO ((k:Int) - 1)=((k - 1:Nat):Int):=by rw [dQ]; omega
   rw [hw,eQ hx,List.getElem?_eq_getElem hx]
   simp only [Option.bind_some,Option.getD_some]
   generalize l[k - 1]=y
   refine .aB ?_
   exact ⟨λaS=>⟨by omega,of_decide_eq_true aS⟩,λaS=>decide_eq_true aS.2⟩
  ·obtain ⟨bd,h1⟩:=ab.1 h
   have hx:k - 1<l.length:=by omega
   rw [List.getElem?_eq_getElem hx] at h1
   have J:x∈l:=by rw [<- h1]; exact List.getElem_mem hx
   exact .aB ⟨ao,by omega,λy=>⟨.inl,λh=>h.elim id λe=>e ▸ J⟩⟩
  ·have eK:∀ (i:Nat) (hi:i<l.length),i<k->jc l[i] x=true:=by
    intro i hi tX
    have hx:k - 1<l.length:=by omega
    have mx:=mx (by omega)
    have aL:l[k - 1]?.getD default≠x:=λe=>by rw [ab.2 ⟨by omega,e⟩] at h; cases h
    rw [List.getElem?_eq_getElem hx] at mx aL
    simp only [Option.getD_some] at mx aL
    have gO:jc l[k - 1] x=true:=by
     cases b6:jc l[k - 1] x with
     | true=>rfl
     | false=>exact absurd (AL.j6 _ _ b6 mx) aL
    by_cases e:i=k - 1
    ·subst e; exact gO
    ·exact AL.swo.trans _ _ _ (IW ao hi hx (by omega)) gO
   refine .aK (Ξ:=λz=>z=l.take k) (Tot.sub ⟨by omega,by omega,by omega⟩ (by simp)) λz bJ=>?_
   subst bJ
   refine .aK (Ξ:=λ_=>True) (Tot.ap (by simp [lim]; omega) trivial) λ_ _=>.aK (Ξ:=λ_=>True) (Tot.ap (by simp [lim]; omega) trivial) λ_ _=>?_
   refine .aK (Ξ:=λz=>z=l.drop k) (Tot.sub ⟨by omega,by omega,by omega⟩ ?_) λz bJ=>?_
   ·rw [List.take_of_length_le]
    ·congr 1
    ·rw [List.length_drop]; omega
   subst bJ
   refine .aK (Ξ:=λ_=>True) (Tot.ap (by simp [lim]; omega) trivial) λ_ _=>.aB ?_
   rw [List.nil_append]
   refine ⟨?_,?_,?_⟩
   ·have h1:∀ a∈l.take k,jc a x=true:=by
     intro a bm
     obtain ⟨i,hi,rfl⟩:=List.mem_iff_getElem.1 bm
     rw [List.length_take] at hi
     rw [List.getElem_take]
     exact eK i (by omega) (by omega)
    have al:∀ a∈l.drop k,jc x a=true:=by
     intro a bm
     obtain ⟨i,hi,rfl⟩:=List.mem_iff_getElem.1 bm
     rw [List.length_drop] at hi
     rw [List.getElem_drop]
     exact q4 (k+i) (by omega) (by omega)
    unfold gm
    rw [List.append_assoc,List.pairwise_append]
    refine ⟨List.Pairwise.sublist (List.take_sublist k l) ao,?_,λa bm b aJ=>?_⟩
    ·rw [List.singleton_append,List.pairwise_cons]
     exact ⟨al,List.Pairwise.sublist (List.drop_sublist k l) ao⟩
    ·rcases List.mem_append.1 aJ with aJ | aJ
     ·rw [List.mem_singleton.1 aJ]; exact h1 a bm
     ·exact AL.swo.trans _ _ _ (h1 a bm) (al b aJ)
   ·simp only [List.length_append,List.length_take,List.length_drop,List.length_cons,List.length_nil]; omega
   ·intro y
    rw [List.append_assoc,List.mem_append,List.mem_append,List.mem_singleton]
    have hm:y∈l↔y∈l.take k\/y∈l.drop k:=by
     rw [<- List.mem_append,List.take_append_drop]
    rw [hm]
    constructor
    ·rintro (h | h | h)
     ·exact .inl (.inl h)
     ·exact .inr h
     ·exact .inl (.inr h)
    ·rintro ((h | h) | h)
     ·exact .inl h
     ·exact .inr (.inr h)
     ·exact .inr (.inl h)
theorem HM {α:Type}{l:List α}{k:Nat}{x:α}(hk:k<l.length) (i:Nat):(l.set k x)[i]?=if i=k then some x else l[i]?:=by
 rw [List.getElem?_set]
 by_cases e:k=i
 ·subst e; simp [hk]
 ·simp [e,Ne.symm e]
theorem PV (x y:Item):(decide (x.Prod=y.Prod)&&(decide (x.dY=y.dY)&&true))=decide (x=y):=by
 obtain ⟨aD,x2⟩:=x
 obtain ⟨kl,y2⟩:=y
 simp
theorem Ot (a b:List Item) (h:a.length<=1000000):Tot (AN a b) λc=>(c=true↔a=b):=by
 unfold AN
 refine Tot.rI (λeK=>.aB ⟨λh=>(by cases h),λe=>absurd (by rw [e]) eK⟩) (λhe=>?_)
 have ao:a.length=b.length:=by omega
 refine Tot.aK (Ξ:=iU (λ_=>a=b) (λx:Bool=>x=false/\a≠b)) ?_ λx J=>?_
 ·refine Tot.count (λs=>s) a.length (λs=>∃ k:Nat,k<=a.length/\s=(k:Int)/\∀ (af:Nat) (h:af<a.length),af<k->a[af]=b[af]) ⟨0,Nat.zero_le _,rfl,λaf _ aa=>absurd aa (Nat.not_lt_zero _)⟩ (by show (a.length:Int) - 0<_; omega) λs aM=>?_
  obtain ⟨k,hk,rfl,k5⟩:=aM
  rw [fg k (by omega)]
  refine Tot.cb (λbg=>?_) (λeN=>.aB ?_)
  ·have bg:k<a.length:=by omega
   have xF:k<b.length:=by omega
   rw [eQ bg,eQ xF]
   simp only [Option.bind_some,PV]
   refine Tot.rI (λeK=>.aB ⟨rfl,λe=>eK (by subst e; rfl)⟩) (λheq=>.aB ⟨⟨k+1,by omega,rfl,λaf aa eP=>?_⟩,by show (k:Int)<((k+1:Nat):Int); omega,by show ((k+1:Nat):Int)<=_; omega⟩)
   by_cases e:af=k
   ·subst e; exact heq
   ·exact k5 af aa (by omega)
  ·exact List.ext_getElem ao λi h1 al=>k5 i h1 (by omega)
 ·rcases x with _ | x
  ·exact .aB ⟨λ_=>J,λ_=>rfl⟩
  ·obtain ⟨rfl,eK⟩:x=false/\a≠b:=J
   exact .aB ⟨λh=>(by cases h),λh=>absurd h eK⟩
def syms (g:b'):List Int:=(List.range g.ba.length).map (λk:Nat=>(k:Int))++(List.range g.bw.length).map (λk:Nat=>1000+(k:Int))
theorem Jd (g:b') (bh:hg g):Tot (Be g) λl=>l=syms g:=by
 have fP:=bh.lC
 have bY:=bh.h6
 unfold Be
 refine .aK (Ξ:=λl:List Int=>l=(List.range g.ba.length).map (λk:Nat=>(k:Int))) ?_ λl ao=>?_
 ·refine Tot.upto (λs=>s.2) g.ba.length (λk s=>s.1=(List.range k).map (λk:Nat=>(k:Int))) rfl (by omega) rfl λk s hk he bt=>?_
  obtain ⟨l,i⟩:=s
  simp only at he bt ⊢
  subst he bt
  rw [fg k (by omega)]
  refine Tot.cb (λbg=>?_) (λeN=>.aB ?_)
  ·refine .aK (Ξ:=λ_=>True) (Tot.ap (by simp [lim]; omega) trivial) λ_ _=>.aB ⟨by omega,rfl,?_⟩
   show _=(List.range (k+1)).map _
   rw [List.range_succ,List.map_append]; rfl
  ·have:k=g.ba.length:=by omega
   subst this; rfl
 ·subst ao
  refine .aK (Ξ:=λl:List Int=>l=syms g) ?_ λr ay=>.aB ay
  refine Tot.upto (λs=>s.2) g.bw.length (λk s=>s.1=(List.range g.ba.length).map (λk:Nat=>(k:Int))++(List.range k).map (λk:Nat=>1000+(k:Int))) rfl (by omega) (by simp) λk s hk he bt=>?_
  obtain ⟨l,i⟩:=s
  simp only at he bt ⊢
  subst he bt
  rw [fg k (by omega)]
  refine Tot.cb (λbg=>?_) (λeN=>.aB ?_)
  ·refine .aK (Ξ:=λ_=>True) (Tot.ap (by simp [lim]; omega) trivial) λ_ _=>.aB ⟨by omega,rfl,?_⟩
   have hw:aO (1000+(k:Int))=1000+(k:Int):=by rw [dQ]; omega
   show _=_++(List.range (k+1)).map _
   rw [hw,List.range_succ,List.map_append,List.append_assoc]; rfl
  ·have:k=g.bw.length:=by omega
   subst this; rfl
theorem UG (g:b'):(syms g).length=g.ba.length+g.bw.length:=by simp [syms]
theorem Ty {g:b'}{s:Int}:s∈syms g↔(0<=s/\s<g.ba.length)\/(1000<=s/\s<1000+g.bw.length):=by
 unfold syms
 rw [List.mem_append,List.mem_map,List.mem_map]
 constructor
 ·rintro (⟨k,hk,rfl⟩ | ⟨k,hk,rfl⟩)
  ·rw [List.mem_range] at hk; exact .inl (by omega)
  ·rw [List.mem_range] at hk; exact .inr (by omega)
 ·rintro (h | h)
  ·exact .inl ⟨s.toNat,by rw [List.mem_range]; omega,by omega⟩
  ·exact .inr ⟨(s - 1000).toNat,by rw [List.mem_range]; omega,by omega⟩
theorem UH {g:b'}(bh:hg g):(syms g).Nodup:=by
 have aE:=bh.lC
 unfold syms
 rw [List.nodup_append]
 refine ⟨List.pairwise_map.2 ((List.nodup_range (n:=g.ba.length)).imp λ{a b} h e=>h (by omega)),List.pairwise_map.2 ((List.nodup_range (n:=g.bw.length)).imp λ{a b} h e=>h (by omega)),λa bm b aJ=>?_⟩
 obtain ⟨i,hi,rfl⟩:=List.mem_map.1 bm
 obtain ⟨af,aa,rfl⟩:=List.mem_map.1 aJ
 rw [List.mem_range] at hi
 omega
structure wX (g:b') (K:List Item):Prop where
 a:gm gZ K
 i:∀ x∈K,jj g x
theorem wX.len {g:b'}(bh:hg g) {K:List Item}(h:wX g K):K.length<=540:=sl bh h.a h.i
theorem Jc (l:List Int) (x:Int) (h:l.length<=1000000):Tot (yi l x) λc=>(c=true↔x∈l):=by
 unfold yi
 refine .aK (Ξ:=iU (λ_=>x∉l) (λr:Bool=>r=true/\x∈l)) ?_ λr ay=>?_
 ·refine Tot.upto (λs=>s) l.length (λk s=>x∉l.take k) rfl (by omega) (by simp) λk s hk he bt=>?_
  subst he
  rw [fg k (by omega)]
  refine Tot.cb (λbg=>?_) (λeN=>.aB ?_)
  ·have bg:k<l.length:=by omega
   rw [eQ bg]
   simp only [Option.bind_some]
   refine Tot.cb (λe=>.aB ⟨rfl,by rw [<- e]; exact List.getElem_mem bg⟩) (λe=>.aB ⟨bg,rfl,?_⟩)
   rw [lB bg,List.mem_append,List.mem_singleton]
   exact λh=>h.elim bt λh=>e h.symm
  ·rw [List.take_of_length_le (by omega)] at bt
   exact bt
 ·rcases r with r | r
  ·exact .aB ⟨λh=>(by cases h),λh=>absurd h ay⟩
  ·obtain ⟨rfl,h⟩:=ay
   exact .aB ⟨λ_=>h,λ_=>rfl⟩
theorem OF (m:List State) (k:List Item) (bd:m.length<=1000) (h1:∀ st∈m,st.Kernel.length<=1000000):Tot (Bg m k) λr=>-1<=r/\r<m.length:=by
 unfold Bg
 refine .aK (Ξ:=iU (λ_=>True) (λr:Int=>0<=r/\r<m.length)) ?_ λx J=>?_
 ·refine Tot.upto (λs=>s) m.length (λ_ _=>True) rfl (by omega) trivial λaf s aa he _=>?_
  subst he
  rw [fg af (by omega)]
  refine Tot.cb (λbg=>?_) (λeN=>.aB trivial)
  have bg:af<m.length:=by omega
  rw [eQ bg]
  refine Tot.au (.aK (Ot _ k (h1 _ (List.getElem_mem bg))) λc ab=>Tot.cz (λh=>.aB ⟨by omega,by omega⟩) (λh=>.aB ⟨bg,rfl,trivial⟩))
 ·rcases x with x | x
  ·exact .aB ⟨by omega,by omega⟩
  ·have J:0<=x/\x<m.length:=J
   exact .aB ⟨by omega,by omega⟩
structure w0 (g:b') (n:Nat) (v:Move):Prop where
 s:v.Sym∈syms g
 t0:0<=v.j9
 t1:v.j9<n
structure lT (g:b') (m:List State) (q af:Nat):Prop where
 hd:0<m.length
 np:m.length<=150
 pw:∀ st∈m,wX g st.Kernel
 ms:∀ (i:Nat) (st:State),m[i]?=some st->(st.fb.map (·.Sym)).Sublist (if i<q then syms g else if i=q then (syms g).take af else [])
 aC:∀ st∈m,∀ v∈st.fb,w0 g m.length v
structure mn (g:b') (m:List State):Prop where
 hd:0<m.length
 np:m.length<=150
 pw:∀ st∈m,wX g st.Kernel
 vR:∀ st∈m,st.fb.length<=64
 nd:∀ st∈m,(st.fb.map (·.Sym)).Nodup
 aC:∀ st∈m,∀ v∈st.fb,w0 g m.length v
theorem w0.up {g:b'}{n cY:Nat}{v:Move}(h:w0 g n v) (aL:n<=cY):w0 g cY v:=⟨h.s,h.t0,by have:=h.t1; omega⟩
theorem lT.put {g:b'}{m:List State}{q af:Nat}(h:lT g m q af) {st:State}(bN:m[q]?=some st) {v:Move}(hv:w0 g m.length v) (aa:(syms g)[af]?=some v.Sym):lT g (m.set q ⟨st.Kernel,st.fb++[v]⟩) q (af+1):=by
 have mC:=(List.getElem?_eq_some_iff.1 bN).1
 have hm:=List.mem_of_getElem? bN
 refine ⟨by rw [List.length_set]; exact h.hd,by rw [List.length_set]; exact h.np,λs aM=>?_,λi s aM=>?_,λs aM w hw=>?_⟩
 ·rcases List.mem_or_eq_of_mem_set aM with aS | aS
  ·exact h.pw s aS
  ·rw [aS]; exact h.pw st hm
 ·rw [HM mC] at aM
  by_cases e:i=q
  ·subst e
   rw [if_pos rfl] at aM; cases aM
   have:=h.ms i st bN
   rw [if_neg (by omega),if_pos rfl] at this ⊢
   rw [List.map_append,List.take_add_one,aa]
   exact this.append (List.Sublist.refl _)
  ·rw [if_neg e] at aM
   have:=h.ms i s aM
   rw [if_neg e] at this ⊢
   exact this
 ·rw [List.length_set]
  rcases List.mem_or_eq_of_mem_set aM with aS | aS
  ·exact h.aC s aS w hw
  ·rw [aS] at hw
   rcases List.mem_append.1 hw with hw | hw
   ·exact h.aC st hm w hw
   ·rw [List.mem_singleton.1 hw]; exact hv
theorem lT.more {g:b'}{m:List State}{q af:Nat}(h:lT g m q af) (ao:m.length<150) {K:List Item}(hk:wX g K):lT g (m++[⟨K,[]⟩]) q af:=by
 refine ⟨by simp,by simp; omega,λs aM=>?_,λi s aM=>?_,λs aM w hw=>?_⟩
 ·rcases List.mem_append.1 aM with aM | aM
  ·exact h.pw s aM
  ·rw [List.mem_singleton.1 aM]; exact hk
 ·by_cases e:i<m.length
  ·rw [List.getElem?_append_left e] at aM; exact h.ms i s aM
  ·rw [List.getElem?_append_right (by omega)] at aM
   have:s=⟨K,[]⟩:=by
    have:=List.mem_of_getElem? aM
    simpa using this
   rw [this]; exact List.nil_sublist _
 ·rcases List.mem_append.1 aM with aM | aM
  ·exact (h.aC s aM w hw).up (by simp)
  ·rw [List.mem_singleton.1 aM] at hw; cases hw
theorem lT.mono {g:b'}{m:List State}{q af um:Nat}(h:lT g m q af) (aa:af<=um):lT g m q um:=by
 refine ⟨h.hd,h.np,h.pw,λi s aM=>?_,h.aC⟩
 have:=h.ms i s aM
 split
 ·rename_i e; rw [if_pos e] at this; exact this
 ·rename_i e; rw [if_neg e] at this
  split
  ·rename_i cX; rw [if_pos cX] at this
   exact this.trans (List.take_sublist_take_left aa)
  ·rename_i cX; rw [if_neg cX] at this; exact this
theorem lT.next {g:b'}{m:List State}{q af:Nat}(h:lT g m q af):lT g m (q+1) 0:=by
 refine ⟨h.hd,h.np,h.pw,λi s aM=>?_,h.aC⟩
 have:=h.ms i s aM
 by_cases e:i<q+1
 ·rw [if_pos e]
  split at this
  ·exact this
  ·split at this
   ·exact this.trans (List.take_sublist _ _)
   ·exact this.trans (List.nil_sublist _)
 ·rw [if_neg (by omega),if_neg (by omega)] at this
  rw [if_neg e]
  exact this.trans (List.nil_sublist _)
theorem OA (g:b') (bh:hg g):Tot (A_ g) λr=>(r.2=0/\mn g r.1)\/r.2=4:=by
 have fP:=bh.lC
 have bY:=bh.h6
 have du:=bh.lR
 unfold A_
 refine Tot.aK (Jd g bh) λaD h1=>?_
 subst h1
 have lv:=UG g
 refine Tot.aK (Ξ:=iU (λm=>lT g m m.length 0) (λr:List State × Int=>r.2=4)) ?_ λx J=>?_
 ·refine Tot.loop (λs=>∃ q:Nat,s.2=(q:Int)/\q<=s.1.length/\lT g s.1 q 0) (λs=>151 - s.2.toNat) ⟨0,rfl,Nat.zero_le _,⟨by simp,by simp,λs aM=>?_,λi s aM=>?_,λs aM v hv=>?_⟩⟩ (by show 151 - 0<1000000000000000000; omega) λs cm=>?_
  ·rw [List.mem_singleton.1 aM]
   refine ⟨List.pairwise_singleton ..,λx J=>?_⟩
   rw [List.mem_singleton.1 J]
   obtain ⟨q,bN⟩:∃ q,g.bc[0]?=some q:=⟨g.bc[0]'(by omega),List.getElem?_eq_getElem _⟩
   exact LF (p:=0) bN
  ·have:=List.mem_of_getElem? aM
   rw [List.mem_singleton.1 this]; exact List.nil_sublist _
  ·rw [List.mem_singleton.1 aM] at hv; cases hv
  obtain ⟨q,he,bN,zH⟩:=cm
  obtain ⟨m,i⟩:=s
  simp only at he bN zH ⊢
  subst he
  have F8:=zH.np
  rw [fg q (by omega)]
  refine Tot.cb (λbg=>?_) (λeN=>.aB ?_)
  ·have bg:q<m.length:=by omega
   rw [eQ bg]
   have eA:=zH.pw _ (List.getElem_mem bg)
   refine Tot.au (Tot.aK (Ez g bh _ (by have:=eA.len bh; omega)) λc ab=>?_)
   have h3:=sl bh ab.1 λx J=>((ab.2 x).1 J).jj
   refine Tot.aK (Ξ:=λl:List Int=>l.length<=1000) ?_ λNN V_=>?_
   ·refine Tot.upto (λs=>s.2) c.length (λk s=>gm jc s.1/\s.1.length<=k) rfl (by omega) ⟨.nil,Nat.le_refl 0⟩ λk s hk he bt=>?_
    obtain ⟨l,i⟩:=s
    obtain ⟨g1,g2⟩:=bt
    simp only at he g1 g2 ⊢
    subst he
    rw [fg k (by omega)]
    refine Tot.cb (λbg=>?_) (λeN=>.aB (show l.length<=1000 by omega))
    have bg:k<c.length:=by omega
    rw [eQ bg]
    refine .aK (Ξ:=λl:List Int=>gm jc l/\l.length<=k+1) ?_ λo bh=>.aB ⟨bg,rfl,bh⟩
    refine Tot.au ?_
    rw [ET g _]
    refine Tot.au (.aK (Ξ:=λl:List Int=>gm jc l/\l.length<=k+1) ?_ λo bh=>.aB bh)
    refine Tot.cb (λaH=>.aK (Ck l _ g1 (by omega)) λr ay=>.aB ⟨ay.1,by have:=ay.2.1; omega⟩) (λaH=>.aB ⟨g1,by omega⟩)
   ·refine Tot.aK (Ξ:=iU (λm=>lT g m q (syms g).length/\q<m.length) (λr:List State × Int=>r.2=4)) ?_ λx J=>?_
    ·refine Tot.upto (λs=>s.2) (syms g).length (λk s=>lT g s.1 q k/\q<s.1.length) rfl (by omega) ⟨zH,bg⟩ λk s hk he bt=>?_
     obtain ⟨m,i⟩:=s
     obtain ⟨sJ,mC⟩:=bt
     simp only at he sJ mC ⊢
     subst he
     rw [fg k (by omega)]
     have vu:=sJ.np
     refine Tot.cb (λbg=>?_) (λeN=>.aB ?_)
     ·have bg:k<(syms g).length:=by omega
      have nb:=List.getElem_mem bg
      have oK:(syms g)[k]?=some (syms g)[k]:=List.getElem?_eq_getElem bg
      rw [eQ bg]
      generalize (syms g)[k]=s at *
      refine Tot.au (Tot.aK (Jc NN s (by omega)) λbT _=>?_)
      refine Tot.cz (λ_=>.aB ⟨bg,rfl,sJ.mono (by omega),mC⟩) (λ_=>?_)
      have ph:m[q]?=some m[q]:=List.getElem?_eq_getElem mC
      have eA:=sJ.pw _ (List.getElem_mem mC)
      rw [eQ mC]
      generalize m[q]=st at *
      refine Tot.au (Tot.au (Tot.aK (OE g bh st.Kernel s (by have:=eA.len bh; omega)) λBU xx=>?_))
      have iD:wX g BU:=⟨xx.1,λy az=>((xx.2 y).1 az).jj bh⟩
      refine Tot.aK (OF m BU (by omega) λt aE=>by have:=(sJ.pw t aE).len bh; omega) λz bJ=>?_
      have Su:=(sJ.ms q st ph).length_le
      rw [if_neg (by omega),if_pos rfl,List.length_map,List.length_take] at Su
      refine Tot.cb (λWv=>Tot.cb (λ_=>.aB rfl) (λWw=>?_)) (λub=>?_)
      ·refine .aK (Ξ:=λ_=>True) (Tot.ap (by simp [lim]; omega) trivial) λ_ _=>?_
       have QU:=sJ.more (by omega) iD
       have KV:(m++[(⟨BU,[]⟩:State)])[q]?=some st:=by rw [List.getElem?_append_left mC]; exact ph
       have zU:idx (m++[(⟨BU,[]⟩:State)]) (q:Int)=some st:=by simp only [idx,if_pos (show (0:Int)<=(q:Int) by omega),Int.toNat_natCast]; exact KV
       rw [zU]
       refine Tot.au (Tot.au ?_)
       refine .aK (Ξ:=λ_=>True) (Tot.ap (by simp [lim]; omega) trivial) λ_ _=>.aB ⟨bg,rfl,?_⟩
       refine ⟨?_,by show q<(List.set _ _ _).length; rw [List.length_set]; simp; omega⟩
       show lT g (List.set _ (q:Int).toNat _) q (k+1)
       rw [Int.toNat_natCast]
       exact QU.put KV ⟨nb,by show (0:Int)<=(m.length:Int); omega,by show (m.length:Int)<_; simp; omega⟩ oK
      ·refine Tot.au (Tot.au ?_)
       refine .aK (Ξ:=λ_=>True) (Tot.ap (by simp [lim]; omega) trivial) λ_ _=>.aB ⟨bg,rfl,?_⟩
       refine ⟨?_,by show q<(List.set _ _ _).length; rw [List.length_set]; exact mC⟩
       show lT g (List.set _ (q:Int).toNat _) q (k+1)
       rw [Int.toNat_natCast]
       exact sJ.put ph ⟨nb,by show 0<=z; omega,bJ.2⟩ oK
     ·have:k=(syms g).length:=by omega
      subst this
      exact ⟨sJ,mC⟩
    ·rcases x with x | x
     ·obtain ⟨h1,al⟩:=J
      refine .aB ⟨⟨q+1,rfl,al,h1.next⟩,?_⟩
      show 151 - ((q+1:Nat):Int).toNat<151 - (q:Int).toNat
      omega
     ·exact .aB J
  ·have:q=m.length:=by omega
   subst this
   exact zH
 ·rcases x with x | x
  ·have J:lT g x x.length 0:=J
   have key:∀ st∈x,(st.fb.map (·.Sym)).Sublist (syms g):=λst cm=>by
    obtain ⟨i,hi⟩:=List.getElem?_of_mem cm
    have:=J.ms i st hi
    rw [if_pos (List.getElem?_eq_some_iff.1 hi).1] at this
    exact this
   refine .aB (.inl ⟨rfl,J.hd,J.np,J.pw,λst cm=>?_,λst cm=>(key st cm).nodup (UH bh),J.aC⟩)
   have:=(key st cm).length_le
   rw [List.length_map] at this; omega
  ·exact .aB (.inr J)
theorem Th {α:Type}{m:List α}{q:Nat}{x:α}(h:m[q]?=some x):idx m (q:Int)=some x:=by simp [idx,h]
def GoTo (m:List State) (a s r:Int):Prop:=(r=-1/\∀ st,idx m a=some st->∀ v∈st.fb,v.Sym≠s)\/∃ st v,idx m a=some st/\v∈st.fb/\v.Sym=s/\r=v.j9
theorem Cj (m:List State) (a s:Int) (hm:∀ st∈m,st.fb.length<=64):Tot (qj m a s) (GoTo m a s):=by
 unfold qj
 by_cases bd:0<=a/\a<(m.length:Int)
 ·obtain ⟨st,cm,my⟩:=nh bd.1 bd.2
  have ao:=hm st my
  have d1:decide (0<=a)=true:=decide_eq_true bd.1
  have d2:decide (a<(m.length:Int))=true:=decide_eq_true bd.2
  rw [d1,d2]
  simp only [cond_true,cm,Option.bind_some]
  refine .aK (Ξ:=iU (λ_=>∀ v∈st.fb,v.Sym≠s) (λr:Int=>∃ v,v∈st.fb/\v.Sym=s/\r=v.j9)) ?_ λx J=>?_
  ·refine Tot.upto (λs=>s) st.fb.length (λk _=>∀ v∈st.fb.take k,v.Sym≠s) rfl (by omega) (by simp) λk i hk he bt=>?_
   subst he
   rw [fg k (by omega)]
   refine Tot.cb (λbg=>?_) (λeN=>.aB (by
    show ∀ v∈st.fb,v.Sym≠s
    rw [List.take_of_length_le (by omega)] at bt; exact bt))
   have bg:k<st.fb.length:=by omega
   rw [eQ bg]
   simp only [Option.bind_some]
   refine Tot.cb (λe=>.aB ⟨_,List.getElem_mem bg,e,rfl⟩) (λe=>.aB ⟨bg,rfl,λv hv=>?_⟩)
   rw [lB bg,List.mem_append,List.mem_singleton] at hv
   rcases hv with hv | rfl
   ·exact bt v hv
   ·exact e
  ·rcases x with x | x
   ·exact .aB (.inl ⟨rfl,λMJ aS=>by rw [cm] at aS; cases aS; exact J⟩)
   ·obtain ⟨v,h1,al,aP⟩:=J
    exact .aB (.inr ⟨st,v,cm,h1,al,aP⟩)
 ·refine .aK (Ξ:=iU (λ_=>True) (λ_:Int=>False)) (Tot.loop (λ_=>True) (λ_=>0) trivial (by show 0<1000000000000000000; omega) λi _=>?_) λx J=>?_
  ·refine .aK (Ξ:=λc=>c=false) ?_ λc ab=>by subst ab; exact .aB trivial
   refine Tot.cb (λh1=>Tot.cb (λal=>absurd ⟨h1,al⟩ bd) (λ_=>.aB rfl)) (λ_=>.aB rfl)
  ·rcases x with x | x
   ·refine .aB (.inl ⟨rfl,λst aS=>absurd ⟨(nI aS).1,(nI aS).2.1⟩ bd⟩)
   ·exact J.elim
theorem GoTo.yY {g:b'}{m:List State}(hm:mn g m) {a s r:Int}(h:GoTo m a s r):-1<=r/\r<m.length:=by
 rcases h with ⟨rfl,_⟩ | ⟨st,v,h1,al,_,rfl⟩
 ·have:=hm.hd; exact ⟨by omega,by omega⟩
 ·have:=hm.aC st (nI h1).2.2 v al
  exact ⟨by have:=this.t0; omega,this.t1⟩
theorem GoTo.yes {g:b'}{m:List State}(hm:mn g m) {a s r:Int}(h:GoTo m a s r) {st:State}{v:Move}(aM:idx m a=some st) (hv:v∈st.fb) (e:v.Sym=s):0<=r/\r<m.length:=by
 rcases h with ⟨rfl,h⟩ | ⟨st,v,h1,al,_,rfl⟩
 ·exact absurd e (h st aM v hv)
 ·have:=hm.aC st (nI h1).2.2 v al
  exact ⟨this.t0,this.t1⟩
theorem Jf {g:b'}{m:List State}(hm:mn g m) (a:Int) (l:List Int) (bm:-1<=a/\a<m.length) (ao:l.length<=1000):Tot (yk m a l) λr=>-1<=r/\r<m.length:=by
 unfold yk
 refine .aK (Ξ:=λr:Int=>-1<=r/\r<m.length) ?_ λr ay=>.aB ay
 refine Tot.upto (λs=>s.2) l.length (λ_ s=>-1<=s.1/\s.1<m.length) rfl (by omega) bm λk s hk he bt=>?_
 obtain ⟨r,i⟩:=s
 simp only at he bt ⊢
 subst he
 rw [fg k (by omega)]
 refine .aK (Ξ:=λc=>c=true->k<l.length) (Tot.cb (λh=>.aB λ_=>by omega) (λ_=>.aB λh=>by cases h)) λc ab=>Tot.cz (λh=>?_) (λ_=>.aB bt)
 have bg:=ab h
 rw [eQ bg]
 exact Tot.au (.aK (Cj m r _ hm.vR) λz bJ=>.aB ⟨bg,rfl,bJ.yY hm⟩)
def tv (m:List State) (t:Trans):Prop:=∃ st v,idx m t.State=some st/\v∈st.fb/\v.Sym=t.e4/\1000<=t.e4
structure uR (m:List State) (l:List Trans):Prop where
 n:l.length<=9600
 ok:∀ t∈l,tv m t
 fq:∀ (q:Nat) (st:State) (v:Move),m[q]?=some st->v∈st.fb->1000<=v.Sym->(⟨q,v.Sym⟩:Trans)∈l
theorem OJ {g:b'}{m:List State}(hm:mn g m):Tot (pC m) (uR m):=by
 have aL:=hm.np
 unfold pC
 refine .aK (Ξ:=uR m) ?_ λr ay=>.aB ay
 refine Tot.upto (λs=>s.2) m.length (λk s=>s.1.length<=64 * k/\(∀ t∈s.1,tv m t)/\∀ (q:Nat) (st:State) (v:Move),q<k->m[q]?=some st->v∈st.fb->1000<=v.Sym->(⟨q,v.Sym⟩:Trans)∈s.1) rfl (by omega) ⟨Nat.le_refl 0,λt h=>(by cases h),λq _ _ h=>absurd h (Nat.not_lt_zero _)⟩ λk s hk he bt=>?_
 obtain ⟨l,i⟩:=s
 obtain ⟨h1,al,aP⟩:=bt
 simp only at he h1 al aP ⊢
 subst he
 rw [fg k (by omega)]
 refine Tot.cb (λbg=>?_) (λeN=>.aB ⟨?_,al,λq st v bN=>aP q st v ?_ bN⟩)
 ·have bg:k<m.length:=by omega
  have ph:m[k]?=some m[k]:=List.getElem?_eq_getElem bg
  have my:=List.getElem_mem bg
  rw [eQ bg]
  generalize m[k]=st at *
  have vu:=hm.vR st my
  simp only [Option.bind_some]
  refine .aK (Ξ:=λvN:List Trans=>vN.length<=64 * (k+1)/\(∀ t∈vN,tv m t)/\(∀ t∈l,t∈vN)/\∀ v∈st.fb,1000<=v.Sym->(⟨k,v.Sym⟩:Trans)∈vN) ?_ λvN ia=>.aB ⟨bg,rfl,ia.1,ia.2.1,λq MJ v bN b3 dF e0=>?_⟩
  ·refine Tot.upto (λs=>s.2) st.fb.length (λaf s=>s.1.length<=64 * k+af/\(∀ t∈s.1,tv m t)/\(∀ t∈l,t∈s.1)/\∀ v∈st.fb.take af,1000<=v.Sym->(⟨k,v.Sym⟩:Trans)∈s.1) rfl (by omega) ⟨h1,al,λ_ h=>h,λv hv=>by simp at hv⟩ λaf s aa he bt=>?_
   obtain ⟨o,i⟩:=s
   obtain ⟨g1,g2,g3,g4⟩:=bt
   simp only at he g1 g2 g3 g4 ⊢
   subst he
   rw [fg af (by omega)]
   refine Tot.cb (λbg=>?_) (λeN=>.aB ⟨by show o.length<=_; omega,g2,g3,by
    rw [List.take_of_length_le (by omega)] at g4; exact g4⟩)
   have bg:af<st.fb.length:=by omega
   have gp:=lB bg
   have C7:=List.getElem_mem bg
   rw [eQ bg]
   generalize st.fb[af]=v at *
   simp only [Option.bind_some]
   refine .aK (Ξ:=λo:List Trans=>o.length<=64 * k+(af+1)/\(∀ t∈o,tv m t)/\(∀ t∈l,t∈o)/\∀ v∈st.fb.take (af+1),1000<=v.Sym->(⟨k,v.Sym⟩:Trans)∈o) ?_ λo bh=>.aB ⟨bg,rfl,bh⟩
   refine .aK (Ξ:=λo:List Trans=>o.length<=64 * k+(af+1)/\(∀ t∈o,tv m t)/\(∀ t∈l,t∈o)/\∀ v∈st.fb.take (af+1),1000<=v.Sym->(⟨k,v.Sym⟩:Trans)∈o) (Tot.cb (λh=>?_) (λh=>.aB ⟨by omega,g2,g3,λw hw aM=>?_⟩)) λo bh=>.aB bh
   ·refine .aK (Ξ:=λ_=>True) (Tot.ap (by simp [lim]; omega) trivial) λ_ _=>.aB ⟨by simp; omega,λt aE=>?_,λt aE=>List.mem_append_left _ (g3 t aE),λw hw aM=>?_⟩
    ·rcases List.mem_append.1 aE with aE | aE
     ·exact g2 t aE
     ·rw [List.mem_singleton.1 aE]
      exact ⟨st,v,Th ph,C7,rfl,h⟩
    ·rw [gp,List.mem_append,List.mem_singleton] at hw
     rcases hw with hw | rfl
     ·exact List.mem_append_left _ (g4 w hw aM)
     ·simp
   ·rw [gp,List.mem_append,List.mem_singleton] at hw
    rcases hw with hw | rfl
    ·exact g4 w hw aM
    ·exact absurd aM h
  ·by_cases e:q=k
   ·subst e
    rw [ph] at b3; cases b3
    exact ia.2.2.2 v dF e0
   ·exact ia.2.2.1 _ (aP q MJ v (by omega) b3 dF e0)
 ·show l.length<=9600
  omega
 ·have:=(List.getElem?_eq_some_iff.1 bN).1
  omega
theorem rH (l:List Trans) (a n:Int) (ao:l.length<=9600):Tot (x7 l a n) λr=>-1<=r/\r<l.length/\((⟨a,n⟩:Trans)∈l->0<=r):=by
 unfold x7
 refine .aK (Ξ:=iU (λ_=>(⟨a,n⟩:Trans)∉l) (λr:Int=>0<=r/\r<l.length)) ?_ λx J=>?_
 ·refine Tot.upto (λs=>s) l.length (λk _=>(⟨a,n⟩:Trans)∉l.take k) rfl (by omega) (by simp) λk i hk he bt=>?_
  subst he
  rw [fg k (by omega)]
  refine Tot.cb (λbg=>?_) (λeN=>.aB (by
   show (⟨a,n⟩:Trans)∉l
   rw [List.take_of_length_le (by omega)] at bt; exact bt))
  have bg:k<l.length:=by omega
  have gp:=lB bg
  rw [eQ bg]
  generalize l[k]=y at *
  simp only [Option.bind_some]
  refine .aK (Ξ:=λc:Bool=>c=false->y≠⟨a,n⟩) (Tot.cb (λh=>.aB λaS e=>?_) (λh=>.aB λ_ e=>h (by rw [e]))) λc ab=>Tot.cz (λh=>.aB ⟨by show (0:Int)<=k; omega,by show (k:Int)<_; omega⟩) (λh=>.aB ⟨bg,rfl,?_⟩)
  ·have:=of_decide_eq_false aS
   exact this (by rw [e])
  ·rw [gp,List.mem_append,List.mem_singleton]
   exact λaS=>aS.elim bt λe=>ab h e.symm
 ·rcases x with x | x
  ·refine .aB ⟨by omega,by omega,λh=>absurd h J⟩
  ·have J:0<=x/\x<l.length:=J
   exact .aB ⟨by omega,J.2,λ_=>J.1⟩
theorem Ou (l:List Item) (ao:l.length<=1000000):Tot (AO l) λ_=>True:=by
 unfold AO
 refine .aK (Ξ:=λ_=>True) ?_ λx J=>by
  rcases x with x | x
  ·exact .aB trivial
  ·exact .aB trivial
 refine Tot.upto (λs=>s) l.length (λ_ _=>True) rfl (by omega) trivial λk i hk he _=>?_
 subst he
 rw [fg k (by omega)]
 refine Tot.cb (λbg=>?_) (λ_=>.aB trivial)
 have bg:k<l.length:=by omega
 rw [eQ bg]
 simp only [Option.bind_some]
 refine .aK (Ξ:=λ_=>True) (Tot.cb (λ_=>.aB trivial) (λ_=>.aB trivial)) λc _=>Tot.cz (λ_=>.aB trivial) (λ_=>.aB ⟨bg,rfl,trivial⟩)
theorem Jb (B:List Bool) (l:List Int) (ao:l.length<=1000) (h:∀ s∈l,s<1000\/(1000<=s/\s - 1000<B.length)) (iC:B.length<=1000):Tot (x8 B l) λ_=>True:=by
 unfold x8
 refine .aK (Ξ:=λ_=>True) ?_ λx J=>by
  rcases x with x | x
  ·exact .aB trivial
  ·exact .aB trivial
 refine Tot.upto (λs=>s) l.length (λ_ _=>True) rfl (by omega) trivial λk i hk he _=>?_
 subst he
 rw [fg k (by omega)]
 refine Tot.cb (λbg=>?_) (λ_=>.aB trivial)
 have bg:k<l.length:=by omega
 have az:=h _ (List.getElem_mem bg)
 rw [eQ bg]
 generalize l[k]=y at *
 simp only [Option.bind_some]
 refine .aK (Ξ:=λ_=>True) (Tot.cb (λ_=>.aB trivial) (λh1=>?_)) λc _=>Tot.cz (λ_=>.aB trivial) (λ_=>.aB ⟨bg,rfl,trivial⟩)
 have hw:aO (y - 1000)=y - 1000:=by rw [dQ]; omega
 rw [hw]
 obtain ⟨b,aJ,_⟩:=nh (l:=B) (i:=y - 1000) (by omega) (by omega)
 rw [aJ]
 exact .aB trivial
theorem Mf {g:b'}(a':hg g) {q:Prod}(bN:q∈g.bc) {B:List Bool}(iC:B.length=g.bw.length):∀ s∈q.fz,s<1000\/(1000<=s/\s - 1000<B.length):=λs aM=>by
 have aE:=a'.lC
 have aL:=a'.h6
 rcases (a'.hz q bN).right s aM with h | h <;> omega
theorem Ja (g:b') (a':hg g):Tot (x6 g) λB=>B.length=g.bw.length:=by
 have aE:=a'.lC
 have aL:=a'.h6
 have aH:=a'.lR
 unfold x6
 refine .aK (Ξ:=λB=>B=List.replicate g.bw.length false) (Tot.mk (by simp [lim]; omega) (by simp)) λVy QD=>?_
 subst QD
 refine .aK (Ξ:=λB:List Bool=>B.length=g.bw.length) ?_ λB iC=>.aB iC
 refine Tot.loop (λs=>s.1.length=g.bw.length) (λs=>2 * (g.bw.length - hV s.1)+s.2.toNat) (by simp) (by
  show 2 * (g.bw.length - hV _)+1<1000000000000000000; omega) λs aM=>?_
 obtain ⟨B,f⟩:=s
 simp only at aM ⊢
 refine Tot.cz (λbn=>?_) (λ_=>.aB aM)
 subst bn
 refine .aK (Ξ:=λr:List Bool × Bool=>r.1.length=g.bw.length/\hV B<=hV r.1/\(r.2=true->hV B<hV r.1)) ?_ λr ay=>?_
 ·refine Tot.upto (λs=>s.2.2) g.bc.length (λ_ s=>s.1.length=g.bw.length/\hV B<=hV s.1/\(s.2.1=true->hV B<hV s.1)) rfl (by omega) ⟨aM,Nat.le_refl _,λh=>by cases h⟩ λk s hk he bt=>?_
  obtain ⟨C,f,i⟩:=s
  obtain ⟨h1,al,aP⟩:=bt
  simp only at he h1 al aP ⊢
  subst he
  rw [fg k (by omega)]
  refine Tot.cb (λbg=>?_) (λeN=>.aB ⟨h1,al,aP⟩)
  have bg:k<g.bc.length:=by omega
  have mC:=List.getElem_mem bg
  rw [eQ bg]
  generalize g.bc[k]=q at *
  have bN:=a'.hz q mC
  have Lc:=bN.left
  obtain ⟨b,aJ,_⟩:=nh (l:=C) (i:=q.Left) Lc.1 (by omega)
  simp only [Option.bind_some,aJ]
  refine .aK (Ξ:=λr:List Bool × Bool=>r.1.length=g.bw.length/\hV B<=hV r.1/\(r.2=true->hV B<hV r.1)) ?_ λr ay=>.aB ⟨bg,rfl,ay⟩
  refine .aK (Ξ:=λc:Bool=>c=true->b=false) ?_ λc ab=>?_
  ·cases b with
   | true=>exact .aB λh=>by cases h
   | false =>
    refine .aK (Jb C q.fz (by have:=a'.aN q mC; omega) (Mf a' mC h1) (by omega)) λ_ _=>.aB λ_=>rfl
  ·refine .aK (Ξ:=λr:List Bool × Bool=>r.1.length=g.bw.length/\hV B<=hV r.1/\(r.2=true->hV B<hV r.1)) (Tot.cz (λh=>.aB ?_) (λh=>.aB ⟨h1,al,aP⟩)) λr ay=>.aB ay
   have Rz:=ab h
   subst Rz
   have R7:q.Left.toNat<C.length:=by omega
   have ph:C.getD q.Left.toNat false=false:=by
    unfold idx at aJ
    rw [if_pos Lc.1] at aJ
    rw [List.getD_eq_getElem?_getD,aJ]; rfl
   have:=u3 C q.Left.toNat R7 ph
   exact ⟨by rw [List.length_set]; exact h1,by show hV B<=hV (C.set _ _); omega,λ_=>by show hV B<hV (C.set _ _); omega⟩
 ·obtain ⟨h1,al,aP⟩:=ay
  refine .aB ⟨h1,?_⟩
  have ab:=ON r.1
  show 2 * (g.bw.length - hV r.1)+r.2.toNat<2 * (g.bw.length - hV B)+true.toNat
  cases iN:r.2 with
  | false=>simp only [Bool.toNat_false,Bool.toNat_true]; omega
  | true =>
   have:=aP iN
   simp only [Bool.toNat_true]; omega
structure jr (T:Nat) (r:List Int):Prop where
 a:gm jc r
 i:∀ x∈r,0<=x/\x<T
theorem jr.len {T:Nat}{r:List Int}(h:jr T r):r.length<=T:=by
 have:=xV (m:=(List.range T).map λk:Nat=>(k:Int)) (h.a.nd AL) λx J=>by
  have:=h.i x J
  exact List.mem_map.2 ⟨x.toNat,by rw [List.mem_range]; omega,by omega⟩
 simpa using this
theorem jr.nil {T:Nat}:jr T []:=⟨.nil,λx h=>by cases h⟩
theorem jr.put {T:Nat}(fP:T<=100000) {r:List Int}(h:jr T r) {x:Int}(J:0<=x/\x<T):Tot (pB r x) λff=>jr T ff/\r.length<=ff.length:=by
 have ao:=h.len
 refine (Ck r x h.a (by omega)).use λff eX=>⟨⟨eX.1,λy az=>?_⟩,xV (h.a.nd AL) λy az=>(eX.2.2 y).2 (.inl az)⟩
 rcases (eX.2.2 y).1 az with aS | rfl
 ·exact h.i y aS
 ·exact J
def mh (L:List (List Int)) (i:Nat):Nat:=(L.getD i []).length
def j6 (L:List (List Int)):Nat:=(L.map List.length).sum
theorem MU:∀ (L h8:List (List Int)),L.length=h8.length->(∀ i,mh L i<=mh h8 i)->j6 L<=j6 h8/\((∃ i,mh L i<mh h8 i)->j6 L<j6 h8)
 | [],[],_,_=>⟨Nat.le_refl _,λ⟨i,h⟩=>absurd h (Nat.lt_irrefl _)⟩
 | a::L,b::h8,ao,h=>by
  obtain ⟨h1,al⟩:=MU L h8 (by simpa using ao) λi=>by simpa [mh] using h (i+1)
  have bd:a.length<=b.length:=by simpa [mh] using h 0
  have dy:j6 (a::L)=a.length+j6 L:=by simp [j6]
  have de:j6 (b::h8)=b.length+j6 h8:=by simp [j6]
  rw [dy,de]
  refine ⟨by omega,λ⟨i,hi⟩=>?_⟩
  cases i with
  | zero =>
   have:a.length<b.length:=by simpa [mh] using hi
   omega
  | succ i =>
   have:=al ⟨i,by simpa [mh] using hi⟩
   omega
def Sets (T:Nat) (L:List (List Int)):Prop:=∀ r∈L,jr T r
theorem MT {T:Nat}:∀ {L:List (List Int)},Sets T L->j6 L<=L.length * T
 | [],_=>by simp [j6]
 | a::L,h=>by
  have h1:=(h a (by simp)).len
  have al:=MT (L:=L) λr ay=>h r (by simp [ay])
  have dy:j6 (a::L)=a.length+j6 L:=by simp [j6]
  rw [dy,List.length_cons,Nat.succ_mul]; omega
structure ox (T:Nat) (L h8:List (List Int)):Prop where
 n:h8.length=L.length
 s:Sets T h8
 u:∀ i,mh L i<=mh h8 i
theorem ox.refl {T:Nat}{L:List (List Int)}(h:Sets T L):ox T L L:=⟨rfl,h,λ_=>Nat.le_refl _⟩
theorem ox.trans {T:Nat}{A B C:List (List Int)}(h:ox T A B) (aS:ox T B C):ox T A C:=⟨aS.n.trans h.n,aS.s,λi=>Nat.le_trans (h.u i) (aS.u i)⟩
theorem ox.set {T:Nat}{L:List (List Int)}{k:Nat}{r ff:List Int}(aM:Sets T L) (hk:L[k]?=some r) (h:jr T ff) (ao:r.length<=ff.length):ox T L (L.set k ff):=by
 have eh:=(List.getElem?_eq_some_iff.1 hk).1
 refine ⟨List.length_set ..,λx J=>?_,λi=>?_⟩
 ·rcases List.mem_or_eq_of_mem_set J with aS | aS
  ·exact aM x aS
  ·rw [aS]; exact h
 ·unfold mh
  rw [List.getD_eq_getElem?_getD,List.getD_eq_getElem?_getD,HM eh]
  by_cases e:i=k
  ·subst e; rw [if_pos rfl,hk]; exact ao
  ·rw [if_neg e]; exact Nat.le_refl _
theorem De {L:List (List Int)}{k:Nat}{r:List Int}(h:L[k]?=some r):mh L k=r.length:=by unfold mh; rw [List.getD_eq_getElem?_getD,h]; rfl
theorem Tg {α:Type}{l:List α}{i:Int}{y:α}(h:idx l i=some y):l[i.toNat]?=some y:=by
 unfold idx at h
 split at h
 ·exact h
 ·cases h
theorem Je (T:Nat) (fP:T<=1000) (a0 aw:List (List Int)) (aL:a0.length<=9600) (he:aw.length=a0.length) (bd:Sets T a0) (h1:Sets a0.length aw):Tot (yj a0 aw) λr=>r.length=a0.length/\Sets T r:=by
 unfold yj
 refine .aK (Ξ:=λr:List (List Int)=>r.length=a0.length/\Sets T r) ?_ λr ay=>.aB ay
 have aJ:a0.length * T<=9600 * 1000:=Nat.mul_le_mul aL fP
 refine Tot.loop (λs=>s.1.length=a0.length/\Sets T s.1) (λs=>2 * (a0.length * T - j6 s.1)+s.2.toNat) ⟨rfl,bd⟩ (by
  show 2 * (a0.length * T - j6 _)+1<1000000000000000000; omega) λs aM=>?_
 obtain ⟨L,f⟩:=s
 obtain ⟨ao,aM⟩:=aM
 simp only at ao aM ⊢
 refine Tot.cz (λbn=>?_) (λ_=>.aB ⟨ao,aM⟩)
 subst bn
 refine .aK (Ξ:=λr:List (List Int) × Bool=>ox T L r.1/\(r.2=true->∃ i,mh L i<mh r.1 i)) ?_ λr ay=>?_
 ·refine Tot.upto (λs=>s.2.2) L.length (λ_ s=>ox T L s.1/\(s.2.1=true->∃ i,mh L i<mh s.1 i)) rfl (by omega) ⟨.refl aM,λh=>by cases h⟩ λk s hk h' bt=>?_
  obtain ⟨C,f,i⟩:=s
  obtain ⟨hu,vr⟩:=bt
  simp only at h' hu vr ⊢
  subst h'
  rw [fg k (by omega)]
  have Ll:=hu.n
  refine Tot.cb (λbg=>?_) (λeN=>.aB ⟨hu,vr⟩)
  have KY:k<C.length:=by omega
  have hx:k<aw.length:=by omega
  have KT:C[k]?=some C[k]:=List.getElem?_eq_getElem KY
  have oJ:=h1 _ (List.getElem_mem hx)
  rw [eQ hx,eQ KY]
  generalize aw[k]=row at *
  generalize C[k]=lQ at *
  simp only [Option.bind_some]
  have p9:=oJ.len
  refine .aK (Ξ:=λD:List (List Int)=>ox T C D) ?_ λD sH=>?_
  ·refine Tot.upto (λs=>s.2) row.length (λ_ s=>ox T C s.1) rfl (by omega) (.refl hu.s) λaf s aa h' bt=>?_
   obtain ⟨D,i⟩:=s
   simp only at h' bt ⊢
   subst h'
   rw [fg af (by omega)]
   have QH:=bt.n
   refine Tot.cb (λbg=>?_) (λ_=>.aB bt)
   have bg:af<row.length:=by omega
   have az:=oJ.i _ (List.getElem_mem bg)
   rw [eQ bg]
   generalize row[af]=y at *
   simp only [Option.bind_some]
   refine .aK (Ξ:=λE:List (List Int)=>ox T C E) ?_ λE k5=>.aB ⟨bg,rfl,k5⟩
   refine Tot.count (λs=>s.2) T (λs=>∃ n:Nat,s.2=(n:Int)/\ox T C s.1) ⟨0,rfl,bt⟩ (by show (T:Int) - 0<_; omega) λs aM=>?_
   obtain ⟨E,i⟩:=s
   obtain ⟨n,CX,k5⟩:=aM
   simp only at CX k5 ⊢
   subst CX
   have V6:=k5.n
   obtain ⟨z,bJ,Td⟩:=nh (l:=E) (i:=y) az.1 (by omega)
   have n9:=k5.s z Td
   have s3:=n9.len
   have FX:k<E.length:=by omega
   have RR:E[k]?=some E[k]:=List.getElem?_eq_getElem FX
   rw [bJ]
   simp only [Option.bind_some]
   refine Tot.cb (λbg=>?_) (λ_=>.aB k5)
   have bg:n<z.length:=by omega
   rw [fg n (by omega),eQ FX,eQ bg]
   simp only [Option.bind_some]
   refine .aK ((k5.s _ (List.getElem_mem FX)).put (by omega) (n9.i _ (List.getElem_mem bg))) λff eX=>.aB ⟨⟨n+1,rfl,?_⟩,by show (n:Int)<((n+1:Nat):Int); omega,by show ((n+1:Nat):Int)<=T; omega⟩
   exact k5.trans (.set k5.s RR eX.1 eX.2)
  ·have QH:=sH.n
   have KZ:k<D.length:=by omega
   have KU:D[k]?=some D[k]:=List.getElem?_eq_getElem KZ
   have ue:=hu.trans sH
   refine .aK (Ξ:=λc:Bool=>c=true->∃ i,mh L i<mh D i) ?_ λc ab=>.aB ⟨by omega,rfl,ue,ab⟩
   refine Tot.cz (λbn=>.aB λ_=>?_) (λ_=>?_)
   ·obtain ⟨i,hi⟩:=vr bn
    exact ⟨i,Nat.lt_of_lt_of_le hi (sH.u i)⟩
   ·rw [eQ KZ]
    refine Tot.au (.aB λh=>⟨k,?_⟩)
    have aP:=sH.u k
    have b3:=hu.u k
    rw [De KT,De KU] at aP
    rw [De KT] at b3
    rw [De KU]
    have:¬ ((D[k].length:Int)=(lQ.length:Int)):=λe=>by rw [decide_eq_true e] at h; cases h
    omega
 ·obtain ⟨hu,bn⟩:=ay
  have C3:=hu.n
  obtain ⟨aP,b3⟩:=MU L r.1 C3.symm hu.u
  have dF:=MT hu.s
  rw [show r.1.length=a0.length by omega] at dF
  refine .aB ⟨⟨by show r.1.length=_; omega,hu.s⟩,?_⟩
  show 2 * (a0.length * T - j6 r.1)+r.2.toNat<2 * (a0.length * T - j6 L)+true.toNat
  cases iN:r.2 with
  | false=>simp only [Bool.toNat_false,Bool.toNat_true]; omega
  | true =>
   have:=b3 (bn iN)
   simp only [Bool.toNat_true]; omega
theorem mn.sym {g:b'}(a':hg g) {m:List State}(hm:mn g m) {st:State}(cm:st∈m) {v:Move}(hv:v∈st.fb):0<=v.Sym/\(v.Sym<1000->v.Sym<g.ba.length)/\(1000<=v.Sym->v.Sym - 1000<g.bw.length):=by
 have aE:=a'.lC
 rcases Ty.1 (hm.aC st cm v hv).s with h | h
 ·exact ⟨h.1,λ_=>h.2,λaS=>by omega⟩
 ·exact ⟨by omega,λaS=>by omega,λ_=>by omega⟩
theorem tv.go {g:b'}{m:List State}(hm:mn g m) {t:Trans}(h:tv m t):Tot (qj m t.State t.e4) λr=>0<=r/\r<m.length:=by
 obtain ⟨st,v,h1,al,aP,_⟩:=h
 exact (Cj m t.State t.e4 hm.vR).use λr ay=>ay.yes hm h1 al aP
theorem ME {T:Nat}{L:List (List Int)}{r:List Int}(h:Sets T L) (ay:jr T r):Sets T (L++[r]):=λx J=>by
 rcases List.mem_append.1 J with J | J
 ·exact h x J
 ·rw [List.mem_singleton.1 J]; exact ay
theorem OG (g:b') (a':hg g) {m:List State}(hm:mn g m):Tot (Bh m) λr=>∃ ca,pC m=some ca/\uR m ca/\r.length=ca.length/\Sets g.ba.length r:=by
 have aE:=a'.lC
 obtain ⟨ca,pa,h5⟩:=OJ hm
 have vz:=h5.n
 unfold Bh
 rw [pa]
 refine Tot.au (.aK (Ξ:=λr:List (List Int)=>r.length=ca.length/\Sets g.ba.length r) ?_ λr ay=>.aB ⟨ca,rfl,h5,ay⟩)
 refine Tot.upto (λs=>s.2) ca.length (λk s=>s.1.length=k/\Sets g.ba.length s.1) rfl (by omega) ⟨rfl,λr h=>by cases h⟩ λk s hk he bt=>?_
 obtain ⟨L,i⟩:=s
 obtain ⟨h1,al⟩:=bt
 simp only at he h1 al ⊢
 subst he
 rw [fg k (by omega)]
 refine Tot.cb (λbg=>?_) (λeN=>.aB ⟨by show L.length=_; omega,al⟩)
 have bg:k<ca.length:=by omega
 have gp:=h5.ok _ (List.getElem_mem bg)
 rw [eQ bg]
 generalize ca[k]=t at *
 simp only [Option.bind_some]
 refine .aK (gp.go hm) λto Ai=>?_
 obtain ⟨st,cm,nb⟩:=nh Ai.1 Ai.2
 have eA:=hm.pw st nb
 have vu:=hm.vR st nb
 rw [cm]
 simp only [Option.bind_some]
 refine .aK (Ou _ (by have:=eA.len a'; omega)) λc _=>?_
 refine .aK (Ξ:=jr g.ba.length) (Tot.cz (λ_=>?_) (λ_=>.aB .nil)) λyo xI=>?_
 ·refine .aK (Ξ:=λ_=>True) (Tot.ap (by simp [lim]) trivial) λ_ _=>.aB ⟨List.pairwise_singleton ..,λx J=>?_⟩
  rw [List.mem_singleton.1 J]; omega
 refine .aK (Ξ:=jr g.ba.length) ?_ λr ay=>?_
 ·refine Tot.upto (λs=>s.2) st.fb.length (λk s=>jr g.ba.length s.1) rfl (by omega) xI λaf s aa he bt=>?_
  obtain ⟨r,i⟩:=s
  simp only at he bt ⊢
  subst he
  rw [fg af (by omega)]
  refine Tot.cb (λbg=>?_) (λ_=>.aB bt)
  have bg:af<st.fb.length:=by omega
  have hv:=hm.sym a' nb (List.getElem_mem bg)
  rw [eQ bg]
  generalize st.fb[af]=v at *
  simp only [Option.bind_some]
  refine .aK (Ξ:=jr g.ba.length) ?_ λr ay=>.aB ⟨bg,rfl,ay⟩
  refine .aK (Ξ:=jr g.ba.length) (Tot.cb (λh=>?_) (λ_=>.aB bt)) λr ay=>.aB ay
  exact .aK (bt.put (by omega) ⟨hv.1,hv.2.1 h⟩) λr ay=>.aB ay.1
 ·refine .aK (Ξ:=λ_=>True) (Tot.ap (by simp [lim]; omega) trivial) λ_ _=>.aB ⟨bg,rfl,by simp; omega,ME al ay⟩
theorem OH (g:b') (a':hg g) {m:List State}(hm:mn g m) {ca:List Trans}(pa:pC m=some ca) (h5:uR m ca):Tot (Bi g m) λr=>r.length=ca.length/\Sets ca.length r:=by
 have aE:=a'.lC
 have F':=a'.h6
 have vz:=h5.n
 unfold Bi
 rw [pa]
 refine Tot.au (.aK (Ja g a') λB iC=>.aK (Ξ:=λr:List (List Int)=>r.length=ca.length/\Sets ca.length r) ?_ λr ay=>.aB ay)
 refine Tot.upto (λs=>s.2) ca.length (λk s=>s.1.length=k/\Sets ca.length s.1) rfl (by omega) ⟨rfl,λr h=>by cases h⟩ λk s hk he bt=>?_
 obtain ⟨L,i⟩:=s
 obtain ⟨h1,al⟩:=bt
 simp only at he h1 al ⊢
 subst he
 rw [fg k (by omega)]
 refine Tot.cb (λbg=>?_) (λeN=>.aB ⟨by show L.length=_; omega,al⟩)
 have bg:k<ca.length:=by omega
 have gp:=h5.ok _ (List.getElem_mem bg)
 rw [eQ bg]
 generalize ca[k]=t at *
 simp only [Option.bind_some]
 refine .aK (gp.go hm) λto Ai=>?_
 obtain ⟨st,cm,nb⟩:=nh Ai.1 Ai.2
 have nE:=Tg cm
 have vu:=hm.vR st nb
 rw [cm]
 simp only [Option.bind_some]
 refine .aK (Ξ:=jr ca.length) ?_ λr ay=>?_
 ·refine Tot.upto (λs=>s.2) st.fb.length (λk s=>jr ca.length s.1) rfl (by omega) .nil λaf s aa he bt=>?_
  obtain ⟨r,i⟩:=s
  simp only at he bt ⊢
  subst he
  rw [fg af (by omega)]
  refine Tot.cb (λbg=>?_) (λ_=>.aB bt)
  have bg:af<st.fb.length:=by omega
  have C7:=List.getElem_mem bg
  have hv:=hm.sym a' nb C7
  rw [eQ bg]
  generalize st.fb[af]=v at *
  simp only [Option.bind_some]
  refine .aK (Ξ:=jr ca.length) ?_ λr ay=>.aB ⟨bg,rfl,ay⟩
  refine .aK (Ξ:=λc:Bool=>c=true->1000<=v.Sym) (Tot.cb (λh=>?_) (λ_=>.aB λh=>by cases h)) λc ab=>?_
  ·have hw:aO (v.Sym - 1000)=v.Sym - 1000:=by
    have:=hv.2.2 h
    rw [dQ]; omega
   rw [hw]
   obtain ⟨b,aJ,_⟩:=nh (l:=B) (i:=v.Sym - 1000) (by omega) (by have:=hv.2.2 h; omega)
   rw [aJ]
   exact Tot.au (.aB λ_=>h)
  ·refine .aK (Ξ:=jr ca.length) (Tot.cz (λh=>?_) (λ_=>.aB bt)) λr ay=>.aB ay
   have xB:=h5.fq to.toNat st v nE C7 (ab h)
   rw [show ((to.toNat:Nat):Int)=to by omega] at xB
   refine .aK (rH ca to v.Sym vz) λz bJ=>?_
   exact .aK (bt.put (by omega) ⟨bJ.2.2 xB,bJ.2.1⟩) λr ay=>.aB ay.1
 ·refine .aK (Ξ:=λ_=>True) (Tot.ap (by simp [lim]; omega) trivial) λ_ _=>.aB ⟨bg,rfl,by simp; omega,ME al ay⟩
theorem OI (g:b') (a':hg g) {m:List State}(hm:mn g m) {ca:List Trans}(pa:pC m=some ca) (h5:uR m ca):Tot (Bj g m) λr=>r.length=ca.length/\Sets ca.length r:=by
 have aE:=a'.lC
 have F':=a'.h6
 have z':=a'.lR
 have vz:=h5.n
 unfold Bj
 rw [pa]
 refine Tot.au (.aK (Ja g a') λB iC=>.aK (Ξ:=λr=>r=List.replicate ca.length ([]:List Int)) (Tot.mk (by simp [lim]; omega) (by simp)) λVB QQ=>.aK (Ξ:=λr:List (List Int)=>r.length=ca.length/\Sets ca.length r) ?_ λr ay=>.aB ay)
 subst QQ
 have Vx:∀ {L:List (List Int)},(L.length=ca.length/\Sets ca.length L)->∀ {z:Int}{r ff:List Int},idx L z=some r->jr ca.length ff->(L.set z.toNat ff).length=ca.length/\Sets ca.length (L.set z.toNat ff):=λ{L} lv {z r ff} _ eX=>⟨by rw [List.length_set]; exact lv.1,λx J=>by
  rcases List.mem_or_eq_of_mem_set J with aS | aS
  ·exact lv.2 x aS
  ·rw [aS]; exact eX⟩
 refine Tot.upto (λs=>s.2) ca.length (λk s=>s.1.length=ca.length/\Sets ca.length s.1) rfl (by omega) ⟨by simp,λr h=>by rw [List.eq_of_mem_replicate h]; exact .nil⟩ λk s hk he bt=>?_
 obtain ⟨L,i⟩:=s
 simp only at he bt ⊢
 subst he
 rw [fg k (by omega)]
 refine Tot.cb (λbg=>?_) (λeN=>.aB bt)
 have bg:k<ca.length:=by omega
 have gp:=h5.ok _ (List.getElem_mem bg)
 rw [eQ bg]
 generalize ca[k]=t at *
 simp only [Option.bind_some]
 refine .aK (Ξ:=λr:List (List Int)=>r.length=ca.length/\Sets ca.length r) ?_ λr ay=>.aB ⟨bg,rfl,ay⟩
 refine Tot.upto (λs=>s.2) g.bc.length (λk s=>s.1.length=ca.length/\Sets ca.length s.1) rfl (by omega) bt λp s aH he bt=>?_
 obtain ⟨L,i⟩:=s
 simp only at he bt ⊢
 subst he
 rw [fg p (by omega)]
 refine Tot.cb (λCW=>?_) (λeN=>.aB bt)
 have CW:p<g.bc.length:=by omega
 have mC:=List.getElem_mem CW
 rw [eQ CW]
 generalize g.bc[p]=q at *
 have bN:=a'.hz q mC
 have C3:=a'.aN q mC
 have vy:=Mf a' mC iC
 simp only [Option.bind_some]
 refine .aK (Ξ:=λr:List (List Int)=>r.length=ca.length/\Sets ca.length r) ?_ λr ay=>.aB ⟨CW,rfl,ay⟩
 refine Tot.cz (λ_=>.aB bt) (λ_=>.aK (Ξ:=λr:List (List Int)=>r.length=ca.length/\Sets ca.length r) ?_ λr ay=>.aB ay)
 refine Tot.upto (λs=>s.2) q.fz.length (λk s=>s.1.length=ca.length/\Sets ca.length s.1) rfl (by omega) bt λaf s aa he bt=>?_
 obtain ⟨L,i⟩:=s
 simp only at he bt ⊢
 subst he
 rw [fg af (by omega)]
 refine Tot.cb (λe1=>?_) (λeN=>.aB bt)
 have e1:af<q.fz.length:=by omega
 rw [eQ e1]
 generalize q.fz[af]=y at *
 simp only [Option.bind_some]
 refine .aK (Ξ:=λr:List (List Int)=>r.length=ca.length/\Sets ca.length r) ?_ λr ay=>.aB ⟨e1,rfl,ay⟩
 refine .aK (Ξ:=λ_=>True) (Tot.cb (λ_=>.aB trivial) (λ_=>?_)) λc _=>Tot.cz (λ_=>.aB bt) (λ_=>?_)
 ·refine .aK (Ξ:=λr=>r=q.fz.drop (af+1)) (Tot.sub ⟨by omega,by omega,by omega⟩ ?_) λr ay=>?_
  ·rw [List.take_of_length_le]
   ·congr 1
   ·rw [List.length_drop]; omega
  ·subst ay
   exact .aK (Jb B _ (by rw [List.length_drop]; omega) (λs aM=>vy s (List.mem_of_mem_drop aM)) (by omega)) λ_ _=>.aB trivial
 refine .aK (Ξ:=λr=>r.length<=8) (Tot.sub ⟨by omega,by omega,by omega⟩ (by rw [List.length_take,List.length_drop]; omega)) λr ay=>?_
 obtain ⟨st,_,cm,_⟩:=gp
 have Gg:=nI cm
 refine .aK (Jf hm t.State r ⟨by omega,Gg.2.1⟩ (by omega)) λz bJ=>?_
 refine .aK (Ξ:=λr:List (List Int)=>r.length=ca.length/\Sets ca.length r) (Tot.cz (λ_=>?_) (λ_=>.aB bt)) λr ay=>.aB ay
 refine .aK (rH ca z y vz) λn aL=>?_
 refine .aK (Ξ:=λr:List (List Int)=>r.length=ca.length/\Sets ca.length r) (Tot.cb (λbd=>?_) (λ_=>.aB bt)) λr ay=>.aB ay
 obtain ⟨yo,xI,Ge⟩:=nh (l:=L) bd (by rw [bt.1]; exact aL.2.1)
 rw [xI]
 refine Tot.au (.aK ((bt.2 yo Ge).put (by omega) ⟨by omega,by omega⟩) λff eX=>.aB (Vx bt xI eX.1))
theorem OB (g:b') (a':hg g) {m:List State}(hm:mn g m):Tot (A' g m) λr=>∃ ca,pC m=some ca/\uR m ca/\r.length=ca.length/\Sets g.ba.length r:=by
 have aE:=a'.lC
 unfold A'
 refine .aK (OG g a' hm) λql h1=>?_
 obtain ⟨ca,pa,h5,F1,Gf⟩:=h1
 have vz:=h5.n
 refine .aK (OH g a' hm pa h5) λgx al=>.aK (Je g.ba.length (by omega) ql gx (by omega) (by omega) Gf (by rw [F1]; exact al.2)) λs8 aP=>?_
 refine .aK (OI g a' hm pa h5) λrh b3=>.aK (Je g.ba.length (by omega) s8 rh (by omega) (by omega) aP.2 (by rw [aP.1,F1]; exact b3.2)) λuz dF=>?_
 exact .aB ⟨ca,pa,h5,by omega,dF.2⟩
def pO (g:b') (p:Int):Prop:=0<p/\p<g.bc.length
theorem OC (g:b') (a':hg g) (K:List Item) (ao:K.length<=1000000):Tot (Ba g K) λr=>r.length<=540/\∀ p∈r,pO g p:=by
 unfold Ba
 refine .aK (Ez g a' K ao) λc ab=>?_
 have h3:=sl a' ab.1 λx J=>((ab.2 x).1 J).jj
 refine .aK (Ξ:=λr:List Int=>r.length<=540/\∀ p∈r,pO g p) ?_ λr ay=>.aB ay
 refine Tot.upto (λs=>s.2) c.length (λk s=>s.1.length<=k/\∀ p∈s.1,pO g p) rfl (by omega) ⟨Nat.le_refl 0,λp h=>by cases h⟩ λk s hk he bt=>?_
 obtain ⟨L,i⟩:=s
 obtain ⟨h1,al⟩:=bt
 simp only at he h1 al ⊢
 subst he
 rw [fg k (by omega)]
 refine Tot.cb (λbg=>?_) (λeN=>.aB ⟨by show L.length<=_; omega,al⟩)
 have bg:k<c.length:=by omega
 have hi:=((ab.2 _).1 (List.getElem_mem bg)).jj
 rw [eQ bg]
 generalize c[k]=x at *
 obtain ⟨q,bN,aP,b3⟩:=hi
 simp only [Option.bind_some]
 refine .aK (Ξ:=λL:List Int=>L.length<=k+1/\∀ p∈L,pO g p) ?_ λr ay=>.aB ⟨bg,rfl,ay⟩
 refine .aK (Ξ:=λc:Bool=>c=true->0<x.Prod) (Tot.cb (λh=>?_) (λ_=>.aB λh=>by cases h)) λc ab=>?_
 ·rw [bN]; exact Tot.au (.aB λ_=>h)
 refine .aK (Ξ:=λL:List Int=>L.length<=k+1/\∀ p∈L,pO g p) (Tot.cz (λh=>?_) (λ_=>.aB ⟨by omega,al⟩)) λr ay=>.aB ay
 refine .aK (Ξ:=λ_=>True) (Tot.ap (by simp [lim]; omega) trivial) λ_ _=>.aB ⟨by simp; omega,λp aH=>?_⟩
 rcases List.mem_append.1 aH with aH | aH
 ·exact al p aH
 ·rw [List.mem_singleton.1 aH]; exact ⟨ab h,(nI bN).2.1⟩
theorem OD (g:b') (a':hg g) {m:List State}(hm:mn g m) {ca:List Trans}(pa:pC m=some ca) (h5:uR m ca) (q p:Int):Tot (Bb g m q p) λr=>r.length<=9600/\∀ x∈r,0<=x/\x<ca.length:=by
 have vz:=h5.n
 have z':=a'.lR
 have F':=a'.h6
 unfold Bb
 refine .aK (Ξ:=λc:Bool=>c=false->0<=p/\p<g.bc.length) (Tot.cb (λ_=>.aB λh=>by cases h) (λ_=>Tot.cb (λ_=>.aB λh=>by cases h) (λ_=>Tot.cb (λ_=>.aB λh=>by cases h) (λh=>.aB λaS=>by have:=of_decide_eq_false aS; omega)))) λc ab=>Tot.cz (λ_=>.aB ⟨Nat.zero_le _,λx h=>by cases h⟩) (λh=>?_)
 obtain ⟨bd,h1⟩:=ab h
 rw [pa]
 refine Tot.au ?_
 refine .aK (Ξ:=λr:List Int=>r.length<=9600/\∀ x∈r,0<=x/\x<ca.length) ?_ λr ay=>.aB ay
 obtain ⟨hz,Gd,Se⟩:=nh bd h1
 have C3:=a'.aN hz Se
 refine Tot.upto (λs=>s.2) ca.length (λk s=>s.1.length<=k/\∀ x∈s.1,0<=x/\x<ca.length) rfl (by omega) ⟨Nat.le_refl 0,λp h=>by cases h⟩ λk s hk he bt=>?_
 obtain ⟨L,i⟩:=s
 obtain ⟨al,aP⟩:=bt
 simp only at he al aP ⊢
 subst he
 rw [fg k (by omega)]
 refine Tot.cb (λbg=>?_) (λeN=>.aB ⟨by show L.length<=_; omega,aP⟩)
 have bg:k<ca.length:=by omega
 have gp:=h5.ok _ (List.getElem_mem bg)
 rw [eQ bg,Gd]
 generalize ca[k]=t at *
 obtain ⟨st,_,cm,_⟩:=gp
 have Gg:=nI cm
 simp only [Option.bind_some]
 refine .aK (Ξ:=λL:List Int=>L.length<=k+1/\∀ x∈L,0<=x/\x<ca.length) ?_ λr ay=>.aB ⟨bg,rfl,ay⟩
 refine .aK (Ξ:=λ_=>True) (Tot.cb (λh=>?_) (λ_=>.aB trivial)) λc ab=>?_
 ·exact .aK (Jf hm t.State hz.fz ⟨by omega,Gg.2.1⟩ (by omega)) λ_ _=>.aB trivial
 refine .aK (Ξ:=λL:List Int=>L.length<=k+1/\∀ x∈L,0<=x/\x<ca.length) (Tot.cz (λh=>?_) (λ_=>.aB ⟨by omega,aP⟩)) λr ay=>.aB ay
 refine .aK (Ξ:=λ_=>True) (Tot.ap (by simp [lim]; omega) trivial) λ_ _=>.aB ⟨by simp; omega,λp aH=>?_⟩
 rcases List.mem_append.1 aH with aH | aH
 ·exact aP p aH
 ·rw [List.mem_singleton.1 aH]; exact ⟨by omega,by omega⟩
structure wZ (g:b') (l:j8):Prop where
 p:pO g l.Prod
 t:jr g.ba.length l.ba
theorem xd (g:b') (a':hg g) {m:List State}(hm:mn g m):Tot (A8 g m) λr=>r.length<=81000/\∀ l∈r,wZ g l:=by
 have aE:=a'.lC
 have F8:=hm.np
 unfold A8
 refine .aK (OB g a' hm) λF aQ=>?_
 obtain ⟨ca,pa,h5,V7,ju⟩:=aQ
 have vz:=h5.n
 refine .aK (Ξ:=λr:List j8=>r.length<=81000/\∀ l∈r,wZ g l) ?_ λr ay=>.aB ay
 refine Tot.upto (λs=>s.2) m.length (λk s=>s.1.length<=540 * k/\∀ l∈s.1,wZ g l) rfl (by omega) ⟨Nat.le_refl 0,λp h=>by cases h⟩ λk s hk he bt=>?_
 obtain ⟨L,i⟩:=s
 obtain ⟨h1,al⟩:=bt
 simp only at he h1 al ⊢
 subst he
 rw [fg k (by omega)]
 refine Tot.cb (λbg=>?_) (λeN=>.aB ⟨by show L.length<=_; omega,al⟩)
 have bg:k<m.length:=by omega
 have eA:=hm.pw _ (List.getElem_mem bg)
 rw [eQ bg]
 generalize m[k]=st at *
 refine Tot.au (.aK (OC g a' st.Kernel (by have:=eA.len a'; omega)) λE k5=>?_)
 obtain ⟨V5,QI⟩:=k5
 refine .aK (Ξ:=λL:List j8=>L.length<=540 * (k+1)/\∀ l∈L,wZ g l) ?_ λr ay=>.aB ⟨bg,rfl,ay⟩
 refine Tot.upto (λs=>s.2) E.length (λaf s=>s.1.length<=540 * k+af/\∀ l∈s.1,wZ g l) rfl (by omega) ⟨h1,al⟩ λaf s aa he bt=>?_
 obtain ⟨L,i⟩:=s
 obtain ⟨h1,al⟩:=bt
 simp only at he h1 al ⊢
 subst he
 rw [fg af (by omega)]
 refine Tot.cb (λe1=>?_) (λeN=>.aB ⟨by show L.length<=_; omega,al⟩)
 have e1:af<E.length:=by omega
 have aH:=QI _ (List.getElem_mem e1)
 rw [eQ e1]
 generalize E[af]=p at *
 simp only [Option.bind_some]
 refine .aK (OD g a' hm pa h5 k p) λB iC=>?_
 obtain ⟨V3,QF⟩:=iC
 refine .aK (Ξ:=jr g.ba.length) ?_ λS bU=>?_
 ·refine Tot.upto (λs=>s.2) B.length (λ_ s=>jr g.ba.length s.1) rfl (by omega) .nil λb s aJ he bt=>?_
  obtain ⟨S,i⟩:=s
  simp only at he bt ⊢
  subst he
  rw [fg b (by omega)]
  refine Tot.cb (λxF=>?_) (λeN=>.aB bt)
  have xF:b<B.length:=by omega
  have J:=QF _ (List.getElem_mem xF)
  rw [eQ xF]
  generalize B[b]=x at *
  obtain ⟨row,oJ,Ge⟩:=nh (l:=F) J.1 (by omega)
  have lN:=ju row Ge
  have p9:=lN.len
  simp only [Option.bind_some,oJ]
  refine .aK (Ξ:=jr g.ba.length) ?_ λS bU=>.aB ⟨xF,rfl,bU⟩
  refine Tot.upto (λs=>s.2) row.length (λ_ s=>jr g.ba.length s.1) rfl (by omega) bt λz s bJ he bt=>?_
  obtain ⟨S,i⟩:=s
  simp only at he bt ⊢
  subst he
  rw [fg z (by omega)]
  refine Tot.cb (λpj=>?_) (λeN=>.aB bt)
  have pj:z<row.length:=by omega
  rw [eQ pj]
  exact Tot.au (.aK (bt.put (by omega) (lN.i _ (List.getElem_mem pj))) λr ay=>.aB ⟨pj,rfl,ay.1⟩)
 ·refine .aK (Ξ:=λ_=>True) (Tot.ap (by simp [lim]; omega) trivial) λ_ _=>.aB ⟨e1,rfl,by simp; omega,λl ao=>?_⟩
  rcases List.mem_append.1 ao with ao | ao
  ·exact al l ao
  ·rw [List.mem_singleton.1 ao]; exact ⟨aH,bU⟩
def nQ (c:Cell):Nat:=c.bc.length+(if 0<=c.js then 1 else 0)+(if c.kT then 1 else 0)
theorem U0 {x:Option Int}{c:Cell}(ao:c.bc.length<=1000) (e:x=(((bif decide (0<=c.js) then
some (aO ((c.bc.length:Int)+1))
else
some (c.bc.length:Int))).bind λjk =>
((bif c.kT then
some (aO (jk+1))
else
some jk)).bind λdK =>
some dK)):x=some (nQ c:Int):=by
 subst e
 have hw:aO ((c.bc.length:Int)+1)=(c.bc.length:Int)+1:=by rw [dQ]; omega
 have SG:aO ((c.bc.length:Int)+1+1)=(c.bc.length:Int)+1+1:=by rw [dQ]; omega
 unfold nQ
 by_cases h:0<=c.js
 ·cases al:c.kT <;> simp [h,hw,SG]
 ·cases al:c.kT <;> simp [h,hw]
theorem JL (c:Cell) (ao:c.bc.length<=1000):yh c=some (nQ c:Int):=U0 ao (by unfold yh; rfl)
structure oo (g:b') (n:Nat) (c:Cell):Prop where
 s:0<=c.State/\c.State<n
 t:0<=c.b5/\c.b5<g.ba.length
 f:-1<=c.js/\c.js<n
 p:gm jc c.bc
 q:∀ p∈c.bc,pO g p
 UW:0<nQ c
theorem oo.len {g:b'}(a':hg g) {n:Nat}{c:Cell}(h:oo g n c):c.bc.length<=60:=by
 have:=a'.lR
 have:=jr.len (T:=g.bc.length) ⟨h.p,λx J=>⟨by have:=(h.q x J).1; omega,(h.q x J).2⟩⟩
 omega
def wP (a b:Cell):Prop:=a.State<b.State\/(a.State=b.State/\a.b5<b.b5)
structure yJ (g:b') (n:Nat) (l:List Cell):Prop where
 ok:∀ c∈l,oo g n c
 WQ:l.Pairwise wP
 n:l.length<=6000
theorem Oz (g:b') (a':hg g) {m:List State}(hm:mn g m) (qd:List j8) (ao:qd.length<=81000) (hk:∀ l∈qd,wZ g l):Tot (A7 g m qd) (yJ g m.length):=by
 have aE:=a'.lC
 have F8:=hm.np
 have z':=a'.lR
 unfold A7
 refine .aK (Ξ:=yJ g m.length) ?_ λr ay=>.aB ay
 refine Tot.upto (λs=>s.2) m.length (λk s=>s.1.length<=40 * k/\(∀ c∈s.1,oo g m.length c)/\s.1.Pairwise wP/\∀ c∈s.1,c.State<k) rfl (by omega) ⟨Nat.le_refl 0,λp h=>(by cases h),.nil,λp h=>by cases h⟩ λk s CV he bt=>?_
 obtain ⟨L,i⟩:=s
 obtain ⟨h1,al,aP,b3⟩:=bt
 simp only at he h1 al aP b3 ⊢
 subst he
 rw [fg k (by omega)]
 refine Tot.cb (λbg=>?_) (λeN=>.aB ⟨al,aP,by show L.length<=_; omega⟩)
 have bg:k<m.length:=by omega
 have eA:=hm.pw _ (List.getElem_mem bg)
 rw [eQ bg]
 generalize m[k]=st at *
 have V8:=eA.len a'
 refine .aK (Ξ:=λL:List Cell=>L.length<=40 * (k+1)/\(∀ c∈L,oo g m.length c)/\L.Pairwise wP/\∀ c∈L,c.State<(k+1:Nat)) ?_ λr ay=>.aB ⟨bg,rfl,ay⟩
 refine Tot.upto (λs=>s.2) g.ba.length (λaf s=>s.1.length<=40 * k+af/\(∀ c∈s.1,oo g m.length c)/\s.1.Pairwise wP/\∀ c∈s.1,c.State<k\/(c.State=k/\c.b5<af)) rfl (by omega) ⟨h1,al,aP,λc ab=>.inl (b3 c ab)⟩ λaf s aa he bt=>?_
 obtain ⟨L,i⟩:=s
 obtain ⟨h1,al,aP,b3⟩:=bt
 simp only at he h1 al aP b3 ⊢
 subst he
 rw [fg af (by omega)]
 refine Tot.cb (λe1=>?_) (λeN=>.aB ⟨by show L.length<=_; omega,al,aP,λc ab=>by rcases b3 c ab with h | h <;> omega⟩)
 refine .aK (Ξ:=λL:List Cell=>L.length<=40 * k+(af+1)/\(∀ c∈L,oo g m.length c)/\L.Pairwise wP/\∀ c∈L,c.State<k\/(c.State=k/\c.b5<(af+1:Nat))) ?_ λr ay=>.aB ⟨by omega,rfl,ay⟩
 refine .aK (Cj m k af hm.vR) λfG Sr=>?_
 have Ss:=Sr.yY hm
 refine .aK (Ξ:=λ_=>True) ?_ λac _=>?_
 ·refine Tot.upto (λs=>s.2) st.Kernel.length (λ_ _=>True) rfl (by omega) trivial λz s bJ he _=>?_
  obtain ⟨b,i⟩:=s
  simp only at he ⊢
  subst he
  rw [fg z (by omega)]
  simp only [Option.bind_some]
  refine Tot.cb (λpj=>?_) (λ_=>.aB trivial)
  have pj:z<st.Kernel.length:=by omega
  rw [eQ pj]
  simp only [Option.bind_some]
  refine .aK (Ξ:=λ_=>True) (Tot.cz (λ_=>.aB trivial) (λ_=>Tot.cb (λ_=>Tot.cb (λ_=>.aB trivial) (λ_=>.aB trivial)) (λ_=>.aB trivial))) λ_ _=>.aB ⟨pj,rfl,trivial⟩
 refine .aK (Ξ:=λP:List Int=>gm jc P/\∀ p∈P,pO g p) ?_ λP du=>?_
 ·refine Tot.upto (λs=>s.2) qd.length (λ_ s=>gm jc s.1/\∀ p∈s.1,pO g p) rfl (by omega) ⟨.nil,λp h=>by cases h⟩ λz s bJ he bt=>?_
  obtain ⟨P,i⟩:=s
  obtain ⟨g1,g2⟩:=bt
  simp only at he g1 g2 ⊢
  subst he
  rw [fg z (by omega)]
  refine Tot.cb (λpj=>?_) (λeN=>.aB ⟨g1,g2⟩)
  have pj:z<qd.length:=by omega
  have lv:=hk _ (List.getElem_mem pj)
  rw [eQ pj]
  generalize qd[z]=l at *
  have Gj:=lv.t.len
  have QY:=jr.len (T:=g.bc.length) ⟨g1,λx J=>⟨by have:=(g2 x J).1; omega,(g2 x J).2⟩⟩
  simp only [Option.bind_some]
  refine .aK (Ξ:=λP:List Int=>gm jc P/\∀ p∈P,pO g p) ?_ λr ay=>.aB ⟨pj,rfl,ay⟩
  refine .aK (Ξ:=λ_=>True) (Tot.cb (λ_=>.aK (Jc l.ba af (by omega)) λ_ _=>.aB trivial) (λ_=>.aB trivial)) λc _=>?_
  refine .aK (Ξ:=λP:List Int=>gm jc P/\∀ p∈P,pO g p) (Tot.cz (λ_=>?_) (λ_=>.aB ⟨g1,g2⟩)) λr ay=>.aB ay
  refine .aK (Ck P l.Prod g1 (by omega)) λr ay=>.aB ⟨ay.1,λp aH=>?_⟩
  rcases (ay.2.2 p).1 aH with h | rfl
  ·exact g2 p h
  ·exact lv.p
 ·have QY:=jr.len (T:=g.bc.length) ⟨du.1,λx J=>⟨by have:=(du.2 x J).1; omega,(du.2 x J).2⟩⟩
  rw [JL _ (by show P.length<=_; omega)]
  refine Tot.au (.aK (Ξ:=λL:List Cell=>L.length<=40 * k+(af+1)/\(∀ c∈L,oo g m.length c)/\L.Pairwise wP/\∀ c∈L,c.State<k\/(c.State=k/\c.b5<(af+1:Nat))) (Tot.cb (λbd=>?_) (λ_=>.aB ⟨by omega,al,aP,λc ab=>by rcases b3 c ab with h | h <;> omega⟩)) λr ay=>.aB ay)
  refine .aK (Ξ:=λ_=>True) (Tot.ap (by simp [lim]; omega) trivial) λ_ _=>.aB ⟨by simp; omega,λc ab=>?_,List.pairwise_append.2 ⟨aP,List.pairwise_singleton ..,λa bm b aJ=>?_⟩,λc ab=>?_⟩
  ·rcases List.mem_append.1 ab with ab | ab
   ·exact al c ab
   ·rw [List.mem_singleton.1 ab]
    exact ⟨⟨by show (0:Int)<=k; omega,by show (k:Int)<_; omega⟩,⟨by show (0:Int)<=af; omega,by show (af:Int)<_; omega⟩,Ss,du.1,du.2,by omega⟩
  ·rw [List.mem_singleton.1 aJ]
   rcases b3 a bm with h | h
   ·exact .inl h
   ·exact .inr h
  ·rcases List.mem_append.1 ab with ab | ab
   ·rcases b3 c ab with h | h
    ·exact .inl h
    ·exact .inr ⟨h.1,by omega⟩
   ·rw [List.mem_singleton.1 ab]
    exact .inr ⟨rfl,by show (af:Int)<_; omega⟩
open Go Go.Own
theorem iV.Tz {m:jo}{T L:Nat}(h:iV m T L):kW m (3+T) m.bG.length 0 0 :=
 ⟨h.iB,h.lo,h.hi,by have:=h.ty; omega,rfl,by rw [h.hL]; decide,by rw [h.hz]; exact Nat.le_refl 0,by rw [h.hz]; exact λp aH=>absurd aH (by simp),h.lvl,h.j1⟩
theorem t78 (s:Source) (aJ:si s):Tot (Bd s) λr=>r.2.1=0->hg r.1:=by
 unfold Bd
 refine .aK (t92 s aJ) λc ab=>Tot.cz (λ_=>.aB λh=>absurd h (by decide)) (λja=>?_)
 have ok:Iz s:=ab (by simpa using ja)
 refine .aK (Tot.mk (by decide) (rfl:List.replicate (3:Int).toNat false=List.replicate (3:Int).toNat false)) λa8 hJ=>?_
 have We:=aJ.ER
 have C3:=aJ.aN
 -- declarations
 refine Tot.aK (Ξ:=λr=>iV r.1 (1001 * 1000) 0) ?_ λcn dF=>?_
 ·refine Tot.count (λz=>z.2.2) s.Decls.length (λz=>0<=z.2.2/\z.2.2<=s.Decls.length/\iV z.1 (1001 * z.2.2.toNat) 0/\z.1.bW<=z.2.2) ⟨Int.le_refl 0,by show (0:Int)<=_; omega,⟨by show a8.length=3; rw [<- hJ]; rfl,Nat.le_refl 3,Nat.le_refl 3,Nat.le_refl 0,Nat.le_refl 0,rfl,rfl,Int.le_refl 0,by show ∀ t∈[_,_,_],0<=b5.Level t; simp⟩,Int.le_refl 0⟩ (by show (s.Decls.length:Int) - 0<_; omega) λz bJ=>?_
  obtain ⟨m,st,i⟩:=z
  obtain ⟨bd,h1,hm,qZ⟩:=bJ
  simp only at bd h1 hm qZ ⊢
  have hw:aO (i+1)=i+1:=by rw [dQ]; omega
  rw [hw]
  have F0:=hm.lvl
  refine Tot.cb (λbg=>?_) (λ_=>.aB (hm.mono (by omega) (Nat.le_refl _)))
  refine .aK (Tot.hp (Φ:=λy=>y∈s.Decls) bd bg λy _ az=>az) λd aY=>?_
  have sH:=aJ.decls d aY
  have KM:=sH.n
  refine .aK (Ξ:=λ_=>True) (Tot.cz (λ_=>.aB trivial) (λ_=>.aB trivial)) λiz _=>.aK (Ξ:=λaf=>0<=af/\af<=i+1) (Tot.cz (λ_=>.aB (by rw [dQ]; omega)) (λ_=>.aB (by omega))) λgT xt=>?_
  refine Tot.aK (Ξ:=λr=>iV r.1 (1001 * i.toNat+1000) 0/\r.1.bW<=i+1) ?_ λdU tI=>.aB ⟨⟨?_,?_,?_,?_⟩,?_,?_⟩
  ·refine Tot.count (λz=>z.2.2) d.eV.length (λz=>0<=z.2.2/\z.2.2<=d.eV.length/\iV z.1 (1001 * i.toNat+z.2.2.toNat) 0/\z.1.bW<=i+1) ⟨Int.le_refl 0,by show (0:Int)<=_; omega,⟨hm.iB,hm.lo,hm.hi,hm.ty,hm.hZ,hm.hz,hm.hL,xt.1,hm.j1⟩,xt.2⟩ (by show (d.eV.length:Int) - 0<_; omega) λz bJ=>?_
   obtain ⟨m,st,k⟩:=z
   obtain ⟨g0,g1,hm,qZ⟩:=bJ
   simp only at g0 g1 hm qZ ⊢
   have sX:aO (k+1)=k+1:=by rw [dQ]; omega
   rw [sX]
   refine Tot.cb (λzZ=>?_) (λ_=>.aB ⟨hm.mono (by omega) (Nat.le_refl _),qZ⟩)
   have Df:Tot (idx d.eV k) λy=>y∈d.eV:=Tot.hp g0 zZ λy _ az=>az
   refine Tot.aK (Ξ:=λaf=>iV af.1 (1001 * i.toNat+k.toNat+1) 0/\af.1.bW<=i+1) ?_ λaf aa=>.aB ⟨⟨?_,?_,?_,aa.2⟩,?_,?_⟩
   ·refine Tot.cz (λ_=>?_) (λ_=>?_)
    ·refine .aK Df λx J=>.aK (t93 m d x hm.iB (by have:=hm.hi; omega) (by have:=hm.ty; omega) (ok.decls d aY x J)) λm' a'=>.aB ⟨hm.grow a',by show m'.bW<=_; rw [a'.lvl]; exact qZ⟩
    ·refine Tot.aK (Ξ:=λaf=>iV af (1001 * i.toNat+k.toNat+1) 0/\af.bW<=i+1) ?_ λaf aa=>.aK Df λ_ _=>.aB aa
     refine Tot.cz (λ_=>?_) (λ_=>.aB ⟨hm.mono (by omega) (Nat.le_refl _),qZ⟩)
     exact .aK Df λ_ _=>.aK Df λ_ _=>.aK (t94 m _ _) λm' kr=>.aB ⟨(hm.same kr.1).mono (by omega) (Nat.le_refl _),by rw [kr.1.j1]; exact qZ⟩
   ·show 0<=k+1; omega
   ·show k+1<=(d.eV.length:Int); omega
   ·show iV af.1 (1001 * i.toNat+(k+1).toNat) 0
    exact aa.1.mono (by omega) (Nat.le_refl _)
   ·show k<k+1; omega
   ·show k+1<=(d.eV.length:Int); omega
  ·show 0<=i+1; omega
  ·show i+1<=(s.Decls.length:Int); omega
  ·show iV dU.1 (1001 * (i+1).toNat) 0
   exact tI.1.mono (by omega) (Nat.le_refl _)
  ·exact tI.2
  ·show i<i+1; omega
  ·show i+1<=(s.Decls.length:Int); omega
 -- what stands on the left
 refine Tot.aK (Ξ:=λr=>iV r (1001 * 1000) 1000) ?_ λc8 Qj=>?_
 ·refine Tot.count (λz=>z.2) s.dD.length (λz=>0<=z.2/\z.2<=s.dD.length/\iV z.1 (1001 * 1000) z.2.toNat) ⟨Int.le_refl 0,by show (0:Int)<=_; omega,dF⟩ (by show (s.dD.length:Int) - 0<_; omega) λz bJ=>?_
  obtain ⟨m,i⟩:=z
  obtain ⟨bd,h1,hm⟩:=bJ
  simp only at bd h1 hm ⊢
  have hw:aO (i+1)=i+1:=by rw [dQ]; omega
  rw [hw]
  refine Tot.cb (λbg=>?_) (λ_=>.aB (hm.mono (Nat.le_refl _) (by omega)))
  have tW:=hm.hi
  have xE:=hm.hZ
  refine Tot.aK (Ξ:=λaf=>iV af (1001 * 1000) (i.toNat+1)) ?_ λaf aa=>.aB ⟨⟨?_,?_,?_⟩,?_,?_⟩
  ·refine .aK (Tot.hp (Φ:=λ_=>True) bd bg λy _ az=>trivial) λr ay=>.aK (t95 m _ (by simp only [eZ]; omega)) λt _=>?_
   refine Tot.aK (Ξ:=λaf=>iV af (1001 * 1000) i.toNat) ?_ λfK sG=>?_
   ·exact Tot.cz (λ_=>.aK (t94 m _ _) λm' kr=>.aB (hm.same kr.1)) (λ_=>.aB hm)
   ·have Wq:=sG.hZ
    refine .aK (t96 fK _ (by simp only [eZ]; omega)) λk _=>?_
    refine Tot.aK (Ξ:=λl=>l.length<=i.toNat+1) ?_ λl ao=>.aB ⟨sG.iB,sG.lo,sG.hi,sG.ty,ao,sG.hz,sG.hL,sG.lvl,sG.j1⟩
    refine Tot.cz (λ_=>?_) (λ_=>.aB (by omega))
    exact .aK (Ξ:=λ_=>True) (Tot.ap (by simp [lim]; omega) trivial) λ_ _=>.aB (by simp; omega)
  ·show 0<=i+1; omega
  ·show i+1<=(s.dD.length:Int); omega
  ·show iV af (1001 * 1000) (i+1).toNat
   exact aa.mono (Nat.le_refl _) (by omega)
  ·show i<i+1; omega
  ·show i+1<=(s.dD.length:Int); omega
 -- types and starts
 refine Tot.aK (Ξ:=λr=>iV r (1001 * 1000) 1000) ?_ λbQ zB=>?_
 ·refine Tot.count (λz=>z.2) s.Decls.length (λz=>0<=z.2/\z.2<=s.Decls.length/\iV z.1 (1001 * 1000) 1000) ⟨Int.le_refl 0,by show (0:Int)<=_; omega,Qj⟩ (by show (s.Decls.length:Int) - 0<_; omega) λz bJ=>?_
  obtain ⟨m,i⟩:=z
  obtain ⟨bd,h1,hm⟩:=bJ
  simp only at bd h1 hm ⊢
  have hw:aO (i+1)=i+1:=by rw [dQ]; omega
  rw [hw]
  refine Tot.cb (λbg=>?_) (λ_=>.aB hm)
  refine Tot.aK (Ξ:=λr=>iV r (1001 * 1000) 1000) ?_ λoX Qn=>.aB ⟨⟨?_,?_,Qn⟩,?_,?_⟩
  ·have l4:i.toNat<s.Decls.length:=by omega
   have hi:idx s.Decls i=some s.Decls[i.toNat]:=by simp [idx,bd,l4]
   rw [hi]
   generalize aY:s.Decls[i.toNat]=d
   have lM:d∈s.Decls:=by rw [<- aY]; exact List.getElem_mem l4
   have KM:=(aJ.decls d lM).n
   refine Tot.count (λz=>z.2) d.eV.length (λz=>0<=z.2/\z.2<=d.eV.length/\iV z.1 (1001 * 1000) 1000) ⟨Int.le_refl 0,by show (0:Int)<=_; omega,hm⟩ (by show (d.eV.length:Int) - 0<_; omega) λz bJ=>?_
   obtain ⟨m,k⟩:=z
   obtain ⟨g0,g1,hm⟩:=bJ
   simp only at g0 g1 hm ⊢
   have sX:aO (k+1)=k+1:=by rw [dQ]; omega
   rw [sX]
   refine Tot.au (Tot.cb (λzZ=>?_) (λ_=>.aB hm))
   have xE:=hm.hZ
   refine Tot.aK (Ξ:=λaf=>iV af (1001 * 1000) 1000) ?_ λaf aa=>.aB ⟨⟨?_,?_,aa⟩,?_,?_⟩
   ·refine Tot.au (.aK (Tot.hp (Φ:=λ_=>True) g0 zZ λ_ _ _=>trivial) λx _=>?_)
    refine .aK (Ξ:=λ_=>True) (Tot.au (Tot.cz (λ_=>.aK (t96 m _ (by simp only [eZ]; omega)) λ_ _=>.aB trivial) (λ_=>.aB trivial))) λc _=>?_
    refine Tot.aK (Ξ:=λaf=>iV af (1001 * 1000) 1000) ?_ λaf aa=>.aB aa
    exact Tot.cz (λ_=>.aK (t94 m _ _) λm' kr=>.aB (hm.same kr.1)) (λ_=>.aB hm)
   ·show 0<=k+1; omega
   ·show k+1<=(d.eV.length:Int); omega
   ·show k<k+1; omega
   ·show k+1<=(d.eV.length:Int); omega
  ·show 0<=i+1; omega
  ·show i+1<=(s.Decls.length:Int); omega
  ·show i<i+1; omega
  ·show i+1<=(s.Decls.length:Int); omega
 -- the start
 have ub:=ok.pos
 refine Tot.aK (Ξ:=λ_=>True) (Tot.cz (λ_=>.aK (Ξ:=λ_=>True) (Tot.hp (by decide) (by omega) λ_ _ _=>trivial) λ_ _=>.aB trivial) (λ_=>.aB trivial)) λvJ _=>?_
 have Ws:=zB.hZ
 refine .aK (t96 bQ vJ (by simp only [eZ]; omega)) λig p3=>?_
 have Qu:-1<=ig/\ig<bQ.bG.length:=by rcases p3 with h | h <;> omega
 -- the alternatives
 have lv:bQ.bG.length<=1000:=zB.hZ
 generalize QR:bQ.bG.length=L at lv Qu
 refine Tot.aK (Ξ:=λr=>kW r (3+1001 * 1000+1001 * 1000000) L (1001 * 1000000) (1+1001 * 1000000)/\1<=r.ar.bc.length) ?_ λa6 Qv=>?_
 ·have sQ:=zB.Tz
  rw [QR] at sQ
  refine Tot.count (λz=>z.2) s.dD.length (λz=>0<=z.2/\z.2<=s.dD.length/\kW z.1 (3+1001 * 1000+1001 * (1000 * z.2.toNat)) L (1001 * (1000 * z.2.toNat)) (1+1001 * (1000 * z.2.toNat))/\1<=z.1.ar.bc.length) ⟨Int.le_refl 0,by show (0:Int)<=_; omega,⟨sQ.iB,sQ.lo,sQ.hi,sQ.ty,sQ.hZ,sQ.hL,Nat.le_refl 1,λp aH=>?_,sQ.lvl,sQ.j1⟩,Nat.le_refl 1⟩ (by show (s.dD.length:Int) - 0<_; omega) λz bJ=>?_
  ·rw [List.mem_singleton.1 aH]
   have Wh:=zB.hL
   have mx:=zB.lo
   refine ⟨⟨Int.le_refl 0,by show (0:Int)<=L+bQ.bB; omega⟩,λy az=>?_,⟨by show (-1:Int)<=-1; omega,by show (-1:Int)<_; omega⟩⟩
   have az:y∈[aO (1001+ig)]:=az
   rw [List.mem_singleton.1 az]
   have:aO (1001+ig)=1001+ig:=by rw [dQ]; omega
   rw [this]
   exact .inr (by show 1000<=1001+ig/\1001+ig<=1000+((L:Int)+bQ.bB); omega)
  ·obtain ⟨m,i⟩:=z
   obtain ⟨bd,h1,hm,ua⟩:=bJ
   simp only at bd h1 hm ua ⊢
   have hw:aO (i+1)=i+1:=by rw [dQ]; omega
   rw [hw]
   refine Tot.cb (λbg=>?_) (λ_=>.aB ⟨hm.mono (by omega) (by omega) (by omega),ua⟩)
   refine Tot.aK (Ξ:=λr=>kW r (3+1001 * 1000+1001 * (1000 * (i.toNat+1))) L (1001 * (1000 * (i.toNat+1))) (1+1001 * (1000 * (i.toNat+1)))/\1<=r.ar.bc.length) ?_ λkx CL=>.aB ⟨⟨?_,?_,?_,CL.2⟩,?_,?_⟩
   ·have l4:i.toNat<s.dD.length:=by omega
    have hi:idx s.dD i=some s.dD[i.toNat]:=by simp [idx,bd,l4]
    rw [hi]
    generalize aY:s.dD[i.toNat]=d
    have lM:d∈s.dD:=by rw [<- aY]; exact List.getElem_mem l4
    have KM:=(aJ.rules d lM).n
    refine Tot.count (λz=>z.2) d.eT.length (λz=>0<=z.2/\z.2<=d.eT.length/\kW z.1 (3+1001 * 1000+1001 * (1000 * i.toNat+z.2.toNat)) L (1001 * (1000 * i.toNat+z.2.toNat)) (1+1001 * (1000 * i.toNat+z.2.toNat))/\1<=z.1.ar.bc.length) ⟨Int.le_refl 0,by show (0:Int)<=_; omega,hm,ua⟩ (by show (d.eT.length:Int) - 0<_; omega) λz bJ=>?_
    obtain ⟨m,k⟩:=z
    obtain ⟨g0,g1,hm,ua⟩:=bJ
    simp only at g0 g1 hm ua ⊢
    have sX:aO (k+1)=k+1:=by rw [dQ]; omega
    rw [sX]
    refine Tot.au (Tot.cb (λzZ=>?_) (λ_=>.aB ⟨hm.mono (by omega) (by omega) (by omega),ua⟩))
    refine Tot.au (Tot.au (.aK (Tot.hp (Φ:=λy=>y∈d.eT) g0 zZ λ_ _ h=>h) λa bm=>?_))
    refine .aK (t97 m d.Left a hm (by omega) (by omega) (by omega) (by omega) ((aJ.rules d lM).alts a bm) (ok.rules d lM a bm)) λm' kr=>.aB ⟨⟨?_,?_,?_,kr.2⟩,?_,?_⟩
    ·show 0<=k+1; omega
    ·show k+1<=(d.eT.length:Int); omega
    ·show kW m' (3+1001 * 1000+1001 * (1000 * i.toNat+(k+1).toNat)) L (1001 * (1000 * i.toNat+(k+1).toNat)) (1+1001 * (1000 * i.toNat+(k+1).toNat))
     exact kr.1.mono (by omega) (by omega) (by omega)
    ·show k<k+1; omega
    ·show k+1<=(d.eT.length:Int); omega
   ·show 0<=i+1; omega
   ·show i+1<=(s.dD.length:Int); omega
   ·show kW kx (3+1001 * 1000+1001 * (1000 * (i+1).toNat)) L (1001 * (1000 * (i+1).toNat)) (1+1001 * (1000 * (i+1).toNat))
    exact CL.1.mono (by omega) (by omega) (by omega)
   ·show i<i+1; omega
   ·show i+1<=(s.dD.length:Int); omega
 obtain ⟨rO,Qw⟩:=Qv
 refine Tot.rI (λh=>.aB λaS=>absurd aS h) (λhe=>?_)
 have VU:=rO.hZ
 have VS:=rO.hi
 have VW:=rO.ty
 have VT:=rO.hL
 have VV:=rO.ym
 -- nonterminals
 refine Tot.aK (Ξ:=λl=>l.length=1+L) ?_ λwD VY=>?_
 ·refine Tot.count (λz=>z.2) a6.bG.length (λz=>0<=z.2/\z.2<=a6.bG.length/\z.1.length=1+z.2.toNat) ⟨Int.le_refl 0,by show (0:Int)<=_; omega,rfl⟩ (by show (a6.bG.length:Int) - 0<_; omega) λz bJ=>?_
  obtain ⟨l,i⟩:=z
  obtain ⟨bd,h1,ao⟩:=bJ
  simp only at bd h1 ao ⊢
  have hw:aO (i+1)=i+1:=by rw [dQ]; omega
  rw [hw]
  refine Tot.cb (λbg=>?_) (λ_=>.aB (by show l.length=1+L; omega))
  refine .aK (Tot.hp (Φ:=λ_=>True) bd bg λ_ _ _=>trivial) λmj _=>.aK (t98 _ _ (by show a6.bX.length<=_; simp only [eZ]; omega)) λwE Qx=>?_
  have VZ:wE=-1\/(0<=wE/\wE<a6.bX.length):=Qx
  refine .aK (Ξ:=λ_=>True) (Tot.cb (λh=>.aK (Ξ:=λ_=>True) (Tot.hp h (by omega) λ_ _ _=>trivial) λ_ _=>.aB trivial) (λ_=>.aB trivial)) λqc _=>?_
  refine .aK (Ξ:=λ_=>True) (Tot.ap (by simp [lim]; omega) trivial) λ_ _=>.aB ⟨⟨?_,?_,?_⟩,?_,?_⟩
  ·show 0<=i+1; omega
  ·show i+1<=(a6.bG.length:Int); omega
  ·show (l++[_]).length=1+(i+1).toNat
   simp; omega
  ·show i<i+1; omega
  ·show i+1<=(a6.bG.length:Int); omega
 refine Tot.aK (Ξ:=λl=>(l.length:Int)=1+L+a6.bB) ?_ λjl V0=>?_
 ·refine Tot.count (λz=>z.2) (a6.bB+1) (λz=>1<=z.2/\z.2<=a6.bB+1/\(z.1.length:Int)=1+L+(z.2 - 1)) ⟨Int.le_refl 1,by show (1:Int)<=_; omega,by show (wD.length:Int)=1+L+(1 - 1); omega⟩ (by show a6.bB+1 - 1<_; omega) λz bJ=>?_
  obtain ⟨l,i⟩:=z
  obtain ⟨bd,h1,ao⟩:=bJ
  simp only at bd h1 ao ⊢
  have hw:aO (i+1)=i+1:=by rw [dQ]; omega
  rw [hw]
  refine Tot.cb (λbg=>?_) (λ_=>.aB (by show (l.length:Int)=1+L+a6.bB; omega))
  refine .aK (t99 i (by omega) (by omega)) λD1 V1=>.aK (Ξ:=λ_=>True) (Tot.cat (by show 1+D1.size<=_; omega) trivial) λru _=>?_
  refine .aK (Ξ:=λ_=>True) (Tot.ap (by simp [lim]; omega) trivial) λ_ _=>.aB ⟨⟨?_,?_,?_⟩,?_,?_⟩
  ·show 1<=i+1; omega
  ·show i+1<=a6.bB+1; omega
  ·show ((l++[_]).length:Int)=1+L+(i+1 - 1)
   simp; omega
  ·show i<i+1; omega
  ·show i+1<=a6.bB+1; omega
 -- numbers
 have RT:=rO.iB
 refine Tot.aK (Ξ:=λl=>l.length=a6.ar.ba.length/\∀ t∈l,0<=t.Level) ?_ λkS Qy=>?_
 ·refine Tot.count (λz=>z.2.2) a6.ar.ba.length (λz=>3<=z.2.2/\z.2.2<=a6.ar.ba.length/\z.1.length=a6.ar.ba.length/\∀ t∈z.1,0<=t.Level) ⟨Int.le_refl 3,by have:=rO.lo; show (3:Int)<=_; omega,rfl,rO.j1⟩ (by show (a6.ar.ba.length:Int) - 3<_; omega) λz bJ=>?_
  obtain ⟨l,n,i⟩:=z
  obtain ⟨bd,h1,ao,hv⟩:=bJ
  simp only at bd h1 ao hv ⊢
  have hw:aO (i+1)=i+1:=by rw [dQ]; omega
  rw [hw]
  refine Tot.cb (λbg=>?_) (λ_=>.aB ⟨ao,hv⟩)
  refine Tot.aK (Ξ:=λaf=>af.1.length=a6.ar.ba.length/\∀ t∈af.1,0<=t.Level) ?_ λaf aa=>.aB ⟨⟨?_,?_,aa⟩,?_,?_⟩
  ·refine .aK (Tot.hp (Φ:=λ_=>True) (by omega) (by rw [RT]; omega) λ_ _ _=>trivial) λ_ _=>?_
   refine Tot.aK (Ξ:=λaf=>af.1.length=a6.ar.ba.length/\∀ t∈af.1,0<=t.Level) ?_ λaf aa=>.aB aa
   refine Tot.cz (λ_=>?_) (λ_=>.aB ⟨ao,hv⟩)
   refine .aK (Tot.hp (Φ:=λy=>y∈l) (by omega) bg λ_ _ h=>h) λy az=>.aB ⟨by show (l.set _ _).length=_; simp [ao],λt aE=>?_⟩
   rcases vQ aE with aE | rfl
   ·exact hv t aE
   ·exact (hv y az:0<=y.Level)
  ·show 3<=i+1; omega
  ·show i+1<=(a6.ar.ba.length:Int); omega
  ·show i<i+1; omega
  ·show i+1<=(a6.ar.ba.length:Int); omega
 -- limits
 obtain ⟨V2,Qz⟩:=Qy
 refine Tot.aK (Ξ:=λc=>c=false->kS.length<=40/\jl.length<=24/\a6.ar.bc.length<=60) ?_ λrH Qf=>?_
 ·refine Tot.cb (λ_=>.aB λh=>by cases h) (λh1=>Tot.cb (λ_=>.aB λh=>by cases h) (λal=>.aB λh=>?_))
  have aP:=of_decide_eq_false h
  omega
 refine Tot.aK (Ξ:=λc=>c=false->rH=false/\∀ p∈a6.ar.bc,p.fz.length<=8) ?_ λBH Qg=>?_
 ·refine Tot.count (λz=>z.2) a6.ar.bc.length (λz=>0<=z.2/\z.2<=a6.ar.bc.length/\(z.1=false->rH=false/\∀ (af:Nat) (p:Prod),(af:Int)<z.2->a6.ar.bc[af]?=some p->p.fz.length<=8)) ⟨Int.le_refl 0,by show (0:Int)<=_; omega,λh=>⟨h,λaf p aa=>by have aa:(af:Int)<0:=aa; omega⟩⟩ (by show (a6.ar.bc.length:Int) - 0<_; omega) λz bJ=>?_
  obtain ⟨c,i⟩:=z
  obtain ⟨bd,h1,ao⟩:=bJ
  simp only at bd h1 ao ⊢
  have hw:aO (i+1)=i+1:=by rw [dQ]; omega
  rw [hw]
  refine Tot.cb (λbg=>?_) (λeN=>.aB λh=>⟨(ao h).1,λp aH=>?_⟩)
  ·refine Tot.aK (Ξ:=λhA=>hA=false->c=false/\∀ p,a6.ar.bc[i.toNat]?=some p->p.fz.length<=8) ?_ λhA fu=>.aB ⟨⟨?_,?_,λh=>?_⟩,?_,?_⟩
   ·refine Tot.cz (λ_=>.aB λh=>by cases h) (λRC=>.aK (Tot.hp (Φ:=λy=>idx a6.ar.bc i=some y) bd bg λ_ h _=>h) λy az=>.aB λh=>⟨RC,λp aH=>?_⟩)
    have al:=(qb az).2.2
    rw [aH] at al; cases al
    have:=of_decide_eq_false h
    omega
   ·show 0<=i+1; omega
   ·show i+1<=(a6.ar.bc.length:Int); omega
   ·obtain ⟨aw,a2⟩:=fu h
    obtain ⟨hU,iy⟩:=ao aw
    refine ⟨hU,λaf p aa aH=>?_⟩
    have aa:(af:Int)<i+1:=aa
    by_cases RW:(af:Int)<i
    ·exact iy af p RW aH
    ·have:af=i.toNat:=by omega
     subst this
     exact a2 p aH
   ·show i<i+1; omega
   ·show i+1<=(a6.ar.bc.length:Int); omega
  ·obtain ⟨af,aa,rfl⟩:=List.mem_iff_getElem.1 aH
   exact (ao h).2 af _ (by omega) (List.getElem?_eq_getElem aa)
 refine Tot.cz (λ_=>.aB λh=>absurd h (by decide)) (λab=>.aB λ_=>?_)
 obtain ⟨aw,a2⟩:=Qg ab
 obtain ⟨hU,iy,lq⟩:=Qf aw
 have mx:=rO.lo
 refine ⟨⟨?_,hU⟩,⟨?_,iy⟩,⟨Qw,lq⟩,λp aH=>?_,a2,Qz⟩
 ·show 3<=kS.length; omega
 ·show 1<=jl.length; omega
 ·have:=rO.hz p aH
  exact this.mono (by show _<=kS.length; omega) (by show (L:Int)+a6.bB<=((jl.length:Nat):Int) - 1; omega)
theorem t68 (s:Source) (aJ:si s):Tot (A9 s) λr=>r.2=true->hg r.1:=by
 unfold A9
 exact .aK (t78 s aJ) λr ay=>.aB λh=>ay (of_decide_eq_true h)
theorem y8 (s:Source) (aJ:si s):Tot (A6 s) λr=>r.2.2=true->hg r.1/\mn r.1 r.2.1:=by
 unfold A6
 refine .aK (t68 s aJ) λr ay=>Tot.cz (λ_=>.aB λh=>by cases h) (λh=>?_)
 have a':=ay (by simpa using h)
 refine .aK (OA r.1 a') λm hm=>.aB λh=>⟨a',?_⟩
 have h:m.2=0:=of_decide_eq_true h
 rcases hm with hm | hm
 ·exact hm.2
 ·omega
structure D7 (g:b') (m:List State) (cs:List Cell):Prop where
 tH:hg g
 WI:mn g m
 ce:yJ g m.length cs
theorem Ov (s:Source) (aJ:si s):Tot (A0 s) λr=>r.2.2.2=true->D7 r.1 r.2.1 r.2.2.1:=by
 unfold A0
 refine .aK (y8 s aJ) λr ay=>Tot.cz (λ_=>.aB λh=>by cases h) (λh=>?_)
 obtain ⟨a',hm⟩:=ay (by simpa using h)
 exact .aK (xd r.1 a' hm) λqd K2=>.aK (Oz r.1 a' hm qd K2.1 K2.2) λcs hF=>.aB λ_=>⟨a',hm,hF⟩
def xT (g:b') (p:Int):Int × Int:=match idx g.bc p with
 | some q=>match idx g.ba q.Prec with
  | some t=>(t.Level,t.fy)
  | none=>(0,0)
 | none=>(0,0)
def dec (g:b') (p t:Int):Int:=match idx g.ba t with
 | some k=>if (xT g p).1=0\/k.Level=0 then 0 else if (xT g p).1<k.Level then 1 else if k.Level<(xT g p).1 then 2 else if k.fy=1 then 2 else if k.fy=2 then 1 else 3
 | none=>0
theorem PM (g:b') (a':hg g) (p:Int) (aH:0<=p/\p<g.bc.length):Bk g p=some (xT g p):=by
 obtain ⟨q,bN,hm⟩:=nh aH.1 aH.2
 have aJ:=(a'.hz q hm).prec
 unfold Bk xT
 have d1:decide (p<0)=false:=decide_eq_false (by omega)
 have d2:decide ((g.bc.length:Int)<=p)=false:=decide_eq_false (by omega)
 rw [d1,d2,bN]
 simp only [cond_false,Option.bind_some]
 by_cases h:q.Prec<0
 ·rw [decide_eq_true h,GM (.inl h)]; rfl
 ·obtain ⟨t,aE,_⟩:=nh (l:=g.ba) (i:=q.Prec) (by omega) aJ.2
  rw [decide_eq_false h,aE]; rfl
theorem PK (g:b') (a':hg g) (p t:Int) (aH:0<=p/\p<g.bc.length) (aE:0<=t/\t<g.ba.length):Bc g p t=some (dec g p t):=by
 obtain ⟨k,hk,hm⟩:=nh aE.1 aE.2
 unfold Bc dec
 rw [PM g a' p aH,hk]
 have d1:decide (t<0)=false:=decide_eq_false (by omega)
 have d2:decide ((g.ba.length:Int)<=t)=false:=decide_eq_false (by omega)
 rw [d1,d2]
 generalize xT g p=x
 simp only [cond_false,Option.bind_some]
 by_cases h1:x.1=0
 ·simp [h1]
 ·by_cases al:k.Level=0
  ·simp [h1,al]
  ·rw [if_neg (by omega)]
   simp only [h1,al,decide_false,cond_false,Option.bind_some]
   by_cases aP:x.1<k.Level
   ·simp [aP]
   ·by_cases b3:k.Level<x.1
    ·simp [aP,b3]
    ·by_cases dF:k.fy=1
     ·simp [aP,b3,dF]
     ·by_cases e0:k.fy=2 <;> simp [aP,b3,dF,e0]
def rD (g:b') (c:Cell):Act:=match c.bc with
 | []=>if c.kT=true then ⟨3,0⟩ else ⟨1,c.js⟩
 | p::_=>if c.kT=true then ⟨3,0⟩ else if c.js<0 then ⟨2,p⟩ else if dec g p c.b5=2 then ⟨2,p⟩ else if dec g p c.b5=3 then ⟨4,0⟩ else ⟨1,c.js⟩
def xe (g:b') (c:Cell):List fL:=match c.bc with
 | []=>[]
 | p::r=>r.map (λx=>(⟨c.State,c.b5,p,x⟩:fL))++(if c.kT=true\/(0<=c.js/\dec g p c.b5=0) then [(⟨c.State,c.b5,-1,p⟩:fL)] else [])
structure ry (g:b') (n:Nat) (a:Act):Prop where
 k:0<=a.Kind/\a.Kind<=4
 hd:a.Kind=0->a.N=0
 np:a.Kind=1->0<=a.N/\a.N<n
 qh:a.Kind=2->pO g a.N
 TE:a.Kind=3->a.N=0
 WJ:a.Kind=4->a.N=0
theorem NL {g:b'}{n:Nat}{c:Cell}(h:oo g n c):ry g n (rD g c)/\(rD g c).Kind≠0:=by
 have Ah:=h.UW
 have bn:=h.f
 have a3:ry g n ⟨3,0⟩:=⟨⟨by decide,by decide⟩,λh=>(by cases h),λh=>(by cases h),λh=>(by cases h),λ_=>rfl,λh=>by cases h⟩
 have a4:ry g n ⟨4,0⟩:=⟨⟨by decide,by decide⟩,λh=>(by cases h),λh=>(by cases h),λh=>(by cases h),λ_=>rfl,λ_=>rfl⟩
 have aw:0<=c.js->ry g n ⟨1,c.js⟩:=λbd=>⟨⟨by show (0:Int)<=1; decide,by show (1:Int)<=4; decide⟩,λh=>(by cases h),λ_=>⟨bd,bn.2⟩,λh=>(by cases h),λh=>(by cases h),λh=>by cases h⟩
 have a2:∀ p∈c.bc,ry g n ⟨2,p⟩:=λp aH=>⟨⟨by show (0:Int)<=2; decide,by show (2:Int)<=4; decide⟩,λh=>(by cases h),λh=>(by cases h),λ_=>h.q p aH,λh=>(by cases h),λh=>by cases h⟩
 unfold rD
 unfold nQ at Ah
 cases du:c.bc with
 | nil =>
  simp only
  rw [du] at Ah
  by_cases h1:c.kT=true
  ·rw [if_pos h1]; exact ⟨a3,by decide⟩
  ·rw [if_neg h1]
   rw [if_neg h1] at Ah
   refine ⟨aw ?_,by show (1:Int)≠0; decide⟩
   by_cases al:0<=c.js
   ·exact al
   ·rw [if_neg al] at Ah; simp at Ah
 | cons p r =>
  simp only
  have aH:=a2 p (by rw [du]; simp)
  split
  ·exact ⟨a3,by decide⟩
  ·split
   ·exact ⟨aH,by show (2:Int)≠0; decide⟩
   ·split
    ·exact ⟨aH,by show (2:Int)≠0; decide⟩
    ·split
     ·exact ⟨a4,by decide⟩
     ·exact ⟨aw (by omega),by show (1:Int)≠0; decide⟩
theorem Jh {g:b'}(a':hg g) {n:Nat}{c:Cell}(h:oo g n c):(xe g c).length<=60:=by
 have ao:=h.len a'
 unfold xe
 cases du:c.bc with
 | nil=>simp
 | cons p r =>
  rw [du,List.length_cons] at ao
  simp only [List.length_append,List.length_map]
  split
  ·simp; omega
  ·simp; omega
theorem PJ (g:b') (a':hg g) {n:Nat}(c:Cell) (h:oo g n c):yg g c=some (rD g c,xe g c):=by
 have ao:=h.len a'
 suffices aM:Tot (yg g c) λr=>r=(rD g c,xe g c) by
  obtain ⟨r,ay,e⟩:=aM; rw [ay,e]
 unfold yg rD xe
 cases du:c.bc with
 | nil =>
  simp only
  refine .aK (Ξ:=λl:List fL=>l=[]) ?_ λl ao=>?_
  ·refine Tot.loop (λs=>s=(([]:List fL),(1:Int))) (λ_=>0) rfl (by show 0<1000000000000000000; omega) λs aM=>?_
   subst aM
   exact .aB rfl
  ·subst ao
   cases h1:c.kT
   ·exact .aB (by simp)
   ·exact .aB (by simp)
 | cons p r =>
  rw [du,List.length_cons] at ao
  simp only
  have kG:idx (p::r) 0=some p:=rfl
  refine .aK (Ξ:=λl:List fL=>l=r.map (λx=>(⟨c.State,c.b5,p,x⟩:fL))) ?_ λl ao=>?_
  ·refine Tot.count (λs=>s.2) ((r.length:Int)+1) (λs=>∃ k:Nat,k<=r.length/\s.2=((k+1:Nat):Int)/\s.1=(r.take k).map (λx=>(⟨c.State,c.b5,p,x⟩:fL))) ⟨0,Nat.zero_le _,rfl,rfl⟩ (by show (r.length:Int)+1 - 1<_; omega) λs aM=>?_
   obtain ⟨l,i⟩:=s
   obtain ⟨k,hk,he,bt⟩:=aM
   simp only at he bt ⊢
   subst he bt
   rw [fg (k+1) (by omega),kG]
   refine Tot.cb (λbg=>?_) (λeN=>.aB ?_)
   ·rw [List.length_cons] at bg
    have bg:k<r.length:=by omega
    have dy:idx (p::r) ((k+1:Nat):Int)=some r[k]:=by
     simp only [idx,if_pos (show (0:Int)<=((k+1:Nat):Int) by omega),Int.toNat_natCast,List.getElem?_cons_succ]
     exact List.getElem?_eq_getElem bg
    rw [dy]
    refine Tot.au (Tot.au (.aK (Ξ:=λ_=>True) (Tot.ap (by simp [lim]; omega) trivial) λ_ _=>.aB ⟨⟨k+1,by omega,rfl,?_⟩,by show ((k+1:Nat):Int)<((k+1+1:Nat):Int); omega,by show ((k+1+1:Nat):Int)<=(r.length:Int)+1; omega⟩))
    show _=(r.take (k+1)).map _
    rw [lB bg,List.map_append]; rfl
   ·rw [List.length_cons] at eN
    rw [List.take_of_length_le (by omega)]; rfl
  ·subst ao
   have aH:=h.q p (by rw [du]; simp)
   have EU:=PK g a' p c.b5 ⟨by have:=aH.1; omega,aH.2⟩ h.t
   have dl:decide (((p::r).length:Int)=0)=false:=decide_eq_false (by simp; omega)
   simp only [kG,EU,dl,cond_false,Option.bind_some]
   generalize tV:dec g p c.b5=v
   refine ⟨_,?_,rfl⟩
   have KE:eC (r.map (λx=>(⟨c.State,c.b5,p,x⟩:fL))) [(⟨c.State,c.b5,(-1),p⟩:fL)]=some (r.map (λx=>(⟨c.State,c.b5,p,x⟩:fL))++[⟨c.State,c.b5,(-1),p⟩]):=by
    unfold eC; rw [if_pos (by simp [lim]; omega)]
   cases h1:c.kT
   ·by_cases al:c.js<0
    ·have aP:¬ (0<=c.js):=by omega
     simp [al,aP]
    ·have aP:0<=c.js:=by omega
     by_cases b3:v=0
     ·simp [al,aP,b3,KE]
     ·by_cases dF:v=2
      ·simp [al,aP,dF]
      ·by_cases e0:v=3
       ·simp [al,aP,e0]
       ·simp [al,aP,b3,dF,e0]
   ·simp [KE]
def rowOf (g:b') (l:List Cell):List Act:=l.foldl (λrow c=>row.set c.b5.toNat (rD g c)) (List.replicate g.ba.length ⟨0,0⟩)
def iL (cs:List Cell) (q:Nat):List Cell:=cs.filter λc=>decide (c.State=(q:Int))
def go (m:List State) (q s:Int):Int:=(qj m q s).getD (-1)
theorem go_eq {g:b'}{m:List State}(hm:mn g m) (q s:Int):qj m q s=some (go m q s)/\GoTo m q s (go m q s):=by
 obtain ⟨r,ay,h⟩:=Cj m q s hm.vR
 unfold go
 rw [ay]
 exact ⟨rfl,h⟩
theorem Mh (g:b'):∀ (l:List Cell),(rowOf g l).length=g.ba.length:=λl=>by
 suffices h:∀ (l:List Cell) (r:List Act),(l.foldl (λrow c=>row.set c.b5.toNat (rD g c)) r).length=r.length by
  unfold rowOf; rw [h]; simp
 intro l
 induction l with
 | nil=>intro r; rfl
 | cons c l aR=>intro r; rw [List.foldl_cons,aR,List.length_set]
theorem Ug (g:b') (l:List Cell) (c:Cell):rowOf g (l++[c])=(rowOf g l).set c.b5.toNat (rD g c):=by
 unfold rowOf; rw [List.foldl_append]; rfl
theorem Ud {g:b'}{n:Nat}:∀ {l:List Cell},(∀ c∈l,oo g n c)->∀ a∈rowOf g l,ry g n a:=by
 intro l h
 suffices aM:∀ (l:List Cell) (r:List Act),(∀ c∈l,oo g n c)->(∀ a∈r,ry g n a)->∀ a∈l.foldl (λrow c=>row.set c.b5.toNat (rD g c)) r,ry g n a by
  refine aM l _ h λa bm=>?_
  rw [List.eq_of_mem_replicate bm]
  exact ⟨⟨by decide,by decide⟩,λ_=>rfl,λh=>(by cases h),λh=>(by cases h),λh=>(by cases h),λh=>by cases h⟩
 intro l
 induction l with
 | nil=>intro r _ ay; exact ay
 | cons c l aR =>
  intro r ao ay
  rw [List.foldl_cons]
  refine aR _ (λd aY=>ao d (by simp [aY])) λa bm=>?_
  rcases List.mem_or_eq_of_mem_set bm with h | h
  ·exact ay a h
  ·rw [h]; exact (NL (ao c (by simp))).1
def vd (g:b') (m:List State) (q:Nat):List Int:=(List.range g.bw.length).map λa:Nat=>go m q (1000+(a:Int))
def lH (g:b') (l:List Cell):List fL:=l.flatMap (xe g)
theorem EE {g:b'}(a':hg g) {n:Nat}:∀ {l:List Cell},(∀ c∈l,oo g n c)->(lH g l).length<=60 * l.length
 | [],_=>by simp [lH]
 | c::l,h=>by
  have h1:=Jh a' (h c (by simp))
  have al:=EE a' (l:=l) λd aY=>h d (by simp [aY])
  unfold lH at al ⊢
  rw [List.flatMap_cons,List.length_append,List.length_cons]
  omega
theorem MR {α:Type}{l:List α}{k:Nat}(h:k<l.length) (p:α->Bool):(l.take (k+1)).filter p=(l.take k).filter p++(if p l[k] then [l[k]] else []):=by
 rw [lB h,List.filter_append]
 congr 1
 rw [List.filter_cons]
 split <;> simp
structure D_ (g:b') (m:List State) (cs:List Cell) (d:jE):Prop where
 a:d.cQ=(List.range m.length).map λq=>rowOf g (iL cs q)
 o:d.cL=(List.range m.length).map λq=>vd g m q
theorem Ow (g:b') (m:List State) (cs:List Cell) (e9:D7 g m cs):Tot (A1 g m cs) λr=>D_ g m cs r.1/\r.2=(List.range m.length).flatMap λq=>lH g (iL cs q):=by
 obtain ⟨a',hm,ab⟩:=e9
 have aE:=a'.lC
 have aL:=a'.h6
 have F8:=hm.np
 have FG:=ab.n
 unfold A1
 refine .aK (Ξ:=λr:List (List Act) × List (List Int) × List fL=>r.1=(List.range m.length).map (λq=>rowOf g (iL cs q))/\r.2.1=(List.range m.length).map (λq=>vd g m q)/\r.2.2=(List.range m.length).flatMap λq=>lH g (iL cs q)) ?_ λr ay=>.aB ⟨⟨ay.1,ay.2.1⟩,ay.2.2⟩
 have vr:∀ q,(lH g (iL cs q)).length<=360000:=λq=>by
  have h1:=EE a' (l:=iL cs q) λc tR=>ab.ok c ((List.mem_filter.1 tR).1)
  have al:=List.length_filter_le (λc:Cell=>decide (c.State=(q:Int))) cs
  unfold iL at h1 ⊢
  omega
 have RO:∀ k,((List.range k).flatMap λq=>lH g (iL cs q)).length<=360000 * k:=λk=>by
  induction k with
  | zero=>simp
  | succ k aR =>
   rw [List.range_succ,List.flatMap_append,List.length_append]
   have:=vr k
   simp only [List.flatMap_cons,List.flatMap_nil,List.append_nil]
   omega
 refine Tot.upto (λs=>s.2.2.2) m.length (λk s=>s.1=(List.range k).map (λq=>rowOf g (iL cs q))/\s.2.1=(List.range k).map (λq=>vd g m q)/\s.2.2.1=(List.range k).flatMap λq=>lH g (iL cs q)) rfl (by omega) ⟨rfl,rfl,rfl⟩ λk s hk he bt=>?_
 obtain ⟨A,G,C,i⟩:=s
 obtain ⟨h1,al,aP⟩:=bt
 simp only at he h1 al aP ⊢
 subst he h1 al aP
 rw [fg k (by omega)]
 refine Tot.cb (λbg=>?_) (λeN=>.aB ?_)
 ·have bg:k<m.length:=by omega
  refine .aK (Ξ:=λr=>r=List.replicate g.ba.length (⟨0,0⟩:Act)) (Tot.mk (by simp [lim]; omega) (by simp)) λsh gM=>?_
  subst gM
  have Wf:=RO k
  refine .aK (Ξ:=λr:List fL × List Act=>r.1=(List.range k).flatMap (λq=>lH g (iL cs q))++lH g (iL cs k)/\r.2=rowOf g (iL cs k)) ?_ λr ay=>?_
  ·refine Tot.upto (λs=>s.2.2) cs.length (λaf s=>s.1=(List.range k).flatMap (λq=>lH g (iL cs q))++lH g (iL (cs.take af) k)/\s.2.1=rowOf g (iL (cs.take af) k)) rfl (by omega) ⟨by simp [iL,lH],by simp [iL,rowOf]⟩ λaf s aa he bt=>?_
   obtain ⟨C,R,i⟩:=s
   obtain ⟨h1,al⟩:=bt
   simp only at he h1 al ⊢
   subst he h1 al
   rw [fg af (by omega)]
   refine Tot.cb (λe1=>?_) (λeN=>.aB ?_)
   ·have e1:af<cs.length:=by omega
    have vq:=ab.ok _ (List.getElem_mem e1)
    have vt:=MR e1 (λc:Cell=>decide (c.State=(k:Int)))
    have Wz:(lH g (iL (cs.take af) k)).length<=360000:=by
     have h1:=EE a' (l:=iL (cs.take af) k) λc tR=>ab.ok c (List.mem_of_mem_take ((List.mem_filter.1 tR).1))
     have al:=List.length_filter_le (λc:Cell=>decide (c.State=(k:Int))) (cs.take af)
     rw [List.length_take] at al
     unfold iL at h1 ⊢
     omega
    rw [eQ e1]
    generalize cs[af]=c at *
    simp only [Option.bind_some]
    refine .aK (Ξ:=λr:List fL × List Act=>r.1=(List.range k).flatMap (λq=>lH g (iL cs q))++lH g (iL (cs.take (af+1)) k)/\r.2=rowOf g (iL (cs.take (af+1)) k)) ?_ λr ay=>.aB ⟨e1,rfl,ay⟩
    refine .aK (Ξ:=λr:List fL × List Act=>r.1=(List.range k).flatMap (λq=>lH g (iL cs q))++lH g (iL (cs.take (af+1)) k)/\r.2=rowOf g (iL (cs.take (af+1)) k)) (Tot.cb (λaM=>?_) (λaM=>.aB ?_)) λr ay=>.aB ay
    ·rw [decide_eq_true aM,if_pos rfl] at vt
     rw [PJ g a' c vq]
     simp only [Option.bind_some]
     have p9:=Mh g (iL (cs.take af) k)
     obtain ⟨a0,Fw,_⟩:=nh (l:=rowOf g (iL (cs.take af) k)) (i:=c.b5) vq.t.1 (by rw [p9]; exact vq.t.2)
     rw [Fw]
     have h3:=Jh a' vq
     refine Tot.au (.aK (Ξ:=λ_=>True) (Tot.ap (by rw [List.length_append]; simp only [lim]; omega) trivial) λ_ _=>.aB ⟨?_,?_⟩)
     ·show _=_++lH g ((cs.take (af+1)).filter _)
      rw [vt]
      unfold lH
      rw [List.flatMap_append,List.append_assoc]
      simp [iL]
     ·show _=rowOf g ((cs.take (af+1)).filter _)
      rw [vt,Ug]; rfl
    ·have:(if (decide (c.State=(k:Int)))=true then [c] else [])=[]:=by simp [aM]
     rw [this,List.append_nil] at vt
     unfold iL
     rw [vt]
     exact ⟨rfl,rfl⟩
   ·have e:cs.take af=cs:=List.take_of_length_le (by omega)
    rw [e]
    exact ⟨rfl,rfl⟩
  ·obtain ⟨C,R⟩:=r
   obtain ⟨h1,al⟩:=ay
   simp only at h1 al ⊢
   subst h1 al
   refine .aK (Ξ:=λr=>r=List.replicate g.bw.length (0:Int)) (Tot.mk (by simp [lim]; omega) (by simp)) λVA QM=>?_
   subst QM
   refine .aK (Ξ:=λr:List Int=>r=vd g m k) ?_ λr ay=>?_
   ·refine Tot.upto (λs=>s.2) g.bw.length (λaf s=>s.1.length=g.bw.length/\∀ i:Nat,i<af->s.1[i]?=some (go m k (1000+(i:Int)))) rfl (by omega) ⟨by simp,λi hi=>absurd hi (Nat.not_lt_zero _)⟩ λaf s aa he bt=>?_
    obtain ⟨L,i⟩:=s
    obtain ⟨h1,al⟩:=bt
    simp only at he h1 al ⊢
    subst he
    rw [fg af (by omega)]
    refine Tot.cb (λe1=>?_) (λeN=>.aB ?_)
    ·have e1:af<L.length:=by omega
     have hw:aO (1000+(af:Int))=1000+(af:Int):=by rw [dQ]; omega
     rw [hw,(go_eq hm k _).1,eQ e1]
     refine Tot.au (Tot.au (.aB ⟨by omega,rfl,?_,λi hi=>?_⟩))
     ·show (L.set _ _).length=_
      rw [List.length_set]; exact h1
     ·show (L.set (af:Int).toNat _)[i]?=_
      rw [Int.toNat_natCast,HM e1]
      by_cases e:i=af
      ·subst e; rw [if_pos rfl]
      ·rw [if_neg e]; exact al i (by omega)
    ·show L=vd g m k
     refine List.ext_getElem? λi=>?_
     unfold vd
     by_cases hi:i<g.bw.length
     ·rw [al i (by omega),List.getElem?_map,List.getElem?_range hi]; rfl
     ·rw [List.getElem?_eq_none (by omega),List.getElem?_eq_none (by simp; omega)]
   ·subst ay
    refine .aK (Ξ:=λ_=>True) (Tot.ap (by simp [lim]; omega) trivial) λ_ _=>.aK (Ξ:=λ_=>True) (Tot.ap (by simp [lim]; omega) trivial) λ_ _=>.aB ⟨bg,rfl,?_,?_,?_⟩
    ·show _=(List.range (k+1)).map _
     rw [List.range_succ,List.map_append]; rfl
    ·show _=(List.range (k+1)).map _
     rw [List.range_succ,List.map_append]; rfl
    ·show _=(List.range (k+1)).flatMap _
     rw [List.range_succ,List.flatMap_append]; simp
 ·have:k=m.length:=by omega
  subst this
  exact ⟨rfl,rfl,rfl⟩
structure r' (g:b') (n:Nat) (d:jE):Prop where
 hd:0<n/\n<=150
 tH:hg g
 a:d.cQ.length=n
 En:∀ r∈d.cQ,r.length=g.ba.length/\∀ a∈r,ry g n a
 o:d.cL.length=n
 vY:∀ r∈d.cL,r.length=g.bw.length/\∀ v∈r,-1<=v/\v<n
theorem D_.yY {g:b'}{m:List State}{cs:List Cell}{d:jE}(h:D_ g m cs d) (e9:D7 g m cs):r' g m.length d:=by
 obtain ⟨a',hm,ab⟩:=e9
 refine ⟨⟨hm.hd,hm.np⟩,a',by rw [h.a]; simp,λr ay=>?_,by rw [h.o]; simp,λr ay=>?_⟩
 ·rw [h.a] at ay
  obtain ⟨q,_,rfl⟩:=List.mem_map.1 ay
  exact ⟨Mh g _,Ud λc tR=>ab.ok c (List.mem_filter.1 tR).1⟩
 ·rw [h.o] at ay
  obtain ⟨q,_,rfl⟩:=List.mem_map.1 ay
  refine ⟨by simp [vd],λv hv=>?_⟩
  obtain ⟨a,_,rfl⟩:=List.mem_map.1 hv
  exact (go_eq hm q _).2.yY hm
theorem T7 {g:b'}(a':hg g) {n:Nat}{cs:List Cell}(ab:yJ g n cs) {f:Cell->Option Int}(bn:∀ c:Cell,c.bc.length<=1000->f c=some (nQ c:Int)):Tot (cS (R:=Int) (λ(s1:Int × Int) =>
(bif decide (s1.2<(cs.length:Int)) then
((idx cs s1.2).bind λbP =>
(f bP).bind λbz =>
((bif decide (1<bz) then
some (aO (s1.1+1))
else
some s1.1)).bind λfk =>
some fk).bind λnk =>
some (.inl (nk,aO (s1.2+1)))
else
some (.inr s1.1))) (0,0)) λr=>r=((cs.filter λc=>decide (1<nQ c)).length:Int):=by
 have FG:=ab.n
 refine Tot.upto (λs=>s.2) cs.length (λk s=>s.1=(((cs.take k).filter λc=>decide (1<nQ c)).length:Int)) rfl (by omega) rfl λk s hk he bt=>?_
 obtain ⟨z,i⟩:=s
 simp only at he bt ⊢
 subst he bt
 rw [fg k (by omega)]
 refine Tot.cb (λbg=>?_) (λeN=>.aB ?_)
 ·have bg:k<cs.length:=by omega
  have RE:=ab.ok _ (List.getElem_mem bg)
  have vt:=MR bg (λc:Cell=>decide (1<nQ c))
  have vr:=List.length_filter_le (λc:Cell=>decide (1<nQ c)) (cs.take k)
  rw [List.length_take] at vr
  rw [eQ bg]
  generalize cs[k]=c at *
  have h3:=RE.len a'
  rw [show (some c).bind=λ(f:Cell->Option Int)=>f c from rfl]
  simp only [bn c (by omega),Option.bind_some]
  refine .aK (Ξ:=λz:Int=>z=(((cs.take (k+1)).filter λc=>decide (1<nQ c)).length:Int)) ?_ λr ay=>.aB ⟨bg,rfl,ay⟩
  rw [vt]
  refine .aK (Ξ:=λz:Int=>z=(((cs.take k).filter (λc=>decide (1<nQ c))++if decide (1<nQ c)=true then [c] else []).length:Int)) (Tot.cb (λh=>.aB ?_) (λh=>.aB ?_)) λr ay=>.aB ay
  ·have:1<nQ c:=by omega
   rw [fg _ (by omega)]
   simp [this]
  ·have:¬ 1<nQ c:=by omega
   simp [this]
 ·have e:cs.take k=cs:=List.take_of_length_le (by omega)
  rw [e]; rfl
theorem y7 {g:b'}(a':hg g) {n:Nat}{cs:List Cell}(ab:yJ g n cs):Tot (A4 cs) λr=>r=((cs.filter λc=>decide (1<nQ c)).length:Int):=by
 unfold A4
 exact .aK (T7 a' ab JL) λr ay=>.aB ay
theorem sn (s:Source) (aJ:si s):Tot (yb s) λr=>r.2.2.2=true->∃ n,r' r.1 n r.2.1:=by
 unfold yb
 refine .aK (Ov s aJ) λr ay=>Tot.cz (λ_=>.aB λh=>by cases h) (λh=>?_)
 have e9:=ay (by simpa using h)
 exact .aK (Ow _ _ _ e9) λd aY=>.aK (y7 e9.tH e9.ce) λ_ _=>.aB λ_=>⟨_,aY.1.yY e9⟩
theorem PI (a:Act):v' a=mK a:=by
 have h1:decide (a.N<20000)=decide (a.N<=19999):=decide_eq_decide.2 (by omega)
 have al:decide (0<a.N)=decide (1<=a.N):=decide_eq_decide.2 (by omega)
 unfold v' mK
 rw [h1,al]
theorem u16 (a:Act):Tot (mK a) λ_=>True:=by
 unfold mK
 repeat' first | apply Tot.bi | refine Tot.cz (λ_=>?_) (λ_=>?_) | exact Tot.aB trivial | apply Tot.aB
theorem Cg (n:Int):∃ b c,wa n=some b/\mK b=some c/\(c=n\/(c=0/\b=⟨0,0⟩)):=by
 by_cases h1:1<=n/\n<=20000
 ·have e:aO (n - 1)=n - 1:=by rw [dQ]; omega
  have de:aO (n - 1+1)=n:=by rw [dQ]; omega
  refine ⟨⟨1,n - 1⟩,n,?_,?_,.inl rfl⟩
  ·simp [wa,h1,e]
  ·have:0<=n - 1/\n - 1<=19999:=by omega
   have jM:aO n=n:=by rw [dQ]; omega
   simp [mK,h1,this,jM]
 ·by_cases al:n<=-1/\-19999<=n
  ·have e:aO (-n)=-n:=by rw [dQ]; omega
   have de:aO n=n:=by rw [dQ]; omega
   have aP:¬ 1<=n:=by omega
   refine ⟨⟨2,-n⟩,n,?_,?_,.inl rfl⟩
   ·simp [wa,al,aP,e]
   ·have:1<=-n/\-n<=19999:=by omega
    simp [mK,this,de]
  ·by_cases aP:n=20001
   ·subst aP; exact ⟨⟨3,0⟩,20001,by decide,by decide,.inl rfl⟩
   ·by_cases b3:n=20002
    ·subst b3; exact ⟨⟨4,0⟩,20002,by decide,by decide,.inl rfl⟩
    ·refine ⟨⟨0,0⟩,0,?_,by decide,.inr ⟨rfl,rfl⟩⟩
     have f1:(decide (1<=n)&&decide (n<=20000))=false:=by simp; omega
     have f2:(decide (n<=-1)&&decide (-19999<=n))=false:=by simp; omega
     have g1:(bif decide (1<=n) then some (decide (n<=20000)) else some false)=some (decide (1<=n)&&decide (n<=20000)):=by cases decide (1<=n) <;> rfl
     have g2:(bif decide (n<=-1) then some (decide (-19999<=n)) else some false)=some (decide (n<=-1)&&decide (-19999<=n)):=by cases decide (n<=-1) <;> rfl
     unfold wa
     rw [g1,f1,g2,f2]
     simp [aP,b3]
theorem tz (a:Act):∃ c,mK a=some c/\(c=0\/wa c=some a):=by
 obtain ⟨c,ab,_⟩:=u16 a
 refine ⟨c,ab,?_⟩
 obtain ⟨K,N⟩:=a
 have g:∀ p q:Prop,∀ [Decidable p] [Decidable q],(bif decide p then some (decide q) else some false)=some (decide (p/\q)):=λp q _ _=>by
  by_cases aH:p <;> simp [aH]
 by_cases h1:K=1/\0<=N/\N<=19999
 ·obtain ⟨rfl,h1⟩:=h1
  have e:aO (N+1)=N+1:=by rw [dQ]; omega
  have de:aO (N+1 - 1)=N:=by rw [dQ]; omega
  simp [mK,h1,e] at ab
  subst ab
  have al:1<=N+1/\N+1<=20000:=by omega
  have jM:aO N=N:=by rw [dQ]; omega
  exact .inr (by simp [wa,al,jM])
 ·by_cases al:K=2/\1<=N/\N<=19999
  ·obtain ⟨rfl,al⟩:=al
   have e:aO (-N)=-N:=by rw [dQ]; omega
   have de:aO N=N:=by rw [dQ]; omega
   simp [mK,al,e] at ab
   subst ab
   have aP:¬ 1<=-N:=by omega
   have b3:-N<=-1/\-19999<=-N:=by omega
   exact .inr (by simp [wa,aP,b3,de])
  ·by_cases aP:K=3/\N=0
   ·obtain ⟨rfl,rfl⟩:=aP
    have:mK ⟨3,0⟩=some 20001:=by decide
    rw [this] at ab; cases ab
    exact .inr (by decide)
   ·by_cases b3:K=4/\N=0
    ·obtain ⟨rfl,rfl⟩:=b3
     have:mK ⟨4,0⟩=some 20002:=by decide
     rw [this] at ab; cases ab
     exact .inr (by decide)
    ·refine .inl ?_
     have uo:(bif decide (K=1) then (bif decide (0<=N) then some (decide (N<=19999)) else some false) else some false)=some false:=by
      rw [g]; by_cases h:K=1
      ·have:=λaS=>h1 ⟨h,aS⟩
       simp [h]; omega
      ·simp [h]
     have q_:(bif decide (K=2) then (bif decide (1<=N) then some (decide (N<=19999)) else some false) else some false)=some false:=by
      rw [g]; by_cases h:K=2
      ·have:=λaS=>al ⟨h,aS⟩
       simp [h]; omega
      ·simp [h]
     have Tr:(bif decide (K=3) then some (decide (N=0)) else some false)=some false:=by rw [g]; simp [aP]
     have G6:(bif decide (K=4) then some (decide (N=0)) else some false)=some false:=by rw [g]; simp [b3]
     unfold mK at ab
     rw [uo,q_,Tr,G6] at ab
     simpa using ab.symm
def ow (l:List Int) (v:Int):Prop:=(l=[]/\v=-1)\/(v∈l/\∀ x∈l,l.count x<l.count v\/(l.count x=l.count v/\v<=x))
theorem ow.uniq {l:List Int}{v w:Int}(h:ow l v) (aS:ow l w):v=w:=by
 rcases h with ⟨h1,al⟩ | ⟨h1,al⟩ <;> rcases aS with ⟨aP,b3⟩ | ⟨aP,b3⟩
 ·omega
 ·subst h1; cases aP
 ·subst aP; cases h1
 ·have a:=al w aP
  have b:=b3 v h1
  omega
theorem sv (l:List Int) (y x:Int):(l++[y]).count x=l.count x+(if y=x then 1 else 0):=by
 rw [List.count_append]
 by_cases e:y=x
 ·subst e; simp
 ·rw [if_neg e,List.count_eq_zero.2 λhm=>e (List.mem_singleton.1 hm).symm]
theorem Pz {l:List Int}{x:Int}(h:x∈l):0<l.count x:=List.count_pos_iff.2 h
theorem ow.snoc {l:List Int}{b y:Int}(h:ow l b) (bd:∀ x∈l,0<=x) (az:0<=y):ow (l++[y]) (if b<0\/(l++[y]).count b<(l++[y]).count y\/((l++[y]).count y=(l++[y]).count b/\y<b) then y else b):=by
 refine .inr ?_
 rcases h with ⟨rfl,rfl⟩ | ⟨aJ,hm⟩
 ·rw [if_pos (.inl (by decide))]
  refine ⟨by simp,λx J=>?_⟩
  rw [List.nil_append,List.mem_singleton] at J
  subst J; exact .inr ⟨rfl,Int.le_refl _⟩
 ·have KF:=bd b aJ
  have key:∀ x∈l++[y],x∈l\/x=y:=λx J=>by simpa using J
  have u7:(l++[y]).count y=l.count y+1:=by rw [sv,if_pos rfl]
  by_cases KH:b=y
  ·subst KH
   rw [if_neg (by omega)]
   refine ⟨by simp,λx J=>?_⟩
   rw [u7]
   by_cases e:x=b
   ·subst e; exact .inr ⟨u7,Int.le_refl _⟩
   ·rw [sv,if_neg (λh=>e h.symm)]
    rcases key x J with J | J
    ·have:=hm x J; omega
    ·exact absurd J e
  ·have EC:(l++[y]).count b=l.count b:=by rw [sv,if_neg (λh=>KH h.symm)]; rfl
   by_cases ab:b<0\/(l++[y]).count b<(l++[y]).count y\/((l++[y]).count y=(l++[y]).count b/\y<b)
   ·rw [if_pos ab]
    rw [EC,u7] at ab
    refine ⟨by simp,λx J=>?_⟩
    rw [u7]
    by_cases e:x=y
    ·subst e; exact .inr ⟨u7,Int.le_refl _⟩
    ·rw [sv,if_neg (λh=>e h.symm)]
     rcases key x J with J | J
     ·have:=hm x J; omega
     ·exact absurd J e
   ·rw [if_neg ab]
    rw [EC,u7] at ab
    refine ⟨by simp [aJ],λx J=>?_⟩
    rw [EC]
    by_cases e:x=y
    ·subst e; rw [u7]; omega
    ·rw [sv,if_neg (λh=>e h.symm)]
     rcases key x J with J | J
     ·have:=hm x J; omega
     ·exact absurd J e
theorem G7 {x:Int}(h:-1<=x/\x<=1000000):q' x=true:=by unfold q'; rw [decide_eq_true]; omega
theorem Ox (l:List Int) (ao:l.length<=100000) (bd:∀ x∈l,0<=x/\x<=1000000):Tot (wc l) (ow l):=by
 unfold wc
 refine .aK (Ξ:=ow l) ?_ λr ay=>.aB ay
 refine Tot.upto (λs=>s.2.2) l.length (λk s=>s.1.length=k/\(∀ x,(og s.1 x).getD 0=((l.take k).count x:Int))/\ow (l.take k) s.2.1) rfl (by omega) ⟨rfl,λx=>by simp [og],.inl ⟨rfl,rfl⟩⟩ λk s hk he bt=>?_
 obtain ⟨m,b,i⟩:=s
 obtain ⟨h1,al,aP⟩:=bt
 simp only at he h1 al aP ⊢
 subst he
 rw [fg k (by omega)]
 refine Tot.cb (λbg=>?_) (λeN=>.aB ?_)
 ·have bg:k<l.length:=by omega
  have az:=bd _ (List.getElem_mem bg)
  have gp:=lB bg
  have KA:∀ x∈l.take k,0<=x/\x<=1000000:=λx J=>bd x (List.mem_of_mem_take J)
  have h3:=List.count_le_length (a:=l[k]) (l:=l.take k)
  rw [eQ bg]
  generalize l[k]=y at *
  have aJ:-1<=b/\b<=1000000:=by
   rcases aP with ⟨_,rfl⟩ | ⟨h,_⟩
   ·omega
   ·have:=KA b h; omega
  rw [List.length_take] at h3
  have dy:ra q' 0 m y=some ((l.take k).count y:Int):=by unfold ra; rw [if_pos (G7 ⟨by omega,az.2⟩),al]
  have de:aO (((l.take k).count y:Int)+1)=(((l.take k).count y+1:Nat):Int):=fg _ (by omega)
  have jM:xU q' m y (((l.take k).count y+1:Nat):Int)=some ((y,(((l.take k).count y+1:Nat):Int))::m):=by
   unfold xU
   rw [G7 ⟨by omega,az.2⟩,Bool.true_and,if_pos (decide_eq_true (by simp only [lim]; omega))]
  have K4:∀ x,(og ((y,(((l.take k).count y+1:Nat):Int))::m) x).getD 0=((l.take (k+1)).count x:Int):=λx=>by
   rw [gp,sv]
   unfold og
   by_cases e:y=x
   ·subst e; rw [if_pos rfl,if_pos rfl]; rfl
   ·rw [if_neg e,if_neg e,al]; rfl
  have p2:∀ x,(-1<=x/\x<=1000000)->ra q' 0 ((y,(((l.take k).count y+1:Nat):Int))::m) x=some ((l.take (k+1)).count x:Int):=λx J=>by unfold ra; rw [if_pos (G7 J),K4]
  have aM:=aP.snoc (y:=y) (λx J=>(KA x J).1) az.1
  rw [<- gp] at aM
  have ja:=List.count_le_length (a:=y) (l:=l.take (k+1))
  have sO:=List.count_le_length (a:=b) (l:=l.take (k+1))
  rw [List.length_take] at ja sO
  simp only [Option.bind_some,dy,de,jM,p2 y ⟨by omega,az.2⟩,p2 b aJ]
  have hw:aO (((l.take (k+1)).count y:Int) - ((l.take (k+1)).count b:Int))=((l.take (k+1)).count y:Int) - ((l.take (k+1)).count b:Int):=by rw [dQ]; omega
  rw [hw]
  refine .aK (Ξ:=λr:List (Int × Int) × Int=>r.1=(y,(((l.take k).count y+1:Nat):Int))::m/\ow (l.take (k+1)) r.2) ?_ λr ay=>.aB ⟨bg,rfl,by rw [ay.1]; simp [h1],by rw [ay.1]; exact K4,ay.2⟩
  refine .aK (Ξ:=λc:Bool=>c=decide (b<0\/(l.take (k+1)).count b<(l.take (k+1)).count y\/((l.take (k+1)).count y=(l.take (k+1)).count b/\y<b))) ?_ λc ab=>?_
  ·refine Tot.cb (λh=>.aB (decide_eq_true (.inl h)).symm) (λh=>Tot.cb (λaS=>.aB (decide_eq_true (.inr (.inl (by omega)))).symm) (λaS=>Tot.cb (λal=>.aB ?_) (λal=>.aB (decide_eq_false (by omega)).symm)))
   exact decide_eq_decide.2 (by omega)
  ·subst ab
   refine .aK (Ξ:=λz=>z=(if b<0\/(l.take (k+1)).count b<(l.take (k+1)).count y\/((l.take (k+1)).count y=(l.take (k+1)).count b/\y<b) then y else b)) (Tot.cb (λh=>.aB (if_pos h).symm) (λh=>.aB (if_neg h).symm)) λz bJ=>.aB ⟨rfl,?_⟩
   show ow _ z
   rw [bJ]; exact aM
 ·have e:l.take k=l:=List.take_of_length_le (by omega)
  rw [e] at aP
  exact aP
theorem Oy (l:List Int) (ao:l.length<=100000) (bd:∀ x∈l,0<=x/\x<=1000000):Tot (uy l) (ow l):=by
 unfold uy
 refine .aK (Ξ:=λr:List Int=>gm jc r/\r.length<=l.length/\∀ x,x∈r↔x∈l) ?_ λD sH=>?_
 ·refine Tot.upto (λs=>s.2) l.length (λk s=>gm jc s.1/\s.1.length<=k/\∀ x,x∈s.1↔x∈l.take k) rfl (by omega) ⟨.nil,Nat.le_refl 0,λx=>by simp⟩ λk s hk he bt=>?_
  obtain ⟨r,i⟩:=s
  obtain ⟨h1,al,aP⟩:=bt
  simp only at he h1 al aP ⊢
  subst he
  rw [fg k (by omega)]
  refine Tot.cb (λbg=>?_) (λeN=>.aB ?_)
  ·have bg:k<l.length:=by omega
   have gp:=lB bg
   rw [eQ bg]
   generalize l[k]=y at *
   refine Tot.au (.aK (Ck r y h1 (by omega)) λff eX=>.aB ⟨bg,rfl,eX.1,by have:=eX.2.1; show ff.length<=k+1; omega,λx=>?_⟩)
   rw [gp,List.mem_append,List.mem_singleton,<- aP]
   exact eX.2.2 x
  ·have e:l.take k=l:=List.take_of_length_le (by omega)
   rw [e] at aP
   exact ⟨h1,by omega,aP⟩
 ·obtain ⟨QG,V4,CN⟩:=sH
  refine .aK (Ξ:=λr:Int=>ow l r) ?_ λr ay=>.aB ay
  refine Tot.upto (λs=>s.2.2) D.length (λk s=>(k=0/\s.1=-1/\s.2.1=0)\/(s.1∈D.take k/\s.2.1=(l.count s.1:Int)/\∀ x∈D.take k,l.count x<l.count s.1\/(l.count x=l.count s.1/\s.1<=x))) rfl (by omega) (.inl ⟨rfl,rfl,rfl⟩) λk s hk he bt=>?_
  obtain ⟨b,n,i⟩:=s
  simp only at he bt ⊢
  subst he
  rw [fg k (by omega)]
  refine Tot.cb (λbg=>?_) (λeN=>.aB ?_)
  ·have bg:k<D.length:=by omega
   have gp:=lB bg
   have Tc:=List.getElem_mem bg
   have q4:∀ x∈D.take k,x<D[k]:=λx J=>by
    obtain ⟨af,aa,rfl⟩:=List.mem_iff_getElem.1 J
    rw [List.length_take] at aa
    rw [List.getElem_take]
    exact LN.1 (IW QG (by omega) bg (by omega))
   rw [eQ bg]
   generalize D[k]=y at *
   have C_:=(CN y).1 Tc
   refine .aK (Ξ:=λr:Int × Int=>r.1∈D.take (k+1)/\r.2=(l.count r.1:Int)/\∀ x∈D.take (k+1),l.count x<l.count r.1\/(l.count x=l.count r.1/\r.1<=x)) ?_ λr ay=>.aB ⟨bg,rfl,.inr ay⟩
   refine .aK (Ξ:=λz:Int=>z=(l.count y:Int)) ?_ λz bJ=>?_
   ·refine Tot.upto (λs=>s.2) l.length (λaf s=>s.1=((l.take af).count y:Int)) rfl (by omega) (by simp) λaf s aa he bt=>?_
    obtain ⟨z,i⟩:=s
    simp only at he bt ⊢
    subst he bt
    rw [fg af (by omega)]
    refine Tot.cb (λe1=>?_) (λeN=>.aB ?_)
    ·have e1:af<l.length:=by omega
     have nc:=lB e1
     have h3:=List.count_le_length (a:=y) (l:=l.take af)
     rw [List.length_take] at h3
     rw [eQ e1]
     generalize l[af]=x at *
     simp only [Option.bind_some]
     refine .aK (Ξ:=λz:Int=>z=((l.take (af+1)).count y:Int)) ?_ λz bJ=>.aB ⟨e1,rfl,bJ⟩
     rw [nc,sv]
     refine .aK (Ξ:=λz:Int=>z=(((l.take af).count y+if x=y then 1 else 0:Nat):Int)) (Tot.cb (λe=>.aB ?_) (λe=>.aB ?_)) λz bJ=>.aB bJ
     ·rw [if_pos e,fg _ (by omega)]
     ·rw [if_neg e]; rfl
    ·have e:l.take af=l:=List.take_of_length_le (by omega)
     rw [e]; rfl
   ·subst bJ
    refine .aK (Ξ:=λr:Int × Int=>r.1∈D.take (k+1)/\r.2=(l.count r.1:Int)/\∀ x∈D.take (k+1),l.count x<l.count r.1\/(l.count x=l.count r.1/\r.1<=x)) ?_ λr ay=>.aB ay
    have Wd:=Pz C_
    rw [gp]
    have key:∀ x∈D.take k++[y],x∈D.take k\/x=y:=λx J=>by simpa using J
    refine Tot.cb (λab=>Tot.au (.aB ⟨by simp,rfl,λx J=>?_⟩)) (λab=>?_)
    ·rcases key x J with J | rfl
     ·rcases bt with ⟨rfl,_,_⟩ | ⟨h1,al,aP⟩
      ·simp at J
      ·have:=aP x J; show l.count x<l.count y\/_; omega
     ·exact .inr ⟨rfl,Int.le_refl _⟩
    ·rcases bt with ⟨rfl,_,rfl⟩ | ⟨h1,al,aP⟩
     ·omega
     ·refine .aB ⟨by simp [h1],al,λx J=>?_⟩
      rcases key x J with J | rfl
      ·exact aP x J
      ·have:=q4 b h1
       have ab:¬ ((n:Int)<(l.count x:Int)):=ab
       have al:n=(l.count b:Int):=al
       show l.count x<l.count b\/(l.count x=l.count b/\b<=x)
       omega
  ·have e:D.take k=D:=List.take_of_length_le (by omega)
   rw [e] at bt
   rcases bt with ⟨rfl,rfl,_⟩ | ⟨h1,al,aP⟩
   ·have:D=[]:=List.eq_nil_of_length_eq_zero (by omega)
    refine .inl ⟨?_,rfl⟩
    refine List.eq_nil_iff_forall_not_mem.2 λx J=>?_
    have:=(CN x).2 J
    subst_vars
    cases this
   ·exact .inr ⟨(CN b).1 h1,λx J=>aP x ((CN x).2 J)⟩
def ma (l:List Int):Int:=(uy l).getD (-1)
def Ec (l:List Int):Prop:=l.length<=100000/\∀ x∈l,0<=x/\x<=1000000
theorem Dv {l:List Int}(h:Ec l):wc l=some (ma l)/\uy l=some (ma l)/\ow l (ma l):=by
 obtain ⟨v,hv,h1⟩:=Ox l h.1 h.2
 obtain ⟨w,hw,al⟩:=Oy l h.1 h.2
 have e:ma l=w:=by unfold ma; rw [hw]; rfl
 have de:=h1.uniq al
 rw [e]
 exact ⟨by rw [hv,de],hw,al⟩
def kf {α:Type}(keep:α->Bool) (val:α->Int) (l:List α):List cE:=(l.zipIdx.filter λp=>keep p.1).map λp=>(⟨(p.2:Nat),val p.1⟩:cE)
theorem DD {α:Type}(keep:α->Bool) (val:α->Int) (l:List α) (x:α):kf keep val (l++[x])=kf keep val l++(if keep x=true then [(⟨l.length,val x⟩:cE)] else []):=by
 unfold kf
 rw [List.zipIdx_append,List.filter_append,List.map_append]
 congr 1
 cases h:keep x <;> simp [h]
theorem yn {α:Type}(keep:α->Bool) (val:α->Int) (l:List α):(kf keep val l).length<=l.length:=by
 unfold kf
 rw [List.length_map]
 refine Nat.le_trans (List.length_filter_le ..) ?_
 rw [List.length_zipIdx]; exact Nat.le_refl _
def red (r:List Act):List Int:=(r.filter λa=>decide (a.Kind=2)).map (·.N)
theorem Hy (r:List Act) (a:Act):red (r++[a])=red r++(if a.Kind=2 then [a.N] else []):=by
 unfold red
 rw [List.filter_append,List.map_append]
 congr 1
 by_cases h:a.Kind=2 <;> simp [h]
theorem DG (r:List Act):(red r).length<=r.length:=by
 unfold red
 rw [List.length_map]; exact List.length_filter_le ..
def mq (a:Act):Int:=(mK a).getD 0
theorem Jj (a:Act):v' a=some (mq a)/\mK a=some (mq a):=by
 obtain ⟨c,ab,_⟩:=u16 a
 have:mq a=c:=by unfold mq; rw [ab]; rfl
 rw [this,PI]
 exact ⟨ab,ab⟩
def la (d:Int) (a:Act):Bool:=!decide (a.Kind=0)&&(!decide (a.Kind=2)||!decide (a.N=d))
def r2 (r:List Act):Row:=⟨ma (red r),kf (la (ma (red r))) mq r⟩
def lP (d v:Int):Bool:=decide (0<=v)&&!decide (v=d)
def pos (c:List Int):List Int:=c.filter λv=>decide (0<=v)
theorem Mb (r:List Int) (a:Int):pos (r++[a])=pos r++(if 0<=a then [a] else []):=by
 unfold pos
 rw [List.filter_append]
 congr 1
 by_cases h:0<=a <;> simp [h]
def r3 (c:List Int):Row:=⟨ma (pos c),kf (lP (ma (pos c))) id c⟩
def fM (d:jE) (a:Nat):List Int:=d.cL.map λr=>r.getD a 0
theorem Me {g:b'}{n:Nat}(a':hg g) {r:List Act}(ao:r.length=g.ba.length) (h:∀ a∈r,ry g n a):Ec (red r):=by
 have aE:=a'.lC
 have aH:=a'.lR
 have:=DG r
 refine ⟨by omega,λx J=>?_⟩
 unfold red at J
 obtain ⟨a,bm,rfl⟩:=List.mem_map.1 J
 rw [List.mem_filter] at bm
 have hk:=(h a bm.1).qh (of_decide_eq_true bm.2)
 have h1:=hk.1
 have al:=hk.2
 omega
theorem Ma {c:List Int}(ao:c.length<=150) (h:∀ v∈c,v<150):Ec (pos c):=by
 have:=List.length_filter_le (λv:Int=>decide (0<=v)) c
 refine ⟨by unfold pos; omega,λx J=>?_⟩
 unfold pos at J
 rw [List.mem_filter] at J
 have h1:=h x J.1
 have al:=of_decide_eq_true J.2
 omega
theorem y4 (g:b') (n:Nat) (d:jE) (aY:r' g n d):Tot (yc d) λr=>r=d.cQ.map r2:=by
 have a':=aY.tH
 have aE:=a'.lC
 have aL:=aY.hd
 have bm:=aY.a
 unfold yc
 refine .aK (Ξ:=λr:List Row=>r=d.cQ.map r2) ?_ λr ay=>.aB ay
 refine Tot.upto (λs=>s.2) d.cQ.length (λk s=>s.1=(d.cQ.take k).map r2) rfl (by omega) rfl λk s hk he bt=>?_
 obtain ⟨R,i⟩:=s
 simp only at he bt ⊢
 subst he bt
 rw [fg k (by omega)]
 refine Tot.cb (λbg=>?_) (λeN=>.aB ?_)
 ·have bg:k<d.cQ.length:=by omega
  have gp:=lB bg
  obtain ⟨p9,xJ⟩:=aY.En _ (List.getElem_mem bg)
  simp only [eQ bg,Option.bind_some]
  generalize d.cQ[k]=r at *
  have nb:=Me a' p9 xJ
  obtain ⟨ze,zf,_⟩:=Dv nb
  refine .aK (Ξ:=λl:List Int=>l=red r) ?_ λl ao=>?_
  ·refine Tot.upto (λs=>s.2) r.length (λaf s=>s.1=red (r.take af)) rfl (by omega) rfl λaf s aa he bt=>?_
   obtain ⟨L,i⟩:=s
   simp only at he bt ⊢
   subst he bt
   rw [fg af (by omega)]
   refine Tot.cb (λe1=>?_) (λeN=>.aB ?_)
   ·have e1:af<r.length:=by omega
    have nc:=lB e1
    have hlen:=DG (r.take af)
    rw [List.length_take] at hlen
    simp only [eQ e1,Option.bind_some]
    generalize r[af]=a at *
    refine .aK (Ξ:=λL:List Int=>L=red (r.take (af+1))) ?_ λr ay=>.aB ⟨e1,rfl,ay⟩
    rw [nc,Hy]
    refine .aK (Ξ:=λL:List Int=>L=red (r.take af)++(if a.Kind=2 then [a.N] else [])) (Tot.cb (λh=>?_) (λh=>.aB ?_)) λr ay=>.aB ay
    ·rw [if_pos h]
     exact .aK (Ξ:=λ_=>True) (Tot.ap (by simp [lim]; omega) trivial) λ_ _=>.aB rfl
    ·rw [if_neg h,List.append_nil]
   ·have e:r.take af=r:=List.take_of_length_le (by omega)
    rw [e]; rfl
  ·subst ao
   rw [ze]
   refine Tot.au (.aK (Ξ:=λl:List cE=>l=kf (la (ma (red r))) mq r) ?_ λl ao=>?_)
   ·generalize ma (red r)=D
    refine Tot.upto (λs=>s.2) r.length (λaf s=>s.1=kf (la D) mq (r.take af)) rfl (by omega) rfl λaf s aa he bt=>?_
    obtain ⟨L,i⟩:=s
    simp only at he bt ⊢
    subst he bt
    rw [fg af (by omega)]
    refine Tot.cb (λe1=>?_) (λeN=>.aB ?_)
    ·have e1:af<r.length:=by omega
     have nc:=lB e1
     have hlen:=yn (la D) mq (r.take af)
     have fr:(r.take af).length=af:=by rw [List.length_take]; omega
     rw [List.length_take] at hlen
     simp only [eQ e1,Option.bind_some]
     generalize r[af]=a at *
     rw [(Jj a).1]
     refine .aK (Ξ:=λL:List cE=>L=kf (la D) mq (r.take (af+1))) ?_ λr ay=>.aB ⟨e1,rfl,ay⟩
     rw [nc,DD,fr]
     refine .aK (Ξ:=λc:Bool=>c=la D a) (Tot.cz (λh=>?_) (λh=>.aB ?_)) λc ab=>?_
     ·refine Tot.cz (λal=>.aB ?_) (λal=>.aB ?_)
      ·unfold la; rw [h,al]; rfl
      ·unfold la; rw [h,al]; rfl
     ·unfold la; rw [h]; rfl
     subst ab
     refine .aK (Ξ:=λL:List cE=>L=kf (la D) mq (r.take af)++(if la D a=true then [(⟨af,mq a⟩:cE)] else [])) (Tot.cz (λh=>?_) (λh=>.aB ?_)) λr ay=>.aB ay
     ·rw [if_pos h]
      exact Tot.au (.aK (Ξ:=λ_=>True) (Tot.ap (by simp [lim]; omega) trivial) λ_ _=>.aB rfl)
     ·rw [if_neg (by rw [h]; decide),List.append_nil]
    ·have e:r.take af=r:=List.take_of_length_le (by omega)
     rw [e]; rfl
   ·subst ao
    refine .aK (Ξ:=λ_=>True) (Tot.ap (by simp [lim]; omega) trivial) λ_ _=>.aB ⟨bg,rfl,?_⟩
    show _=(d.cQ.take (k+1)).map r2
    rw [gp,List.map_append]; rfl
 ·have e:d.cQ.take k=d.cQ:=List.take_of_length_le (by omega)
  rw [e]; rfl
theorem so (g:b') (n:Nat) (d:jE) (aY:r' g n d):Tot (AY d) λr=>r=d.cQ.map r2:=by
 have a':=aY.tH
 have aE:=a'.lC
 have aL:=aY.hd
 have bm:=aY.a
 unfold AY
 refine .aK (Ξ:=λr:List Row=>r=d.cQ.map r2) ?_ λr ay=>.aB ay
 refine Tot.upto (λs=>s.2) d.cQ.length (λk s=>s.1=(d.cQ.take k).map r2) rfl (by omega) rfl λk s hk he bt=>?_
 obtain ⟨R,i⟩:=s
 simp only at he bt ⊢
 subst he bt
 rw [fg k (by omega)]
 refine Tot.cb (λbg=>?_) (λeN=>.aB ?_)
 ·have bg:k<d.cQ.length:=by omega
  have gp:=lB bg
  obtain ⟨p9,xJ⟩:=aY.En _ (List.getElem_mem bg)
  simp only [eQ bg,Option.bind_some]
  generalize d.cQ[k]=r at *
  have nb:=Me a' p9 xJ
  obtain ⟨ze,zf,_⟩:=Dv nb
  refine .aK (Ξ:=λl:List Int=>l=red r) ?_ λl ao=>?_
  ·refine Tot.upto (λs=>s.2) r.length (λaf s=>s.1=red (r.take af)) rfl (by omega) rfl λaf s aa he bt=>?_
   obtain ⟨L,i⟩:=s
   simp only at he bt ⊢
   subst he bt
   rw [fg af (by omega)]
   refine Tot.cb (λe1=>?_) (λeN=>.aB ?_)
   ·have e1:af<r.length:=by omega
    have nc:=lB e1
    have hlen:=DG (r.take af)
    rw [List.length_take] at hlen
    simp only [eQ e1,Option.bind_some]
    generalize r[af]=a at *
    refine .aK (Ξ:=λL:List Int=>L=red (r.take (af+1))) ?_ λr ay=>.aB ⟨e1,rfl,ay⟩
    rw [nc,Hy]
    refine .aK (Ξ:=λL:List Int=>L=red (r.take af)++(if a.Kind=2 then [a.N] else [])) (Tot.cb (λh=>?_) (λh=>.aB ?_)) λr ay=>.aB ay
    ·rw [if_pos h]
     exact .aK (Ξ:=λ_=>True) (Tot.ap (by simp [lim]; omega) trivial) λ_ _=>.aB rfl
    ·rw [if_neg h,List.append_nil]
   ·have e:r.take af=r:=List.take_of_length_le (by omega)
    rw [e]; rfl
  ·subst ao
   rw [zf]
   refine Tot.au (.aK (Ξ:=λl:List cE=>l=kf (la (ma (red r))) mq r) ?_ λl ao=>?_)
   ·generalize ma (red r)=D
    refine Tot.upto (λs=>s.2) r.length (λaf s=>s.1=kf (la D) mq (r.take af)) rfl (by omega) rfl λaf s aa he bt=>?_
    obtain ⟨L,i⟩:=s
    simp only at he bt ⊢
    subst he bt
    rw [fg af (by omega)]
    refine Tot.cb (λe1=>?_) (λeN=>.aB ?_)
    ·have e1:af<r.length:=by omega
     have nc:=lB e1
     have hlen:=yn (la D) mq (r.take af)
     have fr:(r.take af).length=af:=by rw [List.length_take]; omega
     rw [List.length_take] at hlen
     simp only [eQ e1,Option.bind_some]
     generalize r[af]=a at *
     rw [(Jj a).2]
     refine .aK (Ξ:=λL:List cE=>L=kf (la D) mq (r.take (af+1))) ?_ λr ay=>.aB ⟨e1,rfl,ay⟩
     rw [nc,DD,fr]
     refine .aK (Ξ:=λc:Bool=>c=la D a) (Tot.cz (λh=>?_) (λh=>.aB ?_)) λc ab=>?_
     ·refine Tot.cz (λal=>.aB ?_) (λal=>.aB ?_)
      ·unfold la; rw [h,al]; rfl
      ·unfold la; rw [h,al]; rfl
     ·unfold la; rw [h]; rfl
     subst ab
     refine .aK (Ξ:=λL:List cE=>L=kf (la D) mq (r.take af)++(if la D a=true then [(⟨af,mq a⟩:cE)] else [])) (Tot.cz (λh=>?_) (λh=>.aB ?_)) λr ay=>.aB ay
     ·rw [if_pos h]
      exact Tot.au (.aK (Ξ:=λ_=>True) (Tot.ap (by simp [lim]; omega) trivial) λ_ _=>.aB rfl)
     ·rw [if_neg (by rw [h]; decide),List.append_nil]
    ·have e:r.take af=r:=List.take_of_length_le (by omega)
     rw [e]; rfl
   ·subst ao
    refine .aK (Ξ:=λ_=>True) (Tot.ap (by simp [lim]; omega) trivial) λ_ _=>.aB ⟨bg,rfl,?_⟩
    show _=(d.cQ.take (k+1)).map r2
    rw [gp,List.map_append]; rfl
 ·have e:d.cQ.take k=d.cQ:=List.take_of_length_le (by omega)
  rw [e]; rfl
theorem xf (d:jE) (a:Nat):(fM d a).length=d.cL.length:=by simp [fM]
theorem Cl {d:jE}{a q:Nat}(h:q<d.cL.length):(fM d a).take (q+1)=(fM d a).take q++[(d.cL[q]).getD a 0]:=by
 rw [lB (by rw [xf]; exact h)]
 congr 2
 simp [fM]
theorem Jk {g:b'}{n:Nat}{d:jE}(aY:r' g n d) {a:Nat}(bm:a<g.bw.length):∀ v∈fM d a,-1<=v/\v<n:=λv hv=>by
 unfold fM at hv
 obtain ⟨r,ay,rfl⟩:=List.mem_map.1 hv
 obtain ⟨h1,al⟩:=aY.vY r ay
 refine al _ ?_
 rw [List.getD_eq_getElem?_getD,List.getElem?_eq_getElem (by omega)]
 exact List.getElem_mem _
theorem Dd {r:List Int}{a:Nat}(h:a<r.length):idx r (a:Int)=some (r.getD a 0):=by
 rw [eQ h,List.getD_eq_getElem?_getD,List.getElem?_eq_getElem h]; rfl
theorem L' (c:List Int):(pos c).length<=c.length:=List.length_filter_le ..
theorem y5 (g:b') (n:Nat) (d:jE) (aY:r' g n d):Tot (yd d) λr=>r=(List.range g.bw.length).map λa=>r3 (fM d a):=by
 have a':=aY.tH
 have aE:=a'.h6
 have aL:=aY.hd
 have bm:=aY.o
 have bd:0<d.cL.length:=by omega
 obtain ⟨Sk,_⟩:=aY.vY _ (List.getElem_mem bd)
 have i0:idx d.cL 0=some d.cL[0]:=eQ (k:=0) bd
 unfold yd
 refine Tot.cb (λh=>absurd h (by omega)) (λ_=>?_)
 rw [i0]
 refine Tot.au (.aK (Ξ:=λr:List Row=>r=(List.range g.bw.length).map λa=>r3 (fM d a)) ?_ λr ay=>.aB ay)
 refine Tot.upto (λs=>s.2) g.bw.length (λk s=>s.1=(List.range k).map λa=>r3 (fM d a)) rfl (by omega) rfl λk s hk he bt=>?_
 obtain ⟨R,i⟩:=s
 simp only at he bt ⊢
 subst he bt
 rw [fg k (by omega)]
 refine Tot.cb (λbg=>?_) (λeN=>.aB ?_)
 ·have iD:k<g.bw.length:=by omega
  have nb:=Ma (c:=fM d k) (by rw [xf]; omega) λv hv=>by have:=(Jk aY iD v hv).2; omega
  obtain ⟨ze,zf,_⟩:=Dv nb
  have h3:=xf d k
  refine .aK (Ξ:=λl:List Int=>l=pos (fM d k)) ?_ λl ao=>?_
  ·refine Tot.upto (λs=>s.2) d.cL.length (λaf s=>s.1=pos ((fM d k).take af)) rfl (by omega) rfl λaf s aa he bt=>?_
   obtain ⟨L,i⟩:=s
   simp only at he bt ⊢
   subst he bt
   rw [fg af (by omega)]
   refine Tot.cb (λe1=>?_) (λeN=>.aB ?_)
   ·have e1:af<d.cL.length:=by omega
    have nc:=Cl (a:=k) e1
    have hlen:=L' ((fM d k).take af)
    rw [List.length_take] at hlen
    obtain ⟨p9,_⟩:=aY.vY _ (List.getElem_mem e1)
    simp only [eQ e1,Option.bind_some,Dd (show k<(d.cL[af]).length by omega)]
    generalize (d.cL[af]).getD k 0=v at *
    refine .aK (Ξ:=λL:List Int=>L=pos ((fM d k).take (af+1))) ?_ λr ay=>.aB ⟨e1,rfl,ay⟩
    rw [nc,Mb]
    refine .aK (Ξ:=λL:List Int=>L=pos ((fM d k).take af)++(if 0<=v then [v] else [])) (Tot.cb (λh=>?_) (λh=>.aB ?_)) λr ay=>.aB ay
    ·rw [if_pos h]
     exact .aK (Ξ:=λ_=>True) (Tot.ap (by simp [lim]; omega) trivial) λ_ _=>.aB rfl
    ·rw [if_neg h,List.append_nil]
   ·have e:(fM d k).take af=fM d k:=List.take_of_length_le (by omega)
    rw [e]; rfl
  ·subst ao
   rw [ze]
   refine Tot.au (.aK (Ξ:=λl:List cE=>l=kf (lP (ma (pos (fM d k)))) id (fM d k)) ?_ λl ao=>?_)
   ·generalize ma (pos (fM d k))=D
    refine Tot.upto (λs=>s.2) d.cL.length (λaf s=>s.1=kf (lP D) id ((fM d k).take af)) rfl (by omega) rfl λaf s aa he bt=>?_
    obtain ⟨L,i⟩:=s
    simp only at he bt ⊢
    subst he bt
    rw [fg af (by omega)]
    refine Tot.cb (λe1=>?_) (λeN=>.aB ?_)
    ·have e1:af<d.cL.length:=by omega
     have nc:=Cl (a:=k) e1
     have hlen:=yn (lP D) id ((fM d k).take af)
     have fr:((fM d k).take af).length=af:=by rw [List.length_take]; omega
     rw [fr] at hlen
     obtain ⟨p9,_⟩:=aY.vY _ (List.getElem_mem e1)
     simp only [eQ e1,Option.bind_some,Dd (show k<(d.cL[af]).length by omega)]
     generalize (d.cL[af]).getD k 0=v at *
     refine .aK (Ξ:=λL:List cE=>L=kf (lP D) id ((fM d k).take (af+1))) ?_ λr ay=>.aB ⟨e1,rfl,ay⟩
     rw [nc,DD,fr]
     refine .aK (Ξ:=λc:Bool=>c=lP D v) (Tot.cz (λh=>.aB ?_) (λh=>.aB ?_)) λc ab=>?_
     ·unfold lP; rw [h]; rfl
     ·unfold lP; rw [h]; rfl
     subst ab
     refine .aK (Ξ:=λL:List cE=>L=kf (lP D) id ((fM d k).take af)++(if lP D v=true then [(⟨af,id v⟩:cE)] else [])) (Tot.cz (λh=>?_) (λh=>.aB ?_)) λr ay=>.aB ay
     ·rw [if_pos h]
      exact .aK (Ξ:=λ_=>True) (Tot.ap (by simp [lim]; omega) trivial) λ_ _=>.aB rfl
     ·rw [if_neg (by rw [h]; decide),List.append_nil]
    ·have e:(fM d k).take af=fM d k:=List.take_of_length_le (by omega)
     rw [e]; rfl
   ·subst ao
    refine .aK (Ξ:=λ_=>True) (Tot.ap (by simp [lim]; omega) trivial) λ_ _=>.aB ⟨iD,rfl,?_⟩
    show _=(List.range (k+1)).map λa=>r3 (fM d a)
    rw [List.range_succ,List.map_append]; rfl
 ·have:k=g.bw.length:=by omega
  subst this; rfl
theorem y6 (g:b') (n:Nat) (d:jE) (aY:r' g n d):Tot (AZ d) λr=>r=(List.range g.bw.length).map λa=>r3 (fM d a):=by
 have a':=aY.tH
 have aE:=a'.h6
 have aL:=aY.hd
 have bm:=aY.o
 have bd:0<d.cL.length:=by omega
 obtain ⟨Sk,_⟩:=aY.vY _ (List.getElem_mem bd)
 have i0:idx d.cL 0=some d.cL[0]:=eQ (k:=0) bd
 have g0:decide ((0:Int)<(d.cL.length:Int))=true:=decide_eq_true (by omega)
 unfold AZ
 refine .aK (Ξ:=λr:List Row=>r=(List.range g.bw.length).map λa=>r3 (fM d a)) ?_ λr ay=>.aB ay
 refine Tot.upto (λs=>s.2) g.bw.length (λk s=>s.1=(List.range k).map λa=>r3 (fM d a)) rfl (by omega) rfl λk s hk he bt=>?_
 obtain ⟨R,i⟩:=s
 simp only at he bt ⊢
 subst he bt
 rw [fg k (by omega),g0,i0]
 simp only [cond_true,Option.bind_some]
 refine Tot.cb (λbg=>?_) (λeN=>.aB ?_)
 ·have iD:k<g.bw.length:=by omega
  have nb:=Ma (c:=fM d k) (by rw [xf]; omega) λv hv=>by have:=(Jk aY iD v hv).2; omega
  obtain ⟨ze,zf,_⟩:=Dv nb
  have h3:=xf d k
  refine .aK (Ξ:=λl:List Int=>l=pos (fM d k)) ?_ λl ao=>?_
  ·refine Tot.upto (λs=>s.2) d.cL.length (λaf s=>s.1=pos ((fM d k).take af)) rfl (by omega) rfl λaf s aa he bt=>?_
   obtain ⟨L,i⟩:=s
   simp only at he bt ⊢
   subst he bt
   rw [fg af (by omega)]
   refine Tot.cb (λe1=>?_) (λeN=>.aB ?_)
   ·have e1:af<d.cL.length:=by omega
    have nc:=Cl (a:=k) e1
    have hlen:=L' ((fM d k).take af)
    rw [List.length_take] at hlen
    obtain ⟨p9,_⟩:=aY.vY _ (List.getElem_mem e1)
    simp only [eQ e1,Option.bind_some,Dd (show k<(d.cL[af]).length by omega)]
    generalize (d.cL[af]).getD k 0=v at *
    refine .aK (Ξ:=λL:List Int=>L=pos ((fM d k).take (af+1))) ?_ λr ay=>.aB ⟨e1,rfl,ay⟩
    rw [nc,Mb]
    refine .aK (Ξ:=λL:List Int=>L=pos ((fM d k).take af)++(if 0<=v then [v] else [])) (Tot.cb (λh=>?_) (λh=>.aB ?_)) λr ay=>.aB ay
    ·rw [if_pos h]
     exact .aK (Ξ:=λ_=>True) (Tot.ap (by simp [lim]; omega) trivial) λ_ _=>.aB rfl
    ·rw [if_neg h,List.append_nil]
   ·have e:(fM d k).take af=fM d k:=List.take_of_length_le (by omega)
    rw [e]; rfl
  ·subst ao
   rw [zf]
   refine Tot.au (.aK (Ξ:=λl:List cE=>l=kf (lP (ma (pos (fM d k)))) id (fM d k)) ?_ λl ao=>?_)
   ·generalize ma (pos (fM d k))=D
    refine Tot.upto (λs=>s.2) d.cL.length (λaf s=>s.1=kf (lP D) id ((fM d k).take af)) rfl (by omega) rfl λaf s aa he bt=>?_
    obtain ⟨L,i⟩:=s
    simp only at he bt ⊢
    subst he bt
    rw [fg af (by omega)]
    refine Tot.cb (λe1=>?_) (λeN=>.aB ?_)
    ·have e1:af<d.cL.length:=by omega
     have nc:=Cl (a:=k) e1
     have hlen:=yn (lP D) id ((fM d k).take af)
     have fr:((fM d k).take af).length=af:=by rw [List.length_take]; omega
     rw [fr] at hlen
     obtain ⟨p9,_⟩:=aY.vY _ (List.getElem_mem e1)
     simp only [eQ e1,Option.bind_some,Dd (show k<(d.cL[af]).length by omega)]
     generalize (d.cL[af]).getD k 0=v at *
     refine .aK (Ξ:=λL:List cE=>L=kf (lP D) id ((fM d k).take (af+1))) ?_ λr ay=>.aB ⟨e1,rfl,ay⟩
     rw [nc,DD,fr]
     refine .aK (Ξ:=λc:Bool=>c=lP D v) (Tot.cz (λh=>.aB ?_) (λh=>.aB ?_)) λc ab=>?_
     ·unfold lP; rw [h]; rfl
     ·unfold lP; rw [h]; rfl
     subst ab
     refine .aK (Ξ:=λL:List cE=>L=kf (lP D) id ((fM d k).take af)++(if lP D v=true then [(⟨af,id v⟩:cE)] else [])) (Tot.cz (λh=>?_) (λh=>.aB ?_)) λr ay=>.aB ay
     ·rw [if_pos h]
      exact .aK (Ξ:=λ_=>True) (Tot.ap (by simp [lim]; omega) trivial) λ_ _=>.aB rfl
     ·rw [if_neg (by rw [h]; decide),List.append_nil]
    ·have e:(fM d k).take af=fM d k:=List.take_of_length_le (by omega)
     rw [e]; rfl
   ·subst ao
    refine .aK (Ξ:=λ_=>True) (Tot.ap (by simp [lim]; omega) trivial) λ_ _=>.aB ⟨iD,rfl,?_⟩
    show _=(List.range (k+1)).map λa=>r3 (fM d a)
    rw [List.range_succ,List.map_append]; rfl
 ·have:k=g.bw.length:=by omega
  subst this; rfl
theorem t49 (a:List cE) (h:a.length<=1000000):yf a a=some true:=by
 suffices aM:Tot (yf a a) λr=>r=true by
  obtain ⟨r,ay,e⟩:=aM; rw [ay,e]
 unfold yf
 refine Tot.rI (λh=>absurd rfl h) (λ_=>?_)
 refine .aK (Ξ:=iU (λ_=>True) (λ_:Bool=>False)) ?_ λx J=>by
  rcases x with x | x
  ·exact .aB rfl
  ·exact J.elim
 refine Tot.upto (λs=>s) a.length (λ_ _=>True) rfl (by omega) trivial λk i hk he _=>?_
 subst he
 rw [fg k (by omega)]
 refine Tot.cb (λbg=>?_) (λ_=>.aB trivial)
 have bg:k<a.length:=by omega
 simp only [eQ bg,Option.bind_some,decide_true,Bool.and_true,Bool.not_true,cond_false]
 exact .aB ⟨bg,rfl,trivial⟩
theorem t22 (a:List Row) (h:a.length<=1000000) (aH:∀ r∈a,r.rC.length<=1000000):rf a a=some true:=by
 suffices aM:Tot (rf a a) λr=>r=true by
  obtain ⟨r,ay,e⟩:=aM; rw [ay,e]
 unfold rf
 refine Tot.rI (λh=>absurd rfl h) (λ_=>?_)
 refine .aK (Ξ:=iU (λ_=>True) (λ_:Bool=>False)) ?_ λx J=>by
  rcases x with x | x
  ·exact .aB rfl
  ·exact J.elim
 refine Tot.upto (λs=>s) a.length (λ_ _=>True) rfl (by omega) trivial λk i hk he _=>?_
 subst he
 rw [fg k (by omega)]
 refine Tot.cb (λbg=>?_) (λ_=>.aB trivial)
 have bg:k<a.length:=by omega
 have ay:=aH _ (List.getElem_mem bg)
 simp only [eQ bg,Option.bind_some,t49 _ ay,decide_true,Bool.not_true,cond_false]
 exact .aB ⟨bg,rfl,trivial⟩
theorem Ui {g:b'}{n:Nat}{d:jE}(aY:r' g n d):rf (d.cQ.map r2) (d.cQ.map r2)=some true:=by
 have aL:=aY.hd
 have bm:=aY.a
 have aE:=aY.tH.lC
 refine t22 _ (by rw [List.length_map]; omega) λr ay=>?_
 obtain ⟨x,J,rfl⟩:=List.mem_map.1 ay
 have:=(aY.En x J).1
 have:=yn (la (ma (red x))) mq x
 show (kf _ _ _).length<=_
 omega
theorem Uj {g:b'}{n:Nat}{d:jE}(aY:r' g n d):rf ((List.range g.bw.length).map λa=>r3 (fM d a)) ((List.range g.bw.length).map λa=>r3 (fM d a))=some true:=by
 have aL:=aY.hd
 have bm:=aY.o
 have aE:=aY.tH.h6
 refine t22 _ (by rw [List.length_map,List.length_range]; omega) λr ay=>?_
 obtain ⟨x,J,rfl⟩:=List.mem_map.1 ay
 have:=yn (lP (ma (pos (fM d x)))) id (fM d x)
 have:=xf d x
 show (kf _ _ _).length<=_
 omega
theorem U3 {α:Type}(a b:α) {i:Int}(bd:0<=i) (h:i<(([a,b]:List α).length:Int)):∃ y,idx [a,b] i=some y/\(y=a\/y=b):=by
 obtain ⟨y,az,hm⟩:=nh bd h
 exact ⟨y,az,by simpa using hm⟩
theorem t5 (s:Source) (x:rv):A5 s x=some true:=by
 suffices h:Tot (A5 s x) λr=>r=true by
  obtain ⟨r,ay,e⟩:=h; rw [ay,e]
 unfold A5
 rw [Ve]
 refine Tot.au (.aK (t19 s) λa8 aP=>.aK (t20 x) λb4 b3=>?_)
 refine Tot.aK (Ξ:=iU (λ_=>True) (λ_=>False)) ?_ λr ay=>by
  rcases r with r | r
  ·exact .aB rfl
  ·exact ay.elim
 refine Tot.count (λs=>s) 2 (λs=>0<=s) (Int.le_refl _) (by decide) λi hi=>?_
 refine Tot.cb (λbg=>?_) (λ_=>.aB trivial)
 have up:(0<=aO (i+1))/\i<aO (i+1)/\aO (i+1)<=2:=by
  have:i<2:=bg
  rw [dQ]; omega
 obtain ⟨y,az,eH⟩:=U3 a8 b4 hi bg
 have aJ:si y:=by rcases eH with rfl | rfl <;> assumption
 rw [az]
 refine Tot.au (.aK (sn y aJ) λd aY=>?_)
 refine .aK (Ξ:=λc=>c=false) (Tot.cz (λh=>?_) (λ_=>.aB rfl)) λc ab=>by
  subst ab; exact .aB ⟨up.1,up.2⟩
 obtain ⟨n,aY⟩:=aY h
 obtain ⟨ql,dy,h1⟩:=y4 _ _ _ aY
 obtain ⟨gx,de,al⟩:=so _ _ _ aY
 obtain ⟨s8,jM,aP⟩:=y5 _ _ _ aY
 obtain ⟨rh,p2,b3⟩:=y6 _ _ _ aY
 subst h1 al aP b3
 simp only [dy,de,jM,p2,Option.bind_some,Ui aY,Uj aY,Bool.not_true,cond_false]
 exact .aB rfl
theorem Ch (P:List cE) (i:Int) (h:P.length<=1000000):Tot (L9 P i) λr=>(∃ v,(⟨i,v⟩:cE)∈P/\r=(v,true))\/((∀ v,(⟨i,v⟩:cE)∉P)/\r=(0,false)):=by
 unfold L9
 refine .aK (Ξ:=iU (λ_=>∀ v,(⟨i,v⟩:cE)∉P) (λr:Int × Bool=>∃ v,(⟨i,v⟩:cE)∈P/\r=(v,true))) ?_ λx J=>?_
 ·refine Tot.upto (λs=>s) P.length (λk _=>∀ v,(⟨i,v⟩:cE)∉P.take k) rfl (by omega) (by simp) λk s hk he bt=>?_
  subst he
  rw [fg k (by omega)]
  refine Tot.cb (λbg=>?_) (λ_=>.aB ?_)
  ·have bg:k<P.length:=by omega
   have gp:=lB bg
   have hm:=List.getElem_mem bg
   simp only [eQ bg,Option.bind_some]
   generalize P[k]=p at *
   refine Tot.cb (λe=>.aB ⟨p.pT,by rw [<- e]; exact hm,rfl⟩) (λe=>.aB ⟨bg,rfl,λv hv=>?_⟩)
   rw [gp,List.mem_append,List.mem_singleton] at hv
   rcases hv with hv | hv
   ·exact bt v hv
   ·exact e (by rw [<- hv])
  ·have e:P.take k=P:=List.take_of_length_le (by omega)
   rw [e] at bt
   exact bt
 ·rcases x with x | x
  ·exact .aB (.inr ⟨J,rfl⟩)
  ·exact .aB (.inl J)
theorem tA (r:List Act) (n:Int) (h:r.length<=100000):Ht r n=some ((red r).count n:Int):=by
 suffices aM:Tot (Ht r n) λz=>z=((red r).count n:Int) by
  obtain ⟨z,bJ,e⟩:=aM; rw [bJ,e]
 unfold Ht
 refine .aK (Ξ:=λz:Int=>z=((red r).count n:Int)) ?_ λz bJ=>.aB bJ
 refine Tot.upto (λs=>s.2) r.length (λk s=>s.1=((red (r.take k)).count n:Int)) rfl (by omega) (by simp [red]) λk s hk he bt=>?_
 obtain ⟨z,i⟩:=s
 simp only at he bt ⊢
 subst he bt
 rw [fg k (by omega)]
 refine Tot.cb (λbg=>?_) (λeN=>.aB ?_)
 ·have bg:k<r.length:=by omega
  have gp:=lB bg
  have h1:=List.count_le_length (a:=n) (l:=red (r.take k))
  have al:=DG (r.take k)
  rw [List.length_take] at al
  simp only [eQ bg,Option.bind_some]
  generalize r[k]=a at *
  refine .aK (Ξ:=λz:Int=>z=((red (r.take (k+1))).count n:Int)) ?_ λz bJ=>.aB ⟨bg,rfl,bJ⟩
  rw [gp,Hy]
  refine .aK (Ξ:=λc:Bool=>c=decide (a.Kind=2/\a.N=n)) (Tot.cb (λh=>.aB ?_) (λh=>.aB ?_)) λc ab=>?_
  ·exact decide_eq_decide.2 ⟨λaS=>⟨h,aS⟩,λaS=>aS.2⟩
  ·exact (decide_eq_false λaS=>h aS.1).symm
  subst ab
  refine .aK (Ξ:=λz:Int=>z=((red (r.take k)++if a.Kind=2 then [a.N] else []).count n:Int)) (Tot.cb (λh=>.aB ?_) (λh=>.aB ?_)) λz bJ=>.aB bJ
  ·rw [if_pos h.1,sv,if_pos h.2,fg _ (by omega)]
  ·by_cases aP:a.Kind=2
   ·rw [if_pos aP,sv,if_neg λaS=>h ⟨aP,aS⟩]; rfl
   ·rw [if_neg aP,List.append_nil]
 ·have e:r.take k=r:=List.take_of_length_le (by omega)
  rw [e]; rfl
end Go.Proofs
namespace Go.Own
open Go
section
variable {P:Program}{N:dW}{ops:Array Oper}{cc:List (List Nat)}{g g0:aZ}{K:aZ->Prop}{l:List Oper}{acc:Acc}{d i af ds:Nat}{op:Op}{ty:TypeId}{pos:String}{after:Array Edge}{x:aj}{b c:Bool}
theorem cF (aJ:c=!b) (hk:aq P N ops l (e' g d (.cG [])) K) (h:(ops[af]?).bind (·.dst)=some ds:=by rfl) (a':g ds=some (.lit (.bool c)):=by rfl) (bY:N.ok d=true:=by rfl) (bn:g d=none:=by rfl):aq P N ops (⟨some d,op,ty,pos,after,some (af,b)⟩::l) g K:=.ps h a' aJ bY bn hk
theorem hh (hk:aq P N ops l (e' g d (.cG [])) K) (h:(ops[af]?).bind (·.dst)=some ds:=by rfl) (a':g ds=some (.cG []):=by rfl) (bY:N.ok d=true:=by rfl) (bn:g d=none:=by rfl):aq P N ops (⟨some d,op,ty,pos,after,some (af,b)⟩::l) g K:=.pu h a' bY bn hk
theorem aW (aJ:c=b) (aH:dJ P g op ty x) (hk:aq P N ops l (e' g d x) K) (h:(ops[af]?).bind (·.dst)=some ds:=by rfl) (a':g ds=some (.lit (.bool c)):=by rfl) (bY:N.ok d=true:=by rfl) (bn:g d=none:=by rfl):aq P N ops (⟨some d,op,ty,pos,after,some (af,b)⟩::l) g K:=.v aH bY bn (.hf h a' aJ) hk
theorem Nt (hk:aq P N ops l (e' g d (.cG [])) K) (h:(ops[af]?).bind (·.dst)=some ds:=by rfl) (a':g ds=some (.lit (.bool c)):=by rfl) (aJ:c=!b:=by assumption) (bY:N.ok d=true:=by rfl) (bn:g d=none:=by rfl):aq P N ops (⟨some d,op,ty,pos,after,some (af,b)⟩::l) g K:=.ps h a' aJ bY bn hk
theorem fI (aH:dJ P g op ty x) (hk:aq P N ops l (e' g d x) K) (h:(ops[af]?).bind (·.dst)=some ds:=by rfl) (a':g ds=some (.lit (.bool c)):=by rfl) (aJ:c=b:=by assumption) (bY:N.ok d=true:=by rfl) (bn:g d=none:=by rfl):aq P N ops (⟨some d,op,ty,pos,after,some (af,b)⟩::l) g K:=.v aH bY bn (.hf h a' aJ) hk
theorem bS (dr:Nat) (aJ:c=!b) (hk:bC P N ops cc g0 i ((dr,d,some (.cG []))::acc) l K) (h:(ops[af]?).bind (·.dst)=some ds:=by rfl) (a':oh cc g0 dr acc ds=some (a1 c):=by rfl) (aa:Nat.beq ops.size (dr+l.length+1)=true:=by rfl) (bn:g0 d=none:=by rfl) (aL:acc.all (λe=>!Nat.beq e.2.1 d)=true:=by rfl) (bY:N.ok d=true:=by rfl):bC P N ops cc g0 i acc (⟨some d,op,ty,pos,after,some (af,b)⟩::l) K:=.ps dr h a' aJ aa bn aL bY hk
theorem fm (dr:Nat) (hk:bC P N ops cc g0 i ((dr,d,some (.cG []))::acc) l K) (h:(ops[af]?).bind (·.dst)=some ds:=by rfl) (a':oh cc g0 dr acc ds=some (.cG []):=by rfl) (aa:Nat.beq ops.size (dr+l.length+1)=true:=by rfl) (bn:g0 d=none:=by rfl) (aL:acc.all (λe=>!Nat.beq e.2.1 d)=true:=by rfl) (bY:N.ok d=true:=by rfl):bC P N ops cc g0 i acc (⟨some d,op,ty,pos,after,some (af,b)⟩::l) K:=.pu dr h a' aa bn aL bY hk
theorem b8 (dr:Nat) (aJ:c=b) (aH:dJ P (oh cc g0 dr acc) op ty x) (hk:bC P N ops cc g0 i ((dr,d,some x)::acc) l K) (h:(ops[af]?).bind (·.dst)=some ds:=by rfl) (a':oh cc g0 dr acc ds=some (.lit (.bool c)):=by rfl) (aa:Nat.beq ops.size (dr+l.length+1)=true:=by rfl) (bn:g0 d=none:=by rfl) (aL:acc.all (λe=>!Nat.beq e.2.1 d)=true:=by rfl) (bY:N.ok d=true:=by rfl):bC P N ops cc g0 i acc (⟨some d,op,ty,pos,after,some (af,b)⟩::l) K:=.v dr aH aa bn aL bY (.hf h a' aJ) hk
end
section
variable {P:Program}{N:dW}{ops:Array Oper}{g:aZ}{K:aZ->Prop}{l:List Oper}{A B:Code}{G G1:List (Nat × aj)}{Φ:Exit->aZ->Prop}{t id:Nat}{b:Bool}{α:Type}{X Y o:α}
theorem W.bu (h:(bif b then X else Y)=o) (ab:get G t=some (a1 b)) (fP:b=true->X=o->W P N A (get G) Φ) (aQ:b=false->Y=o->W P N B (get G) Φ):W P N (.cond (.tmp t) A B) (get G) Φ:=W.cB ab (λe=>fP e (OM e h)) (λe=>aQ e (OL e h))
def pick (g:aZ):List Nat->Option (List (Nat × aj))
 | []=>some []
 | k::ks=>match g k with
  | some x=>match pick g ks with
   | some l=>some ((k,x)::l)
   | none=>none
  | none=>none
class yP (l:List (Nat × aj)):Prop where p:∀ e∈l,dp e.2
instance:yP []:=⟨λ_ h=>by cases h⟩
instance {k:Nat}{x:aj}{l:List (Nat × aj)} [h:cV x] [ao:yP l]:yP ((k,x)::l):=⟨λe he=>by
 rcases List.mem_cons.1 he with rfl | he
 ·exact h.bI
 ·exact ao.p e he⟩
theorem Hv {c:Bool}{g g2:aZ}:∀ {ks:List Nat}{G1:List (Nat × aj)},pick g ks=some G1->(∀ e∈G1,dp e.2)->Trim c g g2 G1
 | [],_,h,_=>by cases h; exact .nil
 | k::ks,G1,h,aL=>by
  unfold pick at h
  split at h
  ·rename_i x J
   split at h
   ·rename_i l ao
    cases h
    have:cV x:=⟨aL (k,x) (by simp)⟩
    exact .n J (Hv ao λe he=>aL e (by simp [he]))
   ·cases h
  ·cases h
structure wY (ks:List Nat) (G1:List (Nat × aj)) (g':aZ):Prop where p:kZ g' (get G1)
theorem bK {ks:List Nat}(h:pick g ks=some G1) [aL:yP G1]:aq P N ops [] g (wY ks G1):=.nil ⟨(Hv (c:=true) (g2:=get G1) h aL.p).gd⟩
theorem LJ {l:List Oper}{ks:List Nat}(h:aq P N l.toArray l g (wY ks G1)):aq P N l.toArray l g λg'=>kZ g' (get G1):=λi hi=>by
 obtain ⟨g',h1,al⟩:=h i hi
 exact ⟨g',h1,al.p⟩
theorem aq.bk (ks:List Nat) (h:pick g ks=some G1) [aL:yP G1] (hk:aq P N ops l (get G1) K):aq P N ops l g K:=.T9 (Hv h aL.p) hk
theorem W.bk {l:List Oper}(ks:List Nat) (h:aq P N l.toArray l (get G) (wY ks G1)) (hk:ah .normal Φ G1):W P N (.region id l.toArray false) (get G) Φ:=W.rx G1 (LJ h) hk
theorem W.rs {l:List Oper}(G1:List (Nat × aj)) (h:aq P N l.toArray l (get G) λg'=>kZ g' (get G1)) (hk:W P N B (get G1) Φ):W P N (.seq (.region id l.toArray false) B) (get G) Φ:=W.aX (W.rx G1 h (ah.aU hk))
theorem W.bV {l:List Oper}(ks:List Nat) (h:aq P N l.toArray l (get G) (wY ks G1)) (hk:W P N B (get G1) Φ):W P N (.seq (.region id l.toArray false) B) (get G) Φ:=W.rs G1 (LJ h) hk
end
end Go.Own
namespace Go.Own
open Go
class gU (P:Program) (t:TypeId):Prop where p:hB P t=true
class sb (P:Program) (t:TypeId):Prop where p:oU P t=true
class hb (P:Program) (t:TypeId) (e:outParam TypeId) (z:outParam Nat):Prop where p:fB P t e z=true
class dV (P:Program) (s:TypeId) (f:Nat) (off:outParam Nat) (t:outParam TypeId):Prop where p:dP P s f off t=true
section
variable {P:Program}{N:dW}{ops:Array Oper}{g:aZ}{K:aZ->Prop}{l:List Oper}{ty t:TypeId}{a:Operand}{k r z n:Nat}{cs jL:List aj}
theorem O.cq {v:Value}(aM:g r=some (.obj cs)) (J:Rd g a (.ptr ⟨r,[]⟩ k)) (aE:hB P t=true) (ab:cs[k]?=some (.lit v)):dJ P g (.load t a) ty (.lit v):=O.cU aM J aE ab rfl
theorem O.xR (aM:g r=some (.obj cs)) (J:Rd g a (.ptr ⟨r,[]⟩ k)) (aE:hB P t=true) (ab:cs[k]?=some (.aF z n jL)):dJ P g (.load t a) ty (.aF z n jL):=O.cU aM J aE ab rfl
theorem O.xS (aM:g r=some (.obj cs)) (J:Rd g a (.ptr ⟨r,[]⟩ k)) (aE:hB P t=true) (ab:cs[k]?=some (.own z n jL)):dJ P g (.load t a) ty (.bl z ⟨r,[k]⟩ n):=O.cU aM J aE ab rfl
end
section
variable {P:Program}{N:dW}{ops:Array Oper}{g:aZ}{K:aZ->Prop}{l:List Oper}{t0 d:Nat}{t1 t2 ty:TypeId}{aw a2 a3:Operand}{np:Nat}{v0:Value}{pos:String}{after:Array Edge}{op:Op}{VQ:Nat × Bool}
theorem aq.hP (op:Op) (u:Option (Nat × Bool)) (h:aq P N ops (⟨some d,op,ty,pos,after,u⟩::l) g K):aq P N ops (⟨some d,op,ty,pos,after,u⟩::l) g K:=h
theorem aq.nl (h:aq P N ops [] g K):aq P N ops [] g K:=h
theorem aq.aV (h:aq P N ops l g K:=by
(repeat' (first
 | exact nS .nil
 | exact .nil
 | refine .n rfl ?_
 | (first
  | ((with_reducible apply aq.hP (.move (.tmp _)) none); (first | refine bp rfl ?_ | refine ai (O.aC (.aF rfl)) ?_ | refine ai (O.aC (.own rfl)) ?_ | refine ai (O.aC (.obj rfl)) ?_ | refine ai (O.aC (.bo rfl)) ?_ | refine ai (O.aC (.ptr rfl)) ?_ | refine ai (O.aC (.bl rfl)) ?_))
  | ((with_reducible apply aq.hP (.load _ _) none); (first | refine ai (O.cq rfl (.ptr rfl) gU.p rfl) ?_ | refine ai (O.dd (.bo rfl) gU.p rfl) ?_ | refine ai (O.xR rfl (.ptr rfl) gU.p rfl) ?_ | refine ai (O.cq rfl (.obj rfl) gU.p rfl) ?_ | refine ai (O.xR rfl (.obj rfl) gU.p rfl) ?_ | refine ai (O.xS rfl (.ptr rfl) gU.p rfl) ?_ | refine ai (O.xS rfl (.obj rfl) gU.p rfl) ?_))
  | ((with_reducible apply aq.hP (.fieldAddr _ _ _) none); (first | refine ai (O.a_ rfl (.obj rfl) dV.p rfl) ?_ | refine ai (O.ez (.bo rfl) dV.p) ?_ | refine ai (O.a_ rfl (.ptr rfl) dV.p rfl) ?_))
  | ((with_reducible apply aq.hP (.assign (.tmp _)) none); (first | refine ID rfl ?_ | refine ai (O.ec (.aF rfl)) ?_ | refine ai (O.ec (.own rfl)) ?_ | refine ai (O.ec (.obj rfl)) ?_ | refine ai (O.ec (.bo rfl)) ?_ | refine ai (O.ec (.ptr rfl)) ?_ | refine ai (O.ec (.bl rfl)) ?_))
  | ((with_reducible apply aq.hP (.assign (.const _)) none); (first | refine Nw rfl ?_ | refine ai (O.ec .G9) ?_))
  | ((with_reducible apply aq.hP (.indexAddr _ _ _) none); (first | refine ai (O.cC (.aF rfl) (.lit rfl) hb.p (by assumption)) ?_ | refine ai (O.cC (.aF rfl) (.k rfl) hb.p (by assumption)) ?_))
  | ((with_reducible apply aq.hP (.binOp .add _ _ _ _) none); (first | refine ai (O.add (.lit rfl) (.k rfl)) ?_ | refine ai (O.add (.lit rfl) (.lit rfl)) ?_ | refine ai (O.add (.k rfl) (.lit rfl)) ?_))
  | ((with_reducible apply aq.hP (.binOp .lss _ _ _ _) none); (first | refine ai (O.lss (.lit rfl) (.k rfl)) ?_ | refine ai (O.lss (.lit rfl) (.lit rfl)) ?_ | refine ai (O.lss (.k rfl) (.lit rfl)) ?_))
  | ((with_reducible apply aq.hP (.binOp .eql _ _ _ _) none); (first | refine ai (O.eql (.lit rfl) (.k rfl)) ?_ | refine ai (O.eql (.lit rfl) (.lit rfl)) ?_ | refine ai (O.eql (.k rfl) (.lit rfl)) ?_ | refine ai (O.oA (.lit rfl) (.lit rfl)) ?_ | refine ai (O.oA (.lit rfl) (.k rfl)) ?_))
  | ((with_reducible apply aq.hP (.binOp .neq _ _ _ _) none); (first | refine ai (O.neq (.lit rfl) (.k rfl)) ?_ | refine ai (O.neq (.lit rfl) (.lit rfl)) ?_ | refine ai (O.neq (.k rfl) (.lit rfl)) ?_ | refine ai (O.l' (.lit rfl) (.lit rfl)) ?_ | refine ai (O.l' (.lit rfl) (.k rfl)) ?_))
  | ((with_reducible apply aq.hP (.binOp .geq _ _ _ _) none); (first | refine ai (O.geq (.lit rfl) (.k rfl)) ?_ | refine ai (O.geq (.lit rfl) (.lit rfl)) ?_ | refine ai (O.geq (.k rfl) (.lit rfl)) ?_))
  | ((with_reducible apply aq.hP (.binOp .gtr _ _ _ _) none); (first | refine ai (O.gtr (.lit rfl) (.k rfl)) ?_ | refine ai (O.gtr (.lit rfl) (.lit rfl)) ?_ | refine ai (O.gtr (.k rfl) (.lit rfl)) ?_))
  | ((with_reducible apply aq.hP (.binOp .sub _ _ _ _) none); (first | refine ai (O.sub (.lit rfl) (.k rfl)) ?_ | refine ai (O.sub (.lit rfl) (.lit rfl)) ?_ | refine ai (O.sub (.k rfl) (.lit rfl)) ?_))
  | ((with_reducible apply aq.hP (.binOp .leq _ _ _ _) none); (first | refine ai (O.leq (.lit rfl) (.k rfl)) ?_ | refine ai (O.leq (.lit rfl) (.lit rfl)) ?_ | refine ai (O.leq (.k rfl) (.lit rfl)) ?_))
  | ((with_reducible apply aq.hP (.pick _ _ _) none); (first | refine ai (O.eB (.lit rfl) rfl (.lit rfl)) ?_ | refine ai (O.dL (.lit rfl) rfl (.lit rfl)) ?_ | refine ai (O.eB (.lit rfl) rfl (.k rfl)) ?_ | refine ai (O.dL (.lit rfl) rfl (.k rfl)) ?_ | refine ai (O.eB (.lit rfl) (by assumption) (.lit rfl)) ?_ | refine ai (O.dL (.lit rfl) (by assumption) (.lit rfl)) ?_ | refine ai (O.eB (.lit rfl) (by assumption) (.k rfl)) ?_ | refine ai (O.dL (.lit rfl) (by assumption) (.k rfl)) ?_))
  | ((with_reducible apply aq.hP (.call { callee:=.builtin .len,args:=#[_],argTypes:=#[_] }) none); (first | refine ai (O.hc (.aF rfl) hb.p) ?_ | refine ai (O.px (.bl rfl) hb.p) ?_ | refine ai (O.px (.own rfl) hb.p) ?_ | refine ai (O.mI (.lit rfl) sb.p) ?_))
  | ((with_reducible apply aq.hP (.unOp .not _ _) none); (first | refine ai (O.not (.lit rfl)) ?_))
  | ((with_reducible apply aq.hP (.nilCheck _) none); (first | refine ai (O.e5 (.ptr rfl)) ?_ | refine ai (O.AE (.bo rfl)) ?_ | refine ai (O.e5 (.obj rfl)) ?_))
  | ((with_reducible apply aq.hP (.index _ _ _) none); (first | refine ai (O.qD (.lit rfl) (.lit rfl) sb.p (by assumption)) ?_))
  | ((with_reducible apply aq.hP (.move (.const _)) none); (first | refine ai (O.aC (.k rfl)) ?_ | refine ai (O.aC .G9) ?_)))
 | ((with_reducible apply aq.nl); first | exact bK rfl | refine nS ?_)
 | ((with_reducible apply aq.hP _ (some _)); first
  | (first | refine cF rfl ?_ | refine Nt ?_ | refine hh ?_)
  | ((with_reducible apply aq.hP (.move (.tmp _)) (some _)); (first | refine aW rfl (O.aC (.lit rfl)) ?_ | refine fI (O.aC (.lit rfl)) ?_ | refine aW rfl (O.aC (.aF rfl)) ?_ | refine fI (O.aC (.aF rfl)) ?_ | refine aW rfl (O.aC (.own rfl)) ?_ | refine fI (O.aC (.own rfl)) ?_ | refine aW rfl (O.aC (.obj rfl)) ?_ | refine fI (O.aC (.obj rfl)) ?_ | refine aW rfl (O.aC (.bo rfl)) ?_ | refine fI (O.aC (.bo rfl)) ?_ | refine aW rfl (O.aC (.ptr rfl)) ?_ | refine fI (O.aC (.ptr rfl)) ?_ | refine aW rfl (O.aC (.bl rfl)) ?_ | refine fI (O.aC (.bl rfl)) ?_))
  | ((with_reducible apply aq.hP (.load _ _) (some _)); (first | refine aW rfl (O.cq rfl (.ptr rfl) gU.p rfl) ?_ | refine fI (O.cq rfl (.ptr rfl) gU.p rfl) ?_ | refine aW rfl (O.dd (.bo rfl) gU.p rfl) ?_ | refine fI (O.dd (.bo rfl) gU.p rfl) ?_ | refine aW rfl (O.xR rfl (.ptr rfl) gU.p rfl) ?_ | refine fI (O.xR rfl (.ptr rfl) gU.p rfl) ?_ | refine aW rfl (O.cq rfl (.obj rfl) gU.p rfl) ?_ | refine fI (O.cq rfl (.obj rfl) gU.p rfl) ?_ | refine aW rfl (O.xR rfl (.obj rfl) gU.p rfl) ?_ | refine fI (O.xR rfl (.obj rfl) gU.p rfl) ?_ | refine aW rfl (O.xS rfl (.ptr rfl) gU.p rfl) ?_ | refine fI (O.xS rfl (.ptr rfl) gU.p rfl) ?_ | refine aW rfl (O.xS rfl (.obj rfl) gU.p rfl) ?_ | refine fI (O.xS rfl (.obj rfl) gU.p rfl) ?_))
  | ((with_reducible apply aq.hP (.fieldAddr _ _ _) (some _)); (first | refine aW rfl (O.a_ rfl (.obj rfl) dV.p rfl) ?_ | refine fI (O.a_ rfl (.obj rfl) dV.p rfl) ?_ | refine aW rfl (O.ez (.bo rfl) dV.p) ?_ | refine fI (O.ez (.bo rfl) dV.p) ?_ | refine aW rfl (O.a_ rfl (.ptr rfl) dV.p rfl) ?_ | refine fI (O.a_ rfl (.ptr rfl) dV.p rfl) ?_))
  | ((with_reducible apply aq.hP (.indexAddr _ _ _) (some _)); (first | refine aW rfl (O.cC (.aF rfl) (.lit rfl) hb.p (by assumption)) ?_ | refine fI (O.cC (.aF rfl) (.lit rfl) hb.p (by assumption)) ?_ | refine aW rfl (O.cC (.aF rfl) (.k rfl) hb.p (by assumption)) ?_ | refine fI (O.cC (.aF rfl) (.k rfl) hb.p (by assumption)) ?_))
  | ((with_reducible apply aq.hP (.binOp .add _ _ _ _) (some _)); (first | refine aW rfl (O.add (.lit rfl) (.k rfl)) ?_ | refine fI (O.add (.lit rfl) (.k rfl)) ?_ | refine aW rfl (O.add (.lit rfl) (.lit rfl)) ?_ | refine fI (O.add (.lit rfl) (.lit rfl)) ?_ | refine aW rfl (O.add (.k rfl) (.lit rfl)) ?_ | refine fI (O.add (.k rfl) (.lit rfl)) ?_))
  | ((with_reducible apply aq.hP (.binOp .lss _ _ _ _) (some _)); (first | refine aW rfl (O.lss (.lit rfl) (.k rfl)) ?_ | refine fI (O.lss (.lit rfl) (.k rfl)) ?_ | refine aW rfl (O.lss (.lit rfl) (.lit rfl)) ?_ | refine fI (O.lss (.lit rfl) (.lit rfl)) ?_ | refine aW rfl (O.lss (.k rfl) (.lit rfl)) ?_ | refine fI (O.lss (.k rfl) (.lit rfl)) ?_))
  | ((with_reducible apply aq.hP (.binOp .eql _ _ _ _) (some _)); (first | refine aW rfl (O.eql (.lit rfl) (.k rfl)) ?_ | refine fI (O.eql (.lit rfl) (.k rfl)) ?_ | refine aW rfl (O.eql (.lit rfl) (.lit rfl)) ?_ | refine fI (O.eql (.lit rfl) (.lit rfl)) ?_ | refine aW rfl (O.eql (.k rfl) (.lit rfl)) ?_ | refine fI (O.eql (.k rfl) (.lit rfl)) ?_ | refine aW rfl (O.oA (.lit rfl) (.lit rfl)) ?_ | refine fI (O.oA (.lit rfl) (.lit rfl)) ?_ | refine aW rfl (O.oA (.lit rfl) (.k rfl)) ?_ | refine fI (O.oA (.lit rfl) (.k rfl)) ?_))
  | ((with_reducible apply aq.hP (.binOp .neq _ _ _ _) (some _)); (first | refine aW rfl (O.neq (.lit rfl) (.k rfl)) ?_ | refine fI (O.neq (.lit rfl) (.k rfl)) ?_ | refine aW rfl (O.neq (.lit rfl) (.lit rfl)) ?_ | refine fI (O.neq (.lit rfl) (.lit rfl)) ?_ | refine aW rfl (O.neq (.k rfl) (.lit rfl)) ?_ | refine fI (O.neq (.k rfl) (.lit rfl)) ?_ | refine aW rfl (O.l' (.lit rfl) (.lit rfl)) ?_ | refine fI (O.l' (.lit rfl) (.lit rfl)) ?_ | refine aW rfl (O.l' (.lit rfl) (.k rfl)) ?_ | refine fI (O.l' (.lit rfl) (.k rfl)) ?_))
  | ((with_reducible apply aq.hP (.binOp .geq _ _ _ _) (some _)); (first | refine aW rfl (O.geq (.lit rfl) (.k rfl)) ?_ | refine fI (O.geq (.lit rfl) (.k rfl)) ?_ | refine aW rfl (O.geq (.lit rfl) (.lit rfl)) ?_ | refine fI (O.geq (.lit rfl) (.lit rfl)) ?_ | refine aW rfl (O.geq (.k rfl) (.lit rfl)) ?_ | refine fI (O.geq (.k rfl) (.lit rfl)) ?_))
  | ((with_reducible apply aq.hP (.binOp .gtr _ _ _ _) (some _)); (first | refine aW rfl (O.gtr (.lit rfl) (.k rfl)) ?_ | refine fI (O.gtr (.lit rfl) (.k rfl)) ?_ | refine aW rfl (O.gtr (.lit rfl) (.lit rfl)) ?_ | refine fI (O.gtr (.lit rfl) (.lit rfl)) ?_ | refine aW rfl (O.gtr (.k rfl) (.lit rfl)) ?_ | refine fI (O.gtr (.k rfl) (.lit rfl)) ?_))
  | ((with_reducible apply aq.hP (.binOp .sub _ _ _ _) (some _)); (first | refine aW rfl (O.sub (.lit rfl) (.k rfl)) ?_ | refine fI (O.sub (.lit rfl) (.k rfl)) ?_ | refine aW rfl (O.sub (.lit rfl) (.lit rfl)) ?_ | refine fI (O.sub (.lit rfl) (.lit rfl)) ?_ | refine aW rfl (O.sub (.k rfl) (.lit rfl)) ?_ | refine fI (O.sub (.k rfl) (.lit rfl)) ?_))
  | ((with_reducible apply aq.hP (.binOp .leq _ _ _ _) (some _)); (first | refine aW rfl (O.leq (.lit rfl) (.k rfl)) ?_ | refine fI (O.leq (.lit rfl) (.k rfl)) ?_ | refine aW rfl (O.leq (.lit rfl) (.lit rfl)) ?_ | refine fI (O.leq (.lit rfl) (.lit rfl)) ?_ | refine aW rfl (O.leq (.k rfl) (.lit rfl)) ?_ | refine fI (O.leq (.k rfl) (.lit rfl)) ?_))
  | ((with_reducible apply aq.hP (.call { callee:=.builtin .len,args:=#[_],argTypes:=#[_] }) (some _)); (first | refine aW rfl (O.hc (.aF rfl) hb.p) ?_ | refine fI (O.hc (.aF rfl) hb.p) ?_ | refine aW rfl (O.px (.bl rfl) hb.p) ?_ | refine fI (O.px (.bl rfl) hb.p) ?_ | refine aW rfl (O.px (.own rfl) hb.p) ?_ | refine fI (O.px (.own rfl) hb.p) ?_ | refine aW rfl (O.mI (.lit rfl) sb.p) ?_ | refine fI (O.mI (.lit rfl) sb.p) ?_))
  | ((with_reducible apply aq.hP (.unOp .not _ _) (some _)); (first | refine aW rfl (O.not (.lit rfl)) ?_ | refine fI (O.not (.lit rfl)) ?_))
  | ((with_reducible apply aq.hP (.nilCheck _) (some _)); (first | refine aW rfl (O.e5 (.ptr rfl)) ?_ | refine fI (O.e5 (.ptr rfl)) ?_ | refine aW rfl (O.AE (.bo rfl)) ?_ | refine fI (O.AE (.bo rfl)) ?_ | refine aW rfl (O.e5 (.obj rfl)) ?_ | refine fI (O.e5 (.obj rfl)) ?_))
  | ((with_reducible apply aq.hP (.index _ _ _) (some _)); (first | refine aW rfl (O.qD (.lit rfl) (.lit rfl) sb.p (by assumption)) ?_ | refine fI (O.qD (.lit rfl) (.lit rfl) sb.p (by assumption)) ?_)))))):aq P N ops l g K:=h
theorem W.II {id:Nat}{l:List Oper}{G G1:List (Nat × aj)}{Φ:Exit->aZ->Prop}(ks:List Nat) (hk:ah .normal Φ G1) (h:aq P N l.toArray l (get G) (wY ks G1):=by exact aq.aV):W P N (.region id l.toArray false) (get G) Φ:=W.bk ks h hk
theorem W.ec {id:Nat}{l:List Oper}{B:Code}{G:List (Nat × aj)}{Φ:Exit->aZ->Prop}(G1:List (Nat × aj)) (hk:W P N B (get G1) Φ) (h:aq P N l.toArray l (get G) (λg'=>kZ g' (get G1)):=by exact aq.aV):W P N (.seq (.region id l.toArray false) B) (get G) Φ:=W.rs G1 h hk
theorem W.aT {id:Nat}{l:List Oper}{B:Code}{G G1:List (Nat × aj)}{Φ:Exit->aZ->Prop}(ks:List Nat) (hk:W P N B (get G1) Φ) (h:aq P N l.toArray l (get G) (wY ks G1):=by exact aq.aV):W P N (.seq (.region id l.toArray false) B) (get G) Φ:=W.bV ks h hk
end
end Go.Own
namespace Go.Own
open Go
section
variable {P:Program}{N:dW}{G:List (Nat × aj)}{g':aZ}
theorem cw {rs:List ResultVar}{ys xs:List aj}{res:aj}{outs:List (Option aj)}{n:Nat}(h:o4 P (get G) rs ys xs g') (he:qn xs=res:=by rfl) (bh:sf g' N.pins 0 outs:=by (repeat' first | exact .nil | refine .no ?_)) (gD:(rs.filterMap fun | .cell t _=>some t | _=>none).Nodup:=by exact of_decide_eq_true (by kernel_rfl)) (ao:outs.length=n:=by rfl):ah .ret (BR P N rs n outs res) G:=ah.fin (Fin.ro h he gD bh ao (.inr rfl))
end
end Go.Own
