/-
  What is proved here: parts of the proof that the last text states: rules for walks through code, and of this program's functions what they answer. No condition of their own.
-/
import Derived.KernelRfl
import Derived.Test.YtbcajhiedeghlaaE3
namespace Go.Proofs
open Go Go.Own Go.Sort
set_option maxRecDepth 100000
set_option linter.unusedVariables false
theorem HE {α:Type}{l:List α}{k:Nat}{x:α}(hk:k<l.length) (i:Nat):(l.set k x)[i]?=if i=k then some x else l[i]?:=by
 rw [List.getElem?_set]
 by_cases e:k=i
 ·subst e; simp [hk]
 ·simp [e,Ne.symm e]
theorem PI (x y:Item):(decide (x.Prod=y.Prod)&&(decide (x.dP=y.dP)&&true))=decide (x=y):=by
 obtain ⟨aF,x2⟩:=x
 obtain ⟨ke,y2⟩:=y
 simp
theorem Oj (a b:List Item) (h:a.length<=1000000):Tot (AL a b) λc=>(c=true↔a=b):=by
 unfold AL
 refine Tot.qy (λeI=>.aB ⟨λh=>(by cases h),λe=>absurd (by rw [e]) eI⟩) (λhe=>?_)
 have ao:a.length=b.length:=by omega
 refine Tot.aJ (Ξ:=iB (λ_=>a=b) (λx:Bool=>x=false/\a≠b)) ?_ λx J=>?_
 ·refine Tot.count (λs=>s) a.length (λs=>∃ k:Nat,k<=a.length/\s=(k:Int)/\∀ (ae:Nat) (h:ae<a.length),ae<k->a[ae]=b[ae]) ⟨0,Nat.zero_le _,rfl,λae _ aa=>absurd aa (Nat.not_lt_zero _)⟩ (by show (a.length:Int) - 0<_; omega) λs aN=>?_
  obtain ⟨k,hk,rfl,kZ⟩:=aN
  rw [eP k (by omega)]
  refine Tot.b8 (λbc=>?_) (λeF=>.aB ?_)
  ·have bc:k<a.length:=by omega
   have xv:k<b.length:=by omega
   rw [ev bc,ev xv]
   simp only [Option.bind_some,PI]
   refine Tot.qy (λeI=>.aB ⟨rfl,λe=>eI (by subst e; rfl)⟩) (λheq=>.aB ⟨⟨k+1,by omega,rfl,λae aa eV=>?_⟩,by show (k:Int)<((k+1:Nat):Int); omega,by show ((k+1:Nat):Int)<=_; omega⟩)
   by_cases e:ae=k
   ·subst e; exact heq
   ·exact kZ ae aa (by omega)
  ·exact List.ext_getElem ao λi h1 al=>kZ i h1 (by omega)
 ·rcases x with _ | x
  ·exact .aB ⟨λ_=>J,λ_=>rfl⟩
  ·obtain ⟨rfl,eI⟩:x=false/\a≠b:=J
   exact .aB ⟨λh=>(by cases h),λh=>absurd h eI⟩
def syms (g:b_):List Int:=(List.range g.a'.length).map (λk:Nat=>(k:Int))++(List.range g.bu.length).map (λk:Nat=>1000+(k:Int))
theorem I7 (g:b_) (bd:gV g):Tot (Ba g) λl=>l=syms g:=by
 have fM:=bd.lA
 have bW:=bd.h2
 unfold Ba
 refine .aJ (Ξ:=λl:List Int=>l=(List.range g.a'.length).map (λk:Nat=>(k:Int))) ?_ λl ao=>?_
 ·refine Tot.upto (λs=>s.2) g.a'.length (λk s=>s.1=(List.range k).map (λk:Nat=>(k:Int))) rfl (by omega) rfl λk s hk he bt=>?_
  obtain ⟨l,i⟩:=s
  simp only at he bt ⊢
  subst he bt
  rw [eP k (by omega)]
  refine Tot.b8 (λbc=>?_) (λeF=>.aB ?_)
  ·refine .aJ (Ξ:=λ_=>True) (Tot.ap (by simp [lim]; omega) trivial) λ_ _=>.aB ⟨by omega,rfl,?_⟩
   show _=(List.range (k+1)).map _
   rw [List.range_succ,List.map_append]; rfl
  ·have:k=g.a'.length:=by omega
   subst this; rfl
 ·subst ao
  refine .aJ (Ξ:=λl:List Int=>l=syms g) ?_ λr ax=>.aB ax
  refine Tot.upto (λs=>s.2) g.bu.length (λk s=>s.1=(List.range g.a'.length).map (λk:Nat=>(k:Int))++(List.range k).map (λk:Nat=>1000+(k:Int))) rfl (by omega) (by simp) λk s hk he bt=>?_
  obtain ⟨l,i⟩:=s
  simp only at he bt ⊢
  subst he bt
  rw [eP k (by omega)]
  refine Tot.b8 (λbc=>?_) (λeF=>.aB ?_)
  ·refine .aJ (Ξ:=λ_=>True) (Tot.ap (by simp [lim]; omega) trivial) λ_ _=>.aB ⟨by omega,rfl,?_⟩
   have hw:aQ (1000+(k:Int))=1000+(k:Int):=by rw [dK]; omega
   show _=_++(List.range (k+1)).map _
   rw [hw,List.range_succ,List.map_append,List.append_assoc]; rfl
  ·have:k=g.bu.length:=by omega
   subst this; rfl
theorem Uk (g:b_):(syms g).length=g.a'.length+g.bu.length:=by simp [syms]
theorem Te {g:b_}{s:Int}:s∈syms g↔(0<=s/\s<g.a'.length)\/(1000<=s/\s<1000+g.bu.length):=by
 unfold syms
 rw [List.mem_append,List.mem_map,List.mem_map]
 constructor
 ·rintro (⟨k,hk,rfl⟩ | ⟨k,hk,rfl⟩)
  ·rw [List.mem_range] at hk; exact .inl (by omega)
  ·rw [List.mem_range] at hk; exact .inr (by omega)
 ·rintro (h | h)
  ·exact .inl ⟨s.toNat,by rw [List.mem_range]; omega,by omega⟩
  ·exact .inr ⟨(s - 1000).toNat,by rw [List.mem_range]; omega,by omega⟩
theorem Ul {g:b_}(bd:gV g):(syms g).Nodup:=by
 have aD:=bd.lA
 unfold syms
 rw [List.nodup_append]
 refine ⟨List.pairwise_map.2 ((List.nodup_range (n:=g.a'.length)).imp λ{a b} h e=>h (by omega)),List.pairwise_map.2 ((List.nodup_range (n:=g.bu.length)).imp λ{a b} h e=>h (by omega)),λa bj b aH=>?_⟩
 obtain ⟨i,hi,rfl⟩:=List.mem_map.1 bj
 obtain ⟨ae,aa,rfl⟩:=List.mem_map.1 aH
 rw [List.mem_range] at hi
 omega
structure wQ (g:b_) (K:List Item):Prop where
 a:gj gQ K
 i:∀ x∈K,jd g x
theorem wQ.len {g:b_}(bd:gV g) {K:List Item}(h:wQ g K):K.length<=540:=r9 bd h.a h.i
theorem I6 (l:List Int) (x:Int) (h:l.length<=1000000):Tot (yb l x) λc=>(c=true↔x∈l):=by
 unfold yb
 refine .aJ (Ξ:=iB (λ_=>x∉l) (λr:Bool=>r=true/\x∈l)) ?_ λr ax=>?_
 ·refine Tot.upto (λs=>s) l.length (λk s=>x∉l.take k) rfl (by omega) (by simp) λk s hk he bt=>?_
  subst he
  rw [eP k (by omega)]
  refine Tot.b8 (λbc=>?_) (λeF=>.aB ?_)
  ·have bc:k<l.length:=by omega
   rw [ev bc]
   simp only [Option.bind_some]
   refine Tot.b8 (λe=>.aB ⟨rfl,by rw [<- e]; exact List.getElem_mem bc⟩) (λe=>.aB ⟨bc,rfl,?_⟩)
   rw [lz bc,List.mem_append,List.mem_singleton]
   exact λh=>h.elim bt λh=>e h.symm
  ·rw [List.take_of_length_le (by omega)] at bt
   exact bt
 ·rcases r with r | r
  ·exact .aB ⟨λh=>(by cases h),λh=>absurd h ax⟩
  ·obtain ⟨rfl,h⟩:=ax
   exact .aB ⟨λ_=>h,λ_=>rfl⟩
theorem Oz (m:List State) (k:List Item) (bb:m.length<=1000) (h1:∀ st∈m,st.Kernel.length<=1000000):Tot (Bc m k) λr=>-1<=r/\r<m.length:=by
 unfold Bc
 refine .aJ (Ξ:=iB (λ_=>True) (λr:Int=>0<=r/\r<m.length)) ?_ λx J=>?_
 ·refine Tot.upto (λs=>s) m.length (λ_ _=>True) rfl (by omega) trivial λae s aa he _=>?_
  subst he
  rw [eP ae (by omega)]
  refine Tot.b8 (λbc=>?_) (λeF=>.aB trivial)
  have bc:ae<m.length:=by omega
  rw [ev bc]
  refine Tot.au (.aJ (Oj _ k (h1 _ (List.getElem_mem bc))) λc ab=>Tot.cv (λh=>.aB ⟨by omega,by omega⟩) (λh=>.aB ⟨bc,rfl,trivial⟩))
 ·rcases x with x | x
  ·exact .aB ⟨by omega,by omega⟩
  ·have J:0<=x/\x<m.length:=J
   exact .aB ⟨by omega,by omega⟩
structure wT (g:b_) (n:Nat) (v:Move):Prop where
 s:v.Sym∈syms g
 t0:0<=v.jW
 t1:v.jW<n
structure lU (g:b_) (m:List State) (q ae:Nat):Prop where
 gY:0<m.length
 mJ:m.length<=150
 pg:∀ st∈m,wQ g st.Kernel
 ms:∀ (i:Nat) (st:State),m[i]?=some st->(st.e'.map (·.Sym)).Sublist (if i<q then syms g else if i=q then (syms g).take ae else [])
 aA:∀ st∈m,∀ v∈st.e',wT g m.length v
structure mi (g:b_) (m:List State):Prop where
 gY:0<m.length
 mJ:m.length<=150
 pg:∀ st∈m,wQ g st.Kernel
 vK:∀ st∈m,st.e'.length<=64
 nd:∀ st∈m,(st.e'.map (·.Sym)).Nodup
 aA:∀ st∈m,∀ v∈st.e',wT g m.length v
theorem wT.up {g:b_}{n cX:Nat}{v:Move}(h:wT g n v) (aL:n<=cX):wT g cX v:=⟨h.s,h.t0,by have:=h.t1; omega⟩
theorem lU.put {g:b_}{m:List State}{q ae:Nat}(h:lU g m q ae) {st:State}(bO:m[q]?=some st) {v:Move}(hv:wT g m.length v) (aa:(syms g)[ae]?=some v.Sym):lU g (m.set q ⟨st.Kernel,st.e'++[v]⟩) q (ae+1):=by
 have my:=(List.getElem?_eq_some_iff.1 bO).1
 have hm:=List.mem_of_getElem? bO
 refine ⟨by rw [List.length_set]; exact h.gY,by rw [List.length_set]; exact h.mJ,λs aN=>?_,λi s aN=>?_,λs aN w hw=>?_⟩
 ·rcases List.mem_or_eq_of_mem_set aN with aT | aT
  ·exact h.pg s aT
  ·rw [aT]; exact h.pg st hm
 ·rw [HE my] at aN
  by_cases e:i=q
  ·subst e
   rw [if_pos rfl] at aN; cases aN
   have:=h.ms i st bO
   rw [if_neg (by omega),if_pos rfl] at this ⊢
   rw [List.map_append,List.take_add_one,aa]
   exact this.append (List.Sublist.refl _)
  ·rw [if_neg e] at aN
   have:=h.ms i s aN
   rw [if_neg e] at this ⊢
   exact this
 ·rw [List.length_set]
  rcases List.mem_or_eq_of_mem_set aN with aT | aT
  ·exact h.aA s aT w hw
  ·rw [aT] at hw
   rcases List.mem_append.1 hw with hw | hw
   ·exact h.aA st hm w hw
   ·rw [List.mem_singleton.1 hw]; exact hv
theorem lU.more {g:b_}{m:List State}{q ae:Nat}(h:lU g m q ae) (ao:m.length<150) {K:List Item}(hk:wQ g K):lU g (m++[⟨K,[]⟩]) q ae:=by
 refine ⟨by simp,by simp; omega,λs aN=>?_,λi s aN=>?_,λs aN w hw=>?_⟩
 ·rcases List.mem_append.1 aN with aN | aN
  ·exact h.pg s aN
  ·rw [List.mem_singleton.1 aN]; exact hk
 ·by_cases e:i<m.length
  ·rw [List.getElem?_append_left e] at aN; exact h.ms i s aN
  ·rw [List.getElem?_append_right (by omega)] at aN
   have:s=⟨K,[]⟩:=by
    have:=List.mem_of_getElem? aN
    simpa using this
   rw [this]; exact List.nil_sublist _
 ·rcases List.mem_append.1 aN with aN | aN
  ·exact (h.aA s aN w hw).up (by simp)
  ·rw [List.mem_singleton.1 aN] at hw; cases hw
theorem lU.mono {g:b_}{m:List State}{q ae ug:Nat}(h:lU g m q ae) (aa:ae<=ug):lU g m q ug:=by
 refine ⟨h.gY,h.mJ,h.pg,λi s aN=>?_,h.aA⟩
 have:=h.ms i s aN
 split
 ·rename_i e; rw [if_pos e] at this; exact this
 ·rename_i e; rw [if_neg e] at this
  split
  ·rename_i cW; rw [if_pos cW] at this
   exact this.trans (List.take_sublist_take_left aa)
  ·rename_i cW; rw [if_neg cW] at this; exact this
theorem lU.next {g:b_}{m:List State}{q ae:Nat}(h:lU g m q ae):lU g m (q+1) 0:=by
 refine ⟨h.gY,h.mJ,h.pg,λi s aN=>?_,h.aA⟩
 have:=h.ms i s aN
 by_cases e:i<q+1
 ·rw [if_pos e]
  split at this
  ·exact this
  ·split at this
   ·exact this.trans (List.take_sublist _ _)
   ·exact this.trans (List.nil_sublist _)
 ·rw [if_neg (by omega),if_neg (by omega)] at this
  rw [if_neg e]
  exact this.trans (List.nil_sublist _)
theorem Ou (g:b_) (bd:gV g):Tot (A5 g) λr=>(r.2=0/\mi g r.1)\/r.2=4:=by
 have fM:=bd.lA
 have bW:=bd.h2
 have du:=bd.lx
 unfold A5
 refine Tot.aJ (I7 g bd) λaF h1=>?_
 subst h1
 have ll:=Uk g
 refine Tot.aJ (Ξ:=iB (λm=>lU g m m.length 0) (λr:List State × Int=>r.2=4)) ?_ λx J=>?_
 ·refine Tot.loop (λs=>∃ q:Nat,s.2=(q:Int)/\q<=s.1.length/\lU g s.1 q 0) (λs=>151 - s.2.toNat) ⟨0,rfl,Nat.zero_le _,⟨by simp,by simp,λs aN=>?_,λi s aN=>?_,λs aN v hv=>?_⟩⟩ (by show 151 - 0<1000000000000000000; omega) λs cn=>?_
  ·rw [List.mem_singleton.1 aN]
   refine ⟨List.pairwise_singleton ..,λx J=>?_⟩
   rw [List.mem_singleton.1 J]
   obtain ⟨q,bO⟩:∃ q,g.ba[0]?=some q:=⟨g.ba[0]'(by omega),List.getElem?_eq_getElem _⟩
   exact LB (p:=0) bO
  ·have:=List.mem_of_getElem? aN
   rw [List.mem_singleton.1 this]; exact List.nil_sublist _
  ·rw [List.mem_singleton.1 aN] at hv; cases hv
  obtain ⟨q,he,bO,zF⟩:=cn
  obtain ⟨m,i⟩:=s
  simp only at he bO zF ⊢
  subst he
  have F3:=zF.mJ
  rw [eP q (by omega)]
  refine Tot.b8 (λbc=>?_) (λeF=>.aB ?_)
  ·have bc:q<m.length:=by omega
   rw [ev bc]
   have et:=zF.pg _ (List.getElem_mem bc)
   refine Tot.au (Tot.aJ (En g bd _ (by have:=et.len bd; omega)) λc ab=>?_)
   have hx:=r9 bd ab.1 λx J=>((ab.2 x).1 J).jd
   refine Tot.aJ (Ξ:=λl:List Int=>l.length<=1000) ?_ λNI VI=>?_
   ·refine Tot.upto (λs=>s.2) c.length (λk s=>gj iW s.1/\s.1.length<=k) rfl (by omega) ⟨.nil,Nat.le_refl 0⟩ λk s hk he bt=>?_
    obtain ⟨l,i⟩:=s
    obtain ⟨g1,g2⟩:=bt
    simp only at he g1 g2 ⊢
    subst he
    rw [eP k (by omega)]
    refine Tot.b8 (λbc=>?_) (λeF=>.aB (show l.length<=1000 by omega))
    have bc:k<c.length:=by omega
    rw [ev bc]
    refine .aJ (Ξ:=λl:List Int=>gj iW l/\l.length<=k+1) ?_ λo bd=>.aB ⟨bc,rfl,bd⟩
    refine Tot.au ?_
    rw [EH g _]
    refine Tot.au (.aJ (Ξ:=λl:List Int=>gj iW l/\l.length<=k+1) ?_ λo bd=>.aB bd)
    refine Tot.b8 (λaG=>.aJ (Ca l _ g1 (by omega)) λr ax=>.aB ⟨ax.1,by have:=ax.2.1; omega⟩) (λaG=>.aB ⟨g1,by omega⟩)
   ·refine Tot.aJ (Ξ:=iB (λm=>lU g m q (syms g).length/\q<m.length) (λr:List State × Int=>r.2=4)) ?_ λx J=>?_
    ·refine Tot.upto (λs=>s.2) (syms g).length (λk s=>lU g s.1 q k/\q<s.1.length) rfl (by omega) ⟨zF,bc⟩ λk s hk he bt=>?_
     obtain ⟨m,i⟩:=s
     obtain ⟨su,my⟩:=bt
     simp only at he su my ⊢
     subst he
     rw [eP k (by omega)]
     have vo:=su.mJ
     refine Tot.b8 (λbc=>?_) (λeF=>.aB ?_)
     ·have bc:k<(syms g).length:=by omega
      have kF:=List.getElem_mem bc
      have oD:(syms g)[k]?=some (syms g)[k]:=List.getElem?_eq_getElem bc
      rw [ev bc]
      generalize (syms g)[k]=s at *
      refine Tot.au (Tot.aJ (I6 NI s (by omega)) λb0 _=>?_)
      refine Tot.cv (λ_=>.aB ⟨bc,rfl,su.mono (by omega),my⟩) (λ_=>?_)
      have mq:m[q]?=some m[q]:=List.getElem?_eq_getElem my
      have et:=su.pg _ (List.getElem_mem my)
      rw [ev my]
      generalize m[q]=st at *
      refine Tot.au (Tot.au (Tot.aJ (Oy g bd st.Kernel s (by have:=et.len bd; omega)) λBS xo=>?_))
      have ix:wQ g BS:=⟨xo.1,λy az=>((xo.2 y).1 az).jd bd⟩
      refine Tot.aJ (Oz m BS (by omega) λt aD=>by have:=(su.pg t aD).len bd; omega) λz bM=>?_
      have Sg:=(su.ms q st mq).length_le
      rw [if_neg (by omega),if_pos rfl,List.length_map,List.length_take] at Sg
      refine Tot.b8 (λRV=>Tot.b8 (λ_=>.aB rfl) (λV7=>?_)) (λsG=>?_)
      ·refine .aJ (Ξ:=λ_=>True) (Tot.ap (by simp [lim]; omega) trivial) λ_ _=>?_
       have QC:=su.more (by omega) ix
       have KP:(m++[(⟨BS,[]⟩:State)])[q]?=some st:=by rw [List.getElem?_append_left my]; exact mq
       have zS:idx (m++[(⟨BS,[]⟩:State)]) (q:Int)=some st:=by simp only [idx,if_pos (show (0:Int)<=(q:Int) by omega),Int.toNat_natCast]; exact KP
       rw [zS]
       refine Tot.au (Tot.au ?_)
       refine .aJ (Ξ:=λ_=>True) (Tot.ap (by simp [lim]; omega) trivial) λ_ _=>.aB ⟨bc,rfl,?_⟩
       refine ⟨?_,by show q<(List.set _ _ _).length; rw [List.length_set]; simp; omega⟩
       show lU g (List.set _ (q:Int).toNat _) q (k+1)
       rw [Int.toNat_natCast]
       exact QC.put KP ⟨kF,by show (0:Int)<=(m.length:Int); omega,by show (m.length:Int)<_; simp; omega⟩ oD
      ·refine Tot.au (Tot.au ?_)
       refine .aJ (Ξ:=λ_=>True) (Tot.ap (by simp [lim]; omega) trivial) λ_ _=>.aB ⟨bc,rfl,?_⟩
       refine ⟨?_,by show q<(List.set _ _ _).length; rw [List.length_set]; exact my⟩
       show lU g (List.set _ (q:Int).toNat _) q (k+1)
       rw [Int.toNat_natCast]
       exact su.put mq ⟨kF,by show 0<=z; omega,bM.2⟩ oD
     ·have:k=(syms g).length:=by omega
      subst this
      exact ⟨su,my⟩
    ·rcases x with x | x
     ·obtain ⟨h1,al⟩:=J
      refine .aB ⟨⟨q+1,rfl,al,h1.next⟩,?_⟩
      show 151 - ((q+1:Nat):Int).toNat<151 - (q:Int).toNat
      omega
     ·exact .aB J
  ·have:q=m.length:=by omega
   subst this
   exact zF
 ·rcases x with x | x
  ·have J:lU g x x.length 0:=J
   have key:∀ st∈x,(st.e'.map (·.Sym)).Sublist (syms g):=λst cn=>by
    obtain ⟨i,hi⟩:=List.getElem?_of_mem cn
    have:=J.ms i st hi
    rw [if_pos (List.getElem?_eq_some_iff.1 hi).1] at this
    exact this
   refine .aB (.inl ⟨rfl,J.gY,J.mJ,J.pg,λst cn=>?_,λst cn=>(key st cn).nodup (Ul bd),J.aA⟩)
   have:=(key st cn).length_le
   rw [List.length_map] at this; omega
  ·exact .aB (.inr J)
theorem SY {α:Type}{m:List α}{q:Nat}{x:α}(h:m[q]?=some x):idx m (q:Int)=some x:=by simp [idx,h]
def GoTo (m:List State) (a s r:Int):Prop:=(r=-1/\∀ st,idx m a=some st->∀ v∈st.e',v.Sym≠s)\/∃ st v,idx m a=some st/\v∈st.e'/\v.Sym=s/\r=v.jW
theorem B' (m:List State) (a s:Int) (hm:∀ st∈m,st.e'.length<=64):Tot (p9 m a s) (GoTo m a s):=by
 unfold p9
 by_cases bb:0<=a/\a<(m.length:Int)
 ·obtain ⟨st,cn,lM⟩:=nE bb.1 bb.2
  have ao:=hm st lM
  have d1:decide (0<=a)=true:=decide_eq_true bb.1
  have d2:decide (a<(m.length:Int))=true:=decide_eq_true bb.2
  rw [d1,d2]
  simp only [cond_true,cn,Option.bind_some]
  refine .aJ (Ξ:=iB (λ_=>∀ v∈st.e',v.Sym≠s) (λr:Int=>∃ v,v∈st.e'/\v.Sym=s/\r=v.jW)) ?_ λx J=>?_
  ·refine Tot.upto (λs=>s) st.e'.length (λk _=>∀ v∈st.e'.take k,v.Sym≠s) rfl (by omega) (by simp) λk i hk he bt=>?_
   subst he
   rw [eP k (by omega)]
   refine Tot.b8 (λbc=>?_) (λeF=>.aB (by
    show ∀ v∈st.e',v.Sym≠s
    rw [List.take_of_length_le (by omega)] at bt; exact bt))
   have bc:k<st.e'.length:=by omega
   rw [ev bc]
   simp only [Option.bind_some]
   refine Tot.b8 (λe=>.aB ⟨_,List.getElem_mem bc,e,rfl⟩) (λe=>.aB ⟨bc,rfl,λv hv=>?_⟩)
   rw [lz bc,List.mem_append,List.mem_singleton] at hv
   rcases hv with hv | rfl
   ·exact bt v hv
   ·exact e
  ·rcases x with x | x
   ·exact .aB (.inl ⟨rfl,λMI aT=>by rw [cn] at aT; cases aT; exact J⟩)
   ·obtain ⟨v,h1,al,aO⟩:=J
    exact .aB (.inr ⟨st,v,cn,h1,al,aO⟩)
 ·refine .aJ (Ξ:=iB (λ_=>True) (λ_:Int=>False)) (Tot.loop (λ_=>True) (λ_=>0) trivial (by show 0<1000000000000000000; omega) λi _=>?_) λx J=>?_
  ·refine .aJ (Ξ:=λc=>c=false) ?_ λc ab=>by subst ab; exact .aB trivial
   refine Tot.b8 (λh1=>Tot.b8 (λal=>absurd ⟨h1,al⟩ bb) (λ_=>.aB rfl)) (λ_=>.aB rfl)
  ·rcases x with x | x
   ·refine .aB (.inl ⟨rfl,λst aT=>absurd ⟨(nC aT).1,(nC aT).2.1⟩ bb⟩)
   ·exact J.elim
theorem GoTo.yR {g:b_}{m:List State}(hm:mi g m) {a s r:Int}(h:GoTo m a s r):-1<=r/\r<m.length:=by
 rcases h with ⟨rfl,_⟩ | ⟨st,v,h1,al,_,rfl⟩
 ·have:=hm.gY; exact ⟨by omega,by omega⟩
 ·have:=hm.aA st (nC h1).2.2 v al
  exact ⟨by have:=this.t0; omega,this.t1⟩
theorem GoTo.yes {g:b_}{m:List State}(hm:mi g m) {a s r:Int}(h:GoTo m a s r) {st:State}{v:Move}(aN:idx m a=some st) (hv:v∈st.e') (e:v.Sym=s):0<=r/\r<m.length:=by
 rcases h with ⟨rfl,h⟩ | ⟨st,v,h1,al,_,rfl⟩
 ·exact absurd e (h st aN v hv)
 ·have:=hm.aA st (nC h1).2.2 v al
  exact ⟨this.t0,this.t1⟩
theorem I9 {g:b_}{m:List State}(hm:mi g m) (a:Int) (l:List Int) (bj:-1<=a/\a<m.length) (ao:l.length<=1000):Tot (yd m a l) λr=>-1<=r/\r<m.length:=by
 unfold yd
 refine .aJ (Ξ:=λr:Int=>-1<=r/\r<m.length) ?_ λr ax=>.aB ax
 refine Tot.upto (λs=>s.2) l.length (λ_ s=>-1<=s.1/\s.1<m.length) rfl (by omega) bj λk s hk he bt=>?_
 obtain ⟨r,i⟩:=s
 simp only at he bt ⊢
 subst he
 rw [eP k (by omega)]
 refine .aJ (Ξ:=λc=>c=true->k<l.length) (Tot.b8 (λh=>.aB λ_=>by omega) (λ_=>.aB λh=>by cases h)) λc ab=>Tot.cv (λh=>?_) (λ_=>.aB bt)
 have bc:=ab h
 rw [ev bc]
 exact Tot.au (.aJ (B' m r _ hm.vK) λz bM=>.aB ⟨bc,rfl,bM.yR hm⟩)
def tp (m:List State) (t:Trans):Prop:=∃ st v,idx m t.State=some st/\v∈st.e'/\v.Sym=t.e2/\1000<=t.e2
structure uP (m:List State) (l:List Trans):Prop where
 n:l.length<=9600
 ok:∀ t∈l,tp m t
 fL:∀ (q:Nat) (st:State) (v:Move),m[q]?=some st->v∈st.e'->1000<=v.Sym->(⟨q,v.Sym⟩:Trans)∈l
theorem OD {g:b_}{m:List State}(hm:mi g m):Tot (pr m) (uP m):=by
 have aL:=hm.mJ
 unfold pr
 refine .aJ (Ξ:=uP m) ?_ λr ax=>.aB ax
 refine Tot.upto (λs=>s.2) m.length (λk s=>s.1.length<=64 * k/\(∀ t∈s.1,tp m t)/\∀ (q:Nat) (st:State) (v:Move),q<k->m[q]?=some st->v∈st.e'->1000<=v.Sym->(⟨q,v.Sym⟩:Trans)∈s.1) rfl (by omega) ⟨Nat.le_refl 0,λt h=>(by cases h),λq _ _ h=>absurd h (Nat.not_lt_zero _)⟩ λk s hk he bt=>?_
 obtain ⟨l,i⟩:=s
 obtain ⟨h1,al,aO⟩:=bt
 simp only at he h1 al aO ⊢
 subst he
 rw [eP k (by omega)]
 refine Tot.b8 (λbc=>?_) (λeF=>.aB ⟨?_,al,λq st v bO=>aO q st v ?_ bO⟩)
 ·have bc:k<m.length:=by omega
  have mq:m[k]?=some m[k]:=List.getElem?_eq_getElem bc
  have lM:=List.getElem_mem bc
  rw [ev bc]
  generalize m[k]=st at *
  have vo:=hm.vK st lM
  simp only [Option.bind_some]
  refine .aJ (Ξ:=λAu:List Trans=>Au.length<=64 * (k+1)/\(∀ t∈Au,tp m t)/\(∀ t∈l,t∈Au)/\∀ v∈st.e',1000<=v.Sym->(⟨k,v.Sym⟩:Trans)∈Au) ?_ λAu h6=>.aB ⟨bc,rfl,h6.1,h6.2.1,λq MI v bO b4 df eL=>?_⟩
  ·refine Tot.upto (λs=>s.2) st.e'.length (λae s=>s.1.length<=64 * k+ae/\(∀ t∈s.1,tp m t)/\(∀ t∈l,t∈s.1)/\∀ v∈st.e'.take ae,1000<=v.Sym->(⟨k,v.Sym⟩:Trans)∈s.1) rfl (by omega) ⟨h1,al,λ_ h=>h,λv hv=>by simp at hv⟩ λae s aa he bt=>?_
   obtain ⟨o,i⟩:=s
   obtain ⟨g1,g2,g3,g4⟩:=bt
   simp only at he g1 g2 g3 g4 ⊢
   subst he
   rw [eP ae (by omega)]
   refine Tot.b8 (λbc=>?_) (λeF=>.aB ⟨by show o.length<=_; omega,g2,g3,by
    rw [List.take_of_length_le (by omega)] at g4; exact g4⟩)
   have bc:ae<st.e'.length:=by omega
   have fZ:=lz bc
   have xD:=List.getElem_mem bc
   rw [ev bc]
   generalize st.e'[ae]=v at *
   simp only [Option.bind_some]
   refine .aJ (Ξ:=λo:List Trans=>o.length<=64 * k+(ae+1)/\(∀ t∈o,tp m t)/\(∀ t∈l,t∈o)/\∀ v∈st.e'.take (ae+1),1000<=v.Sym->(⟨k,v.Sym⟩:Trans)∈o) ?_ λo bd=>.aB ⟨bc,rfl,bd⟩
   refine .aJ (Ξ:=λo:List Trans=>o.length<=64 * k+(ae+1)/\(∀ t∈o,tp m t)/\(∀ t∈l,t∈o)/\∀ v∈st.e'.take (ae+1),1000<=v.Sym->(⟨k,v.Sym⟩:Trans)∈o) (Tot.b8 (λh=>?_) (λh=>.aB ⟨by omega,g2,g3,λw hw aN=>?_⟩)) λo bd=>.aB bd
   ·refine .aJ (Ξ:=λ_=>True) (Tot.ap (by simp [lim]; omega) trivial) λ_ _=>.aB ⟨by simp; omega,λt aD=>?_,λt aD=>List.mem_append_left _ (g3 t aD),λw hw aN=>?_⟩
    ·rcases List.mem_append.1 aD with aD | aD
     ·exact g2 t aD
     ·rw [List.mem_singleton.1 aD]
      exact ⟨st,v,SY mq,xD,rfl,h⟩
    ·rw [fZ,List.mem_append,List.mem_singleton] at hw
     rcases hw with hw | rfl
     ·exact List.mem_append_left _ (g4 w hw aN)
     ·simp
   ·rw [fZ,List.mem_append,List.mem_singleton] at hw
    rcases hw with hw | rfl
    ·exact g4 w hw aN
    ·exact absurd aN h
  ·by_cases e:q=k
   ·subst e
    rw [mq] at b4; cases b4
    exact h6.2.2.2 v df eL
   ·exact h6.2.2.1 _ (aO q MI v (by omega) b4 df eL)
 ·show l.length<=9600
  omega
 ·have:=(List.getElem?_eq_some_iff.1 bO).1
  omega
theorem rq (l:List Trans) (a n:Int) (ao:l.length<=9600):Tot (xZ l a n) λr=>-1<=r/\r<l.length/\((⟨a,n⟩:Trans)∈l->0<=r):=by
 unfold xZ
 refine .aJ (Ξ:=iB (λ_=>(⟨a,n⟩:Trans)∉l) (λr:Int=>0<=r/\r<l.length)) ?_ λx J=>?_
 ·refine Tot.upto (λs=>s) l.length (λk _=>(⟨a,n⟩:Trans)∉l.take k) rfl (by omega) (by simp) λk i hk he bt=>?_
  subst he
  rw [eP k (by omega)]
  refine Tot.b8 (λbc=>?_) (λeF=>.aB (by
   show (⟨a,n⟩:Trans)∉l
   rw [List.take_of_length_le (by omega)] at bt; exact bt))
  have bc:k<l.length:=by omega
  have fZ:=lz bc
  rw [ev bc]
  generalize l[k]=y at *
  simp only [Option.bind_some]
  refine .aJ (Ξ:=λc:Bool=>c=false->y≠⟨a,n⟩) (Tot.b8 (λh=>.aB λaT e=>?_) (λh=>.aB λ_ e=>h (by rw [e]))) λc ab=>Tot.cv (λh=>.aB ⟨by show (0:Int)<=k; omega,by show (k:Int)<_; omega⟩) (λh=>.aB ⟨bc,rfl,?_⟩)
  ·have:=of_decide_eq_false aT
   exact this (by rw [e])
  ·rw [fZ,List.mem_append,List.mem_singleton]
   exact λaT=>aT.elim bt λe=>ab h e.symm
 ·rcases x with x | x
  ·refine .aB ⟨by omega,by omega,λh=>absurd h J⟩
  ·have J:0<=x/\x<l.length:=J
   exact .aB ⟨by omega,J.2,λ_=>J.1⟩
theorem Ol (l:List Item) (ao:l.length<=1000000):Tot (AM l) λ_=>True:=by
 unfold AM
 refine .aJ (Ξ:=λ_=>True) ?_ λx J=>by
  rcases x with x | x
  ·exact .aB trivial
  ·exact .aB trivial
 refine Tot.upto (λs=>s) l.length (λ_ _=>True) rfl (by omega) trivial λk i hk he _=>?_
 subst he
 rw [eP k (by omega)]
 refine Tot.b8 (λbc=>?_) (λ_=>.aB trivial)
 have bc:k<l.length:=by omega
 rw [ev bc]
 simp only [Option.bind_some]
 refine .aJ (Ξ:=λ_=>True) (Tot.b8 (λ_=>.aB trivial) (λ_=>.aB trivial)) λc _=>Tot.cv (λ_=>.aB trivial) (λ_=>.aB ⟨bc,rfl,trivial⟩)
theorem I5 (B:List Bool) (l:List Int) (ao:l.length<=1000) (h:∀ s∈l,s<1000\/(1000<=s/\s - 1000<B.length)) (iv:B.length<=1000):Tot (x0 B l) λ_=>True:=by
 unfold x0
 refine .aJ (Ξ:=λ_=>True) ?_ λx J=>by
  rcases x with x | x
  ·exact .aB trivial
  ·exact .aB trivial
 refine Tot.upto (λs=>s) l.length (λ_ _=>True) rfl (by omega) trivial λk i hk he _=>?_
 subst he
 rw [eP k (by omega)]
 refine Tot.b8 (λbc=>?_) (λ_=>.aB trivial)
 have bc:k<l.length:=by omega
 have az:=h _ (List.getElem_mem bc)
 rw [ev bc]
 generalize l[k]=y at *
 simp only [Option.bind_some]
 refine .aJ (Ξ:=λ_=>True) (Tot.b8 (λ_=>.aB trivial) (λh1=>?_)) λc _=>Tot.cv (λ_=>.aB trivial) (λ_=>.aB ⟨bc,rfl,trivial⟩)
 have hw:aQ (y - 1000)=y - 1000:=by rw [dK]; omega
 rw [hw]
 obtain ⟨b,aH,_⟩:=nE (l:=B) (i:=y - 1000) (by omega) (by omega)
 rw [aH]
 exact .aB trivial
theorem Me {g:b_}(a8:gV g) {q:Prod}(bO:q∈g.ba) {B:List Bool}(iv:B.length=g.bu.length):∀ s∈q.fx,s<1000\/(1000<=s/\s - 1000<B.length):=λs aN=>by
 have aD:=a8.lA
 have aL:=a8.h2
 rcases (a8.hp q bO).right s aN with h | h <;> omega
theorem I4 (g:b_) (a8:gV g):Tot (xY g) λB=>B.length=g.bu.length:=by
 have aD:=a8.lA
 have aL:=a8.h2
 have aG:=a8.lx
 unfold xY
 refine .aJ (Ξ:=λB=>B=List.replicate g.bu.length false) (Tot.mk (by simp [lim]; omega) (by simp)) λVa Ql=>?_
 subst Ql
 refine .aJ (Ξ:=λB:List Bool=>B.length=g.bu.length) ?_ λB iv=>.aB iv
 refine Tot.loop (λs=>s.1.length=g.bu.length) (λs=>2 * (g.bu.length - hL s.1)+s.2.toNat) (by simp) (by
  show 2 * (g.bu.length - hL _)+1<1000000000000000000; omega) λs aN=>?_
 obtain ⟨B,f⟩:=s
 simp only at aN ⊢
 refine Tot.cv (λbl=>?_) (λ_=>.aB aN)
 subst bl
 refine .aJ (Ξ:=λr:List Bool × Bool=>r.1.length=g.bu.length/\hL B<=hL r.1/\(r.2=true->hL B<hL r.1)) ?_ λr ax=>?_
 ·refine Tot.upto (λs=>s.2.2) g.ba.length (λ_ s=>s.1.length=g.bu.length/\hL B<=hL s.1/\(s.2.1=true->hL B<hL s.1)) rfl (by omega) ⟨aN,Nat.le_refl _,λh=>by cases h⟩ λk s hk he bt=>?_
  obtain ⟨C,f,i⟩:=s
  obtain ⟨h1,al,aO⟩:=bt
  simp only at he h1 al aO ⊢
  subst he
  rw [eP k (by omega)]
  refine Tot.b8 (λbc=>?_) (λeF=>.aB ⟨h1,al,aO⟩)
  have bc:k<g.ba.length:=by omega
  have my:=List.getElem_mem bc
  rw [ev bc]
  generalize g.ba[k]=q at *
  have bO:=a8.hp q my
  have K9:=bO.left
  obtain ⟨b,aH,_⟩:=nE (l:=C) (i:=q.Left) K9.1 (by omega)
  simp only [Option.bind_some,aH]
  refine .aJ (Ξ:=λr:List Bool × Bool=>r.1.length=g.bu.length/\hL B<=hL r.1/\(r.2=true->hL B<hL r.1)) ?_ λr ax=>.aB ⟨bc,rfl,ax⟩
  refine .aJ (Ξ:=λc:Bool=>c=true->b=false) ?_ λc ab=>?_
  ·cases b with
   | true=>exact .aB λh=>by cases h
   | false =>
    refine .aJ (I5 C q.fx (by have:=a8.aP q my; omega) (Me a8 my h1) (by omega)) λ_ _=>.aB λ_=>rfl
  ·refine .aJ (Ξ:=λr:List Bool × Bool=>r.1.length=g.bu.length/\hL B<=hL r.1/\(r.2=true->hL B<hL r.1)) (Tot.cv (λh=>.aB ?_) (λh=>.aB ⟨h1,al,aO⟩)) λr ax=>.aB ax
   have Rh:=ab h
   subst Rh
   have KX:q.Left.toNat<C.length:=by omega
   have mq:C.getD q.Left.toNat false=false:=by
    unfold idx at aH
    rw [if_pos K9.1] at aH
    rw [List.getD_eq_getElem?_getD,aH]; rfl
   have:=uX C q.Left.toNat KX mq
   exact ⟨by rw [List.length_set]; exact h1,by show hL B<=hL (C.set _ _); omega,λ_=>by show hL B<hL (C.set _ _); omega⟩
 ·obtain ⟨h1,al,aO⟩:=ax
  refine .aB ⟨h1,?_⟩
  have ab:=OH r.1
  show 2 * (g.bu.length - hL r.1)+r.2.toNat<2 * (g.bu.length - hL B)+true.toNat
  cases iF:r.2 with
  | false=>simp only [Bool.toNat_false,Bool.toNat_true]; omega
  | true =>
   have:=aO iF
   simp only [Bool.toNat_true]; omega
structure jl (T:Nat) (r:List Int):Prop where
 a:gj iW r
 i:∀ x∈r,0<=x/\x<T
theorem jl.len {T:Nat}{r:List Int}(h:jl T r):r.length<=T:=by
 have:=xM (m:=(List.range T).map λk:Nat=>(k:Int)) (h.a.nd AJ) λx J=>by
  have:=h.i x J
  exact List.mem_map.2 ⟨x.toNat,by rw [List.mem_range]; omega,by omega⟩
 simpa using this
theorem jl.nil {T:Nat}:jl T []:=⟨.nil,λx h=>by cases h⟩
theorem jl.put {T:Nat}(fM:T<=100000) {r:List Int}(h:jl T r) {x:Int}(J:0<=x/\x<T):Tot (pq r x) λfc=>jl T fc/\r.length<=fc.length:=by
 have ao:=h.len
 refine (Ca r x h.a (by omega)).use λfc eY=>⟨⟨eY.1,λy az=>?_⟩,xM (h.a.nd AJ) λy az=>(eY.2.2 y).2 (.inl az)⟩
 rcases (eY.2.2 y).1 az with aT | rfl
 ·exact h.i y aT
 ·exact J
def mc (L:List (List Int)) (i:Nat):Nat:=(L.getD i []).length
def jU (L:List (List Int)):Nat:=(L.map List.length).sum
theorem MV:∀ (L h4:List (List Int)),L.length=h4.length->(∀ i,mc L i<=mc h4 i)->jU L<=jU h4/\((∃ i,mc L i<mc h4 i)->jU L<jU h4)
 | [],[],_,_=>⟨Nat.le_refl _,λ⟨i,h⟩=>absurd h (Nat.lt_irrefl _)⟩
 | a::L,b::h4,ao,h=>by
  obtain ⟨h1,al⟩:=MV L h4 (by simpa using ao) λi=>by simpa [mc] using h (i+1)
  have bb:a.length<=b.length:=by simpa [mc] using h 0
  have dt:jU (a::L)=a.length+jU L:=by simp [jU]
  have c3:jU (b::h4)=b.length+jU h4:=by simp [jU]
  rw [dt,c3]
  refine ⟨by omega,λ⟨i,hi⟩=>?_⟩
  cases i with
  | zero =>
   have:a.length<b.length:=by simpa [mc] using hi
   omega
  | succ i =>
   have:=al ⟨i,by simpa [mc] using hi⟩
   omega
def Sets (T:Nat) (L:List (List Int)):Prop:=∀ r∈L,jl T r
theorem MU {T:Nat}:∀ {L:List (List Int)},Sets T L->jU L<=L.length * T
 | [],_=>by simp [jU]
 | a::L,h=>by
  have h1:=(h a (by simp)).len
  have al:=MU (L:=L) λr ax=>h r (by simp [ax])
  have dt:jU (a::L)=a.length+jU L:=by simp [jU]
  rw [dt,List.length_cons,Nat.succ_mul]; omega
structure oq (T:Nat) (L h4:List (List Int)):Prop where
 n:h4.length=L.length
 s:Sets T h4
 u:∀ i,mc L i<=mc h4 i
theorem oq.refl {T:Nat}{L:List (List Int)}(h:Sets T L):oq T L L:=⟨rfl,h,λ_=>Nat.le_refl _⟩
theorem oq.trans {T:Nat}{A B C:List (List Int)}(h:oq T A B) (aT:oq T B C):oq T A C:=⟨aT.n.trans h.n,aT.s,λi=>Nat.le_trans (h.u i) (aT.u i)⟩
theorem oq.set {T:Nat}{L:List (List Int)}{k:Nat}{r fc:List Int}(aN:Sets T L) (hk:L[k]?=some r) (h:jl T fc) (ao:r.length<=fc.length):oq T L (L.set k fc):=by
 have dZ:=(List.getElem?_eq_some_iff.1 hk).1
 refine ⟨List.length_set ..,λx J=>?_,λi=>?_⟩
 ·rcases List.mem_or_eq_of_mem_set J with aT | aT
  ·exact aN x aT
  ·rw [aT]; exact h
 ·unfold mc
  rw [List.getD_eq_getElem?_getD,List.getD_eq_getElem?_getD,HE dZ]
  by_cases e:i=k
  ·subst e; rw [if_pos rfl,hk]; exact ao
  ·rw [if_neg e]; exact Nat.le_refl _
theorem C3 {L:List (List Int)}{k:Nat}{r:List Int}(h:L[k]?=some r):mc L k=r.length:=by unfold mc; rw [List.getD_eq_getElem?_getD,h]; rfl
theorem SX {α:Type}{l:List α}{i:Int}{y:α}(h:idx l i=some y):l[i.toNat]?=some y:=by
 unfold idx at h
 split at h
 ·exact h
 ·cases h
theorem I8 (T:Nat) (fM:T<=1000) (a0 aw:List (List Int)) (aL:a0.length<=9600) (he:aw.length=a0.length) (bb:Sets T a0) (h1:Sets a0.length aw):Tot (yc a0 aw) λr=>r.length=a0.length/\Sets T r:=by
 unfold yc
 refine .aJ (Ξ:=λr:List (List Int)=>r.length=a0.length/\Sets T r) ?_ λr ax=>.aB ax
 have aH:a0.length * T<=9600 * 1000:=Nat.mul_le_mul aL fM
 refine Tot.loop (λs=>s.1.length=a0.length/\Sets T s.1) (λs=>2 * (a0.length * T - jU s.1)+s.2.toNat) ⟨rfl,bb⟩ (by
  show 2 * (a0.length * T - jU _)+1<1000000000000000000; omega) λs aN=>?_
 obtain ⟨L,f⟩:=s
 obtain ⟨ao,aN⟩:=aN
 simp only at ao aN ⊢
 refine Tot.cv (λbl=>?_) (λ_=>.aB ⟨ao,aN⟩)
 subst bl
 refine .aJ (Ξ:=λr:List (List Int) × Bool=>oq T L r.1/\(r.2=true->∃ i,mc L i<mc r.1 i)) ?_ λr ax=>?_
 ·refine Tot.upto (λs=>s.2.2) L.length (λ_ s=>oq T L s.1/\(s.2.1=true->∃ i,mc L i<mc s.1 i)) rfl (by omega) ⟨.refl aN,λh=>by cases h⟩ λk s hk h5 bt=>?_
  obtain ⟨C,f,i⟩:=s
  obtain ⟨hu,vm⟩:=bt
  simp only at h5 hu vm ⊢
  subst h5
  rw [eP k (by omega)]
  have Lg:=hu.n
  refine Tot.b8 (λbc=>?_) (λeF=>.aB ⟨hu,vm⟩)
  have KS:k<C.length:=by omega
  have gN:k<aw.length:=by omega
  have KN:C[k]?=some C[k]:=List.getElem?_eq_getElem KS
  have oC:=h1 _ (List.getElem_mem gN)
  rw [ev gN,ev KS]
  generalize aw[k]=row at *
  generalize C[k]=lQ at *
  simp only [Option.bind_some]
  have nz:=oC.len
  refine .aJ (Ξ:=λD:List (List Int)=>oq T C D) ?_ λD nU=>?_
  ·refine Tot.upto (λs=>s.2) row.length (λ_ s=>oq T C s.1) rfl (by omega) (.refl hu.s) λae s aa h5 bt=>?_
   obtain ⟨D,i⟩:=s
   simp only at h5 bt ⊢
   subst h5
   rw [eP ae (by omega)]
   have Qp:=bt.n
   refine Tot.b8 (λbc=>?_) (λ_=>.aB bt)
   have bc:ae<row.length:=by omega
   have az:=oC.i _ (List.getElem_mem bc)
   rw [ev bc]
   generalize row[ae]=y at *
   simp only [Option.bind_some]
   refine .aJ (Ξ:=λE:List (List Int)=>oq T C E) ?_ λE kZ=>.aB ⟨bc,rfl,kZ⟩
   refine Tot.count (λs=>s.2) T (λs=>∃ n:Nat,s.2=(n:Int)/\oq T C s.1) ⟨0,rfl,bt⟩ (by show (T:Int) - 0<_; omega) λs aN=>?_
   obtain ⟨E,i⟩:=s
   obtain ⟨n,CL,kZ⟩:=aN
   simp only at CL kZ ⊢
   subst CL
   have VE:=kZ.n
   obtain ⟨z,bM,SS⟩:=nE (l:=E) (i:=y) az.1 (by omega)
   have n2:=kZ.s z SS
   have sP:=n2.len
   have FR:k<E.length:=by omega
   have RC:E[k]?=some E[k]:=List.getElem?_eq_getElem FR
   rw [bM]
   simp only [Option.bind_some]
   refine Tot.b8 (λbc=>?_) (λ_=>.aB kZ)
   have bc:n<z.length:=by omega
   rw [eP n (by omega),ev FR,ev bc]
   simp only [Option.bind_some]
   refine .aJ ((kZ.s _ (List.getElem_mem FR)).put (by omega) (n2.i _ (List.getElem_mem bc))) λfc eY=>.aB ⟨⟨n+1,rfl,?_⟩,by show (n:Int)<((n+1:Nat):Int); omega,by show ((n+1:Nat):Int)<=T; omega⟩
   exact kZ.trans (.set kZ.s RC eY.1 eY.2)
  ·have Qp:=nU.n
   have KT:k<D.length:=by omega
   have KO:D[k]?=some D[k]:=List.getElem?_eq_getElem KT
   have t_:=hu.trans nU
   refine .aJ (Ξ:=λc:Bool=>c=true->∃ i,mc L i<mc D i) ?_ λc ab=>.aB ⟨by omega,rfl,t_,ab⟩
   refine Tot.cv (λbl=>.aB λ_=>?_) (λ_=>?_)
   ·obtain ⟨i,hi⟩:=vm bl
    exact ⟨i,Nat.lt_of_lt_of_le hi (nU.u i)⟩
   ·rw [ev KT]
    refine Tot.au (.aB λh=>⟨k,?_⟩)
    have aO:=nU.u k
    have b4:=hu.u k
    rw [C3 KN,C3 KO] at aO
    rw [C3 KN] at b4
    rw [C3 KO]
    have:¬ ((D[k].length:Int)=(lQ.length:Int)):=λe=>by rw [decide_eq_true e] at h; cases h
    omega
 ·obtain ⟨hu,bl⟩:=ax
  have CR:=hu.n
  obtain ⟨aO,b4⟩:=MV L r.1 CR.symm hu.u
  have df:=MU hu.s
  rw [show r.1.length=a0.length by omega] at df
  refine .aB ⟨⟨by show r.1.length=_; omega,hu.s⟩,?_⟩
  show 2 * (a0.length * T - jU r.1)+r.2.toNat<2 * (a0.length * T - jU L)+true.toNat
  cases iF:r.2 with
  | false=>simp only [Bool.toNat_false,Bool.toNat_true]; omega
  | true =>
   have:=b4 (bl iF)
   simp only [Bool.toNat_true]; omega
theorem mi.sym {g:b_}(a8:gV g) {m:List State}(hm:mi g m) {st:State}(cn:st∈m) {v:Move}(hv:v∈st.e'):0<=v.Sym/\(v.Sym<1000->v.Sym<g.a'.length)/\(1000<=v.Sym->v.Sym - 1000<g.bu.length):=by
 have aD:=a8.lA
 rcases Te.1 (hm.aA st cn v hv).s with h | h
 ·exact ⟨h.1,λ_=>h.2,λaT=>by omega⟩
 ·exact ⟨by omega,λaT=>by omega,λ_=>by omega⟩
theorem tp.go {g:b_}{m:List State}(hm:mi g m) {t:Trans}(h:tp m t):Tot (p9 m t.State t.e2) λr=>0<=r/\r<m.length:=by
 obtain ⟨st,v,h1,al,aO,_⟩:=h
 exact (B' m t.State t.e2 hm.vK).use λr ax=>ax.yes hm h1 al aO
theorem MD {T:Nat}{L:List (List Int)}{r:List Int}(h:Sets T L) (ax:jl T r):Sets T (L++[r]):=λx J=>by
 rcases List.mem_append.1 J with J | J
 ·exact h x J
 ·rw [List.mem_singleton.1 J]; exact ax
theorem OA (g:b_) (a8:gV g) {m:List State}(hm:mi g m):Tot (Bd m) λr=>∃ cf,pr m=some cf/\uP m cf/\r.length=cf.length/\Sets g.a'.length r:=by
 have aD:=a8.lA
 obtain ⟨cf,o6,hX⟩:=OD hm
 have vr:=hX.n
 unfold Bd
 rw [o6]
 refine Tot.au (.aJ (Ξ:=λr:List (List Int)=>r.length=cf.length/\Sets g.a'.length r) ?_ λr ax=>.aB ⟨cf,rfl,hX,ax⟩)
 refine Tot.upto (λs=>s.2) cf.length (λk s=>s.1.length=k/\Sets g.a'.length s.1) rfl (by omega) ⟨rfl,λr h=>by cases h⟩ λk s hk he bt=>?_
 obtain ⟨L,i⟩:=s
 obtain ⟨h1,al⟩:=bt
 simp only at he h1 al ⊢
 subst he
 rw [eP k (by omega)]
 refine Tot.b8 (λbc=>?_) (λeF=>.aB ⟨by show L.length=_; omega,al⟩)
 have bc:k<cf.length:=by omega
 have fZ:=hX.ok _ (List.getElem_mem bc)
 rw [ev bc]
 generalize cf[k]=t at *
 simp only [Option.bind_some]
 refine .aJ (fZ.go hm) λto Ae=>?_
 obtain ⟨st,cn,kF⟩:=nE Ae.1 Ae.2
 have et:=hm.pg st kF
 have vo:=hm.vK st kF
 rw [cn]
 simp only [Option.bind_some]
 refine .aJ (Ol _ (by have:=et.len a8; omega)) λc _=>?_
 refine .aJ (Ξ:=jl g.a'.length) (Tot.cv (λ_=>?_) (λ_=>.aB .nil)) λur xy=>?_
 ·refine .aJ (Ξ:=λ_=>True) (Tot.ap (by simp [lim]) trivial) λ_ _=>.aB ⟨List.pairwise_singleton ..,λx J=>?_⟩
  rw [List.mem_singleton.1 J]; omega
 refine .aJ (Ξ:=jl g.a'.length) ?_ λr ax=>?_
 ·refine Tot.upto (λs=>s.2) st.e'.length (λk s=>jl g.a'.length s.1) rfl (by omega) xy λae s aa he bt=>?_
  obtain ⟨r,i⟩:=s
  simp only at he bt ⊢
  subst he
  rw [eP ae (by omega)]
  refine Tot.b8 (λbc=>?_) (λ_=>.aB bt)
  have bc:ae<st.e'.length:=by omega
  have hv:=hm.sym a8 kF (List.getElem_mem bc)
  rw [ev bc]
  generalize st.e'[ae]=v at *
  simp only [Option.bind_some]
  refine .aJ (Ξ:=jl g.a'.length) ?_ λr ax=>.aB ⟨bc,rfl,ax⟩
  refine .aJ (Ξ:=jl g.a'.length) (Tot.b8 (λh=>?_) (λ_=>.aB bt)) λr ax=>.aB ax
  exact .aJ (bt.put (by omega) ⟨hv.1,hv.2.1 h⟩) λr ax=>.aB ax.1
 ·refine .aJ (Ξ:=λ_=>True) (Tot.ap (by simp [lim]; omega) trivial) λ_ _=>.aB ⟨bc,rfl,by simp; omega,MD al ax⟩
theorem OB (g:b_) (a8:gV g) {m:List State}(hm:mi g m) {cf:List Trans}(o6:pr m=some cf) (hX:uP m cf):Tot (Be g m) λr=>r.length=cf.length/\Sets cf.length r:=by
 have aD:=a8.lA
 have F6:=a8.h2
 have vr:=hX.n
 unfold Be
 rw [o6]
 refine Tot.au (.aJ (I4 g a8) λB iv=>.aJ (Ξ:=λr:List (List Int)=>r.length=cf.length/\Sets cf.length r) ?_ λr ax=>.aB ax)
 refine Tot.upto (λs=>s.2) cf.length (λk s=>s.1.length=k/\Sets cf.length s.1) rfl (by omega) ⟨rfl,λr h=>by cases h⟩ λk s hk he bt=>?_
 obtain ⟨L,i⟩:=s
 obtain ⟨h1,al⟩:=bt
 simp only at he h1 al ⊢
 subst he
 rw [eP k (by omega)]
 refine Tot.b8 (λbc=>?_) (λeF=>.aB ⟨by show L.length=_; omega,al⟩)
 have bc:k<cf.length:=by omega
 have fZ:=hX.ok _ (List.getElem_mem bc)
 rw [ev bc]
 generalize cf[k]=t at *
 simp only [Option.bind_some]
 refine .aJ (fZ.go hm) λto Ae=>?_
 obtain ⟨st,cn,kF⟩:=nE Ae.1 Ae.2
 have nA:=SX cn
 have vo:=hm.vK st kF
 rw [cn]
 simp only [Option.bind_some]
 refine .aJ (Ξ:=jl cf.length) ?_ λr ax=>?_
 ·refine Tot.upto (λs=>s.2) st.e'.length (λk s=>jl cf.length s.1) rfl (by omega) .nil λae s aa he bt=>?_
  obtain ⟨r,i⟩:=s
  simp only at he bt ⊢
  subst he
  rw [eP ae (by omega)]
  refine Tot.b8 (λbc=>?_) (λ_=>.aB bt)
  have bc:ae<st.e'.length:=by omega
  have xD:=List.getElem_mem bc
  have hv:=hm.sym a8 kF xD
  rw [ev bc]
  generalize st.e'[ae]=v at *
  simp only [Option.bind_some]
  refine .aJ (Ξ:=jl cf.length) ?_ λr ax=>.aB ⟨bc,rfl,ax⟩
  refine .aJ (Ξ:=λc:Bool=>c=true->1000<=v.Sym) (Tot.b8 (λh=>?_) (λ_=>.aB λh=>by cases h)) λc ab=>?_
  ·have hw:aQ (v.Sym - 1000)=v.Sym - 1000:=by
    have:=hv.2.2 h
    rw [dK]; omega
   rw [hw]
   obtain ⟨b,aH,_⟩:=nE (l:=B) (i:=v.Sym - 1000) (by omega) (by have:=hv.2.2 h; omega)
   rw [aH]
   exact Tot.au (.aB λ_=>h)
  ·refine .aJ (Ξ:=jl cf.length) (Tot.cv (λh=>?_) (λ_=>.aB bt)) λr ax=>.aB ax
   have tT:=hX.fL to.toNat st v nA xD (ab h)
   rw [show ((to.toNat:Nat):Int)=to by omega] at tT
   refine .aJ (rq cf to v.Sym vr) λz bM=>?_
   exact .aJ (bt.put (by omega) ⟨bM.2.2 tT,bM.2.1⟩) λr ax=>.aB ax.1
 ·refine .aJ (Ξ:=λ_=>True) (Tot.ap (by simp [lim]; omega) trivial) λ_ _=>.aB ⟨bc,rfl,by simp; omega,MD al ax⟩
theorem OC (g:b_) (a8:gV g) {m:List State}(hm:mi g m) {cf:List Trans}(o6:pr m=some cf) (hX:uP m cf):Tot (Bf g m) λr=>r.length=cf.length/\Sets cf.length r:=by
 have aD:=a8.lA
 have F6:=a8.h2
 have z6:=a8.lx
 have vr:=hX.n
 unfold Bf
 rw [o6]
 refine Tot.au (.aJ (I4 g a8) λB iv=>.aJ (Ξ:=λr=>r=List.replicate cf.length ([]:List Int)) (Tot.mk (by simp [lim]; omega) (by simp)) λVd Qy=>.aJ (Ξ:=λr:List (List Int)=>r.length=cf.length/\Sets cf.length r) ?_ λr ax=>.aB ax)
 subst Qy
 have U':∀ {L:List (List Int)},(L.length=cf.length/\Sets cf.length L)->∀ {z:Int}{r fc:List Int},idx L z=some r->jl cf.length fc->(L.set z.toNat fc).length=cf.length/\Sets cf.length (L.set z.toNat fc):=λ{L} ll {z r fc} _ eY=>⟨by rw [List.length_set]; exact ll.1,λx J=>by
  rcases List.mem_or_eq_of_mem_set J with aT | aT
  ·exact ll.2 x aT
  ·rw [aT]; exact eY⟩
 refine Tot.upto (λs=>s.2) cf.length (λk s=>s.1.length=cf.length/\Sets cf.length s.1) rfl (by omega) ⟨by simp,λr h=>by rw [List.eq_of_mem_replicate h]; exact .nil⟩ λk s hk he bt=>?_
 obtain ⟨L,i⟩:=s
 simp only at he bt ⊢
 subst he
 rw [eP k (by omega)]
 refine Tot.b8 (λbc=>?_) (λeF=>.aB bt)
 have bc:k<cf.length:=by omega
 have fZ:=hX.ok _ (List.getElem_mem bc)
 rw [ev bc]
 generalize cf[k]=t at *
 simp only [Option.bind_some]
 refine .aJ (Ξ:=λr:List (List Int)=>r.length=cf.length/\Sets cf.length r) ?_ λr ax=>.aB ⟨bc,rfl,ax⟩
 refine Tot.upto (λs=>s.2) g.ba.length (λk s=>s.1.length=cf.length/\Sets cf.length s.1) rfl (by omega) bt λp s aG he bt=>?_
 obtain ⟨L,i⟩:=s
 simp only at he bt ⊢
 subst he
 rw [eP p (by omega)]
 refine Tot.b8 (λCK=>?_) (λeF=>.aB bt)
 have CK:p<g.ba.length:=by omega
 have my:=List.getElem_mem CK
 rw [ev CK]
 generalize g.ba[p]=q at *
 have bO:=a8.hp q my
 have CR:=a8.aP q my
 have vq:=Me a8 my iv
 simp only [Option.bind_some]
 refine .aJ (Ξ:=λr:List (List Int)=>r.length=cf.length/\Sets cf.length r) ?_ λr ax=>.aB ⟨CK,rfl,ax⟩
 refine Tot.cv (λ_=>.aB bt) (λ_=>.aJ (Ξ:=λr:List (List Int)=>r.length=cf.length/\Sets cf.length r) ?_ λr ax=>.aB ax)
 refine Tot.upto (λs=>s.2) q.fx.length (λk s=>s.1.length=cf.length/\Sets cf.length s.1) rfl (by omega) bt λae s aa he bt=>?_
 obtain ⟨L,i⟩:=s
 simp only at he bt ⊢
 subst he
 rw [eP ae (by omega)]
 refine Tot.b8 (λeC=>?_) (λeF=>.aB bt)
 have eC:ae<q.fx.length:=by omega
 rw [ev eC]
 generalize q.fx[ae]=y at *
 simp only [Option.bind_some]
 refine .aJ (Ξ:=λr:List (List Int)=>r.length=cf.length/\Sets cf.length r) ?_ λr ax=>.aB ⟨eC,rfl,ax⟩
 refine .aJ (Ξ:=λ_=>True) (Tot.b8 (λ_=>.aB trivial) (λ_=>?_)) λc _=>Tot.cv (λ_=>.aB bt) (λ_=>?_)
 ·refine .aJ (Ξ:=λr=>r=q.fx.drop (ae+1)) (Tot.sub ⟨by omega,by omega,by omega⟩ ?_) λr ax=>?_
  ·rw [List.take_of_length_le]
   ·congr 1
   ·rw [List.length_drop]; omega
  ·subst ax
   exact .aJ (I5 B _ (by rw [List.length_drop]; omega) (λs aN=>vq s (List.mem_of_mem_drop aN)) (by omega)) λ_ _=>.aB trivial
 refine .aJ (Ξ:=λr=>r.length<=8) (Tot.sub ⟨by omega,by omega,by omega⟩ (by rw [List.length_take,List.length_drop]; omega)) λr ax=>?_
 obtain ⟨st,_,cn,_⟩:=fZ
 have Gb:=nC cn
 refine .aJ (I9 hm t.State r ⟨by omega,Gb.2.1⟩ (by omega)) λz bM=>?_
 refine .aJ (Ξ:=λr:List (List Int)=>r.length=cf.length/\Sets cf.length r) (Tot.cv (λ_=>?_) (λ_=>.aB bt)) λr ax=>.aB ax
 refine .aJ (rq cf z y vr) λn aL=>?_
 refine .aJ (Ξ:=λr:List (List Int)=>r.length=cf.length/\Sets cf.length r) (Tot.b8 (λbb=>?_) (λ_=>.aB bt)) λr ax=>.aB ax
 obtain ⟨ur,xy,F'⟩:=nE (l:=L) bb (by rw [bt.1]; exact aL.2.1)
 rw [xy]
 refine Tot.au (.aJ ((bt.2 ur F').put (by omega) ⟨by omega,by omega⟩) λfc eY=>.aB (U' bt xy eY.1))
theorem Ov (g:b_) (a8:gV g) {m:List State}(hm:mi g m):Tot (A7 g m) λr=>∃ cf,pr m=some cf/\uP m cf/\r.length=cf.length/\Sets g.a'.length r:=by
 have aD:=a8.lA
 unfold A7
 refine .aJ (OA g a8 hm) λsY h1=>?_
 obtain ⟨cf,o6,hX,FW,Ga⟩:=h1
 have vr:=hX.n
 refine .aJ (OB g a8 hm o6 hX) λfP al=>.aJ (I8 g.a'.length (by omega) sY fP (by omega) (by omega) Ga (by rw [FW]; exact al.2)) λuu aO=>?_
 refine .aJ (OC g a8 hm o6 hX) λrS b4=>.aJ (I8 g.a'.length (by omega) uu rS (by omega) (by omega) aO.2 (by rw [aO.1,FW]; exact b4.2)) λuv df=>?_
 exact .aB ⟨cf,o6,hX,by omega,df.2⟩
def pI (g:b_) (p:Int):Prop:=0<p/\p<g.ba.length
theorem Ow (g:b_) (a8:gV g) (K:List Item) (ao:K.length<=1000000):Tot (A8 g K) λr=>r.length<=540/\∀ p∈r,pI g p:=by
 unfold A8
 refine .aJ (En g a8 K ao) λc ab=>?_
 have hx:=r9 a8 ab.1 λx J=>((ab.2 x).1 J).jd
 refine .aJ (Ξ:=λr:List Int=>r.length<=540/\∀ p∈r,pI g p) ?_ λr ax=>.aB ax
 refine Tot.upto (λs=>s.2) c.length (λk s=>s.1.length<=k/\∀ p∈s.1,pI g p) rfl (by omega) ⟨Nat.le_refl 0,λp h=>by cases h⟩ λk s hk he bt=>?_
 obtain ⟨L,i⟩:=s
 obtain ⟨h1,al⟩:=bt
 simp only at he h1 al ⊢
 subst he
 rw [eP k (by omega)]
 refine Tot.b8 (λbc=>?_) (λeF=>.aB ⟨by show L.length<=_; omega,al⟩)
 have bc:k<c.length:=by omega
 have hi:=((ab.2 _).1 (List.getElem_mem bc)).jd
 rw [ev bc]
 generalize c[k]=x at *
 obtain ⟨q,bO,aO,b4⟩:=hi
 simp only [Option.bind_some]
 refine .aJ (Ξ:=λL:List Int=>L.length<=k+1/\∀ p∈L,pI g p) ?_ λr ax=>.aB ⟨bc,rfl,ax⟩
 refine .aJ (Ξ:=λc:Bool=>c=true->0<x.Prod) (Tot.b8 (λh=>?_) (λ_=>.aB λh=>by cases h)) λc ab=>?_
 ·rw [bO]; exact Tot.au (.aB λ_=>h)
 refine .aJ (Ξ:=λL:List Int=>L.length<=k+1/\∀ p∈L,pI g p) (Tot.cv (λh=>?_) (λ_=>.aB ⟨by omega,al⟩)) λr ax=>.aB ax
 refine .aJ (Ξ:=λ_=>True) (Tot.ap (by simp [lim]; omega) trivial) λ_ _=>.aB ⟨by simp; omega,λp aG=>?_⟩
 rcases List.mem_append.1 aG with aG | aG
 ·exact al p aG
 ·rw [List.mem_singleton.1 aG]; exact ⟨ab h,(nC bO).2.1⟩
theorem Ox (g:b_) (a8:gV g) {m:List State}(hm:mi g m) {cf:List Trans}(o6:pr m=some cf) (hX:uP m cf) (q p:Int):Tot (A9 g m q p) λr=>r.length<=9600/\∀ x∈r,0<=x/\x<cf.length:=by
 have vr:=hX.n
 have z6:=a8.lx
 have F6:=a8.h2
 unfold A9
 refine .aJ (Ξ:=λc:Bool=>c=false->0<=p/\p<g.ba.length) (Tot.b8 (λ_=>.aB λh=>by cases h) (λ_=>Tot.b8 (λ_=>.aB λh=>by cases h) (λ_=>Tot.b8 (λ_=>.aB λh=>by cases h) (λh=>.aB λaT=>by have:=of_decide_eq_false aT; omega)))) λc ab=>Tot.cv (λ_=>.aB ⟨Nat.zero_le _,λx h=>by cases h⟩) (λh=>?_)
 obtain ⟨bb,h1⟩:=ab h
 rw [o6]
 refine Tot.au ?_
 refine .aJ (Ξ:=λr:List Int=>r.length<=9600/\∀ x∈r,0<=x/\x<cf.length) ?_ λr ax=>.aB ax
 obtain ⟨hp,F_,R2⟩:=nE bb h1
 have CR:=a8.aP hp R2
 refine Tot.upto (λs=>s.2) cf.length (λk s=>s.1.length<=k/\∀ x∈s.1,0<=x/\x<cf.length) rfl (by omega) ⟨Nat.le_refl 0,λp h=>by cases h⟩ λk s hk he bt=>?_
 obtain ⟨L,i⟩:=s
 obtain ⟨al,aO⟩:=bt
 simp only at he al aO ⊢
 subst he
 rw [eP k (by omega)]
 refine Tot.b8 (λbc=>?_) (λeF=>.aB ⟨by show L.length<=_; omega,aO⟩)
 have bc:k<cf.length:=by omega
 have fZ:=hX.ok _ (List.getElem_mem bc)
 rw [ev bc,F_]
 generalize cf[k]=t at *
 obtain ⟨st,_,cn,_⟩:=fZ
 have Gb:=nC cn
 simp only [Option.bind_some]
 refine .aJ (Ξ:=λL:List Int=>L.length<=k+1/\∀ x∈L,0<=x/\x<cf.length) ?_ λr ax=>.aB ⟨bc,rfl,ax⟩
 refine .aJ (Ξ:=λ_=>True) (Tot.b8 (λh=>?_) (λ_=>.aB trivial)) λc ab=>?_
 ·exact .aJ (I9 hm t.State hp.fx ⟨by omega,Gb.2.1⟩ (by omega)) λ_ _=>.aB trivial
 refine .aJ (Ξ:=λL:List Int=>L.length<=k+1/\∀ x∈L,0<=x/\x<cf.length) (Tot.cv (λh=>?_) (λ_=>.aB ⟨by omega,aO⟩)) λr ax=>.aB ax
 refine .aJ (Ξ:=λ_=>True) (Tot.ap (by simp [lim]; omega) trivial) λ_ _=>.aB ⟨by simp; omega,λp aG=>?_⟩
 rcases List.mem_append.1 aG with aG | aG
 ·exact aO p aG
 ·rw [List.mem_singleton.1 aG]; exact ⟨by omega,by omega⟩
structure wS (g:b_) (l:jV):Prop where
 p:pI g l.Prod
 t:jl g.a'.length l.a'
theorem w7 (g:b_) (a8:gV g) {m:List State}(hm:mi g m):Tot (A2 g m) λr=>r.length<=81000/\∀ l∈r,wS g l:=by
 have aD:=a8.lA
 have F3:=hm.mJ
 unfold A2
 refine .aJ (Ov g a8 hm) λF aR=>?_
 obtain ⟨cf,o6,hX,VF,jo⟩:=aR
 have vr:=hX.n
 refine .aJ (Ξ:=λr:List jV=>r.length<=81000/\∀ l∈r,wS g l) ?_ λr ax=>.aB ax
 refine Tot.upto (λs=>s.2) m.length (λk s=>s.1.length<=540 * k/\∀ l∈s.1,wS g l) rfl (by omega) ⟨Nat.le_refl 0,λp h=>by cases h⟩ λk s hk he bt=>?_
 obtain ⟨L,i⟩:=s
 obtain ⟨h1,al⟩:=bt
 simp only at he h1 al ⊢
 subst he
 rw [eP k (by omega)]
 refine Tot.b8 (λbc=>?_) (λeF=>.aB ⟨by show L.length<=_; omega,al⟩)
 have bc:k<m.length:=by omega
 have et:=hm.pg _ (List.getElem_mem bc)
 rw [ev bc]
 generalize m[k]=st at *
 refine Tot.au (.aJ (Ow g a8 st.Kernel (by have:=et.len a8; omega)) λE kZ=>?_)
 obtain ⟨VD,Qq⟩:=kZ
 refine .aJ (Ξ:=λL:List jV=>L.length<=540 * (k+1)/\∀ l∈L,wS g l) ?_ λr ax=>.aB ⟨bc,rfl,ax⟩
 refine Tot.upto (λs=>s.2) E.length (λae s=>s.1.length<=540 * k+ae/\∀ l∈s.1,wS g l) rfl (by omega) ⟨h1,al⟩ λae s aa he bt=>?_
 obtain ⟨L,i⟩:=s
 obtain ⟨h1,al⟩:=bt
 simp only at he h1 al ⊢
 subst he
 rw [eP ae (by omega)]
 refine Tot.b8 (λeC=>?_) (λeF=>.aB ⟨by show L.length<=_; omega,al⟩)
 have eC:ae<E.length:=by omega
 have aG:=Qq _ (List.getElem_mem eC)
 rw [ev eC]
 generalize E[ae]=p at *
 simp only [Option.bind_some]
 refine .aJ (Ox g a8 hm o6 hX k p) λB iv=>?_
 obtain ⟨VB,Qn⟩:=iv
 refine .aJ (Ξ:=jl g.a'.length) ?_ λS bT=>?_
 ·refine Tot.upto (λs=>s.2) B.length (λ_ s=>jl g.a'.length s.1) rfl (by omega) .nil λb s aH he bt=>?_
  obtain ⟨S,i⟩:=s
  simp only at he bt ⊢
  subst he
  rw [eP b (by omega)]
  refine Tot.b8 (λxv=>?_) (λeF=>.aB bt)
  have xv:b<B.length:=by omega
  have J:=Qn _ (List.getElem_mem xv)
  rw [ev xv]
  generalize B[b]=x at *
  obtain ⟨row,oC,F'⟩:=nE (l:=F) J.1 (by omega)
  have lN:=jo row F'
  have nz:=lN.len
  simp only [Option.bind_some,oC]
  refine .aJ (Ξ:=jl g.a'.length) ?_ λS bT=>.aB ⟨xv,rfl,bT⟩
  refine Tot.upto (λs=>s.2) row.length (λ_ s=>jl g.a'.length s.1) rfl (by omega) bt λz s bM he bt=>?_
  obtain ⟨S,i⟩:=s
  simp only at he bt ⊢
  subst he
  rw [eP z (by omega)]
  refine Tot.b8 (λpa=>?_) (λeF=>.aB bt)
  have pa:z<row.length:=by omega
  rw [ev pa]
  exact Tot.au (.aJ (bt.put (by omega) (lN.i _ (List.getElem_mem pa))) λr ax=>.aB ⟨pa,rfl,ax.1⟩)
 ·refine .aJ (Ξ:=λ_=>True) (Tot.ap (by simp [lim]; omega) trivial) λ_ _=>.aB ⟨eC,rfl,by simp; omega,λl ao=>?_⟩
  rcases List.mem_append.1 ao with ao | ao
  ·exact al l ao
  ·rw [List.mem_singleton.1 ao]; exact ⟨aG,bT⟩
def nK (c:Cell):Nat:=c.ba.length+(if 0<=c.jm then 1 else 0)+(if c.kM then 1 else 0)
theorem UE {x:Option Int}{c:Cell}(ao:c.ba.length<=1000) (e:x=(((bif decide (0<=c.jm) then
some (aQ ((c.ba.length:Int)+1))
else
some (c.ba.length:Int))).bind λje =>
((bif c.kM then
some (aQ (je+1))
else
some je)).bind λdG =>
some dG)):x=some (nK c:Int):=by
 subst e
 have hw:aQ ((c.ba.length:Int)+1)=(c.ba.length:Int)+1:=by rw [dK]; omega
 have St:aQ ((c.ba.length:Int)+1+1)=(c.ba.length:Int)+1+1:=by rw [dK]; omega
 unfold nK
 by_cases h:0<=c.jm
 ·cases al:c.kM <;> simp [h,hw,St]
 ·cases al:c.kM <;> simp [h,hw]
theorem JG (c:Cell) (ao:c.ba.length<=1000):ya c=some (nK c:Int):=UE ao (by unfold ya; rfl)
structure oh (g:b_) (n:Nat) (c:Cell):Prop where
 s:0<=c.State/\c.State<n
 t:0<=c.b5/\c.b5<g.a'.length
 f:-1<=c.jm/\c.jm<n
 p:gj iW c.ba
 q:∀ p∈c.ba,pI g p
 UA:0<nK c
theorem oh.len {g:b_}(a8:gV g) {n:Nat}{c:Cell}(h:oh g n c):c.ba.length<=60:=by
 have:=a8.lx
 have:=jl.len (T:=g.ba.length) ⟨h.p,λx J=>⟨by have:=(h.q x J).1; omega,(h.q x J).2⟩⟩
 omega
def wI (a b:Cell):Prop:=a.State<b.State\/(a.State=b.State/\a.b5<b.b5)
structure yC (g:b_) (n:Nat) (l:List Cell):Prop where
 ok:∀ c∈l,oh g n c
 Wn:l.Pairwise wI
 n:l.length<=6000
theorem Ot (g:b_) (a8:gV g) {m:List State}(hm:mi g m) (p4:List jV) (ao:p4.length<=81000) (hk:∀ l∈p4,wS g l):Tot (A1 g m p4) (yC g m.length):=by
 have aD:=a8.lA
 have F3:=hm.mJ
 have z6:=a8.lx
 unfold A1
 refine .aJ (Ξ:=yC g m.length) ?_ λr ax=>.aB ax
 refine Tot.upto (λs=>s.2) m.length (λk s=>s.1.length<=40 * k/\(∀ c∈s.1,oh g m.length c)/\s.1.Pairwise wI/\∀ c∈s.1,c.State<k) rfl (by omega) ⟨Nat.le_refl 0,λp h=>(by cases h),.nil,λp h=>by cases h⟩ λk s CJ he bt=>?_
 obtain ⟨L,i⟩:=s
 obtain ⟨h1,al,aO,b4⟩:=bt
 simp only at he h1 al aO b4 ⊢
 subst he
 rw [eP k (by omega)]
 refine Tot.b8 (λbc=>?_) (λeF=>.aB ⟨al,aO,by show L.length<=_; omega⟩)
 have bc:k<m.length:=by omega
 have et:=hm.pg _ (List.getElem_mem bc)
 rw [ev bc]
 generalize m[k]=st at *
 have VG:=et.len a8
 refine .aJ (Ξ:=λL:List Cell=>L.length<=40 * (k+1)/\(∀ c∈L,oh g m.length c)/\L.Pairwise wI/\∀ c∈L,c.State<(k+1:Nat)) ?_ λr ax=>.aB ⟨bc,rfl,ax⟩
 refine Tot.upto (λs=>s.2) g.a'.length (λae s=>s.1.length<=40 * k+ae/\(∀ c∈s.1,oh g m.length c)/\s.1.Pairwise wI/\∀ c∈s.1,c.State<k\/(c.State=k/\c.b5<ae)) rfl (by omega) ⟨h1,al,aO,λc ab=>.inl (b4 c ab)⟩ λae s aa he bt=>?_
 obtain ⟨L,i⟩:=s
 obtain ⟨h1,al,aO,b4⟩:=bt
 simp only at he h1 al aO b4 ⊢
 subst he
 rw [eP ae (by omega)]
 refine Tot.b8 (λeC=>?_) (λeF=>.aB ⟨by show L.length<=_; omega,al,aO,λc ab=>by rcases b4 c ab with h | h <;> omega⟩)
 refine .aJ (Ξ:=λL:List Cell=>L.length<=40 * k+(ae+1)/\(∀ c∈L,oh g m.length c)/\L.Pairwise wI/\∀ c∈L,c.State<k\/(c.State=k/\c.b5<(ae+1:Nat))) ?_ λr ax=>.aB ⟨by omega,rfl,ax⟩
 refine .aJ (B' m k ae hm.vK) λfD Sd=>?_
 have Se:=Sd.yR hm
 refine .aJ (Ξ:=λ_=>True) ?_ λac _=>?_
 ·refine Tot.upto (λs=>s.2) st.Kernel.length (λ_ _=>True) rfl (by omega) trivial λz s bM he _=>?_
  obtain ⟨b,i⟩:=s
  simp only at he ⊢
  subst he
  rw [eP z (by omega)]
  simp only [Option.bind_some]
  refine Tot.b8 (λpa=>?_) (λ_=>.aB trivial)
  have pa:z<st.Kernel.length:=by omega
  rw [ev pa]
  simp only [Option.bind_some]
  refine .aJ (Ξ:=λ_=>True) (Tot.cv (λ_=>.aB trivial) (λ_=>Tot.b8 (λ_=>Tot.b8 (λ_=>.aB trivial) (λ_=>.aB trivial)) (λ_=>.aB trivial))) λ_ _=>.aB ⟨pa,rfl,trivial⟩
 refine .aJ (Ξ:=λP:List Int=>gj iW P/\∀ p∈P,pI g p) ?_ λP du=>?_
 ·refine Tot.upto (λs=>s.2) p4.length (λ_ s=>gj iW s.1/\∀ p∈s.1,pI g p) rfl (by omega) ⟨.nil,λp h=>by cases h⟩ λz s bM he bt=>?_
  obtain ⟨P,i⟩:=s
  obtain ⟨g1,g2⟩:=bt
  simp only at he g1 g2 ⊢
  subst he
  rw [eP z (by omega)]
  refine Tot.b8 (λpa=>?_) (λeF=>.aB ⟨g1,g2⟩)
  have pa:z<p4.length:=by omega
  have ll:=hk _ (List.getElem_mem pa)
  rw [ev pa]
  generalize p4[z]=l at *
  have Ge:=ll.t.len
  have QG:=jl.len (T:=g.ba.length) ⟨g1,λx J=>⟨by have:=(g2 x J).1; omega,(g2 x J).2⟩⟩
  simp only [Option.bind_some]
  refine .aJ (Ξ:=λP:List Int=>gj iW P/\∀ p∈P,pI g p) ?_ λr ax=>.aB ⟨pa,rfl,ax⟩
  refine .aJ (Ξ:=λ_=>True) (Tot.b8 (λ_=>.aJ (I6 l.a' ae (by omega)) λ_ _=>.aB trivial) (λ_=>.aB trivial)) λc _=>?_
  refine .aJ (Ξ:=λP:List Int=>gj iW P/\∀ p∈P,pI g p) (Tot.cv (λ_=>?_) (λ_=>.aB ⟨g1,g2⟩)) λr ax=>.aB ax
  refine .aJ (Ca P l.Prod g1 (by omega)) λr ax=>.aB ⟨ax.1,λp aG=>?_⟩
  rcases (ax.2.2 p).1 aG with h | rfl
  ·exact g2 p h
  ·exact ll.p
 ·have QG:=jl.len (T:=g.ba.length) ⟨du.1,λx J=>⟨by have:=(du.2 x J).1; omega,(du.2 x J).2⟩⟩
  rw [JG _ (by show P.length<=_; omega)]
  refine Tot.au (.aJ (Ξ:=λL:List Cell=>L.length<=40 * k+(ae+1)/\(∀ c∈L,oh g m.length c)/\L.Pairwise wI/\∀ c∈L,c.State<k\/(c.State=k/\c.b5<(ae+1:Nat))) (Tot.b8 (λbb=>?_) (λ_=>.aB ⟨by omega,al,aO,λc ab=>by rcases b4 c ab with h | h <;> omega⟩)) λr ax=>.aB ax)
  refine .aJ (Ξ:=λ_=>True) (Tot.ap (by simp [lim]; omega) trivial) λ_ _=>.aB ⟨by simp; omega,λc ab=>?_,List.pairwise_append.2 ⟨aO,List.pairwise_singleton ..,λa bj b aH=>?_⟩,λc ab=>?_⟩
  ·rcases List.mem_append.1 ab with ab | ab
   ·exact al c ab
   ·rw [List.mem_singleton.1 ab]
    exact ⟨⟨by show (0:Int)<=k; omega,by show (k:Int)<_; omega⟩,⟨by show (0:Int)<=ae; omega,by show (ae:Int)<_; omega⟩,Se,du.1,du.2,by omega⟩
  ·rw [List.mem_singleton.1 aH]
   rcases b4 a bj with h | h
   ·exact .inl h
   ·exact .inr h
  ·rcases List.mem_append.1 ab with ab | ab
   ·rcases b4 c ab with h | h
    ·exact .inl h
    ·exact .inr ⟨h.1,by omega⟩
   ·rw [List.mem_singleton.1 ab]
    exact .inr ⟨rfl,by show (ae:Int)<_; omega⟩
open Go Go.Own
theorem iO.Tf {m:jj}{T L:Nat}(h:iO m T L):kP m (3+T) m.bH.length 0 0 :=
 ⟨h.iu,h.lo,h.hi,by have:=h.ty; omega,rfl,by rw [h.hA]; decide,by rw [h.hp]; exact Nat.le_refl 0,by rw [h.hp]; exact λp aG=>absurd aG (by simp),h.lvl,h.jR⟩
theorem t78 (s:Source) (aH:uO s):Tot (A' s) λr=>r.2.1=0->gV r.1:=by
 unfold A'
 refine .aJ (t92 s aH) λc ab=>Tot.cv (λ_=>.aB λh=>absurd h (by decide)) (λlI=>?_)
 have ok:Ik s:=ab (by simpa using lI)
 refine .aJ (Tot.mk (by decide) (rfl:List.replicate (3:Int).toNat false=List.replicate (3:Int).toNat false)) λa_ hd=>?_
 have VN:=aH.EF
 have CR:=aH.aP
 -- declarations
 refine Tot.aJ (Ξ:=λr=>iO r.1 (1001 * 1000) 0) ?_ λcq df=>?_
 ·refine Tot.count (λz=>z.2.2) s.Decls.length (λz=>0<=z.2.2/\z.2.2<=s.Decls.length/\iO z.1 (1001 * z.2.2.toNat) 0/\z.1.bU<=z.2.2) ⟨Int.le_refl 0,by show (0:Int)<=_; omega,⟨by show a_.length=3; rw [<- hd]; rfl,Nat.le_refl 3,Nat.le_refl 3,Nat.le_refl 0,Nat.le_refl 0,rfl,rfl,Int.le_refl 0,by show ∀ t∈[_,_,_],0<=b5.Level t; simp⟩,Int.le_refl 0⟩ (by show (s.Decls.length:Int) - 0<_; omega) λz bM=>?_
  obtain ⟨m,st,i⟩:=z
  obtain ⟨bb,h1,hm,qK⟩:=bM
  simp only at bb h1 hm qK ⊢
  have hw:aQ (i+1)=i+1:=by rw [dK]; omega
  rw [hw]
  have FV:=hm.lvl
  refine Tot.b8 (λbc=>?_) (λ_=>.aB (hm.mono (by omega) (Nat.le_refl _)))
  refine .aJ (Tot.hC (Φ:=λy=>y∈s.Decls) bb bc λy _ az=>az) λd aV=>?_
  have nU:=aH.decls d aV
  have KG:=nU.n
  refine .aJ (Ξ:=λ_=>True) (Tot.cv (λ_=>.aB trivial) (λ_=>.aB trivial)) λiS _=>.aJ (Ξ:=λae=>0<=ae/\ae<=i+1) (Tot.cv (λ_=>.aB (by rw [dK]; omega)) (λ_=>.aB (by omega))) λhf zv=>?_
  refine Tot.aJ (Ξ:=λr=>iO r.1 (1001 * i.toNat+1000) 0/\r.1.bU<=i+1) ?_ λeo zw=>.aB ⟨⟨?_,?_,?_,?_⟩,?_,?_⟩
  ·refine Tot.count (λz=>z.2.2) d.fo.length (λz=>0<=z.2.2/\z.2.2<=d.fo.length/\iO z.1 (1001 * i.toNat+z.2.2.toNat) 0/\z.1.bU<=i+1) ⟨Int.le_refl 0,by show (0:Int)<=_; omega,⟨hm.iu,hm.lo,hm.hi,hm.ty,hm.hR,hm.hp,hm.hA,zv.1,hm.jR⟩,zv.2⟩ (by show (d.fo.length:Int) - 0<_; omega) λz bM=>?_
   obtain ⟨m,st,k⟩:=z
   obtain ⟨g0,g1,hm,qK⟩:=bM
   simp only at g0 g1 hm qK ⊢
   have vt:aQ (k+1)=k+1:=by rw [dK]; omega
   rw [vt]
   refine Tot.b8 (λlL=>?_) (λ_=>.aB ⟨hm.mono (by omega) (Nat.le_refl _),qK⟩)
   have C4:Tot (idx d.fo k) λy=>y∈d.fo:=Tot.hC g0 lL λy _ az=>az
   refine Tot.aJ (Ξ:=λae=>iO ae.1 (1001 * i.toNat+k.toNat+1) 0/\ae.1.bU<=i+1) ?_ λae aa=>.aB ⟨⟨?_,?_,?_,aa.2⟩,?_,?_⟩
   ·refine Tot.cv (λ_=>?_) (λ_=>?_)
    ·refine .aJ C4 λx J=>.aJ (t93 m d x hm.iu (by have:=hm.hi; omega) (by have:=hm.ty; omega) (ok.decls d aV x J)) λm' a8=>.aB ⟨hm.grow a8,by show m'.bU<=_; rw [a8.lvl]; exact qK⟩
    ·refine Tot.aJ (Ξ:=λae=>iO ae (1001 * i.toNat+k.toNat+1) 0/\ae.bU<=i+1) ?_ λae aa=>.aJ C4 λ_ _=>.aB aa
     refine Tot.cv (λ_=>?_) (λ_=>.aB ⟨hm.mono (by omega) (Nat.le_refl _),qK⟩)
     exact .aJ C4 λ_ _=>.aJ C4 λ_ _=>.aJ (t94 m _ _) λm' kk=>.aB ⟨(hm.same kk.1).mono (by omega) (Nat.le_refl _),by rw [kk.1.jR]; exact qK⟩
   ·show 0<=k+1; omega
   ·show k+1<=(d.fo.length:Int); omega
   ·show iO ae.1 (1001 * i.toNat+(k+1).toNat) 0
    exact aa.1.mono (by omega) (Nat.le_refl _)
   ·show k<k+1; omega
   ·show k+1<=(d.fo.length:Int); omega
  ·show 0<=i+1; omega
  ·show i+1<=(s.Decls.length:Int); omega
  ·show iO eo.1 (1001 * (i+1).toNat) 0
   exact zw.1.mono (by omega) (Nat.le_refl _)
  ·exact zw.2
  ·show i<i+1; omega
  ·show i+1<=(s.Decls.length:Int); omega
 -- what stands on the left
 refine Tot.aJ (Ξ:=λr=>iO r (1001 * 1000) 1000) ?_ λcV P5=>?_
 ·refine Tot.count (λz=>z.2) s.eG.length (λz=>0<=z.2/\z.2<=s.eG.length/\iO z.1 (1001 * 1000) z.2.toNat) ⟨Int.le_refl 0,by show (0:Int)<=_; omega,df⟩ (by show (s.eG.length:Int) - 0<_; omega) λz bM=>?_
  obtain ⟨m,i⟩:=z
  obtain ⟨bb,h1,hm⟩:=bM
  simp only at bb h1 hm ⊢
  have hw:aQ (i+1)=i+1:=by rw [dK]; omega
  rw [hw]
  refine Tot.b8 (λbc=>?_) (λ_=>.aB (hm.mono (Nat.le_refl _) (by omega)))
  have tR:=hm.hi
  have xu:=hm.hR
  refine Tot.aJ (Ξ:=λae=>iO ae (1001 * 1000) (i.toNat+1)) ?_ λae aa=>.aB ⟨⟨?_,?_,?_⟩,?_,?_⟩
  ·refine .aJ (Tot.hC (Φ:=λ_=>True) bb bc λy _ az=>trivial) λr ax=>.aJ (t95 m _ (by simp only [ff]; omega)) λt _=>?_
   refine Tot.aJ (Ξ:=λae=>iO ae (1001 * 1000) i.toNat) ?_ λfF sr=>?_
   ·exact Tot.cv (λ_=>.aJ (t94 m _ _) λm' kk=>.aB (hm.same kk.1)) (λ_=>.aB hm)
   ·have V1:=sr.hR
    refine .aJ (t96 fF _ (by simp only [ff]; omega)) λk _=>?_
    refine Tot.aJ (Ξ:=λl=>l.length<=i.toNat+1) ?_ λl ao=>.aB ⟨sr.iu,sr.lo,sr.hi,sr.ty,ao,sr.hp,sr.hA,sr.lvl,sr.jR⟩
    refine Tot.cv (λ_=>?_) (λ_=>.aB (by omega))
    exact .aJ (Ξ:=λ_=>True) (Tot.ap (by simp [lim]; omega) trivial) λ_ _=>.aB (by simp; omega)
  ·show 0<=i+1; omega
  ·show i+1<=(s.eG.length:Int); omega
  ·show iO ae (1001 * 1000) (i+1).toNat
   exact aa.mono (Nat.le_refl _) (by omega)
  ·show i<i+1; omega
  ·show i+1<=(s.eG.length:Int); omega
 -- types and starts
 refine Tot.aJ (Ξ:=λr=>iO r (1001 * 1000) 1000) ?_ λbR zy=>?_
 ·refine Tot.count (λz=>z.2) s.Decls.length (λz=>0<=z.2/\z.2<=s.Decls.length/\iO z.1 (1001 * 1000) 1000) ⟨Int.le_refl 0,by show (0:Int)<=_; omega,P5⟩ (by show (s.Decls.length:Int) - 0<_; omega) λz bM=>?_
  obtain ⟨m,i⟩:=z
  obtain ⟨bb,h1,hm⟩:=bM
  simp only at bb h1 hm ⊢
  have hw:aQ (i+1)=i+1:=by rw [dK]; omega
  rw [hw]
  refine Tot.b8 (λbc=>?_) (λ_=>.aB hm)
  refine Tot.aJ (Ξ:=λr=>iO r (1001 * 1000) 1000) ?_ λmS P8=>.aB ⟨⟨?_,?_,P8⟩,?_,?_⟩
  ·have nX:i.toNat<s.Decls.length:=by omega
   have hi:idx s.Decls i=some s.Decls[i.toNat]:=by simp [idx,bb,nX]
   rw [hi]
   generalize aV:s.Decls[i.toNat]=d
   have lK:d∈s.Decls:=by rw [<- aV]; exact List.getElem_mem nX
   have KG:=(aH.decls d lK).n
   refine Tot.count (λz=>z.2) d.fo.length (λz=>0<=z.2/\z.2<=d.fo.length/\iO z.1 (1001 * 1000) 1000) ⟨Int.le_refl 0,by show (0:Int)<=_; omega,hm⟩ (by show (d.fo.length:Int) - 0<_; omega) λz bM=>?_
   obtain ⟨m,k⟩:=z
   obtain ⟨g0,g1,hm⟩:=bM
   simp only at g0 g1 hm ⊢
   have vt:aQ (k+1)=k+1:=by rw [dK]; omega
   rw [vt]
   refine Tot.au (Tot.b8 (λlL=>?_) (λ_=>.aB hm))
   have xu:=hm.hR
   refine Tot.aJ (Ξ:=λae=>iO ae (1001 * 1000) 1000) ?_ λae aa=>.aB ⟨⟨?_,?_,aa⟩,?_,?_⟩
   ·refine Tot.au (.aJ (Tot.hC (Φ:=λ_=>True) g0 lL λ_ _ _=>trivial) λx _=>?_)
    refine .aJ (Ξ:=λ_=>True) (Tot.au (Tot.cv (λ_=>.aJ (t96 m _ (by simp only [ff]; omega)) λ_ _=>.aB trivial) (λ_=>.aB trivial))) λc _=>?_
    refine Tot.aJ (Ξ:=λae=>iO ae (1001 * 1000) 1000) ?_ λae aa=>.aB aa
    exact Tot.cv (λ_=>.aJ (t94 m _ _) λm' kk=>.aB (hm.same kk.1)) (λ_=>.aB hm)
   ·show 0<=k+1; omega
   ·show k+1<=(d.fo.length:Int); omega
   ·show k<k+1; omega
   ·show k+1<=(d.fo.length:Int); omega
  ·show 0<=i+1; omega
  ·show i+1<=(s.Decls.length:Int); omega
  ·show i<i+1; omega
  ·show i+1<=(s.Decls.length:Int); omega
 -- the start
 have sG:=ok.pos
 refine Tot.aJ (Ξ:=λ_=>True) (Tot.cv (λ_=>.aJ (Ξ:=λ_=>True) (Tot.hC (by decide) (by omega) λ_ _ _=>trivial) λ_ _=>.aB trivial) (λ_=>.aB trivial)) λvD _=>?_
 have V3:=zy.hR
 refine .aJ (t96 bR vD (by simp only [ff]; omega)) λh_ pT=>?_
 have Qd:-1<=h_/\h_<bR.bH.length:=by rcases pT with h | h <;> omega
 -- the alternatives
 have ll:bR.bH.length<=1000:=zy.hR
 generalize Qz:bR.bH.length=L at ll Qd
 refine Tot.aJ (Ξ:=λr=>kP r (3+1001 * 1000+1001 * 1000000) L (1001 * 1000000) (1+1001 * 1000000)/\1<=r.aq.ba.length) ?_ λa7 Qe=>?_
 ·have sD:=zy.Tf
  rw [Qz] at sD
  refine Tot.count (λz=>z.2) s.eG.length (λz=>0<=z.2/\z.2<=s.eG.length/\kP z.1 (3+1001 * 1000+1001 * (1000 * z.2.toNat)) L (1001 * (1000 * z.2.toNat)) (1+1001 * (1000 * z.2.toNat))/\1<=z.1.aq.ba.length) ⟨Int.le_refl 0,by show (0:Int)<=_; omega,⟨sD.iu,sD.lo,sD.hi,sD.ty,sD.hR,sD.hA,Nat.le_refl 1,λp aG=>?_,sD.lvl,sD.jR⟩,Nat.le_refl 1⟩ (by show (s.eG.length:Int) - 0<_; omega) λz bM=>?_
  ·rw [List.mem_singleton.1 aG]
   have VR:=zy.hA
   have mu:=zy.lo
   refine ⟨⟨Int.le_refl 0,by show (0:Int)<=L+bR.bD; omega⟩,λy az=>?_,⟨by show (-1:Int)<=-1; omega,by show (-1:Int)<_; omega⟩⟩
   have az:y∈[aQ (1001+h_)]:=az
   rw [List.mem_singleton.1 az]
   have:aQ (1001+h_)=1001+h_:=by rw [dK]; omega
   rw [this]
   exact .inr (by show 1000<=1001+h_/\1001+h_<=1000+((L:Int)+bR.bD); omega)
  ·obtain ⟨m,i⟩:=z
   obtain ⟨bb,h1,hm,p0⟩:=bM
   simp only at bb h1 hm p0 ⊢
   have hw:aQ (i+1)=i+1:=by rw [dK]; omega
   rw [hw]
   refine Tot.b8 (λbc=>?_) (λ_=>.aB ⟨hm.mono (by omega) (by omega) (by omega),p0⟩)
   refine Tot.aJ (Ξ:=λr=>kP r (3+1001 * 1000+1001 * (1000 * (i.toNat+1))) L (1001 * (1000 * (i.toNat+1))) (1+1001 * (1000 * (i.toNat+1)))/\1<=r.aq.ba.length) ?_ λkq Cz=>.aB ⟨⟨?_,?_,?_,Cz.2⟩,?_,?_⟩
   ·have nX:i.toNat<s.eG.length:=by omega
    have hi:idx s.eG i=some s.eG[i.toNat]:=by simp [idx,bb,nX]
    rw [hi]
    generalize aV:s.eG[i.toNat]=d
    have lK:d∈s.eG:=by rw [<- aV]; exact List.getElem_mem nX
    have KG:=(aH.rules d lK).n
    refine Tot.count (λz=>z.2) d.fU.length (λz=>0<=z.2/\z.2<=d.fU.length/\kP z.1 (3+1001 * 1000+1001 * (1000 * i.toNat+z.2.toNat)) L (1001 * (1000 * i.toNat+z.2.toNat)) (1+1001 * (1000 * i.toNat+z.2.toNat))/\1<=z.1.aq.ba.length) ⟨Int.le_refl 0,by show (0:Int)<=_; omega,hm,p0⟩ (by show (d.fU.length:Int) - 0<_; omega) λz bM=>?_
    obtain ⟨m,k⟩:=z
    obtain ⟨g0,g1,hm,p0⟩:=bM
    simp only at g0 g1 hm p0 ⊢
    have vt:aQ (k+1)=k+1:=by rw [dK]; omega
    rw [vt]
    refine Tot.au (Tot.b8 (λlL=>?_) (λ_=>.aB ⟨hm.mono (by omega) (by omega) (by omega),p0⟩))
    refine Tot.au (Tot.au (.aJ (Tot.hC (Φ:=λy=>y∈d.fU) g0 lL λ_ _ h=>h) λa bj=>?_))
    refine .aJ (t97 m d.Left a hm (by omega) (by omega) (by omega) (by omega) ((aH.rules d lK).alts a bj) (ok.rules d lK a bj)) λm' kk=>.aB ⟨⟨?_,?_,?_,kk.2⟩,?_,?_⟩
    ·show 0<=k+1; omega
    ·show k+1<=(d.fU.length:Int); omega
    ·show kP m' (3+1001 * 1000+1001 * (1000 * i.toNat+(k+1).toNat)) L (1001 * (1000 * i.toNat+(k+1).toNat)) (1+1001 * (1000 * i.toNat+(k+1).toNat))
     exact kk.1.mono (by omega) (by omega) (by omega)
    ·show k<k+1; omega
    ·show k+1<=(d.fU.length:Int); omega
   ·show 0<=i+1; omega
   ·show i+1<=(s.eG.length:Int); omega
   ·show kP kq (3+1001 * 1000+1001 * (1000 * (i+1).toNat)) L (1001 * (1000 * (i+1).toNat)) (1+1001 * (1000 * (i+1).toNat))
    exact Cz.1.mono (by omega) (by omega) (by omega)
   ·show i<i+1; omega
   ·show i+1<=(s.eG.length:Int); omega
 obtain ⟨rF,Qf⟩:=Qe
 refine Tot.qy (λh=>.aB λaT=>absurd aT h) (λhe=>?_)
 have Vs:=rF.hR
 have Vq:=rF.hi
 have Vu:=rF.ty
 have Vr:=rF.hA
 have Vt:=rF.yf
 -- nonterminals
 refine Tot.aJ (Ξ:=λl=>l.length=1+L) ?_ λwB Vw=>?_
 ·refine Tot.count (λz=>z.2) a7.bH.length (λz=>0<=z.2/\z.2<=a7.bH.length/\z.1.length=1+z.2.toNat) ⟨Int.le_refl 0,by show (0:Int)<=_; omega,rfl⟩ (by show (a7.bH.length:Int) - 0<_; omega) λz bM=>?_
  obtain ⟨l,i⟩:=z
  obtain ⟨bb,h1,ao⟩:=bM
  simp only at bb h1 ao ⊢
  have hw:aQ (i+1)=i+1:=by rw [dK]; omega
  rw [hw]
  refine Tot.b8 (λbc=>?_) (λ_=>.aB (by show l.length=1+L; omega))
  refine .aJ (Tot.hC (Φ:=λ_=>True) bb bc λ_ _ _=>trivial) λmg _=>.aJ (t98 _ _ (by show a7.bV.length<=_; simp only [ff]; omega)) λwC Qg=>?_
  have Vx:wC=-1\/(0<=wC/\wC<a7.bV.length):=Qg
  refine .aJ (Ξ:=λ_=>True) (Tot.b8 (λh=>.aJ (Ξ:=λ_=>True) (Tot.hC h (by omega) λ_ _ _=>trivial) λ_ _=>.aB trivial) (λ_=>.aB trivial)) λp3 _=>?_
  refine .aJ (Ξ:=λ_=>True) (Tot.ap (by simp [lim]; omega) trivial) λ_ _=>.aB ⟨⟨?_,?_,?_⟩,?_,?_⟩
  ·show 0<=i+1; omega
  ·show i+1<=(a7.bH.length:Int); omega
  ·show (l++[_]).length=1+(i+1).toNat
   simp; omega
  ·show i<i+1; omega
  ·show i+1<=(a7.bH.length:Int); omega
 refine Tot.aJ (Ξ:=λl=>(l.length:Int)=1+L+a7.bD) ?_ λjh Vy=>?_
 ·refine Tot.count (λz=>z.2) (a7.bD+1) (λz=>1<=z.2/\z.2<=a7.bD+1/\(z.1.length:Int)=1+L+(z.2 - 1)) ⟨Int.le_refl 1,by show (1:Int)<=_; omega,by show (wB.length:Int)=1+L+(1 - 1); omega⟩ (by show a7.bD+1 - 1<_; omega) λz bM=>?_
  obtain ⟨l,i⟩:=z
  obtain ⟨bb,h1,ao⟩:=bM
  simp only at bb h1 ao ⊢
  have hw:aQ (i+1)=i+1:=by rw [dK]; omega
  rw [hw]
  refine Tot.b8 (λbc=>?_) (λ_=>.aB (by show (l.length:Int)=1+L+a7.bD; omega))
  refine .aJ (t99 i (by omega) (by omega)) λDL Vz=>.aJ (Ξ:=λ_=>True) (Tot.cat (by show 1+DL.size<=_; omega) trivial) λrb _=>?_
  refine .aJ (Ξ:=λ_=>True) (Tot.ap (by simp [lim]; omega) trivial) λ_ _=>.aB ⟨⟨?_,?_,?_⟩,?_,?_⟩
  ·show 1<=i+1; omega
  ·show i+1<=a7.bD+1; omega
  ·show ((l++[_]).length:Int)=1+L+(i+1 - 1)
   simp; omega
  ·show i<i+1; omega
  ·show i+1<=a7.bD+1; omega
 -- numbers
 have RE:=rF.iu
 refine Tot.aJ (Ξ:=λl=>l.length=a7.aq.a'.length/\∀ t∈l,0<=t.Level) ?_ λkL Qh=>?_
 ·refine Tot.count (λz=>z.2.2) a7.aq.a'.length (λz=>3<=z.2.2/\z.2.2<=a7.aq.a'.length/\z.1.length=a7.aq.a'.length/\∀ t∈z.1,0<=t.Level) ⟨Int.le_refl 3,by have:=rF.lo; show (3:Int)<=_; omega,rfl,rF.jR⟩ (by show (a7.aq.a'.length:Int) - 3<_; omega) λz bM=>?_
  obtain ⟨l,n,i⟩:=z
  obtain ⟨bb,h1,ao,hv⟩:=bM
  simp only at bb h1 ao hv ⊢
  have hw:aQ (i+1)=i+1:=by rw [dK]; omega
  rw [hw]
  refine Tot.b8 (λbc=>?_) (λ_=>.aB ⟨ao,hv⟩)
  refine Tot.aJ (Ξ:=λae=>ae.1.length=a7.aq.a'.length/\∀ t∈ae.1,0<=t.Level) ?_ λae aa=>.aB ⟨⟨?_,?_,aa⟩,?_,?_⟩
  ·refine .aJ (Tot.hC (Φ:=λ_=>True) (by omega) (by rw [RE]; omega) λ_ _ _=>trivial) λ_ _=>?_
   refine Tot.aJ (Ξ:=λae=>ae.1.length=a7.aq.a'.length/\∀ t∈ae.1,0<=t.Level) ?_ λae aa=>.aB aa
   refine Tot.cv (λ_=>?_) (λ_=>.aB ⟨ao,hv⟩)
   refine .aJ (Tot.hC (Φ:=λy=>y∈l) (by omega) bc λ_ _ h=>h) λy az=>.aB ⟨by show (l.set _ _).length=_; simp [ao],λt aD=>?_⟩
   rcases vJ aD with aD | rfl
   ·exact hv t aD
   ·exact (hv y az:0<=y.Level)
  ·show 3<=i+1; omega
  ·show i+1<=(a7.aq.a'.length:Int); omega
  ·show i<i+1; omega
  ·show i+1<=(a7.aq.a'.length:Int); omega
 -- limits
 obtain ⟨VA,Qi⟩:=Qh
 refine Tot.aJ (Ξ:=λc=>c=false->kL.length<=40/\jh.length<=24/\a7.aq.ba.length<=60) ?_ λrq P2=>?_
 ·refine Tot.b8 (λ_=>.aB λh=>by cases h) (λh1=>Tot.b8 (λ_=>.aB λh=>by cases h) (λal=>.aB λh=>?_))
  have aO:=of_decide_eq_false h
  omega
 refine Tot.aJ (Ξ:=λc=>c=false->rq=false/\∀ p∈a7.aq.ba,p.fx.length<=8) ?_ λBE P3=>?_
 ·refine Tot.count (λz=>z.2) a7.aq.ba.length (λz=>0<=z.2/\z.2<=a7.aq.ba.length/\(z.1=false->rq=false/\∀ (ae:Nat) (p:Prod),(ae:Int)<z.2->a7.aq.ba[ae]?=some p->p.fx.length<=8)) ⟨Int.le_refl 0,by show (0:Int)<=_; omega,λh=>⟨h,λae p aa=>by have aa:(ae:Int)<0:=aa; omega⟩⟩ (by show (a7.aq.ba.length:Int) - 0<_; omega) λz bM=>?_
  obtain ⟨c,i⟩:=z
  obtain ⟨bb,h1,ao⟩:=bM
  simp only at bb h1 ao ⊢
  have hw:aQ (i+1)=i+1:=by rw [dK]; omega
  rw [hw]
  refine Tot.b8 (λbc=>?_) (λeF=>.aB λh=>⟨(ao h).1,λp aG=>?_⟩)
  ·refine Tot.aJ (Ξ:=λhr=>hr=false->c=false/\∀ p,a7.aq.ba[i.toNat]?=some p->p.fx.length<=8) ?_ λhr fu=>.aB ⟨⟨?_,?_,λh=>?_⟩,?_,?_⟩
   ·refine Tot.cv (λ_=>.aB λh=>by cases h) (λRl=>.aJ (Tot.hC (Φ:=λy=>idx a7.aq.ba i=some y) bb bc λ_ h _=>h) λy az=>.aB λh=>⟨Rl,λp aG=>?_⟩)
    have al:=(qX az).2.2
    rw [aG] at al; cases al
    have:=of_decide_eq_false h
    omega
   ·show 0<=i+1; omega
   ·show i+1<=(a7.aq.ba.length:Int); omega
   ·obtain ⟨aw,a2⟩:=fu h
    obtain ⟨hK,iq⟩:=ao aw
    refine ⟨hK,λae p aa aG=>?_⟩
    have aa:(ae:Int)<i+1:=aa
    by_cases RI:(ae:Int)<i
    ·exact iq ae p RI aG
    ·have:ae=i.toNat:=by omega
     subst this
     exact a2 p aG
   ·show i<i+1; omega
   ·show i+1<=(a7.aq.ba.length:Int); omega
  ·obtain ⟨ae,aa,rfl⟩:=List.mem_iff_getElem.1 aG
   exact (ao h).2 ae _ (by omega) (List.getElem?_eq_getElem aa)
 refine Tot.cv (λ_=>.aB λh=>absurd h (by decide)) (λab=>.aB λ_=>?_)
 obtain ⟨aw,a2⟩:=P3 ab
 obtain ⟨hK,iq,lg⟩:=P2 aw
 have mu:=rF.lo
 refine ⟨⟨?_,hK⟩,⟨?_,iq⟩,⟨Qf,lg⟩,λp aG=>?_,a2,Qi⟩
 ·show 3<=kL.length; omega
 ·show 1<=jh.length; omega
 ·have:=rF.hp p aG
  exact this.mono (by show _<=kL.length; omega) (by show (L:Int)+a7.bD<=((jh.length:Nat):Int) - 1; omega)
theorem t68 (s:Source) (aH:uO s):Tot (A4 s) λr=>r.2=true->gV r.1:=by
 unfold A4
 exact .aJ (t78 s aH) λr ax=>.aB λh=>ax (of_decide_eq_true h)
theorem Oq (s:Source) (aH:uO s):Tot (A0 s) λr=>r.2.2=true->gV r.1/\mi r.1 r.2.1:=by
 unfold A0
 refine .aJ (t68 s aH) λr ax=>Tot.cv (λ_=>.aB λh=>by cases h) (λh=>?_)
 have a8:=ax (by simpa using h)
 refine .aJ (Ou r.1 a8) λm hm=>.aB λh=>⟨a8,?_⟩
 have h:m.2=0:=of_decide_eq_true h
 rcases hm with hm | hm
 ·exact hm.2
 ·omega
structure DT (g:b_) (m:List State) (cs:List Cell):Prop where
 tE:gV g
 Wh:mi g m
 ce:yC g m.length cs
theorem Om (s:Source) (aH:uO s):Tot (AV s) λr=>r.2.2.2=true->DT r.1 r.2.1 r.2.2.1:=by
 unfold AV
 refine .aJ (Oq s aH) λr ax=>Tot.cv (λ_=>.aB λh=>by cases h) (λh=>?_)
 obtain ⟨a8,hm⟩:=ax (by simpa using h)
 exact .aJ (w7 r.1 a8 hm) λp4 KW=>.aJ (Ot r.1 a8 hm p4 KW.1 KW.2) λcs hy=>.aB λ_=>⟨a8,hm,hy⟩
def xK (g:b_) (p:Int):Int × Int:=match idx g.ba p with
 | some q=>match idx g.a' q.Prec with
  | some t=>(t.Level,t.fw)
  | none=>(0,0)
 | none=>(0,0)
def dec (g:b_) (p t:Int):Int:=match idx g.a' t with
 | some k=>if (xK g p).1=0\/k.Level=0 then 0 else if (xK g p).1<k.Level then 1 else if k.Level<(xK g p).1 then 2 else if k.fw=1 then 2 else if k.fw=2 then 1 else 3
 | none=>0
theorem PC (g:b_) (a8:gV g) (p:Int) (aG:0<=p/\p<g.ba.length):Bg g p=some (xK g p):=by
 obtain ⟨q,bO,hm⟩:=nE aG.1 aG.2
 have aH:=(a8.hp q hm).prec
 unfold Bg xK
 have d1:decide (p<0)=false:=decide_eq_false (by omega)
 have d2:decide ((g.ba.length:Int)<=p)=false:=decide_eq_false (by omega)
 rw [d1,d2,bO]
 simp only [cond_false,Option.bind_some]
 by_cases h:q.Prec<0
 ·rw [decide_eq_true h,GF (.inl h)]; rfl
 ·obtain ⟨t,aD,_⟩:=nE (l:=g.a') (i:=q.Prec) (by omega) aH.2
  rw [decide_eq_false h,aD]; rfl
theorem PA (g:b_) (a8:gV g) (p t:Int) (aG:0<=p/\p<g.ba.length) (aD:0<=t/\t<g.a'.length):A_ g p t=some (dec g p t):=by
 obtain ⟨k,hk,hm⟩:=nE aD.1 aD.2
 unfold A_ dec
 rw [PC g a8 p aG,hk]
 have d1:decide (t<0)=false:=decide_eq_false (by omega)
 have d2:decide ((g.a'.length:Int)<=t)=false:=decide_eq_false (by omega)
 rw [d1,d2]
 generalize xK g p=x
 simp only [cond_false,Option.bind_some]
 by_cases h1:x.1=0
 ·simp [h1]
 ·by_cases al:k.Level=0
  ·simp [h1,al]
  ·rw [if_neg (by omega)]
   simp only [h1,al,decide_false,cond_false,Option.bind_some]
   by_cases aO:x.1<k.Level
   ·simp [aO]
   ·by_cases b4:k.Level<x.1
    ·simp [aO,b4]
    ·by_cases df:k.fw=1
     ·simp [aO,b4,df]
     ·by_cases eL:k.fw=2 <;> simp [aO,b4,df,eL]
def rk (g:b_) (c:Cell):Act:=match c.ba with
 | []=>if c.kM=true then ⟨3,0⟩ else ⟨1,c.jm⟩
 | p::_=>if c.kM=true then ⟨3,0⟩ else if c.jm<0 then ⟨2,p⟩ else if dec g p c.b5=2 then ⟨2,p⟩ else if dec g p c.b5=3 then ⟨4,0⟩ else ⟨1,c.jm⟩
def w8 (g:b_) (c:Cell):List fH:=match c.ba with
 | []=>[]
 | p::r=>r.map (λx=>(⟨c.State,c.b5,p,x⟩:fH))++(if c.kM=true\/(0<=c.jm/\dec g p c.b5=0) then [(⟨c.State,c.b5,-1,p⟩:fH)] else [])
structure qj (g:b_) (n:Nat) (a:Act):Prop where
 k:0<=a.Kind/\a.Kind<=4
 gY:a.Kind=0->a.N=0
 mJ:a.Kind=1->0<=a.N/\a.N<n
 pj:a.Kind=2->pI g a.N
 LN:a.Kind=3->a.N=0
 Tk:a.Kind=4->a.N=0
theorem NG {g:b_}{n:Nat}{c:Cell}(h:oh g n c):qj g n (rk g c)/\(rk g c).Kind≠0:=by
 have Ad:=h.UA
 have bl:=h.f
 have a3:qj g n ⟨3,0⟩:=⟨⟨by decide,by decide⟩,λh=>(by cases h),λh=>(by cases h),λh=>(by cases h),λ_=>rfl,λh=>by cases h⟩
 have a4:qj g n ⟨4,0⟩:=⟨⟨by decide,by decide⟩,λh=>(by cases h),λh=>(by cases h),λh=>(by cases h),λ_=>rfl,λ_=>rfl⟩
 have aw:0<=c.jm->qj g n ⟨1,c.jm⟩:=λbb=>⟨⟨by show (0:Int)<=1; decide,by show (1:Int)<=4; decide⟩,λh=>(by cases h),λ_=>⟨bb,bl.2⟩,λh=>(by cases h),λh=>(by cases h),λh=>by cases h⟩
 have a2:∀ p∈c.ba,qj g n ⟨2,p⟩:=λp aG=>⟨⟨by show (0:Int)<=2; decide,by show (2:Int)<=4; decide⟩,λh=>(by cases h),λh=>(by cases h),λ_=>h.q p aG,λh=>(by cases h),λh=>by cases h⟩
 unfold rk
 unfold nK at Ad
 cases du:c.ba with
 | nil =>
  simp only
  rw [du] at Ad
  by_cases h1:c.kM=true
  ·rw [if_pos h1]; exact ⟨a3,by decide⟩
  ·rw [if_neg h1]
   rw [if_neg h1] at Ad
   refine ⟨aw ?_,by show (1:Int)≠0; decide⟩
   by_cases al:0<=c.jm
   ·exact al
   ·rw [if_neg al] at Ad; simp at Ad
 | cons p r =>
  simp only
  have aG:=a2 p (by rw [du]; simp)
  split
  ·exact ⟨a3,by decide⟩
  ·split
   ·exact ⟨aG,by show (2:Int)≠0; decide⟩
   ·split
    ·exact ⟨aG,by show (2:Int)≠0; decide⟩
    ·split
     ·exact ⟨a4,by decide⟩
     ·exact ⟨aw (by omega),by show (1:Int)≠0; decide⟩
theorem Ja {g:b_}(a8:gV g) {n:Nat}{c:Cell}(h:oh g n c):(w8 g c).length<=60:=by
 have ao:=h.len a8
 unfold w8
 cases du:c.ba with
 | nil=>simp
 | cons p r =>
  rw [du,List.length_cons] at ao
  simp only [List.length_append,List.length_map]
  split
  ·simp; omega
  ·simp; omega
theorem Pz (g:b_) (a8:gV g) {n:Nat}(c:Cell) (h:oh g n c):x_ g c=some (rk g c,w8 g c):=by
 have ao:=h.len a8
 suffices aN:Tot (x_ g c) λr=>r=(rk g c,w8 g c) by
  obtain ⟨r,ax,e⟩:=aN; rw [ax,e]
 unfold x_ rk w8
 cases du:c.ba with
 | nil =>
  simp only
  refine .aJ (Ξ:=λl:List fH=>l=[]) ?_ λl ao=>?_
  ·refine Tot.loop (λs=>s=(([]:List fH),(1:Int))) (λ_=>0) rfl (by show 0<1000000000000000000; omega) λs aN=>?_
   subst aN
   exact .aB rfl
  ·subst ao
   cases h1:c.kM
   ·exact .aB (by simp)
   ·exact .aB (by simp)
 | cons p r =>
  rw [du,List.length_cons] at ao
  simp only
  have lh:idx (p::r) 0=some p:=rfl
  refine .aJ (Ξ:=λl:List fH=>l=r.map (λx=>(⟨c.State,c.b5,p,x⟩:fH))) ?_ λl ao=>?_
  ·refine Tot.count (λs=>s.2) ((r.length:Int)+1) (λs=>∃ k:Nat,k<=r.length/\s.2=((k+1:Nat):Int)/\s.1=(r.take k).map (λx=>(⟨c.State,c.b5,p,x⟩:fH))) ⟨0,Nat.zero_le _,rfl,rfl⟩ (by show (r.length:Int)+1 - 1<_; omega) λs aN=>?_
   obtain ⟨l,i⟩:=s
   obtain ⟨k,hk,he,bt⟩:=aN
   simp only at he bt ⊢
   subst he bt
   rw [eP (k+1) (by omega),lh]
   refine Tot.b8 (λbc=>?_) (λeF=>.aB ?_)
   ·rw [List.length_cons] at bc
    have bc:k<r.length:=by omega
    have dt:idx (p::r) ((k+1:Nat):Int)=some r[k]:=by
     simp only [idx,if_pos (show (0:Int)<=((k+1:Nat):Int) by omega),Int.toNat_natCast,List.getElem?_cons_succ]
     exact List.getElem?_eq_getElem bc
    rw [dt]
    refine Tot.au (Tot.au (.aJ (Ξ:=λ_=>True) (Tot.ap (by simp [lim]; omega) trivial) λ_ _=>.aB ⟨⟨k+1,by omega,rfl,?_⟩,by show ((k+1:Nat):Int)<((k+1+1:Nat):Int); omega,by show ((k+1+1:Nat):Int)<=(r.length:Int)+1; omega⟩))
    show _=(r.take (k+1)).map _
    rw [lz bc,List.map_append]; rfl
   ·rw [List.length_cons] at eF
    rw [List.take_of_length_le (by omega)]; rfl
  ·subst ao
   have aG:=h.q p (by rw [du]; simp)
   have EK:=PA g a8 p c.b5 ⟨by have:=aG.1; omega,aG.2⟩ h.t
   have dl:decide (((p::r).length:Int)=0)=false:=decide_eq_false (by simp; omega)
   simp only [lh,EK,dl,cond_false,Option.bind_some]
   generalize tQ:dec g p c.b5=v
   refine ⟨_,?_,rfl⟩
   have Ky:eS (r.map (λx=>(⟨c.State,c.b5,p,x⟩:fH))) [(⟨c.State,c.b5,(-1),p⟩:fH)]=some (r.map (λx=>(⟨c.State,c.b5,p,x⟩:fH))++[⟨c.State,c.b5,(-1),p⟩]):=by
    unfold eS; rw [if_pos (by simp [lim]; omega)]
   cases h1:c.kM
   ·by_cases al:c.jm<0
    ·have aO:¬ (0<=c.jm):=by omega
     simp [al,aO]
    ·have aO:0<=c.jm:=by omega
     by_cases b4:v=0
     ·simp [al,aO,b4,Ky]
     ·by_cases df:v=2
      ·simp [al,aO,df]
      ·by_cases eL:v=3
       ·simp [al,aO,eL]
       ·simp [al,aO,b4,df,eL]
   ·simp [Ky]
def rowOf (g:b_) (l:List Cell):List Act:=l.foldl (λrow c=>row.set c.b5.toNat (rk g c)) (List.replicate g.a'.length ⟨0,0⟩)
def iC (cs:List Cell) (q:Nat):List Cell:=cs.filter λc=>decide (c.State=(q:Int))
def go (m:List State) (q s:Int):Int:=(p9 m q s).getD (-1)
theorem go_eq {g:b_}{m:List State}(hm:mi g m) (q s:Int):p9 m q s=some (go m q s)/\GoTo m q s (go m q s):=by
 obtain ⟨r,ax,h⟩:=B' m q s hm.vK
 unfold go
 rw [ax]
 exact ⟨rfl,h⟩
theorem Mg (g:b_):∀ (l:List Cell),(rowOf g l).length=g.a'.length:=λl=>by
 suffices h:∀ (l:List Cell) (r:List Act),(l.foldl (λrow c=>row.set c.b5.toNat (rk g c)) r).length=r.length by
  unfold rowOf; rw [h]; simp
 intro l
 induction l with
 | nil=>intro r; rfl
 | cons c l aS=>intro r; rw [List.foldl_cons,aS,List.length_set]
theorem TW (g:b_) (l:List Cell) (c:Cell):rowOf g (l++[c])=(rowOf g l).set c.b5.toNat (rk g c):=by
 unfold rowOf; rw [List.foldl_append]; rfl
theorem TT {g:b_}{n:Nat}:∀ {l:List Cell},(∀ c∈l,oh g n c)->∀ a∈rowOf g l,qj g n a:=by
 intro l h
 suffices aN:∀ (l:List Cell) (r:List Act),(∀ c∈l,oh g n c)->(∀ a∈r,qj g n a)->∀ a∈l.foldl (λrow c=>row.set c.b5.toNat (rk g c)) r,qj g n a by
  refine aN l _ h λa bj=>?_
  rw [List.eq_of_mem_replicate bj]
  exact ⟨⟨by decide,by decide⟩,λ_=>rfl,λh=>(by cases h),λh=>(by cases h),λh=>(by cases h),λh=>by cases h⟩
 intro l
 induction l with
 | nil=>intro r _ ax; exact ax
 | cons c l aS =>
  intro r ao ax
  rw [List.foldl_cons]
  refine aS _ (λd aV=>ao d (by simp [aV])) λa bj=>?_
  rcases List.mem_or_eq_of_mem_set bj with h | h
  ·exact ax a h
  ·rw [h]; exact (NG (ao c (by simp))).1
def u' (g:b_) (m:List State) (q:Nat):List Int:=(List.range g.bu.length).map λa:Nat=>go m q (1000+(a:Int))
def lF (g:b_) (l:List Cell):List fH:=l.flatMap (w8 g)
theorem Et {g:b_}(a8:gV g) {n:Nat}:∀ {l:List Cell},(∀ c∈l,oh g n c)->(lF g l).length<=60 * l.length
 | [],_=>by simp [lF]
 | c::l,h=>by
  have h1:=Ja a8 (h c (by simp))
  have al:=Et a8 (l:=l) λd aV=>h d (by simp [aV])
  unfold lF at al ⊢
  rw [List.flatMap_cons,List.length_append,List.length_cons]
  omega
theorem MS {α:Type}{l:List α}{k:Nat}(h:k<l.length) (p:α->Bool):(l.take (k+1)).filter p=(l.take k).filter p++(if p l[k] then [l[k]] else []):=by
 rw [lz h,List.filter_append]
 congr 1
 rw [List.filter_cons]
 split <;> simp
structure DV (g:b_) (m:List State) (cs:List Cell) (d:kv):Prop where
 a:d.cL=(List.range m.length).map λq=>rowOf g (iC cs q)
 o:d.cN=(List.range m.length).map λq=>u' g m q
theorem On (g:b_) (m:List State) (cs:List Cell) (eT:DT g m cs):Tot (AW g m cs) λr=>DV g m cs r.1/\r.2=(List.range m.length).flatMap λq=>lF g (iC cs q):=by
 obtain ⟨a8,hm,ab⟩:=eT
 have aD:=a8.lA
 have aL:=a8.h2
 have F3:=hm.mJ
 have FB:=ab.n
 unfold AW
 refine .aJ (Ξ:=λr:List (List Act) × List (List Int) × List fH=>r.1=(List.range m.length).map (λq=>rowOf g (iC cs q))/\r.2.1=(List.range m.length).map (λq=>u' g m q)/\r.2.2=(List.range m.length).flatMap λq=>lF g (iC cs q)) ?_ λr ax=>.aB ⟨⟨ax.1,ax.2.1⟩,ax.2.2⟩
 have vm:∀ q,(lF g (iC cs q)).length<=360000:=λq=>by
  have h1:=Et a8 (l:=iC cs q) λc tM=>ab.ok c ((List.mem_filter.1 tM).1)
  have al:=List.length_filter_le (λc:Cell=>decide (c.State=(q:Int))) cs
  unfold iC at h1 ⊢
  omega
 have Rz:∀ k,((List.range k).flatMap λq=>lF g (iC cs q)).length<=360000 * k:=λk=>by
  induction k with
  | zero=>simp
  | succ k aS =>
   rw [List.range_succ,List.flatMap_append,List.length_append]
   have:=vm k
   simp only [List.flatMap_cons,List.flatMap_nil,List.append_nil]
   omega
 refine Tot.upto (λs=>s.2.2.2) m.length (λk s=>s.1=(List.range k).map (λq=>rowOf g (iC cs q))/\s.2.1=(List.range k).map (λq=>u' g m q)/\s.2.2.1=(List.range k).flatMap λq=>lF g (iC cs q)) rfl (by omega) ⟨rfl,rfl,rfl⟩ λk s hk he bt=>?_
 obtain ⟨A,G,C,i⟩:=s
 obtain ⟨h1,al,aO⟩:=bt
 simp only at he h1 al aO ⊢
 subst he h1 al aO
 rw [eP k (by omega)]
 refine Tot.b8 (λbc=>?_) (λeF=>.aB ?_)
 ·have bc:k<m.length:=by omega
  refine .aJ (Ξ:=λr=>r=List.replicate g.a'.length (⟨0,0⟩:Act)) (Tot.mk (by simp [lim]; omega) (by simp)) λqm gF=>?_
  subst gF
  have VP:=Rz k
  refine .aJ (Ξ:=λr:List fH × List Act=>r.1=(List.range k).flatMap (λq=>lF g (iC cs q))++lF g (iC cs k)/\r.2=rowOf g (iC cs k)) ?_ λr ax=>?_
  ·refine Tot.upto (λs=>s.2.2) cs.length (λae s=>s.1=(List.range k).flatMap (λq=>lF g (iC cs q))++lF g (iC (cs.take ae) k)/\s.2.1=rowOf g (iC (cs.take ae) k)) rfl (by omega) ⟨by simp [iC,lF],by simp [iC,rowOf]⟩ λae s aa he bt=>?_
   obtain ⟨C,R,i⟩:=s
   obtain ⟨h1,al⟩:=bt
   simp only at he h1 al ⊢
   subst he h1 al
   rw [eP ae (by omega)]
   refine Tot.b8 (λeC=>?_) (λeF=>.aB ?_)
   ·have eC:ae<cs.length:=by omega
    have vl:=ab.ok _ (List.getElem_mem eC)
    have vn:=MS eC (λc:Cell=>decide (c.State=(k:Int)))
    have V':(lF g (iC (cs.take ae) k)).length<=360000:=by
     have h1:=Et a8 (l:=iC (cs.take ae) k) λc tM=>ab.ok c (List.mem_of_mem_take ((List.mem_filter.1 tM).1))
     have al:=List.length_filter_le (λc:Cell=>decide (c.State=(k:Int))) (cs.take ae)
     rw [List.length_take] at al
     unfold iC at h1 ⊢
     omega
    rw [ev eC]
    generalize cs[ae]=c at *
    simp only [Option.bind_some]
    refine .aJ (Ξ:=λr:List fH × List Act=>r.1=(List.range k).flatMap (λq=>lF g (iC cs q))++lF g (iC (cs.take (ae+1)) k)/\r.2=rowOf g (iC (cs.take (ae+1)) k)) ?_ λr ax=>.aB ⟨eC,rfl,ax⟩
    refine .aJ (Ξ:=λr:List fH × List Act=>r.1=(List.range k).flatMap (λq=>lF g (iC cs q))++lF g (iC (cs.take (ae+1)) k)/\r.2=rowOf g (iC (cs.take (ae+1)) k)) (Tot.b8 (λaN=>?_) (λaN=>.aB ?_)) λr ax=>.aB ax
    ·rw [decide_eq_true aN,if_pos rfl] at vn
     rw [Pz g a8 c vl]
     simp only [Option.bind_some]
     have nz:=Mg g (iC (cs.take ae) k)
     obtain ⟨a0,Fq,_⟩:=nE (l:=rowOf g (iC (cs.take ae) k)) (i:=c.b5) vl.t.1 (by rw [nz]; exact vl.t.2)
     rw [Fq]
     have hx:=Ja a8 vl
     refine Tot.au (.aJ (Ξ:=λ_=>True) (Tot.ap (by rw [List.length_append]; simp only [lim]; omega) trivial) λ_ _=>.aB ⟨?_,?_⟩)
     ·show _=_++lF g ((cs.take (ae+1)).filter _)
      rw [vn]
      unfold lF
      rw [List.flatMap_append,List.append_assoc]
      simp [iC]
     ·show _=rowOf g ((cs.take (ae+1)).filter _)
      rw [vn,TW]; rfl
    ·have:(if (decide (c.State=(k:Int)))=true then [c] else [])=[]:=by simp [aN]
     rw [this,List.append_nil] at vn
     unfold iC
     rw [vn]
     exact ⟨rfl,rfl⟩
   ·have e:cs.take ae=cs:=List.take_of_length_le (by omega)
    rw [e]
    exact ⟨rfl,rfl⟩
  ·obtain ⟨C,R⟩:=r
   obtain ⟨h1,al⟩:=ax
   simp only at h1 al ⊢
   subst h1 al
   refine .aJ (Ξ:=λr=>r=List.replicate g.bu.length (0:Int)) (Tot.mk (by simp [lim]; omega) (by simp)) λVc Qu=>?_
   subst Qu
   refine .aJ (Ξ:=λr:List Int=>r=u' g m k) ?_ λr ax=>?_
   ·refine Tot.upto (λs=>s.2) g.bu.length (λae s=>s.1.length=g.bu.length/\∀ i:Nat,i<ae->s.1[i]?=some (go m k (1000+(i:Int)))) rfl (by omega) ⟨by simp,λi hi=>absurd hi (Nat.not_lt_zero _)⟩ λae s aa he bt=>?_
    obtain ⟨L,i⟩:=s
    obtain ⟨h1,al⟩:=bt
    simp only at he h1 al ⊢
    subst he
    rw [eP ae (by omega)]
    refine Tot.b8 (λeC=>?_) (λeF=>.aB ?_)
    ·have eC:ae<L.length:=by omega
     have hw:aQ (1000+(ae:Int))=1000+(ae:Int):=by rw [dK]; omega
     rw [hw,(go_eq hm k _).1,ev eC]
     refine Tot.au (Tot.au (.aB ⟨by omega,rfl,?_,λi hi=>?_⟩))
     ·show (L.set _ _).length=_
      rw [List.length_set]; exact h1
     ·show (L.set (ae:Int).toNat _)[i]?=_
      rw [Int.toNat_natCast,HE eC]
      by_cases e:i=ae
      ·subst e; rw [if_pos rfl]
      ·rw [if_neg e]; exact al i (by omega)
    ·show L=u' g m k
     refine List.ext_getElem? λi=>?_
     unfold u'
     by_cases hi:i<g.bu.length
     ·rw [al i (by omega),List.getElem?_map,List.getElem?_range hi]; rfl
     ·rw [List.getElem?_eq_none (by omega),List.getElem?_eq_none (by simp; omega)]
   ·subst ax
    refine .aJ (Ξ:=λ_=>True) (Tot.ap (by simp [lim]; omega) trivial) λ_ _=>.aJ (Ξ:=λ_=>True) (Tot.ap (by simp [lim]; omega) trivial) λ_ _=>.aB ⟨bc,rfl,?_,?_,?_⟩
    ·show _=(List.range (k+1)).map _
     rw [List.range_succ,List.map_append]; rfl
    ·show _=(List.range (k+1)).map _
     rw [List.range_succ,List.map_append]; rfl
    ·show _=(List.range (k+1)).flatMap _
     rw [List.range_succ,List.flatMap_append]; simp
 ·have:k=m.length:=by omega
  subst this
  exact ⟨rfl,rfl,rfl⟩
structure uK (g:b_) (n:Nat) (d:kv):Prop where
 gY:0<n/\n<=150
 tE:gV g
 a:d.cL.length=n
 D9:∀ r∈d.cL,r.length=g.a'.length/\∀ a∈r,qj g n a
 o:d.cN.length=n
 sT:∀ r∈d.cN,r.length=g.bu.length/\∀ v∈r,-1<=v/\v<n
theorem DV.yR {g:b_}{m:List State}{cs:List Cell}{d:kv}(h:DV g m cs d) (eT:DT g m cs):uK g m.length d:=by
 obtain ⟨a8,hm,ab⟩:=eT
 refine ⟨⟨hm.gY,hm.mJ⟩,a8,by rw [h.a]; simp,λr ax=>?_,by rw [h.o]; simp,λr ax=>?_⟩
 ·rw [h.a] at ax
  obtain ⟨q,_,rfl⟩:=List.mem_map.1 ax
  exact ⟨Mg g _,TT λc tM=>ab.ok c (List.mem_filter.1 tM).1⟩
 ·rw [h.o] at ax
  obtain ⟨q,_,rfl⟩:=List.mem_map.1 ax
  refine ⟨by simp [u'],λv hv=>?_⟩
  obtain ⟨a,_,rfl⟩:=List.mem_map.1 hv
  exact (go_eq hm q _).2.yR hm
theorem TM {g:b_}(a8:gV g) {n:Nat}{cs:List Cell}(ab:yC g n cs) {f:Cell->Option Int}(bl:∀ c:Cell,c.ba.length<=1000->f c=some (nK c:Int)):Tot (cS (R:=Int) (λ(s1:Int × Int) =>
(bif decide (s1.2<(cs.length:Int)) then
((idx cs s1.2).bind λbx =>
(f bx).bind λbz =>
((bif decide (1<bz) then
some (aQ (s1.1+1))
else
some s1.1)).bind λfi =>
some fi).bind λl6 =>
some (.inl (l6,aQ (s1.2+1)))
else
some (.inr s1.1))) (0,0)) λr=>r=((cs.filter λc=>decide (1<nK c)).length:Int):=by
 have FB:=ab.n
 refine Tot.upto (λs=>s.2) cs.length (λk s=>s.1=(((cs.take k).filter λc=>decide (1<nK c)).length:Int)) rfl (by omega) rfl λk s hk he bt=>?_
 obtain ⟨z,i⟩:=s
 simp only at he bt ⊢
 subst he bt
 rw [eP k (by omega)]
 refine Tot.b8 (λbc=>?_) (λeF=>.aB ?_)
 ·have bc:k<cs.length:=by omega
  have Rn:=ab.ok _ (List.getElem_mem bc)
  have vn:=MS bc (λc:Cell=>decide (1<nK c))
  have vm:=List.length_filter_le (λc:Cell=>decide (1<nK c)) (cs.take k)
  rw [List.length_take] at vm
  rw [ev bc]
  generalize cs[k]=c at *
  have hx:=Rn.len a8
  rw [show (some c).bind=λ(f:Cell->Option Int)=>f c from rfl]
  simp only [bl c (by omega),Option.bind_some]
  refine .aJ (Ξ:=λz:Int=>z=(((cs.take (k+1)).filter λc=>decide (1<nK c)).length:Int)) ?_ λr ax=>.aB ⟨bc,rfl,ax⟩
  rw [vn]
  refine .aJ (Ξ:=λz:Int=>z=(((cs.take k).filter (λc=>decide (1<nK c))++if decide (1<nK c)=true then [c] else []).length:Int)) (Tot.b8 (λh=>.aB ?_) (λh=>.aB ?_)) λr ax=>.aB ax
  ·have:1<nK c:=by omega
   rw [eP _ (by omega)]
   simp [this]
  ·have:¬ 1<nK c:=by omega
   simp [this]
 ·have e:cs.take k=cs:=List.take_of_length_le (by omega)
  rw [e]; rfl
theorem yZ {g:b_}(a8:gV g) {n:Nat}{cs:List Cell}(ab:yC g n cs):Tot (AZ cs) λr=>r=((cs.filter λc=>decide (1<nK c)).length:Int):=by
 unfold AZ
 exact .aJ (TM a8 ab JG) λr ax=>.aB ax
theorem rr (s:Source) (aH:uO s):Tot (vX s) λr=>r.2.2.2=true->∃ n,uK r.1 n r.2.1:=by
 unfold vX
 refine .aJ (Om s aH) λr ax=>Tot.cv (λ_=>.aB λh=>by cases h) (λh=>?_)
 have eT:=ax (by simpa using h)
 exact .aJ (On _ _ _ eT) λd aV=>.aJ (yZ eT.tE eT.ce) λ_ _=>.aB λ_=>⟨_,aV.1.yR eT⟩
theorem Px (a:Act):vV a=lR a:=by
 have h1:decide (a.N<20000)=decide (a.N<=19999):=decide_eq_decide.2 (by omega)
 have al:decide (0<a.N)=decide (1<=a.N):=decide_eq_decide.2 (by omega)
 unfold vV lR
 rw [h1,al]
theorem Py (n:Int):vW n=sU n:=by
 have h1:decide (0<n)=decide (1<=n):=decide_eq_decide.2 (by omega)
 have al:decide (n<0)=decide (n<=-1):=decide_eq_decide.2 (by omega)
 have aO:decide (-20000<n)=decide (-19999<=n):=decide_eq_decide.2 (by omega)
 unfold vW sU
 rw [h1,al,aO]
theorem u16 (a:Act):Tot (lR a) λ_=>True:=by
 unfold lR
 repeat' first | apply Tot.bi | refine Tot.cv (λ_=>?_) (λ_=>?_) | exact Tot.aB trivial | apply Tot.aB
theorem B9 (n:Int):∃ b c,sU n=some b/\lR b=some c/\(c=n\/(c=0/\b=⟨0,0⟩)):=by
 by_cases h1:1<=n/\n<=20000
 ·have e:aQ (n - 1)=n - 1:=by rw [dK]; omega
  have c3:aQ (n - 1+1)=n:=by rw [dK]; omega
  refine ⟨⟨1,n - 1⟩,n,?_,?_,.inl rfl⟩
  ·simp [sU,h1,e]
  ·have:0<=n - 1/\n - 1<=19999:=by omega
   have jY:aQ n=n:=by rw [dK]; omega
   simp [lR,h1,this,jY]
 ·by_cases al:n<=-1/\-19999<=n
  ·have e:aQ (-n)=-n:=by rw [dK]; omega
   have c3:aQ n=n:=by rw [dK]; omega
   have aO:¬ 1<=n:=by omega
   refine ⟨⟨2,-n⟩,n,?_,?_,.inl rfl⟩
   ·simp [sU,al,aO,e]
   ·have:1<=-n/\-n<=19999:=by omega
    simp [lR,this,c3]
  ·by_cases aO:n=20001
   ·subst aO; exact ⟨⟨3,0⟩,20001,by decide,by decide,.inl rfl⟩
   ·by_cases b4:n=20002
    ·subst b4; exact ⟨⟨4,0⟩,20002,by decide,by decide,.inl rfl⟩
    ·refine ⟨⟨0,0⟩,0,?_,by decide,.inr ⟨rfl,rfl⟩⟩
     have f1:(decide (1<=n)&&decide (n<=20000))=false:=by simp; omega
     have f2:(decide (n<=-1)&&decide (-19999<=n))=false:=by simp; omega
     have g1:(bif decide (1<=n) then some (decide (n<=20000)) else some false)=some (decide (1<=n)&&decide (n<=20000)):=by cases decide (1<=n) <;> rfl
     have g2:(bif decide (n<=-1) then some (decide (-19999<=n)) else some false)=some (decide (n<=-1)&&decide (-19999<=n)):=by cases decide (n<=-1) <;> rfl
     unfold sU
     rw [g1,f1,g2,f2]
     simp [aO,b4]
theorem r' (a:Act):∃ c,lR a=some c/\(c=0\/sU c=some a):=by
 obtain ⟨c,ab,_⟩:=u16 a
 refine ⟨c,ab,?_⟩
 obtain ⟨K,N⟩:=a
 have g:∀ p q:Prop,∀ [Decidable p] [Decidable q],(bif decide p then some (decide q) else some false)=some (decide (p/\q)):=λp q _ _=>by
  by_cases aG:p <;> simp [aG]
 by_cases h1:K=1/\0<=N/\N<=19999
 ·obtain ⟨rfl,h1⟩:=h1
  have e:aQ (N+1)=N+1:=by rw [dK]; omega
  have c3:aQ (N+1 - 1)=N:=by rw [dK]; omega
  simp [lR,h1,e] at ab
  subst ab
  have al:1<=N+1/\N+1<=20000:=by omega
  have jY:aQ N=N:=by rw [dK]; omega
  exact .inr (by simp [sU,al,jY])
 ·by_cases al:K=2/\1<=N/\N<=19999
  ·obtain ⟨rfl,al⟩:=al
   have e:aQ (-N)=-N:=by rw [dK]; omega
   have c3:aQ N=N:=by rw [dK]; omega
   simp [lR,al,e] at ab
   subst ab
   have aO:¬ 1<=-N:=by omega
   have b4:-N<=-1/\-19999<=-N:=by omega
   exact .inr (by simp [sU,aO,b4,c3])
  ·by_cases aO:K=3/\N=0
   ·obtain ⟨rfl,rfl⟩:=aO
    have:lR ⟨3,0⟩=some 20001:=by decide
    rw [this] at ab; cases ab
    exact .inr (by decide)
   ·by_cases b4:K=4/\N=0
    ·obtain ⟨rfl,rfl⟩:=b4
     have:lR ⟨4,0⟩=some 20002:=by decide
     rw [this] at ab; cases ab
     exact .inr (by decide)
    ·refine .inl ?_
     have vE:(bif decide (K=1) then (bif decide (0<=N) then some (decide (N<=19999)) else some false) else some false)=some false:=by
      rw [g]; by_cases h:K=1
      ·have:=λaT=>h1 ⟨h,aT⟩
       simp [h]; omega
      ·simp [h]
     have sS:(bif decide (K=2) then (bif decide (1<=N) then some (decide (N<=19999)) else some false) else some false)=some false:=by
      rw [g]; by_cases h:K=2
      ·have:=λaT=>al ⟨h,aT⟩
       simp [h]; omega
      ·simp [h]
     have S8:(bif decide (K=3) then some (decide (N=0)) else some false)=some false:=by rw [g]; simp [aO]
     have GW:(bif decide (K=4) then some (decide (N=0)) else some false)=some false:=by rw [g]; simp [b4]
     unfold lR at ab
     rw [vE,sS,S8,GW] at ab
     simpa using ab.symm
def oo (l:List Int) (v:Int):Prop:=(l=[]/\v=-1)\/(v∈l/\∀ x∈l,l.count x<l.count v\/(l.count x=l.count v/\v<=x))
theorem oo.uniq {l:List Int}{v w:Int}(h:oo l v) (aT:oo l w):v=w:=by
 rcases h with ⟨h1,al⟩ | ⟨h1,al⟩ <;> rcases aT with ⟨aO,b4⟩ | ⟨aO,b4⟩
 ·omega
 ·subst h1; cases aO
 ·subst aO; cases h1
 ·have a:=al w aO
  have b:=b4 v h1
  omega
theorem ru (l:List Int) (y x:Int):(l++[y]).count x=l.count x+(if y=x then 1 else 0):=by
 rw [List.count_append]
 by_cases e:y=x
 ·subst e; simp
 ·rw [if_neg e,List.count_eq_zero.2 λhm=>e (List.mem_singleton.1 hm).symm]
theorem Po {l:List Int}{x:Int}(h:x∈l):0<l.count x:=List.count_pos_iff.2 h
theorem oo.snoc {l:List Int}{b y:Int}(h:oo l b) (bb:∀ x∈l,0<=x) (az:0<=y):oo (l++[y]) (if b<0\/(l++[y]).count b<(l++[y]).count y\/((l++[y]).count y=(l++[y]).count b/\y<b) then y else b):=by
 refine .inr ?_
 rcases h with ⟨rfl,rfl⟩ | ⟨aH,hm⟩
 ·rw [if_pos (.inl (by decide))]
  refine ⟨by simp,λx J=>?_⟩
  rw [List.nil_append,List.mem_singleton] at J
  subst J; exact .inr ⟨rfl,Int.le_refl _⟩
 ·have Kz:=bb b aH
  have key:∀ x∈l++[y],x∈l\/x=y:=λx J=>by simpa using J
  have u3:(l++[y]).count y=l.count y+1:=by rw [ru,if_pos rfl]
  by_cases KB:b=y
  ·subst KB
   rw [if_neg (by omega)]
   refine ⟨by simp,λx J=>?_⟩
   rw [u3]
   by_cases e:x=b
   ·subst e; exact .inr ⟨u3,Int.le_refl _⟩
   ·rw [ru,if_neg (λh=>e h.symm)]
    rcases key x J with J | J
    ·have:=hm x J; omega
    ·exact absurd J e
  ·have Er:(l++[y]).count b=l.count b:=by rw [ru,if_neg (λh=>KB h.symm)]; rfl
   by_cases ab:b<0\/(l++[y]).count b<(l++[y]).count y\/((l++[y]).count y=(l++[y]).count b/\y<b)
   ·rw [if_pos ab]
    rw [Er,u3] at ab
    refine ⟨by simp,λx J=>?_⟩
    rw [u3]
    by_cases e:x=y
    ·subst e; exact .inr ⟨u3,Int.le_refl _⟩
    ·rw [ru,if_neg (λh=>e h.symm)]
     rcases key x J with J | J
     ·have:=hm x J; omega
     ·exact absurd J e
   ·rw [if_neg ab]
    rw [Er,u3] at ab
    refine ⟨by simp [aH],λx J=>?_⟩
    rw [Er]
    by_cases e:x=y
    ·subst e; rw [u3]; omega
    ·rw [ru,if_neg (λh=>e h.symm)]
     rcases key x J with J | J
     ·have:=hm x J; omega
     ·exact absurd J e
theorem GX {x:Int}(h:-1<=x/\x<=1000000):q0 x=true:=by unfold q0; rw [decide_eq_true]; omega
theorem y1 (l:List Int) (ao:l.length<=100000) (bb:∀ x∈l,0<=x/\x<=1000000):Tot (vZ l) (oo l):=by
 unfold vZ
 refine .aJ (Ξ:=oo l) ?_ λr ax=>.aB ax
 refine Tot.upto (λs=>s.2.2) l.length (λk s=>s.1.length=k/\(∀ x,(oa s.1 x).getD 0=((l.take k).count x:Int))/\oo (l.take k) s.2.1) rfl (by omega) ⟨rfl,λx=>by simp [oa],.inl ⟨rfl,rfl⟩⟩ λk s hk he bt=>?_
 obtain ⟨m,b,i⟩:=s
 obtain ⟨h1,al,aO⟩:=bt
 simp only at he h1 al aO ⊢
 subst he
 rw [eP k (by omega)]
 refine Tot.b8 (λbc=>?_) (λeF=>.aB ?_)
 ·have bc:k<l.length:=by omega
  have az:=bb _ (List.getElem_mem bc)
  have fZ:=lz bc
  have Ku:∀ x∈l.take k,0<=x/\x<=1000000:=λx J=>bb x (List.mem_of_mem_take J)
  have hx:=List.count_le_length (a:=l[k]) (l:=l.take k)
  rw [ev bc]
  generalize l[k]=y at *
  have aH:-1<=b/\b<=1000000:=by
   rcases aO with ⟨_,rfl⟩ | ⟨h,_⟩
   ·omega
   ·have:=Ku b h; omega
  rw [List.length_take] at hx
  have dt:q1 q0 0 m y=some ((l.take k).count y:Int):=by unfold q1; rw [if_pos (GX ⟨by omega,az.2⟩),al]
  have c3:aQ (((l.take k).count y:Int)+1)=(((l.take k).count y+1:Nat):Int):=eP _ (by omega)
  have jY:xL q0 m y (((l.take k).count y+1:Nat):Int)=some ((y,(((l.take k).count y+1:Nat):Int))::m):=by
   unfold xL
   rw [GX ⟨by omega,az.2⟩,Bool.true_and,if_pos (decide_eq_true (by simp only [lim]; omega))]
  have KZ:∀ x,(oa ((y,(((l.take k).count y+1:Nat):Int))::m) x).getD 0=((l.take (k+1)).count x:Int):=λx=>by
   rw [fZ,ru]
   unfold oa
   by_cases e:y=x
   ·subst e; rw [if_pos rfl,if_pos rfl]; rfl
   ·rw [if_neg e,if_neg e,al]; rfl
  have rA:∀ x,(-1<=x/\x<=1000000)->q1 q0 0 ((y,(((l.take k).count y+1:Nat):Int))::m) x=some ((l.take (k+1)).count x:Int):=λx J=>by unfold q1; rw [if_pos (GX J),KZ]
  have aN:=aO.snoc (y:=y) (λx J=>(Ku x J).1) az.1
  rw [<- fZ] at aN
  have lI:=List.count_le_length (a:=y) (l:=l.take (k+1))
  have sB:=List.count_le_length (a:=b) (l:=l.take (k+1))
  rw [List.length_take] at lI sB
  simp only [Option.bind_some,dt,c3,jY,rA y ⟨by omega,az.2⟩,rA b aH]
  have hw:aQ (((l.take (k+1)).count y:Int) - ((l.take (k+1)).count b:Int))=((l.take (k+1)).count y:Int) - ((l.take (k+1)).count b:Int):=by rw [dK]; omega
  rw [hw]
  refine .aJ (Ξ:=λr:List (Int × Int) × Int=>r.1=(y,(((l.take k).count y+1:Nat):Int))::m/\oo (l.take (k+1)) r.2) ?_ λr ax=>.aB ⟨bc,rfl,by rw [ax.1]; simp [h1],by rw [ax.1]; exact KZ,ax.2⟩
  refine .aJ (Ξ:=λc:Bool=>c=decide (b<0\/(l.take (k+1)).count b<(l.take (k+1)).count y\/((l.take (k+1)).count y=(l.take (k+1)).count b/\y<b))) ?_ λc ab=>?_
  ·refine Tot.b8 (λh=>.aB (decide_eq_true (.inl h)).symm) (λh=>Tot.b8 (λaT=>.aB (decide_eq_true (.inr (.inl (by omega)))).symm) (λaT=>Tot.b8 (λal=>.aB ?_) (λal=>.aB (decide_eq_false (by omega)).symm)))
   exact decide_eq_decide.2 (by omega)
  ·subst ab
   refine .aJ (Ξ:=λz=>z=(if b<0\/(l.take (k+1)).count b<(l.take (k+1)).count y\/((l.take (k+1)).count y=(l.take (k+1)).count b/\y<b) then y else b)) (Tot.b8 (λh=>.aB (if_pos h).symm) (λh=>.aB (if_neg h).symm)) λz bM=>.aB ⟨rfl,?_⟩
   show oo _ z
   rw [bM]; exact aN
 ·have e:l.take k=l:=List.take_of_length_le (by omega)
  rw [e] at aO
  exact aO
theorem Oo (l:List Int) (ao:l.length<=100000) (bb:∀ x∈l,0<=x/\x<=1000000):Tot (x9 l) (oo l):=by
 unfold x9
 refine .aJ (Ξ:=λr:List Int=>gj iW r/\r.length<=l.length/\∀ x,x∈r↔x∈l) ?_ λD nU=>?_
 ·refine Tot.upto (λs=>s.2) l.length (λk s=>gj iW s.1/\s.1.length<=k/\∀ x,x∈s.1↔x∈l.take k) rfl (by omega) ⟨.nil,Nat.le_refl 0,λx=>by simp⟩ λk s hk he bt=>?_
  obtain ⟨r,i⟩:=s
  obtain ⟨h1,al,aO⟩:=bt
  simp only at he h1 al aO ⊢
  subst he
  rw [eP k (by omega)]
  refine Tot.b8 (λbc=>?_) (λeF=>.aB ?_)
  ·have bc:k<l.length:=by omega
   have fZ:=lz bc
   rw [ev bc]
   generalize l[k]=y at *
   refine Tot.au (.aJ (Ca r y h1 (by omega)) λfc eY=>.aB ⟨bc,rfl,eY.1,by have:=eY.2.1; show fc.length<=k+1; omega,λx=>?_⟩)
   rw [fZ,List.mem_append,List.mem_singleton,<- aO]
   exact eY.2.2 x
  ·have e:l.take k=l:=List.take_of_length_le (by omega)
   rw [e] at aO
   exact ⟨h1,by omega,aO⟩
 ·obtain ⟨Qo,VC,CB⟩:=nU
  refine .aJ (Ξ:=λr:Int=>oo l r) ?_ λr ax=>.aB ax
  refine Tot.upto (λs=>s.2.2) D.length (λk s=>(k=0/\s.1=-1/\s.2.1=0)\/(s.1∈D.take k/\s.2.1=(l.count s.1:Int)/\∀ x∈D.take k,l.count x<l.count s.1\/(l.count x=l.count s.1/\s.1<=x))) rfl (by omega) (.inl ⟨rfl,rfl,rfl⟩) λk s hk he bt=>?_
  obtain ⟨b,n,i⟩:=s
  simp only at he bt ⊢
  subst he
  rw [eP k (by omega)]
  refine Tot.b8 (λbc=>?_) (λeF=>.aB ?_)
  ·have bc:k<D.length:=by omega
   have fZ:=lz bc
   have SR:=List.getElem_mem bc
   have qP:∀ x∈D.take k,x<D[k]:=λx J=>by
    obtain ⟨ae,aa,rfl⟩:=List.mem_iff_getElem.1 J
    rw [List.length_take] at aa
    rw [List.getElem_take]
    exact LL.1 (II Qo (by omega) bc (by omega))
   rw [ev bc]
   generalize D[k]=y at *
   have CY:=(CB y).1 SR
   refine .aJ (Ξ:=λr:Int × Int=>r.1∈D.take (k+1)/\r.2=(l.count r.1:Int)/\∀ x∈D.take (k+1),l.count x<l.count r.1\/(l.count x=l.count r.1/\r.1<=x)) ?_ λr ax=>.aB ⟨bc,rfl,.inr ax⟩
   refine .aJ (Ξ:=λz:Int=>z=(l.count y:Int)) ?_ λz bM=>?_
   ·refine Tot.upto (λs=>s.2) l.length (λae s=>s.1=((l.take ae).count y:Int)) rfl (by omega) (by simp) λae s aa he bt=>?_
    obtain ⟨z,i⟩:=s
    simp only at he bt ⊢
    subst he bt
    rw [eP ae (by omega)]
    refine Tot.b8 (λeC=>?_) (λeF=>.aB ?_)
    ·have eC:ae<l.length:=by omega
     have l5:=lz eC
     have hx:=List.count_le_length (a:=y) (l:=l.take ae)
     rw [List.length_take] at hx
     rw [ev eC]
     generalize l[ae]=x at *
     simp only [Option.bind_some]
     refine .aJ (Ξ:=λz:Int=>z=((l.take (ae+1)).count y:Int)) ?_ λz bM=>.aB ⟨eC,rfl,bM⟩
     rw [l5,ru]
     refine .aJ (Ξ:=λz:Int=>z=(((l.take ae).count y+if x=y then 1 else 0:Nat):Int)) (Tot.b8 (λe=>.aB ?_) (λe=>.aB ?_)) λz bM=>.aB bM
     ·rw [if_pos e,eP _ (by omega)]
     ·rw [if_neg e]; rfl
    ·have e:l.take ae=l:=List.take_of_length_le (by omega)
     rw [e]; rfl
   ·subst bM
    refine .aJ (Ξ:=λr:Int × Int=>r.1∈D.take (k+1)/\r.2=(l.count r.1:Int)/\∀ x∈D.take (k+1),l.count x<l.count r.1\/(l.count x=l.count r.1/\r.1<=x)) ?_ λr ax=>.aB ax
    have VM:=Po CY
    rw [fZ]
    have key:∀ x∈D.take k++[y],x∈D.take k\/x=y:=λx J=>by simpa using J
    refine Tot.b8 (λab=>Tot.au (.aB ⟨by simp,rfl,λx J=>?_⟩)) (λab=>?_)
    ·rcases key x J with J | rfl
     ·rcases bt with ⟨rfl,_,_⟩ | ⟨h1,al,aO⟩
      ·simp at J
      ·have:=aO x J; show l.count x<l.count y\/_; omega
     ·exact .inr ⟨rfl,Int.le_refl _⟩
    ·rcases bt with ⟨rfl,_,rfl⟩ | ⟨h1,al,aO⟩
     ·omega
     ·refine .aB ⟨by simp [h1],al,λx J=>?_⟩
      rcases key x J with J | rfl
      ·exact aO x J
      ·have:=qP b h1
       have ab:¬ ((n:Int)<(l.count x:Int)):=ab
       have al:n=(l.count b:Int):=al
       show l.count x<l.count b\/(l.count x=l.count b/\b<=x)
       omega
  ·have e:D.take k=D:=List.take_of_length_le (by omega)
   rw [e] at bt
   rcases bt with ⟨rfl,rfl,_⟩ | ⟨h1,al,aO⟩
   ·have:D=[]:=List.eq_nil_of_length_eq_zero (by omega)
    refine .inl ⟨?_,rfl⟩
    refine List.eq_nil_iff_forall_not_mem.2 λx J=>?_
    have:=(CB x).2 J
    subst_vars
    cases this
   ·exact .inr ⟨(CB b).1 h1,λx J=>aO x ((CB x).2 J)⟩
def kJ (l:List Int):Int:=(x9 l).getD (-1)
def DZ (l:List Int):Prop:=l.length<=100000/\∀ x∈l,0<=x/\x<=1000000
theorem xS {l:List Int}(h:DZ l):vZ l=some (kJ l)/\x9 l=some (kJ l)/\oo l (kJ l):=by
 obtain ⟨v,hv,h1⟩:=y1 l h.1 h.2
 obtain ⟨w,hw,al⟩:=Oo l h.1 h.2
 have e:kJ l=w:=by unfold kJ; rw [hw]; rfl
 have c3:=h1.uniq al
 rw [e]
 exact ⟨by rw [hv,c3],hw,al⟩
def hS {α:Type}(keep:α->Bool) (val:α->Int) (l:List α):List cQ:=(l.zipIdx.filter λp=>keep p.1).map λp=>(⟨(p.2:Nat),val p.1⟩:cQ)
theorem Dr {α:Type}(keep:α->Bool) (val:α->Int) (l:List α) (x:α):hS keep val (l++[x])=hS keep val l++(if keep x=true then [(⟨l.length,val x⟩:cQ)] else []):=by
 unfold hS
 rw [List.zipIdx_append,List.filter_append,List.map_append]
 congr 1
 cases h:keep x <;> simp [h]
theorem yg {α:Type}(keep:α->Bool) (val:α->Int) (l:List α):(hS keep val l).length<=l.length:=by
 unfold hS
 rw [List.length_map]
 refine Nat.le_trans (List.length_filter_le ..) ?_
 rw [List.length_zipIdx]; exact Nat.le_refl _
theorem Td {α:Type}{keep:α->Bool}{val:α->Int}{l:List α}{p:cQ}:p∈hS keep val l↔∃ (k:Nat) (x:α),l[k]?=some x/\keep x=true/\p=⟨k,val x⟩:=by
 unfold hS
 rw [List.mem_map]
 constructor
 ·rintro ⟨⟨x,k⟩,h,rfl⟩
  rw [List.mem_filter,List.mem_zipIdx_iff_getElem?] at h
  exact ⟨k,x,h.1,h.2,rfl⟩
 ·rintro ⟨k,x,h1,al,rfl⟩
  exact ⟨(x,k),by rw [List.mem_filter,List.mem_zipIdx_iff_getElem?]; exact ⟨h1,al⟩,rfl⟩
def red (r:List Act):List Int:=(r.filter λa=>decide (a.Kind=2)).map (·.N)
theorem Hr (r:List Act) (a:Act):red (r++[a])=red r++(if a.Kind=2 then [a.N] else []):=by
 unfold red
 rw [List.filter_append,List.map_append]
 congr 1
 by_cases h:a.Kind=2 <;> simp [h]
theorem Du (r:List Act):(red r).length<=r.length:=by
 unfold red
 rw [List.length_map]; exact List.length_filter_le ..
def kh (a:Act):Int:=(lR a).getD 0
theorem Jc (a:Act):vV a=some (kh a)/\lR a=some (kh a):=by
 obtain ⟨c,ab,_⟩:=u16 a
 have:kh a=c:=by unfold kh; rw [ab]; rfl
 rw [this,Px]
 exact ⟨ab,ab⟩
def jf (d:Int) (a:Act):Bool:=!decide (a.Kind=0)&&(!decide (a.Kind=2)||!decide (a.N=d))
def pw (r:List Act):Row:=⟨kJ (red r),hS (jf (kJ (red r))) kh r⟩
def jg (d v:Int):Bool:=decide (0<=v)&&!decide (v=d)
def pos (c:List Int):List Int:=c.filter λv=>decide (0<=v)
theorem Dq (r:List Int) (a:Int):pos (r++[a])=pos r++(if 0<=a then [a] else []):=by
 unfold pos
 rw [List.filter_append]
 congr 1
 by_cases h:0<=a <;> simp [h]
def px (c:List Int):Row:=⟨kJ (pos c),hS (jg (kJ (pos c))) id c⟩
def dF (d:kv) (a:Nat):List Int:=d.cN.map λr=>r.getD a 0
theorem Hq {g:b_}{n:Nat}(a8:gV g) {r:List Act}(ao:r.length=g.a'.length) (h:∀ a∈r,qj g n a):DZ (red r):=by
 have aD:=a8.lA
 have aG:=a8.lx
 have:=Du r
 refine ⟨by omega,λx J=>?_⟩
 unfold red at J
 obtain ⟨a,bj,rfl⟩:=List.mem_map.1 J
 rw [List.mem_filter] at bj
 have hk:=(h a bj.1).pj (of_decide_eq_true bj.2)
 have h1:=hk.1
 have al:=hk.2
 omega
theorem Hn {c:List Int}(ao:c.length<=150) (h:∀ v∈c,v<150):DZ (pos c):=by
 have:=List.length_filter_le (λv:Int=>decide (0<=v)) c
 refine ⟨by unfold pos; omega,λx J=>?_⟩
 unfold pos at J
 rw [List.mem_filter] at J
 have h1:=h x J.1
 have al:=of_decide_eq_true J.2
 omega
theorem yW (g:b_) (n:Nat) (d:kv) (aV:uK g n d):Tot (x6 d) λr=>r=d.cL.map pw:=by
 have a8:=aV.tE
 have aD:=a8.lA
 have aL:=aV.gY
 have bj:=aV.a
 unfold x6
 refine .aJ (Ξ:=λr:List Row=>r=d.cL.map pw) ?_ λr ax=>.aB ax
 refine Tot.upto (λs=>s.2) d.cL.length (λk s=>s.1=(d.cL.take k).map pw) rfl (by omega) rfl λk s hk he bt=>?_
 obtain ⟨R,i⟩:=s
 simp only at he bt ⊢
 subst he bt
 rw [eP k (by omega)]
 refine Tot.b8 (λbc=>?_) (λeF=>.aB ?_)
 ·have bc:k<d.cL.length:=by omega
  have fZ:=lz bc
  obtain ⟨nz,sI⟩:=aV.D9 _ (List.getElem_mem bc)
  simp only [ev bc,Option.bind_some]
  generalize d.cL[k]=r at *
  have kF:=Hq a8 nz sI
  obtain ⟨y9,y_,_⟩:=xS kF
  refine .aJ (Ξ:=λl:List Int=>l=red r) ?_ λl ao=>?_
  ·refine Tot.upto (λs=>s.2) r.length (λae s=>s.1=red (r.take ae)) rfl (by omega) rfl λae s aa he bt=>?_
   obtain ⟨L,i⟩:=s
   simp only at he bt ⊢
   subst he bt
   rw [eP ae (by omega)]
   refine Tot.b8 (λeC=>?_) (λeF=>.aB ?_)
   ·have eC:ae<r.length:=by omega
    have l5:=lz eC
    have hlen:=Du (r.take ae)
    rw [List.length_take] at hlen
    simp only [ev eC,Option.bind_some]
    generalize r[ae]=a at *
    refine .aJ (Ξ:=λL:List Int=>L=red (r.take (ae+1))) ?_ λr ax=>.aB ⟨eC,rfl,ax⟩
    rw [l5,Hr]
    refine .aJ (Ξ:=λL:List Int=>L=red (r.take ae)++(if a.Kind=2 then [a.N] else [])) (Tot.b8 (λh=>?_) (λh=>.aB ?_)) λr ax=>.aB ax
    ·rw [if_pos h]
     exact .aJ (Ξ:=λ_=>True) (Tot.ap (by simp [lim]; omega) trivial) λ_ _=>.aB rfl
    ·rw [if_neg h,List.append_nil]
   ·have e:r.take ae=r:=List.take_of_length_le (by omega)
    rw [e]; rfl
  ·subst ao
   rw [y9]
   refine Tot.au (.aJ (Ξ:=λl:List cQ=>l=hS (jf (kJ (red r))) kh r) ?_ λl ao=>?_)
   ·generalize kJ (red r)=D
    refine Tot.upto (λs=>s.2) r.length (λae s=>s.1=hS (jf D) kh (r.take ae)) rfl (by omega) rfl λae s aa he bt=>?_
    obtain ⟨L,i⟩:=s
    simp only at he bt ⊢
    subst he bt
    rw [eP ae (by omega)]
    refine Tot.b8 (λeC=>?_) (λeF=>.aB ?_)
    ·have eC:ae<r.length:=by omega
     have l5:=lz eC
     have hlen:=yg (jf D) kh (r.take ae)
     have fq:(r.take ae).length=ae:=by rw [List.length_take]; omega
     rw [List.length_take] at hlen
     simp only [ev eC,Option.bind_some]
     generalize r[ae]=a at *
     rw [(Jc a).1]
     refine .aJ (Ξ:=λL:List cQ=>L=hS (jf D) kh (r.take (ae+1))) ?_ λr ax=>.aB ⟨eC,rfl,ax⟩
     rw [l5,Dr,fq]
     refine .aJ (Ξ:=λc:Bool=>c=jf D a) (Tot.cv (λh=>?_) (λh=>.aB ?_)) λc ab=>?_
     ·refine Tot.cv (λal=>.aB ?_) (λal=>.aB ?_)
      ·unfold jf; rw [h,al]; rfl
      ·unfold jf; rw [h,al]; rfl
     ·unfold jf; rw [h]; rfl
     subst ab
     refine .aJ (Ξ:=λL:List cQ=>L=hS (jf D) kh (r.take ae)++(if jf D a=true then [(⟨ae,kh a⟩:cQ)] else [])) (Tot.cv (λh=>?_) (λh=>.aB ?_)) λr ax=>.aB ax
     ·rw [if_pos h]
      exact Tot.au (.aJ (Ξ:=λ_=>True) (Tot.ap (by simp [lim]; omega) trivial) λ_ _=>.aB rfl)
     ·rw [if_neg (by rw [h]; decide),List.append_nil]
    ·have e:r.take ae=r:=List.take_of_length_le (by omega)
     rw [e]; rfl
   ·subst ao
    refine .aJ (Ξ:=λ_=>True) (Tot.ap (by simp [lim]; omega) trivial) λ_ _=>.aB ⟨bc,rfl,?_⟩
    show _=(d.cL.take (k+1)).map pw
    rw [fZ,List.map_append]; rfl
 ·have e:d.cL.take k=d.cL:=List.take_of_length_le (by omega)
  rw [e]; rfl
theorem tu (g:b_) (n:Nat) (d:kv) (aV:uK g n d):Tot (L_ d) λr=>r=d.cL.map pw:=by
 have a8:=aV.tE
 have aD:=a8.lA
 have aL:=aV.gY
 have bj:=aV.a
 unfold L_
 refine .aJ (Ξ:=λr:List Row=>r=d.cL.map pw) ?_ λr ax=>.aB ax
 refine Tot.upto (λs=>s.2) d.cL.length (λk s=>s.1=(d.cL.take k).map pw) rfl (by omega) rfl λk s hk he bt=>?_
 obtain ⟨R,i⟩:=s
 simp only at he bt ⊢
 subst he bt
 rw [eP k (by omega)]
 refine Tot.b8 (λbc=>?_) (λeF=>.aB ?_)
 ·have bc:k<d.cL.length:=by omega
  have fZ:=lz bc
  obtain ⟨nz,sI⟩:=aV.D9 _ (List.getElem_mem bc)
  simp only [ev bc,Option.bind_some]
  generalize d.cL[k]=r at *
  have kF:=Hq a8 nz sI
  obtain ⟨y9,y_,_⟩:=xS kF
  refine .aJ (Ξ:=λl:List Int=>l=red r) ?_ λl ao=>?_
  ·refine Tot.upto (λs=>s.2) r.length (λae s=>s.1=red (r.take ae)) rfl (by omega) rfl λae s aa he bt=>?_
   obtain ⟨L,i⟩:=s
   simp only at he bt ⊢
   subst he bt
   rw [eP ae (by omega)]
   refine Tot.b8 (λeC=>?_) (λeF=>.aB ?_)
   ·have eC:ae<r.length:=by omega
    have l5:=lz eC
    have hlen:=Du (r.take ae)
    rw [List.length_take] at hlen
    simp only [ev eC,Option.bind_some]
    generalize r[ae]=a at *
    refine .aJ (Ξ:=λL:List Int=>L=red (r.take (ae+1))) ?_ λr ax=>.aB ⟨eC,rfl,ax⟩
    rw [l5,Hr]
    refine .aJ (Ξ:=λL:List Int=>L=red (r.take ae)++(if a.Kind=2 then [a.N] else [])) (Tot.b8 (λh=>?_) (λh=>.aB ?_)) λr ax=>.aB ax
    ·rw [if_pos h]
     exact .aJ (Ξ:=λ_=>True) (Tot.ap (by simp [lim]; omega) trivial) λ_ _=>.aB rfl
    ·rw [if_neg h,List.append_nil]
   ·have e:r.take ae=r:=List.take_of_length_le (by omega)
    rw [e]; rfl
  ·subst ao
   rw [y_]
   refine Tot.au (.aJ (Ξ:=λl:List cQ=>l=hS (jf (kJ (red r))) kh r) ?_ λl ao=>?_)
   ·generalize kJ (red r)=D
    refine Tot.upto (λs=>s.2) r.length (λae s=>s.1=hS (jf D) kh (r.take ae)) rfl (by omega) rfl λae s aa he bt=>?_
    obtain ⟨L,i⟩:=s
    simp only at he bt ⊢
    subst he bt
    rw [eP ae (by omega)]
    refine Tot.b8 (λeC=>?_) (λeF=>.aB ?_)
    ·have eC:ae<r.length:=by omega
     have l5:=lz eC
     have hlen:=yg (jf D) kh (r.take ae)
     have fq:(r.take ae).length=ae:=by rw [List.length_take]; omega
     rw [List.length_take] at hlen
     simp only [ev eC,Option.bind_some]
     generalize r[ae]=a at *
     rw [(Jc a).2]
     refine .aJ (Ξ:=λL:List cQ=>L=hS (jf D) kh (r.take (ae+1))) ?_ λr ax=>.aB ⟨eC,rfl,ax⟩
     rw [l5,Dr,fq]
     refine .aJ (Ξ:=λc:Bool=>c=jf D a) (Tot.cv (λh=>?_) (λh=>.aB ?_)) λc ab=>?_
     ·refine Tot.cv (λal=>.aB ?_) (λal=>.aB ?_)
      ·unfold jf; rw [h,al]; rfl
      ·unfold jf; rw [h,al]; rfl
     ·unfold jf; rw [h]; rfl
     subst ab
     refine .aJ (Ξ:=λL:List cQ=>L=hS (jf D) kh (r.take ae)++(if jf D a=true then [(⟨ae,kh a⟩:cQ)] else [])) (Tot.cv (λh=>?_) (λh=>.aB ?_)) λr ax=>.aB ax
     ·rw [if_pos h]
      exact Tot.au (.aJ (Ξ:=λ_=>True) (Tot.ap (by simp [lim]; omega) trivial) λ_ _=>.aB rfl)
     ·rw [if_neg (by rw [h]; decide),List.append_nil]
    ·have e:r.take ae=r:=List.take_of_length_le (by omega)
     rw [e]; rfl
   ·subst ao
    refine .aJ (Ξ:=λ_=>True) (Tot.ap (by simp [lim]; omega) trivial) λ_ _=>.aB ⟨bc,rfl,?_⟩
    show _=(d.cL.take (k+1)).map pw
    rw [fZ,List.map_append]; rfl
 ·have e:d.cL.take k=d.cL:=List.take_of_length_le (by omega)
  rw [e]; rfl
theorem w9 (d:kv) (a:Nat):(dF d a).length=d.cN.length:=by simp [dF]
theorem w_ {d:kv}{a q:Nat}(h:q<d.cN.length):(dF d a).take (q+1)=(dF d a).take q++[(d.cN[q]).getD a 0]:=by
 rw [lz (by rw [w9]; exact h)]
 congr 2
 simp [dF]
theorem Eu {g:b_}{n:Nat}{d:kv}(aV:uK g n d) {a:Nat}(bj:a<g.bu.length):∀ v∈dF d a,-1<=v/\v<n:=λv hv=>by
 unfold dF at hv
 obtain ⟨r,ax,rfl⟩:=List.mem_map.1 hv
 obtain ⟨h1,al⟩:=aV.sT r ax
 refine al _ ?_
 rw [List.getD_eq_getElem?_getD,List.getElem?_eq_getElem (by omega)]
 exact List.getElem_mem _
theorem xF {r:List Int}{a:Nat}(h:a<r.length):idx r (a:Int)=some (r.getD a 0):=by
 rw [ev h,List.getD_eq_getElem?_getD,List.getElem?_eq_getElem h]; rfl
theorem Dp (c:List Int):(pos c).length<=c.length:=List.length_filter_le ..
theorem yX (g:b_) (n:Nat) (d:kv) (aV:uK g n d):Tot (x7 d) λr=>r=(List.range g.bu.length).map λa=>px (dF d a):=by
 have a8:=aV.tE
 have aD:=a8.h2
 have aL:=aV.gY
 have bj:=aV.o
 have bb:0<d.cN.length:=by omega
 obtain ⟨R8,_⟩:=aV.sT _ (List.getElem_mem bb)
 have i0:idx d.cN 0=some d.cN[0]:=ev (k:=0) bb
 unfold x7
 refine Tot.b8 (λh=>absurd h (by omega)) (λ_=>?_)
 rw [i0]
 refine Tot.au (.aJ (Ξ:=λr:List Row=>r=(List.range g.bu.length).map λa=>px (dF d a)) ?_ λr ax=>.aB ax)
 refine Tot.upto (λs=>s.2) g.bu.length (λk s=>s.1=(List.range k).map λa=>px (dF d a)) rfl (by omega) rfl λk s hk he bt=>?_
 obtain ⟨R,i⟩:=s
 simp only at he bt ⊢
 subst he bt
 rw [eP k (by omega)]
 refine Tot.b8 (λbc=>?_) (λeF=>.aB ?_)
 ·have ix:k<g.bu.length:=by omega
  have kF:=Hn (c:=dF d k) (by rw [w9]; omega) λv hv=>by have:=(Eu aV ix v hv).2; omega
  obtain ⟨y9,y_,_⟩:=xS kF
  have hx:=w9 d k
  refine .aJ (Ξ:=λl:List Int=>l=pos (dF d k)) ?_ λl ao=>?_
  ·refine Tot.upto (λs=>s.2) d.cN.length (λae s=>s.1=pos ((dF d k).take ae)) rfl (by omega) rfl λae s aa he bt=>?_
   obtain ⟨L,i⟩:=s
   simp only at he bt ⊢
   subst he bt
   rw [eP ae (by omega)]
   refine Tot.b8 (λeC=>?_) (λeF=>.aB ?_)
   ·have eC:ae<d.cN.length:=by omega
    have l5:=w_ (a:=k) eC
    have hlen:=Dp ((dF d k).take ae)
    rw [List.length_take] at hlen
    obtain ⟨nz,_⟩:=aV.sT _ (List.getElem_mem eC)
    simp only [ev eC,Option.bind_some,xF (show k<(d.cN[ae]).length by omega)]
    generalize (d.cN[ae]).getD k 0=v at *
    refine .aJ (Ξ:=λL:List Int=>L=pos ((dF d k).take (ae+1))) ?_ λr ax=>.aB ⟨eC,rfl,ax⟩
    rw [l5,Dq]
    refine .aJ (Ξ:=λL:List Int=>L=pos ((dF d k).take ae)++(if 0<=v then [v] else [])) (Tot.b8 (λh=>?_) (λh=>.aB ?_)) λr ax=>.aB ax
    ·rw [if_pos h]
     exact .aJ (Ξ:=λ_=>True) (Tot.ap (by simp [lim]; omega) trivial) λ_ _=>.aB rfl
    ·rw [if_neg h,List.append_nil]
   ·have e:(dF d k).take ae=dF d k:=List.take_of_length_le (by omega)
    rw [e]; rfl
  ·subst ao
   rw [y9]
   refine Tot.au (.aJ (Ξ:=λl:List cQ=>l=hS (jg (kJ (pos (dF d k)))) id (dF d k)) ?_ λl ao=>?_)
   ·generalize kJ (pos (dF d k))=D
    refine Tot.upto (λs=>s.2) d.cN.length (λae s=>s.1=hS (jg D) id ((dF d k).take ae)) rfl (by omega) rfl λae s aa he bt=>?_
    obtain ⟨L,i⟩:=s
    simp only at he bt ⊢
    subst he bt
    rw [eP ae (by omega)]
    refine Tot.b8 (λeC=>?_) (λeF=>.aB ?_)
    ·have eC:ae<d.cN.length:=by omega
     have l5:=w_ (a:=k) eC
     have hlen:=yg (jg D) id ((dF d k).take ae)
     have fq:((dF d k).take ae).length=ae:=by rw [List.length_take]; omega
     rw [fq] at hlen
     obtain ⟨nz,_⟩:=aV.sT _ (List.getElem_mem eC)
     simp only [ev eC,Option.bind_some,xF (show k<(d.cN[ae]).length by omega)]
     generalize (d.cN[ae]).getD k 0=v at *
     refine .aJ (Ξ:=λL:List cQ=>L=hS (jg D) id ((dF d k).take (ae+1))) ?_ λr ax=>.aB ⟨eC,rfl,ax⟩
     rw [l5,Dr,fq]
     refine .aJ (Ξ:=λc:Bool=>c=jg D v) (Tot.cv (λh=>.aB ?_) (λh=>.aB ?_)) λc ab=>?_
     ·unfold jg; rw [h]; rfl
     ·unfold jg; rw [h]; rfl
     subst ab
     refine .aJ (Ξ:=λL:List cQ=>L=hS (jg D) id ((dF d k).take ae)++(if jg D v=true then [(⟨ae,id v⟩:cQ)] else [])) (Tot.cv (λh=>?_) (λh=>.aB ?_)) λr ax=>.aB ax
     ·rw [if_pos h]
      exact .aJ (Ξ:=λ_=>True) (Tot.ap (by simp [lim]; omega) trivial) λ_ _=>.aB rfl
     ·rw [if_neg (by rw [h]; decide),List.append_nil]
    ·have e:(dF d k).take ae=dF d k:=List.take_of_length_le (by omega)
     rw [e]; rfl
   ·subst ao
    refine .aJ (Ξ:=λ_=>True) (Tot.ap (by simp [lim]; omega) trivial) λ_ _=>.aB ⟨ix,rfl,?_⟩
    show _=(List.range (k+1)).map λa=>px (dF d a)
    rw [List.range_succ,List.map_append]; rfl
 ·have:k=g.bu.length:=by omega
  subst this; rfl
theorem tv (g:b_) (n:Nat) (d:kv) (aV:uK g n d):Tot (L' d) λr=>r=(List.range g.bu.length).map λa=>px (dF d a):=by
 have a8:=aV.tE
 have aD:=a8.h2
 have aL:=aV.gY
 have bj:=aV.o
 have bb:0<d.cN.length:=by omega
 obtain ⟨R8,_⟩:=aV.sT _ (List.getElem_mem bb)
 have i0:idx d.cN 0=some d.cN[0]:=ev (k:=0) bb
 have g0:decide ((0:Int)<(d.cN.length:Int))=true:=decide_eq_true (by omega)
 unfold L'
 refine .aJ (Ξ:=λr:List Row=>r=(List.range g.bu.length).map λa=>px (dF d a)) ?_ λr ax=>.aB ax
 refine Tot.upto (λs=>s.2) g.bu.length (λk s=>s.1=(List.range k).map λa=>px (dF d a)) rfl (by omega) rfl λk s hk he bt=>?_
 obtain ⟨R,i⟩:=s
 simp only at he bt ⊢
 subst he bt
 rw [eP k (by omega),g0,i0]
 simp only [cond_true,Option.bind_some]
 refine Tot.b8 (λbc=>?_) (λeF=>.aB ?_)
 ·have ix:k<g.bu.length:=by omega
  have kF:=Hn (c:=dF d k) (by rw [w9]; omega) λv hv=>by have:=(Eu aV ix v hv).2; omega
  obtain ⟨y9,y_,_⟩:=xS kF
  have hx:=w9 d k
  refine .aJ (Ξ:=λl:List Int=>l=pos (dF d k)) ?_ λl ao=>?_
  ·refine Tot.upto (λs=>s.2) d.cN.length (λae s=>s.1=pos ((dF d k).take ae)) rfl (by omega) rfl λae s aa he bt=>?_
   obtain ⟨L,i⟩:=s
   simp only at he bt ⊢
   subst he bt
   rw [eP ae (by omega)]
   refine Tot.b8 (λeC=>?_) (λeF=>.aB ?_)
   ·have eC:ae<d.cN.length:=by omega
    have l5:=w_ (a:=k) eC
    have hlen:=Dp ((dF d k).take ae)
    rw [List.length_take] at hlen
    obtain ⟨nz,_⟩:=aV.sT _ (List.getElem_mem eC)
    simp only [ev eC,Option.bind_some,xF (show k<(d.cN[ae]).length by omega)]
    generalize (d.cN[ae]).getD k 0=v at *
    refine .aJ (Ξ:=λL:List Int=>L=pos ((dF d k).take (ae+1))) ?_ λr ax=>.aB ⟨eC,rfl,ax⟩
    rw [l5,Dq]
    refine .aJ (Ξ:=λL:List Int=>L=pos ((dF d k).take ae)++(if 0<=v then [v] else [])) (Tot.b8 (λh=>?_) (λh=>.aB ?_)) λr ax=>.aB ax
    ·rw [if_pos h]
     exact .aJ (Ξ:=λ_=>True) (Tot.ap (by simp [lim]; omega) trivial) λ_ _=>.aB rfl
    ·rw [if_neg h,List.append_nil]
   ·have e:(dF d k).take ae=dF d k:=List.take_of_length_le (by omega)
    rw [e]; rfl
  ·subst ao
   rw [y_]
   refine Tot.au (.aJ (Ξ:=λl:List cQ=>l=hS (jg (kJ (pos (dF d k)))) id (dF d k)) ?_ λl ao=>?_)
   ·generalize kJ (pos (dF d k))=D
    refine Tot.upto (λs=>s.2) d.cN.length (λae s=>s.1=hS (jg D) id ((dF d k).take ae)) rfl (by omega) rfl λae s aa he bt=>?_
    obtain ⟨L,i⟩:=s
    simp only at he bt ⊢
    subst he bt
    rw [eP ae (by omega)]
    refine Tot.b8 (λeC=>?_) (λeF=>.aB ?_)
    ·have eC:ae<d.cN.length:=by omega
     have l5:=w_ (a:=k) eC
     have hlen:=yg (jg D) id ((dF d k).take ae)
     have fq:((dF d k).take ae).length=ae:=by rw [List.length_take]; omega
     rw [fq] at hlen
     obtain ⟨nz,_⟩:=aV.sT _ (List.getElem_mem eC)
     simp only [ev eC,Option.bind_some,xF (show k<(d.cN[ae]).length by omega)]
     generalize (d.cN[ae]).getD k 0=v at *
     refine .aJ (Ξ:=λL:List cQ=>L=hS (jg D) id ((dF d k).take (ae+1))) ?_ λr ax=>.aB ⟨eC,rfl,ax⟩
     rw [l5,Dr,fq]
     refine .aJ (Ξ:=λc:Bool=>c=jg D v) (Tot.cv (λh=>.aB ?_) (λh=>.aB ?_)) λc ab=>?_
     ·unfold jg; rw [h]; rfl
     ·unfold jg; rw [h]; rfl
     subst ab
     refine .aJ (Ξ:=λL:List cQ=>L=hS (jg D) id ((dF d k).take ae)++(if jg D v=true then [(⟨ae,id v⟩:cQ)] else [])) (Tot.cv (λh=>?_) (λh=>.aB ?_)) λr ax=>.aB ax
     ·rw [if_pos h]
      exact .aJ (Ξ:=λ_=>True) (Tot.ap (by simp [lim]; omega) trivial) λ_ _=>.aB rfl
     ·rw [if_neg (by rw [h]; decide),List.append_nil]
    ·have e:(dF d k).take ae=dF d k:=List.take_of_length_le (by omega)
     rw [e]; rfl
   ·subst ao
    refine .aJ (Ξ:=λ_=>True) (Tot.ap (by simp [lim]; omega) trivial) λ_ _=>.aB ⟨ix,rfl,?_⟩
    show _=(List.range (k+1)).map λa=>px (dF d a)
    rw [List.range_succ,List.map_append]; rfl
 ·have:k=g.bu.length:=by omega
  subst this; rfl
theorem TJ {α:Type}(keep:α->Bool) (val:α->Int) (l:List α):(hS keep val l).Pairwise λa b=>a.At<b.At:=by
 unfold hS
 rw [List.pairwise_map]
 refine List.Pairwise.sublist List.filter_sublist ?_
 rw [List.pairwise_iff_getElem]
 intro i ae hi aa VU
 simp only [List.getElem_zipIdx]
 omega
theorem yY (P:List cQ) (i:Int) (h:P.length<=1000000):Tot (vY P i) λr=>(∃ v,(⟨i,v⟩:cQ)∈P/\r=(v,true))\/((∀ v,(⟨i,v⟩:cQ)∉P)/\r=(0,false)):=by
 unfold vY
 refine .aJ (Ξ:=iB (λ_=>∀ v,(⟨i,v⟩:cQ)∉P) (λr:Int × Bool=>∃ v,(⟨i,v⟩:cQ)∈P/\r=(v,true))) ?_ λx J=>?_
 ·refine Tot.upto (λs=>s) P.length (λk _=>∀ v,(⟨i,v⟩:cQ)∉P.take k) rfl (by omega) (by simp) λk s hk he bt=>?_
  subst he
  rw [eP k (by omega)]
  refine Tot.b8 (λbc=>?_) (λ_=>.aB ?_)
  ·have bc:k<P.length:=by omega
   have fZ:=lz bc
   have hm:=List.getElem_mem bc
   simp only [ev bc,Option.bind_some]
   generalize P[k]=p at *
   refine Tot.b8 (λe=>.aB ⟨p.pN,by rw [<- e]; exact hm,rfl⟩) (λe=>.aB ⟨bc,rfl,λv hv=>?_⟩)
   rw [fZ,List.mem_append,List.mem_singleton] at hv
   rcases hv with hv | hv
   ·exact bt v hv
   ·exact e (by rw [<- hv])
  ·have e:P.take k=P:=List.take_of_length_le (by omega)
   rw [e] at bt
   exact bt
 ·rcases x with x | x
  ·exact .aB (.inr ⟨J,rfl⟩)
  ·exact .aB (.inl J)
theorem Kb {α:Type}{keep:α->Bool}{val:α->Int}{l:List α}{k:Nat}{x:α}(ao:l.length<=1000000) (hk:l[k]?=some x):vY (hS keep val l) (k:Int)=some (if keep x=true then (val x,true) else (0,false)):=by
 obtain ⟨r,ax,h⟩:=yY (hS keep val l) k (by have:=yg keep val l; omega)
 rw [ax]
 have key:∀ v,(⟨(k:Nat),v⟩:cQ)∈hS keep val l↔keep x=true/\v=val x:=λv=>by
  rw [Td]
  constructor
  ·rintro ⟨ae,y,h1,al,aO⟩
   simp only [cQ.mk.injEq] at aO
   have:k=ae:=by omega
   subst this
   rw [hk] at h1; cases h1
   exact ⟨al,aO.2⟩
  ·rintro ⟨h1,rfl⟩
   exact ⟨k,x,hk,h1,rfl⟩
 rcases h with ⟨v,h1,rfl⟩ | ⟨h1,rfl⟩
 ·obtain ⟨al,rfl⟩:=(key v).1 h1
  rw [if_pos al]
 ·rw [if_neg λh=>h1 (val x) ((key _).2 ⟨h,rfl⟩)]
theorem sa (r:List Act) (n:Int) (h:r.length<=100000):sV r n=some ((red r).count n:Int):=by
 suffices aN:Tot (sV r n) λz=>z=((red r).count n:Int) by
  obtain ⟨z,bM,e⟩:=aN; rw [bM,e]
 unfold sV
 refine .aJ (Ξ:=λz:Int=>z=((red r).count n:Int)) ?_ λz bM=>.aB bM
 refine Tot.upto (λs=>s.2) r.length (λk s=>s.1=((red (r.take k)).count n:Int)) rfl (by omega) (by simp [red]) λk s hk he bt=>?_
 obtain ⟨z,i⟩:=s
 simp only at he bt ⊢
 subst he bt
 rw [eP k (by omega)]
 refine Tot.b8 (λbc=>?_) (λeF=>.aB ?_)
 ·have bc:k<r.length:=by omega
  have fZ:=lz bc
  have h1:=List.count_le_length (a:=n) (l:=red (r.take k))
  have al:=Du (r.take k)
  rw [List.length_take] at al
  simp only [ev bc,Option.bind_some]
  generalize r[k]=a at *
  refine .aJ (Ξ:=λz:Int=>z=((red (r.take (k+1))).count n:Int)) ?_ λz bM=>.aB ⟨bc,rfl,bM⟩
  rw [fZ,Hr]
  refine .aJ (Ξ:=λc:Bool=>c=decide (a.Kind=2/\a.N=n)) (Tot.b8 (λh=>.aB ?_) (λh=>.aB ?_)) λc ab=>?_
  ·exact decide_eq_decide.2 ⟨λaT=>⟨h,aT⟩,λaT=>aT.2⟩
  ·exact (decide_eq_false λaT=>h aT.1).symm
  subst ab
  refine .aJ (Ξ:=λz:Int=>z=((red (r.take k)++if a.Kind=2 then [a.N] else []).count n:Int)) (Tot.b8 (λh=>.aB ?_) (λh=>.aB ?_)) λz bM=>.aB bM
  ·rw [if_pos h.1,ru,if_pos h.2,eP _ (by omega)]
  ·by_cases aO:a.Kind=2
   ·rw [if_pos aO,ru,if_neg λaT=>h ⟨aO,aT⟩]; rfl
   ·rw [if_neg aO,List.append_nil]
 ·have e:r.take k=r:=List.take_of_length_le (by omega)
  rw [e]; rfl
theorem OI {g:b_}{n:Nat}(a8:gV g) (aL:n<=150) {a:Act}(h:qj g n a) (bb:a.Kind≠0):vW (kh a)=some a:=by
 rw [Py]
 obtain ⟨c,ab,aV⟩:=r' a
 have aG:=a8.lx
 have:kh a=c:=by unfold kh; rw [ab]; rfl
 rw [this]
 refine aV.resolve_left λe=>?_
 subst e
 obtain ⟨K,N⟩:=a
 have h1:=h.k
 simp only at h1 bb
 have:K=1\/K=2\/K=3\/K=4:=by omega
 rcases this with rfl | rfl | rfl | rfl
 ·have al:=h.mJ rfl
  simp only at al
  have aO:0<=N/\N<=19999:=by omega
  have e:aQ (N+1)=N+1:=by rw [dK]; omega
  simp [lR,aO,e] at ab
  omega
 ·have al:=h.pj rfl
  have b4:=al.1
  have df:=al.2
  simp only at b4 df
  have aO:1<=N/\N<=19999:=by omega
  have e:aQ (-N)=-N:=by rw [dK]; omega
  simp [lR,aO,e] at ab
  omega
 ·have al:N=0:=h.LN rfl
  subst al
  have:lR ⟨3,0⟩=some 20001:=by decide
  rw [this] at ab; cases ab
 ·have al:N=0:=h.Tk rfl
  subst al
  have:lR ⟨4,0⟩=some 20002:=by decide
  rw [this] at ab; cases ab
theorem t6 (x:oR):A3 x=some true:=by
 suffices h:Tot (A3 x) λr=>r=true by
  obtain ⟨r,ax,e⟩:=h; rw [ax,e]
 unfold A3
 rw [M4]
 refine Tot.au (.aJ (t20 x) λy aH=>.aJ (rr y aH) λD nU=>?_)
 refine Tot.cv (λ_=>.aB rfl) (λe8=>?_)
 obtain ⟨n,aV⟩:=nU (by simpa using e8)
 generalize D.1=g at *
 generalize D.2.1=d at *
 have a8:=aV.tE
 have aD:=a8.lA
 have aL:=aV.gY
 have FD:=aV.a
 refine .aJ (yW g n d aV) λR bf=>?_
 subst bf
 have ve:(d.cL.map pw).length=d.cL.length:=List.length_map ..
 refine Tot.qy (λh=>absurd (by rw [ve]) h) (λ_=>?_)
 refine .aJ (Ξ:=iB (λ_=>True) (λ_:Bool=>False)) ?_ λx J=>by
  rcases x with x | x
  ·exact .aB rfl
  ·exact J.elim
 rw [ve]
 refine Tot.upto (λs=>s) d.cL.length (λ_ _=>True) rfl (by omega) trivial λq i bO he _=>?_
 subst he
 rw [eP q (by omega)]
 refine Tot.b8 (λbc=>?_) (λ_=>.aB trivial)
 have bc:q<d.cL.length:=by omega
 have dt:idx d.cL (q:Int)=some d.cL[q]:=ev bc
 have c3:idx (d.cL.map pw) (q:Int)=some (pw d.cL[q]):=by
  rw [ev (by rw [ve]; exact bc),List.getElem_map]
 obtain ⟨nz,sI⟩:=aV.D9 _ (List.getElem_mem bc)
 simp only [dt,c3,Option.bind_some]
 generalize d.cL[q]=r at *
 have kF:=Hq a8 nz sI
 obtain ⟨_,_,zZ⟩:=xS kF
 have EI:(pw r).Def=kJ (red r):=rfl
 have EJ:(pw r).kg=hS (jf (kJ (red r))) kh r:=rfl
 simp only [EI,EJ]
 generalize kJ (red r)=lZ at *
 refine .aJ (Ξ:=iB (λ_=>True) (λ_:Bool=>False)) ?_ λx J=>?_
 ·refine Tot.upto (λs=>s) r.length (λ_ _=>True) rfl (by omega) trivial λk i hk he _=>?_
  subst he
  rw [eP k (by omega)]
  refine Tot.b8 (λlL=>?_) (λ_=>.aB trivial)
  have lL:k<r.length:=by omega
  have mq:r[k]?=some r[k]:=List.getElem?_eq_getElem lL
  have vf:=sI _ (List.getElem_mem lL)
  have lM:=List.getElem_mem lL
  simp only [ev lL,Option.bind_some,Kb (show r.length<=1000000 by omega) mq,sa r _ (show r.length<=100000 by omega)]
  generalize r[k]=a at *
  -- the first condition
  refine .aJ (Ξ:=λc=>c=false) ?_ λc ab=>?_
  ·by_cases mr:jf lZ a=true
   ·rw [if_pos mr]
    have bb:a.Kind≠0:=by
     unfold jf at mr
     simp at mr
     exact mr.1
    have aH:=OI a8 (by omega) vf bb
    refine Tot.cv (λ_=>Tot.b8 (λh=>absurd h bb) (λ_=>?_)) (λh=>by cases h)
    rw [aH]
    exact Tot.au (.aB (by simp))
   ·rw [if_neg mr]
    exact Tot.cv (λh=>by cases h) (λ_=>.aB rfl)
  subst ab
  refine Tot.cv (λh=>by cases h) (λ_=>?_)
  refine .aJ (Ξ:=λc=>c=false) ?_ λc ab=>?_
  ·by_cases mr:jf lZ a=true
   ·rw [if_pos mr]
    exact Tot.cv (λh=>by cases h) (λ_=>.aB rfl)
   ·rw [if_neg mr]
    refine Tot.cv (λ_=>Tot.qy (λh=>?_) (λ_=>.aB rfl)) (λh=>by cases h)
    have al:a.Kind=2/\a.N=lZ:=by
     unfold jf at mr
     simp [h] at mr
     exact mr
    exact .aB (by simp [al])
  subst ab
  refine Tot.cv (λh=>by cases h) (λ_=>?_)
  refine .aJ (Ξ:=λc=>c=false) ?_ λc ab=>?_
  ·refine Tot.b8 (λal=>?_) (λ_=>.aB rfl)
   have tT:a.N∈red r:=by
    unfold red
    exact List.mem_map.2 ⟨a,by rw [List.mem_filter]; exact ⟨lM,decide_eq_true al⟩,rfl⟩
   rcases zZ with ⟨aO,_⟩ | ⟨_,RS⟩
   ·rw [aO] at tT; cases tT
   ·have:=RS _ tT
    refine Tot.b8 (λh=>by omega) (λ_=>?_)
    refine Tot.b8 (λh=>.aB (decide_eq_false (by omega))) (λ_=>.aB rfl)
  subst ab
  exact Tot.cv (λh=>by cases h) (λ_=>.aB ⟨lL,rfl,trivial⟩)
 ·rcases x with x | x
  ·simp only
   have R0:=TJ (jf lZ) kh r
   have sF:=yg (jf lZ) kh r
   generalize hS (jf lZ) kh r=P at *
   refine .aJ (Ξ:=iB (λ_=>True) (λ_:Bool=>False)) ?_ λx J=>by
    rcases x with x | x
    ·exact .aB ⟨bc,rfl,trivial⟩
    ·exact J.elim
   refine Tot.count (λs=>s) P.length (λs=>1<=s) (Int.le_refl _) (by show (P.length:Int) - 1<_; omega) λs aN=>?_
   refine Tot.b8 (λV5=>?_) (λ_=>.aB trivial)
   obtain ⟨k,rfl⟩:∃ k:Nat,s=((k+1:Nat):Int):=⟨(s - 1).toNat,by omega⟩
   have gN:k+1<P.length:=by omega
   have hw:aQ (((k+1:Nat):Int) - 1)=(k:Int):=by rw [dK]; omega
   rw [eP (k+1) (by omega),hw]
   simp only [ev gN,ev (show k<P.length by omega),Option.bind_some]
   have KX:=List.pairwise_iff_getElem.1 R0 k (k+1) (by omega) gN (by omega)
   refine Tot.b8 (λh=>by omega) (λ_=>.aB ⟨by omega,by omega,by omega⟩)
  ·exact J.elim
theorem TK {α:Type}(keep:α->Bool) (val:α->Int) (l:List α):(hS keep val l).length=(l.filter keep).length:=by
 unfold hS
 rw [List.length_map]
 suffices h:∀ (l:List α) (n:Nat),((l.zipIdx n).filter λp=>keep p.1).length=(l.filter keep).length from h l 0
 intro l
 induction l with
 | nil=>intro n; rfl
 | cons x l aS =>
  intro n
  rw [List.zipIdx_cons,List.filter_cons,List.filter_cons]
  simp only
  cases keep x <;> simp [aS]
theorem LF (D:Int) (nU:-1<=D):∀ c:List Int,(c.filter (jg D)).length+(pos c).count D=(pos c).length
 | []=>rfl
 | v::c=>by
  have aS:=LF D nU c
  unfold pos at aS ⊢
  rw [List.filter_cons,List.filter_cons]
  by_cases h:0<=v
  ·by_cases e:v=D
   ·subst e
    have ab:(v::c.filter λv=>decide (0<=v)).count v=(c.filter λv=>decide (0<=v)).count v+1:=by simp
    rw [if_neg (by simp [jg]),if_pos (by simp [h]),List.length_cons,ab]
    omega
   ·have ab:(v::c.filter λv=>decide (0<=v)).count D=(c.filter λv=>decide (0<=v)).count D:=by
     rw [List.count_cons]; simp [e]
    rw [if_pos (by simp [jg,h,e]),if_pos (by simp [h]),List.length_cons,List.length_cons,ab]
    omega
  ·rw [if_neg (by simp [jg,h]),if_neg (by simp [h])]
   exact aS
theorem TH {c:List Int}{v:Int}(h:0<=v):(pos c).count v=c.count v:=by
 unfold pos
 exact List.count_filter (by simp [h])
theorem t7 (x:oR):A6 x=some true:=by
 suffices h:Tot (A6 x) λr=>r=true by
  obtain ⟨r,ax,e⟩:=h; rw [ax,e]
 unfold A6
 rw [M4]
 refine Tot.au (.aJ (t20 x) λy aH=>.aJ (rr y aH) λD nU=>?_)
 refine Tot.cv (λ_=>.aB rfl) (λe8=>?_)
 obtain ⟨n,aV⟩:=nU (by simpa using e8)
 generalize D.1=g at *
 generalize D.2.1=d at *
 have a8:=aV.tE
 have aD:=a8.h2
 have aL:=aV.gY
 have VO:=aV.o
 refine .aJ (yX g n d aV) λR bf=>?_
 subst bf
 have ve:((List.range g.bu.length).map λa=>px (dF d a)).length=g.bu.length:=by simp
 refine Tot.qy (λh=>absurd (by rw [ve]) h) (λ_=>?_)
 refine .aJ (Ξ:=iB (λ_=>True) (λ_:Bool=>False)) ?_ λx J=>by
  rcases x with x | x
  ·exact .aB rfl
  ·exact J.elim
 rw [ve]
 refine Tot.upto (λs=>s) g.bu.length (λ_ _=>True) rfl (by omega) trivial λa i bj he _=>?_
 subst he
 rw [eP a (by omega)]
 refine Tot.b8 (λbc=>?_) (λ_=>.aB trivial)
 have bc:a<g.bu.length:=by omega
 have c3:idx ((List.range g.bu.length).map λa=>px (dF d a)) (a:Int)=some (px (dF d a)):=by
  rw [ev (by rw [ve]; exact bc)]
  simp
 simp only [c3,Option.bind_some]
 have hx:=w9 d a
 have KC:=Eu aV bc
 have kF:=Hn (c:=dF d a) (by rw [hx]; omega) λv hv=>by have:=(KC v hv).2; omega
 obtain ⟨_,_,zZ⟩:=xS kF
 have V_:=Dp (dF d a)
 have EI:(px (dF d a)).Def=kJ (pos (dF d a)):=rfl
 have EJ:(px (dF d a)).kg=hS (jg (kJ (pos (dF d a)))) id (dF d a):=rfl
 simp only [EI,EJ]
 generalize kJ (pos (dF d a))=lZ at *
 refine .aJ (Ξ:=iB (λs:Int × Int=>s.1=((pos (dF d a)).length:Int)/\s.2=((pos (dF d a)).count lZ:Int)) (λ_:Bool=>False)) ?_ λx J=>?_
 ·refine Tot.upto (λs=>s.2.2) d.cN.length (λk s=>s.1=((pos ((dF d a).take k)).length:Int)/\((pos ((dF d a).take k)=[]/\s.2.1=0)\/((∃ v∈pos ((dF d a).take k),s.2.1=((pos (dF d a)).count v:Int))/\∀ v∈pos ((dF d a).take k),((pos (dF d a)).count v:Int)<=s.2.1))) rfl (by omega) ⟨rfl,.inl ⟨rfl,rfl⟩⟩ λk s hk he bt=>?_
  obtain ⟨m,b,i⟩:=s
  obtain ⟨h1,al⟩:=bt
  simp only at he h1 al ⊢
  subst he h1
  rw [eP k (by omega)]
  refine Tot.b8 (λlL=>?_) (λeF=>.aB ?_)
  ·have lL:k<d.cN.length:=by omega
   have fZ:=w_ (a:=a) lL
   obtain ⟨nz,_⟩:=aV.sT _ (List.getElem_mem lL)
   have mq:(dF d a)[k]?=some ((d.cN[k]).getD a 0):=by
    unfold dF
    rw [List.getElem?_map,List.getElem?_eq_getElem lL]; rfl
   have xD:=List.mem_of_getElem? mq
   have R1:=Dp ((dF d a).take k)
   rw [List.length_take] at R1
   simp only [ev lL,Option.bind_some,xF (show a<(d.cN[k]).length by omega),Kb (show (dF d a).length<=1000000 by omega) mq]
   generalize (d.cN[k]).getD a 0=v at *
   have aH:=KC v xD
   refine .aJ (Ξ:=λc=>c=false) ?_ λc ab=>?_
   ·by_cases mr:jg lZ v=true
    ·rw [if_pos mr]
     have aO:0<=v/\v≠lZ:=by
      unfold jg at mr
      simpa using mr
     exact ⟨false,by simp [aO],rfl⟩
    ·rw [if_neg mr]
     by_cases aO:0<=v
     ·have:v=lZ:=by
       unfold jg at mr
       simpa [aO] using mr
      exact ⟨false,by simp [this],rfl⟩
     ·exact ⟨false,by simp [aO],rfl⟩
   subst ab
   refine Tot.cv (λh=>by cases h) (λ_=>Tot.b8 (λRV=>.aB ⟨lL,rfl,?_⟩) (λsG=>?_))
   ·have:pos ((dF d a).take (k+1))=pos ((dF d a).take k):=by rw [fZ,Dq,if_neg (by omega),List.append_nil]
    rw [this]
    exact ⟨rfl,al⟩
   ·have p0:pos ((dF d a).take (k+1))=pos ((dF d a).take k)++[v]:=by rw [fZ,Dq,if_pos (by omega)]
    refine .aJ (Ξ:=λz:Int=>z=((pos (dF d a)).count v:Int)) ?_ λz bM=>?_
    ·rw [TH (by omega)]
     refine Tot.upto (λs=>s.2) d.cN.length (λae s=>s.1=(((dF d a).take ae).count v:Int)) rfl (by omega) (by simp) λae s aa he bt=>?_
     obtain ⟨z,i⟩:=s
     simp only at he bt ⊢
     subst he bt
     rw [eP ae (by omega)]
     refine Tot.b8 (λeC=>?_) (λeF=>.aB ?_)
     ·have eC:ae<d.cN.length:=by omega
      have l5:=w_ (a:=a) eC
      obtain ⟨nz,_⟩:=aV.sT _ (List.getElem_mem eC)
      have Rk:=List.count_le_length (a:=v) (l:=(dF d a).take ae)
      rw [List.length_take] at Rk
      simp only [ev eC,Option.bind_some,xF (show a<(d.cN[ae]).length by omega)]
      generalize (d.cN[ae]).getD a 0=w at *
      refine .aJ (Ξ:=λz:Int=>z=(((dF d a).take (ae+1)).count v:Int)) ?_ λz bM=>.aB ⟨eC,rfl,bM⟩
      rw [l5,ru]
      refine .aJ (Ξ:=λz:Int=>z=((((dF d a).take ae).count v+if w=v then 1 else 0:Nat):Int)) (Tot.b8 (λe=>.aB ?_) (λe=>.aB ?_)) λz bM=>.aB bM
      ·rw [if_pos e,eP _ (by omega)]
      ·rw [if_neg e]; rfl
     ·have e:(dF d a).take ae=dF d a:=List.take_of_length_le (by omega)
      rw [e]; rfl
    ·subst bM
     rw [eP _ (by omega)]
     refine .aB ⟨lL,rfl,?_,.inr ⟨?_,λw hw=>?_⟩⟩
     ·rw [p0]; simp
     ·show ∃ w∈pos ((dF d a).take (k+1)),max b _=_
      rw [p0]
      by_cases hm:b<=((pos (dF d a)).count v:Int)
      ·exact ⟨v,by simp,Int.max_eq_right hm⟩
      ·rw [Int.max_eq_left (by omega)]
       rcases al with ⟨_,rfl⟩ | ⟨⟨w,hw,aO⟩,_⟩
       ·omega
       ·exact ⟨w,by simp [hw],aO⟩
     ·rw [p0,List.mem_append,List.mem_singleton] at hw
      show _<=max b _
      rcases hw with hw | rfl
      ·rcases al with ⟨aO,_⟩ | ⟨_,aO⟩
       ·rw [aO] at hw; cases hw
       ·have:=aO w hw; omega
      ·omega
  ·have e:(dF d a).take k=dF d a:=List.take_of_length_le (by omega)
   rw [e] at al ⊢
   refine ⟨rfl,?_⟩
   show b=_
   rcases al with ⟨aO,rfl⟩ | ⟨⟨v,hv,aO⟩,b4⟩
   ·rw [aO]; simp
   ·rcases zZ with ⟨df,_⟩ | ⟨df,eL⟩
    ·rw [df] at hv; cases hv
    ·have:=eL v hv
     have:=b4 lZ df
     omega
 ·rcases x with x | x
  ·obtain ⟨h1,al⟩:=J
   obtain ⟨m,b⟩:=x
   simp only at h1 al ⊢
   subst h1 al
   have nx:=LF lZ (by
    rcases zZ with ⟨_,rfl⟩ | ⟨h,_⟩
    ·exact Int.le_refl _
    ·have:=(kF.2 lZ h).1; omega) (dF d a)
   have sF:=TK (jg lZ) id (dF d a)
   have hw:aQ (((pos (dF d a)).length:Int) - ((pos (dF d a)).count lZ:Int))=((hS (jg lZ) id (dF d a)).length:Int):=by rw [dK]; omega
   have Rt:decide (lZ=-1)=decide (((pos (dF d a)).length:Int)=0):=by
    refine decide_eq_decide.2 ?_
    rcases zZ with ⟨df,rfl⟩ | ⟨df,_⟩
    ·rw [df]; simp
    ·have eL:=(kF.2 lZ df).1
     have lj:=List.length_pos_of_mem df
     constructor
     ·intro h; omega
     ·intro h; omega
   rw [hw,Rt]
   refine .aJ (Ξ:=λc=>c=false) ?_ λc ab=>?_
   ·exact ⟨false,by simp,rfl⟩
   ·subst ab
    exact .aB ⟨bc,rfl,trivial⟩
  ·exact J.elim
end Go.Proofs
namespace Go.Own
open Go
section
variable {P:Program}{N:dN}{ops:Array Oper}{ca:List (List Nat)}{g g0:aY}{K:aY->Prop}{l:List Oper}{acc:Acc}{d i ae dn:Nat}{op:Op}{ty:TypeId}{pos:String}{after:Array Edge}{x:ag}{b c:Bool}
theorem b6 (aH:c=!b) (hk:ar P N ops l (e9 g d (.cB [])) K) (h:(ops[ae]?).bind (·.dst)=some dn:=by rfl) (a8:g dn=some (.lit (.bool c)):=by rfl) (bW:N.ok d=true:=by rfl) (bl:g d=none:=by rfl):ar P N ops (⟨some d,op,ty,pos,after,some (ae,b)⟩::l) g K:=.ps h a8 aH bW bl hk
theorem gZ (hk:ar P N ops l (e9 g d (.cB [])) K) (h:(ops[ae]?).bind (·.dst)=some dn:=by rfl) (a8:g dn=some (.cB []):=by rfl) (bW:N.ok d=true:=by rfl) (bl:g d=none:=by rfl):ar P N ops (⟨some d,op,ty,pos,after,some (ae,b)⟩::l) g K:=.pu h a8 bW bl hk
theorem aM (aH:c=b) (aG:dE P g op ty x) (hk:ar P N ops l (e9 g d x) K) (h:(ops[ae]?).bind (·.dst)=some dn:=by rfl) (a8:g dn=some (.lit (.bool c)):=by rfl) (bW:N.ok d=true:=by rfl) (bl:g d=none:=by rfl):ar P N ops (⟨some d,op,ty,pos,after,some (ae,b)⟩::l) g K:=.v aG bW bl (.hh h a8 aH) hk
theorem Ny (hk:ar P N ops l (e9 g d (.cB [])) K) (h:(ops[ae]?).bind (·.dst)=some dn:=by rfl) (a8:g dn=some (.lit (.bool c)):=by rfl) (aH:c=!b:=by assumption) (bW:N.ok d=true:=by rfl) (bl:g d=none:=by rfl):ar P N ops (⟨some d,op,ty,pos,after,some (ae,b)⟩::l) g K:=.ps h a8 aH bW bl hk
theorem fT (aG:dE P g op ty x) (hk:ar P N ops l (e9 g d x) K) (h:(ops[ae]?).bind (·.dst)=some dn:=by rfl) (a8:g dn=some (.lit (.bool c)):=by rfl) (aH:c=b:=by assumption) (bW:N.ok d=true:=by rfl) (bl:g d=none:=by rfl):ar P N ops (⟨some d,op,ty,pos,after,some (ae,b)⟩::l) g K:=.v aG bW bl (.hh h a8 aH) hk
theorem bs (dk:Nat) (aH:c=!b) (hk:bL P N ops ca g0 i ((dk,d,some (.cB []))::acc) l K) (h:(ops[ae]?).bind (·.dst)=some dn:=by rfl) (a8:ob ca g0 dk acc dn=some (a1 c):=by rfl) (aa:Nat.beq ops.size (dk+l.length+1)=true:=by rfl) (bl:g0 d=none:=by rfl) (aL:acc.all (λe=>!Nat.beq e.2.1 d)=true:=by rfl) (bW:N.ok d=true:=by rfl):bL P N ops ca g0 i acc (⟨some d,op,ty,pos,after,some (ae,b)⟩::l) K:=.ps dk h a8 aH aa bl aL bW hk
theorem dy (dk:Nat) (hk:bL P N ops ca g0 i ((dk,d,some (.cB []))::acc) l K) (h:(ops[ae]?).bind (·.dst)=some dn:=by rfl) (a8:ob ca g0 dk acc dn=some (.cB []):=by rfl) (aa:Nat.beq ops.size (dk+l.length+1)=true:=by rfl) (bl:g0 d=none:=by rfl) (aL:acc.all (λe=>!Nat.beq e.2.1 d)=true:=by rfl) (bW:N.ok d=true:=by rfl):bL P N ops ca g0 i acc (⟨some d,op,ty,pos,after,some (ae,b)⟩::l) K:=.pu dk h a8 aa bl aL bW hk
theorem bC (dk:Nat) (aH:c=b) (aG:dE P (ob ca g0 dk acc) op ty x) (hk:bL P N ops ca g0 i ((dk,d,some x)::acc) l K) (h:(ops[ae]?).bind (·.dst)=some dn:=by rfl) (a8:ob ca g0 dk acc dn=some (.lit (.bool c)):=by rfl) (aa:Nat.beq ops.size (dk+l.length+1)=true:=by rfl) (bl:g0 d=none:=by rfl) (aL:acc.all (λe=>!Nat.beq e.2.1 d)=true:=by rfl) (bW:N.ok d=true:=by rfl):bL P N ops ca g0 i acc (⟨some d,op,ty,pos,after,some (ae,b)⟩::l) K:=.v dk aG aa bl aL bW (.hh h a8 aH) hk
end
section
variable {P:Program}{N:dN}{ops:Array Oper}{g:aY}{K:aY->Prop}{l:List Oper}{A B:Code}{G G1:List (Nat × ag)}{Φ:Exit->aY->Prop}{t id:Nat}{b:Bool}{α:Type}{X Y o:α}
theorem W.bw (h:(bif b then X else Y)=o) (ab:get G t=some (a1 b)) (fM:b=true->X=o->W P N A (get G) Φ) (aR:b=false->Y=o->W P N B (get G) Φ):W P N (.cond (.tmp t) A B) (get G) Φ:=W.cz ab (λe=>fM e (OG e h)) (λe=>aR e (OF e h))
def pick (g:aY):List Nat->Option (List (Nat × ag))
 | []=>some []
 | k::ks=>match g k with
  | some x=>match pick g ks with
   | some l=>some ((k,x)::l)
   | none=>none
  | none=>none
class yI (l:List (Nat × ag)):Prop where p:∀ e∈l,di e.2
instance:yI []:=⟨λ_ h=>by cases h⟩
instance {k:Nat}{x:ag}{l:List (Nat × ag)} [h:cT x] [ao:yI l]:yI ((k,x)::l):=⟨λe he=>by
 rcases List.mem_cons.1 he with rfl | he
 ·exact h.bK
 ·exact ao.p e he⟩
theorem Hm {c:Bool}{g g2:aY}:∀ {ks:List Nat}{G1:List (Nat × ag)},pick g ks=some G1->(∀ e∈G1,di e.2)->Trim c g g2 G1
 | [],_,h,_=>by cases h; exact .nil
 | k::ks,G1,h,aL=>by
  unfold pick at h
  split at h
  ·rename_i x J
   split at h
   ·rename_i l ao
    cases h
    have:cT x:=⟨aL (k,x) (by simp)⟩
    exact .n J (Hm ao λe he=>aL e (by simp [he]))
   ·cases h
  ·cases h
structure wR (ks:List Nat) (G1:List (Nat × ag)) (g':aY):Prop where p:kS g' (get G1)
theorem bS {ks:List Nat}(h:pick g ks=some G1) [aL:yI G1]:ar P N ops [] g (wR ks G1):=.nil ⟨(Hm (c:=true) (g2:=get G1) h aL.p).gb⟩
theorem LH {l:List Oper}{ks:List Nat}(h:ar P N l.toArray l g (wR ks G1)):ar P N l.toArray l g λg'=>kS g' (get G1):=λi hi=>by
 obtain ⟨g',h1,al⟩:=h i hi
 exact ⟨g',h1,al.p⟩
theorem ar.bm (ks:List Nat) (h:pick g ks=some G1) [aL:yI G1] (hk:ar P N ops l (get G1) K):ar P N ops l g K:=.TO (Hm h aL.p) hk
theorem W.bm {l:List Oper}(ks:List Nat) (h:ar P N l.toArray l (get G) (wR ks G1)) (hk:af .normal Φ G1):W P N (.region id l.toArray false) (get G) Φ:=W.rx G1 (LH h) hk
theorem W.rs {l:List Oper}(G1:List (Nat × ag)) (h:ar P N l.toArray l (get G) λg'=>kS g' (get G1)) (hk:W P N B (get G1) Φ):W P N (.seq (.region id l.toArray false) B) (get G) Φ:=W.aZ (W.rx G1 h (af.aX hk))
theorem W.bY {l:List Oper}(ks:List Nat) (h:ar P N l.toArray l (get G) (wR ks G1)) (hk:W P N B (get G1) Φ):W P N (.seq (.region id l.toArray false) B) (get G) Φ:=W.rs G1 (LH h) hk
end
end Go.Own
namespace Go.Own
open Go
class gL (P:Program) (t:TypeId):Prop where p:hs P t=true
class r2 (P:Program) (t:TypeId):Prop where p:qg P t=true
class gT (P:Program) (t:TypeId) (e:outParam TypeId) (z:outParam Nat):Prop where p:fy P t e z=true
class dL (P:Program) (s:TypeId) (f:Nat) (off:outParam Nat) (t:outParam TypeId):Prop where p:dH P s f off t=true
section
variable {P:Program}{N:dN}{ops:Array Oper}{g:aY}{K:aY->Prop}{l:List Oper}{ty t:TypeId}{a:Operand}{k r z n:Nat}{cs ja:List ag}
theorem O.cw {v:Value}(aN:g r=some (.obj cs)) (J:Rd g a (.ptr ⟨r,[]⟩ k)) (aD:hs P t=true) (ab:cs[k]?=some (.lit v)):dE P g (.load t a) ty (.lit v):=O.dm aN J aD ab rfl
theorem O.xH (aN:g r=some (.obj cs)) (J:Rd g a (.ptr ⟨r,[]⟩ k)) (aD:hs P t=true) (ab:cs[k]?=some (.aE z n ja)):dE P g (.load t a) ty (.aE z n ja):=O.dm aN J aD ab rfl
theorem O.xI (aN:g r=some (.obj cs)) (J:Rd g a (.ptr ⟨r,[]⟩ k)) (aD:hs P t=true) (ab:cs[k]?=some (.own z n ja)):dE P g (.load t a) ty (.bn z ⟨r,[k]⟩ n):=O.dm aN J aD ab rfl
end
section
variable {P:Program}{N:dN}{ops:Array Oper}{g:aY}{K:aY->Prop}{l:List Oper}{t0 d:Nat}{t1 t2 ty:TypeId}{aw a2 a3:Operand}{mJ:Nat}{v0:Value}{pos:String}{after:Array Edge}{op:Op}{Vo:Nat × Bool}
theorem ar.hT (op:Op) (u:Option (Nat × Bool)) (h:ar P N ops (⟨some d,op,ty,pos,after,u⟩::l) g K):ar P N ops (⟨some d,op,ty,pos,after,u⟩::l) g K:=h
theorem ar.nl (h:ar P N ops [] g K):ar P N ops [] g K:=h
theorem ar.aW (h:ar P N ops l g K:=by
(repeat' (first
 | exact nL .nil
 | exact .nil
 | refine .n rfl ?_
 | (first
  | ((with_reducible apply ar.hT (.move (.tmp _)) none); (first | refine bq rfl ?_ | refine aj (O.aA (.aE rfl)) ?_ | refine aj (O.aA (.own rfl)) ?_ | refine aj (O.aA (.obj rfl)) ?_ | refine aj (O.aA (.bo rfl)) ?_ | refine aj (O.aA (.ptr rfl)) ?_ | refine aj (O.aA (.bn rfl)) ?_))
  | ((with_reducible apply ar.hT (.load _ _) none); (first | refine aj (O.cw rfl (.ptr rfl) gL.p rfl) ?_ | refine aj (O.c9 (.bo rfl) gL.p rfl) ?_ | refine aj (O.xH rfl (.ptr rfl) gL.p rfl) ?_ | refine aj (O.cw rfl (.obj rfl) gL.p rfl) ?_ | refine aj (O.xH rfl (.obj rfl) gL.p rfl) ?_ | refine aj (O.xI rfl (.ptr rfl) gL.p rfl) ?_ | refine aj (O.xI rfl (.obj rfl) gL.p rfl) ?_))
  | ((with_reducible apply ar.hT (.fieldAddr _ _ _) none); (first | refine aj (O.bh rfl (.obj rfl) dL.p rfl) ?_ | refine aj (O.ej (.bo rfl) dL.p) ?_ | refine aj (O.bh rfl (.ptr rfl) dL.p rfl) ?_))
  | ((with_reducible apply ar.hT (.assign (.tmp _)) none); (first | refine Ip rfl ?_ | refine aj (O.dO (.aE rfl)) ?_ | refine aj (O.dO (.own rfl)) ?_ | refine aj (O.dO (.obj rfl)) ?_ | refine aj (O.dO (.bo rfl)) ?_ | refine aj (O.dO (.ptr rfl)) ?_ | refine aj (O.dO (.bn rfl)) ?_))
  | ((with_reducible apply ar.hT (.assign (.const _)) none); (first | refine NB rfl ?_ | refine aj (O.dO .GZ) ?_))
  | ((with_reducible apply ar.hT (.indexAddr _ _ _) none); (first | refine aj (O.cC (.aE rfl) (.lit rfl) gT.p (by assumption)) ?_ | refine aj (O.cC (.aE rfl) (.k rfl) gT.p (by assumption)) ?_))
  | ((with_reducible apply ar.hT (.binOp .add _ _ _ _) none); (first | refine aj (O.add (.lit rfl) (.k rfl)) ?_ | refine aj (O.add (.lit rfl) (.lit rfl)) ?_ | refine aj (O.add (.k rfl) (.lit rfl)) ?_))
  | ((with_reducible apply ar.hT (.binOp .lss _ _ _ _) none); (first | refine aj (O.lss (.lit rfl) (.k rfl)) ?_ | refine aj (O.lss (.lit rfl) (.lit rfl)) ?_ | refine aj (O.lss (.k rfl) (.lit rfl)) ?_))
  | ((with_reducible apply ar.hT (.binOp .eql _ _ _ _) none); (first | refine aj (O.eql (.lit rfl) (.k rfl)) ?_ | refine aj (O.eql (.lit rfl) (.lit rfl)) ?_ | refine aj (O.eql (.k rfl) (.lit rfl)) ?_ | refine aj (O.ow (.lit rfl) (.lit rfl)) ?_ | refine aj (O.ow (.lit rfl) (.k rfl)) ?_))
  | ((with_reducible apply ar.hT (.binOp .neq _ _ _ _) none); (first | refine aj (O.neq (.lit rfl) (.k rfl)) ?_ | refine aj (O.neq (.lit rfl) (.lit rfl)) ?_ | refine aj (O.neq (.k rfl) (.lit rfl)) ?_ | refine aj (O.l8 (.lit rfl) (.lit rfl)) ?_ | refine aj (O.l8 (.lit rfl) (.k rfl)) ?_))
  | ((with_reducible apply ar.hT (.binOp .geq _ _ _ _) none); (first | refine aj (O.geq (.lit rfl) (.k rfl)) ?_ | refine aj (O.geq (.lit rfl) (.lit rfl)) ?_ | refine aj (O.geq (.k rfl) (.lit rfl)) ?_))
  | ((with_reducible apply ar.hT (.binOp .gtr _ _ _ _) none); (first | refine aj (O.gtr (.lit rfl) (.k rfl)) ?_ | refine aj (O.gtr (.lit rfl) (.lit rfl)) ?_ | refine aj (O.gtr (.k rfl) (.lit rfl)) ?_))
  | ((with_reducible apply ar.hT (.binOp .sub _ _ _ _) none); (first | refine aj (O.sub (.lit rfl) (.k rfl)) ?_ | refine aj (O.sub (.lit rfl) (.lit rfl)) ?_ | refine aj (O.sub (.k rfl) (.lit rfl)) ?_))
  | ((with_reducible apply ar.hT (.binOp .leq _ _ _ _) none); (first | refine aj (O.leq (.lit rfl) (.k rfl)) ?_ | refine aj (O.leq (.lit rfl) (.lit rfl)) ?_ | refine aj (O.leq (.k rfl) (.lit rfl)) ?_))
  | ((with_reducible apply ar.hT (.pick _ _ _) none); (first | refine aj (O.dS (.lit rfl) rfl (.lit rfl)) ?_ | refine aj (O.cZ (.lit rfl) rfl (.lit rfl)) ?_ | refine aj (O.dS (.lit rfl) rfl (.k rfl)) ?_ | refine aj (O.cZ (.lit rfl) rfl (.k rfl)) ?_ | refine aj (O.dS (.lit rfl) (by assumption) (.lit rfl)) ?_ | refine aj (O.cZ (.lit rfl) (by assumption) (.lit rfl)) ?_ | refine aj (O.dS (.lit rfl) (by assumption) (.k rfl)) ?_ | refine aj (O.cZ (.lit rfl) (by assumption) (.k rfl)) ?_))
  | ((with_reducible apply ar.hT (.call { callee:=.builtin .len,args:=#[_],argTypes:=#[_] }) none); (first | refine aj (O.h0 (.aE rfl) gT.p) ?_ | refine aj (O.ph (.bn rfl) gT.p) ?_ | refine aj (O.ph (.own rfl) gT.p) ?_ | refine aj (O.mI (.lit rfl) r2.p) ?_))
  | ((with_reducible apply ar.hT (.unOp .not _ _) none); (first | refine aj (O.not (.lit rfl)) ?_))
  | ((with_reducible apply ar.hT (.nilCheck _) none); (first | refine aj (O.fj (.ptr rfl)) ?_ | refine aj (O.Hd (.bo rfl)) ?_ | refine aj (O.fj (.obj rfl)) ?_))
  | ((with_reducible apply ar.hT (.index _ _ _) none); (first | refine aj (O.qq (.lit rfl) (.lit rfl) r2.p (by assumption)) ?_))
  | ((with_reducible apply ar.hT (.move (.const _)) none); (first | refine aj (O.aA (.k rfl)) ?_ | refine aj (O.aA .GZ) ?_)))
 | ((with_reducible apply ar.nl); first | exact bS rfl | refine nL ?_)
 | ((with_reducible apply ar.hT _ (some _)); first
  | (first | refine b6 rfl ?_ | refine Ny ?_ | refine gZ ?_)
  | ((with_reducible apply ar.hT (.move (.tmp _)) (some _)); (first | refine aM rfl (O.aA (.lit rfl)) ?_ | refine fT (O.aA (.lit rfl)) ?_ | refine aM rfl (O.aA (.aE rfl)) ?_ | refine fT (O.aA (.aE rfl)) ?_ | refine aM rfl (O.aA (.own rfl)) ?_ | refine fT (O.aA (.own rfl)) ?_ | refine aM rfl (O.aA (.obj rfl)) ?_ | refine fT (O.aA (.obj rfl)) ?_ | refine aM rfl (O.aA (.bo rfl)) ?_ | refine fT (O.aA (.bo rfl)) ?_ | refine aM rfl (O.aA (.ptr rfl)) ?_ | refine fT (O.aA (.ptr rfl)) ?_ | refine aM rfl (O.aA (.bn rfl)) ?_ | refine fT (O.aA (.bn rfl)) ?_))
  | ((with_reducible apply ar.hT (.load _ _) (some _)); (first | refine aM rfl (O.cw rfl (.ptr rfl) gL.p rfl) ?_ | refine fT (O.cw rfl (.ptr rfl) gL.p rfl) ?_ | refine aM rfl (O.c9 (.bo rfl) gL.p rfl) ?_ | refine fT (O.c9 (.bo rfl) gL.p rfl) ?_ | refine aM rfl (O.xH rfl (.ptr rfl) gL.p rfl) ?_ | refine fT (O.xH rfl (.ptr rfl) gL.p rfl) ?_ | refine aM rfl (O.cw rfl (.obj rfl) gL.p rfl) ?_ | refine fT (O.cw rfl (.obj rfl) gL.p rfl) ?_ | refine aM rfl (O.xH rfl (.obj rfl) gL.p rfl) ?_ | refine fT (O.xH rfl (.obj rfl) gL.p rfl) ?_ | refine aM rfl (O.xI rfl (.ptr rfl) gL.p rfl) ?_ | refine fT (O.xI rfl (.ptr rfl) gL.p rfl) ?_ | refine aM rfl (O.xI rfl (.obj rfl) gL.p rfl) ?_ | refine fT (O.xI rfl (.obj rfl) gL.p rfl) ?_))
  | ((with_reducible apply ar.hT (.fieldAddr _ _ _) (some _)); (first | refine aM rfl (O.bh rfl (.obj rfl) dL.p rfl) ?_ | refine fT (O.bh rfl (.obj rfl) dL.p rfl) ?_ | refine aM rfl (O.ej (.bo rfl) dL.p) ?_ | refine fT (O.ej (.bo rfl) dL.p) ?_ | refine aM rfl (O.bh rfl (.ptr rfl) dL.p rfl) ?_ | refine fT (O.bh rfl (.ptr rfl) dL.p rfl) ?_))
  | ((with_reducible apply ar.hT (.indexAddr _ _ _) (some _)); (first | refine aM rfl (O.cC (.aE rfl) (.lit rfl) gT.p (by assumption)) ?_ | refine fT (O.cC (.aE rfl) (.lit rfl) gT.p (by assumption)) ?_ | refine aM rfl (O.cC (.aE rfl) (.k rfl) gT.p (by assumption)) ?_ | refine fT (O.cC (.aE rfl) (.k rfl) gT.p (by assumption)) ?_))
  | ((with_reducible apply ar.hT (.binOp .add _ _ _ _) (some _)); (first | refine aM rfl (O.add (.lit rfl) (.k rfl)) ?_ | refine fT (O.add (.lit rfl) (.k rfl)) ?_ | refine aM rfl (O.add (.lit rfl) (.lit rfl)) ?_ | refine fT (O.add (.lit rfl) (.lit rfl)) ?_ | refine aM rfl (O.add (.k rfl) (.lit rfl)) ?_ | refine fT (O.add (.k rfl) (.lit rfl)) ?_))
  | ((with_reducible apply ar.hT (.binOp .lss _ _ _ _) (some _)); (first | refine aM rfl (O.lss (.lit rfl) (.k rfl)) ?_ | refine fT (O.lss (.lit rfl) (.k rfl)) ?_ | refine aM rfl (O.lss (.lit rfl) (.lit rfl)) ?_ | refine fT (O.lss (.lit rfl) (.lit rfl)) ?_ | refine aM rfl (O.lss (.k rfl) (.lit rfl)) ?_ | refine fT (O.lss (.k rfl) (.lit rfl)) ?_))
  | ((with_reducible apply ar.hT (.binOp .eql _ _ _ _) (some _)); (first | refine aM rfl (O.eql (.lit rfl) (.k rfl)) ?_ | refine fT (O.eql (.lit rfl) (.k rfl)) ?_ | refine aM rfl (O.eql (.lit rfl) (.lit rfl)) ?_ | refine fT (O.eql (.lit rfl) (.lit rfl)) ?_ | refine aM rfl (O.eql (.k rfl) (.lit rfl)) ?_ | refine fT (O.eql (.k rfl) (.lit rfl)) ?_ | refine aM rfl (O.ow (.lit rfl) (.lit rfl)) ?_ | refine fT (O.ow (.lit rfl) (.lit rfl)) ?_ | refine aM rfl (O.ow (.lit rfl) (.k rfl)) ?_ | refine fT (O.ow (.lit rfl) (.k rfl)) ?_))
  | ((with_reducible apply ar.hT (.binOp .neq _ _ _ _) (some _)); (first | refine aM rfl (O.neq (.lit rfl) (.k rfl)) ?_ | refine fT (O.neq (.lit rfl) (.k rfl)) ?_ | refine aM rfl (O.neq (.lit rfl) (.lit rfl)) ?_ | refine fT (O.neq (.lit rfl) (.lit rfl)) ?_ | refine aM rfl (O.neq (.k rfl) (.lit rfl)) ?_ | refine fT (O.neq (.k rfl) (.lit rfl)) ?_ | refine aM rfl (O.l8 (.lit rfl) (.lit rfl)) ?_ | refine fT (O.l8 (.lit rfl) (.lit rfl)) ?_ | refine aM rfl (O.l8 (.lit rfl) (.k rfl)) ?_ | refine fT (O.l8 (.lit rfl) (.k rfl)) ?_))
  | ((with_reducible apply ar.hT (.binOp .geq _ _ _ _) (some _)); (first | refine aM rfl (O.geq (.lit rfl) (.k rfl)) ?_ | refine fT (O.geq (.lit rfl) (.k rfl)) ?_ | refine aM rfl (O.geq (.lit rfl) (.lit rfl)) ?_ | refine fT (O.geq (.lit rfl) (.lit rfl)) ?_ | refine aM rfl (O.geq (.k rfl) (.lit rfl)) ?_ | refine fT (O.geq (.k rfl) (.lit rfl)) ?_))
  | ((with_reducible apply ar.hT (.binOp .gtr _ _ _ _) (some _)); (first | refine aM rfl (O.gtr (.lit rfl) (.k rfl)) ?_ | refine fT (O.gtr (.lit rfl) (.k rfl)) ?_ | refine aM rfl (O.gtr (.lit rfl) (.lit rfl)) ?_ | refine fT (O.gtr (.lit rfl) (.lit rfl)) ?_ | refine aM rfl (O.gtr (.k rfl) (.lit rfl)) ?_ | refine fT (O.gtr (.k rfl) (.lit rfl)) ?_))
  | ((with_reducible apply ar.hT (.binOp .sub _ _ _ _) (some _)); (first | refine aM rfl (O.sub (.lit rfl) (.k rfl)) ?_ | refine fT (O.sub (.lit rfl) (.k rfl)) ?_ | refine aM rfl (O.sub (.lit rfl) (.lit rfl)) ?_ | refine fT (O.sub (.lit rfl) (.lit rfl)) ?_ | refine aM rfl (O.sub (.k rfl) (.lit rfl)) ?_ | refine fT (O.sub (.k rfl) (.lit rfl)) ?_))
  | ((with_reducible apply ar.hT (.binOp .leq _ _ _ _) (some _)); (first | refine aM rfl (O.leq (.lit rfl) (.k rfl)) ?_ | refine fT (O.leq (.lit rfl) (.k rfl)) ?_ | refine aM rfl (O.leq (.lit rfl) (.lit rfl)) ?_ | refine fT (O.leq (.lit rfl) (.lit rfl)) ?_ | refine aM rfl (O.leq (.k rfl) (.lit rfl)) ?_ | refine fT (O.leq (.k rfl) (.lit rfl)) ?_))
  | ((with_reducible apply ar.hT (.call { callee:=.builtin .len,args:=#[_],argTypes:=#[_] }) (some _)); (first | refine aM rfl (O.h0 (.aE rfl) gT.p) ?_ | refine fT (O.h0 (.aE rfl) gT.p) ?_ | refine aM rfl (O.ph (.bn rfl) gT.p) ?_ | refine fT (O.ph (.bn rfl) gT.p) ?_ | refine aM rfl (O.ph (.own rfl) gT.p) ?_ | refine fT (O.ph (.own rfl) gT.p) ?_ | refine aM rfl (O.mI (.lit rfl) r2.p) ?_ | refine fT (O.mI (.lit rfl) r2.p) ?_))
  | ((with_reducible apply ar.hT (.unOp .not _ _) (some _)); (first | refine aM rfl (O.not (.lit rfl)) ?_ | refine fT (O.not (.lit rfl)) ?_))
  | ((with_reducible apply ar.hT (.index _ _ _) (some _)); (first | refine aM rfl (O.qq (.lit rfl) (.lit rfl) r2.p (by assumption)) ?_ | refine fT (O.qq (.lit rfl) (.lit rfl) r2.p (by assumption)) ?_)))))):ar P N ops l g K:=h
theorem W.Iv {id:Nat}{l:List Oper}{G G1:List (Nat × ag)}{Φ:Exit->aY->Prop}(ks:List Nat) (hk:af .normal Φ G1) (h:ar P N l.toArray l (get G) (wR ks G1):=by exact ar.aW):W P N (.region id l.toArray false) (get G) Φ:=W.bm ks h hk
theorem W.dO {id:Nat}{l:List Oper}{B:Code}{G:List (Nat × ag)}{Φ:Exit->aY->Prop}(G1:List (Nat × ag)) (hk:W P N B (get G1) Φ) (h:ar P N l.toArray l (get G) (λg'=>kS g' (get G1)):=by exact ar.aW):W P N (.seq (.region id l.toArray false) B) (get G) Φ:=W.rs G1 h hk
theorem W.aU {id:Nat}{l:List Oper}{B:Code}{G G1:List (Nat × ag)}{Φ:Exit->aY->Prop}(ks:List Nat) (hk:W P N B (get G1) Φ) (h:ar P N l.toArray l (get G) (wR ks G1):=by exact ar.aW):W P N (.seq (.region id l.toArray false) B) (get G) Φ:=W.bY ks h hk
end
end Go.Own
namespace Go.Own
open Go
section
variable {P:Program}{N:dN}{G:List (Nat × ag)}{g':aY}
theorem cx {rs:List ResultVar}{ys xs:List ag}{res:ag}{outs:List (Option ag)}{n:Nat}(h:oX P (get G) rs ys xs g') (he:qa xs=res:=by rfl) (bd:r6 g' N.pins 0 outs:=by (repeat' first | exact .nil | refine .no ?_)) (gw:(rs.filterMap fun | .cell t _=>some t | _=>none).Nodup:=by exact of_decide_eq_true (by kernel_rfl)) (ao:outs.length=n:=by rfl):af .ret (BP P N rs n outs res) G:=af.fin (Fin.ro h he gw bd ao (.inr rfl))
end
end Go.Own
