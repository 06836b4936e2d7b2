/-
  What is proved here: parts of the proof that the last text states: rules for walks through code, and of this program's functions what they answer. No condition of their own.
-/
import Derived.KernelRfl
import Derived.Test.YtbcajhiedeghlaaE3
namespace Go.Proofs
open Go Go.Own Go.Sort
set_option maxRecDepth 100000
set_option linter.unusedVariables false
theorem AJ {α:Type}{l:List α}{k:Nat}{x:α}(hk:k<l.length) (i:Nat):(l.set k x)[i]?=if i=k then some x else l[i]?:=by
 rw [List.getElem?_set]
 by_cases e:k=i
 ·subst e; simp [hk]
 ·simp [e,Ne.symm e]
theorem Pw (x y:Item):(decide (x.Prod=y.Prod)&&(decide (x.dC=y.dC)&&true))=decide (x=y):=by
 obtain ⟨aE,x2⟩:=x
 obtain ⟨j6,y2⟩:=y
 simp
theorem NS (a b:List Item) (h:a.length<=1000000):Tot (zV a b) λc=>(c=true↔a=b):=by
 unfold zV
 refine Tot.qZ (λez=>.az ⟨λh=>(by cases h),λe=>absurd (by rw [e]) ez⟩) (λhe=>?_)
 have ao:a.length=b.length:=by omega
 refine Tot.aK (Ξ:=jv (λ_=>a=b) (λx:Bool=>x=false/\a≠b)) ?_ λx J=>?_
 ·refine Tot.count (λs=>s) a.length (λs=>∃ k:Nat,k<=a.length/\s=(k:Int)/\∀ (ae:Nat) (h:ae<a.length),ae<k->a[ae]=b[ae]) ⟨0,Nat.zero_le _,rfl,λae _ aa=>absurd aa (Nat.not_lt_zero _)⟩ (by show (a.length:Int) - 0<_; omega) λs aP=>?_
  obtain ⟨k,hk,rfl,kK⟩:=aP
  rw [eN k (by omega)]
  refine Tot.b6 (λbd=>?_) (λeb=>.az ?_)
  ·have bd:k<a.length:=by omega
   have w9:k<b.length:=by omega
   rw [et bd,et w9]
   simp only [Option.bind_some,Pw]
   refine Tot.qZ (λez=>.az ⟨rfl,λe=>ez (by subst e; rfl)⟩) (λheq=>.az ⟨⟨k+1,by omega,rfl,λae aa eM=>?_⟩,by show (k:Int)<((k+1:Nat):Int); omega,by show ((k+1:Nat):Int)<=_; omega⟩)
   by_cases e:ae=k
   ·subst e; exact heq
   ·exact kK ae aa (by omega)
  ·exact List.ext_getElem ao λi h1 al=>kK i h1 (by omega)
 ·rcases x with _ | x
  ·exact .az ⟨λ_=>J,λ_=>rfl⟩
  ·obtain ⟨rfl,ez⟩:x=false/\a≠b:=J
   exact .az ⟨λh=>(by cases h),λh=>absurd h ez⟩
def syms (g:bZ):List Int:=(List.range g.a'.length).map (λk:Nat=>(k:Int))++(List.range g.bw.length).map (λk:Nat=>1000+(k:Int))
theorem IG (g:bZ) (bf:gH g):Tot (As g) λl=>l=syms g:=by
 have fF:=bf.kA
 have bY:=bf.hU
 unfold As
 refine .aK (Ξ:=λl:List Int=>l=(List.range g.a'.length).map (λk:Nat=>(k:Int))) ?_ λl ao=>?_
 ·refine Tot.upto (λs=>s.2) g.a'.length (λk s=>s.1=(List.range k).map (λk:Nat=>(k:Int))) rfl (by omega) rfl λk s hk he bs=>?_
  obtain ⟨l,i⟩:=s
  simp only at he bs ⊢
  subst he bs
  rw [eN k (by omega)]
  refine Tot.b6 (λbd=>?_) (λeb=>.az ?_)
  ·refine .aK (Ξ:=λ_=>True) (Tot.ap (by simp [lim]; omega) trivial) λ_ _=>.az ⟨by omega,rfl,?_⟩
   show _=(List.range (k+1)).map _
   rw [List.range_succ,List.map_append]; rfl
  ·have:k=g.a'.length:=by omega
   subst this; rfl
 ·subst ao
  refine .aK (Ξ:=λl:List Int=>l=syms g) ?_ λr aw=>.az aw
  refine Tot.upto (λs=>s.2) g.bw.length (λk s=>s.1=(List.range g.a'.length).map (λk:Nat=>(k:Int))++(List.range k).map (λk:Nat=>1000+(k:Int))) rfl (by omega) (by simp) λk s hk he bs=>?_
  obtain ⟨l,i⟩:=s
  simp only at he bs ⊢
  subst he bs
  rw [eN k (by omega)]
  refine Tot.b6 (λbd=>?_) (λeb=>.az ?_)
  ·refine .aK (Ξ:=λ_=>True) (Tot.ap (by simp [lim]; omega) trivial) λ_ _=>.az ⟨by omega,rfl,?_⟩
   have hw:aM (1000+(k:Int))=1000+(k:Int):=by rw [dx]; omega
   show _=_++(List.range (k+1)).map _
   rw [hw,List.range_succ,List.map_append,List.append_assoc]; rfl
  ·have:k=g.bw.length:=by omega
   subst this; rfl
theorem T8 (g:bZ):(syms g).length=g.a'.length+g.bw.length:=by simp [syms]
theorem S5 {g:bZ}{s:Int}:s∈syms g↔(0<=s/\s<g.a'.length)\/(1000<=s/\s<1000+g.bw.length):=by
 unfold syms
 rw [List.mem_append,List.mem_map,List.mem_map]
 constructor
 ·rintro (⟨k,hk,rfl⟩ | ⟨k,hk,rfl⟩)
  ·rw [List.mem_range] at hk; exact .inl (by omega)
  ·rw [List.mem_range] at hk; exact .inr (by omega)
 ·rintro (h | h)
  ·exact .inl ⟨s.toNat,by rw [List.mem_range]; omega,by omega⟩
  ·exact .inr ⟨(s - 1000).toNat,by rw [List.mem_range]; omega,by omega⟩
theorem T9 {g:bZ}(bf:gH g):(syms g).Nodup:=by
 have aG:=bf.kA
 unfold syms
 rw [List.nodup_append]
 refine ⟨List.pairwise_map.2 ((List.nodup_range (n:=g.a'.length)).imp λ{a b} h e=>h (by omega)),List.pairwise_map.2 ((List.nodup_range (n:=g.bw.length)).imp λ{a b} h e=>h (by omega)),λa bg b aI=>?_⟩
 obtain ⟨i,hi,rfl⟩:=List.mem_map.1 bg
 obtain ⟨ae,aa,rfl⟩:=List.mem_map.1 aI
 rw [List.mem_range] at hi
 omega
structure wq (g:bZ) (K:List Item):Prop where
 a:fX gU K
 i:∀ x∈K,iW g x
theorem wq.len {g:bZ}(bf:gH g) {K:List Item}(h:wq g K):K.length<=540:=rO bf h.a h.i
theorem IF (l:List Int) (x:Int) (h:l.length<=1000000):Tot (xJ l x) λc=>(c=true↔x∈l):=by
 unfold xJ
 refine .aK (Ξ:=jv (λ_=>x∉l) (λr:Bool=>r=true/\x∈l)) ?_ λr aw=>?_
 ·refine Tot.upto (λs=>s) l.length (λk s=>x∉l.take k) rfl (by omega) (by simp) λk s hk he bs=>?_
  subst he
  rw [eN k (by omega)]
  refine Tot.b6 (λbd=>?_) (λeb=>.az ?_)
  ·have bd:k<l.length:=by omega
   rw [et bd]
   simp only [Option.bind_some]
   refine Tot.b6 (λe=>.az ⟨rfl,by rw [<- e]; exact List.getElem_mem bd⟩) (λe=>.az ⟨bd,rfl,?_⟩)
   rw [kb bd,List.mem_append,List.mem_singleton]
   exact λh=>h.elim bs λh=>e h.symm
  ·rw [List.take_of_length_le (by omega)] at bs
   exact bs
 ·rcases r with r | r
  ·exact .az ⟨λh=>(by cases h),λh=>absurd h aw⟩
  ·obtain ⟨rfl,h⟩:=aw
   exact .az ⟨λ_=>h,λ_=>rfl⟩
theorem N5 (m:List State) (k:List Item) (bc:m.length<=1000) (h1:∀ st∈m,st.Kernel.length<=1000000):Tot (Av m k) λr=>-1<=r/\r<m.length:=by
 unfold Av
 refine .aK (Ξ:=jv (λ_=>True) (λr:Int=>0<=r/\r<m.length)) ?_ λx J=>?_
 ·refine Tot.upto (λs=>s) m.length (λ_ _=>True) rfl (by omega) trivial λae s aa he _=>?_
  subst he
  rw [eN ae (by omega)]
  refine Tot.b6 (λbd=>?_) (λeb=>.az trivial)
  have bd:ae<m.length:=by omega
  rw [et bd]
  refine Tot.ax (.aK (NS _ k (h1 _ (List.getElem_mem bd))) λc ab=>Tot.cv (λh=>.az ⟨by omega,by omega⟩) (λh=>.az ⟨bd,rfl,trivial⟩))
 ·rcases x with x | x
  ·exact .az ⟨by omega,by omega⟩
  ·have J:0<=x/\x<m.length:=J
   exact .az ⟨by omega,by omega⟩
structure wx (g:bZ) (n:Nat) (v:Move):Prop where
 s:v.Sym∈syms g
 t0:0<=v.hh
 t1:v.hh<n
structure lC (g:bZ) (m:List State) (q ae:Nat):Prop where
 hp:0<m.length
 lu:m.length<=150
 o0:∀ st∈m,wq g st.Kernel
 ms:∀ (i:Nat) (st:State),m[i]?=some st->(st.di.map (·.Sym)).Sublist (if i<q then syms g else if i=q then (syms g).take ae else [])
 aA:∀ st∈m,∀ v∈st.di,wx g m.length v
structure lB (g:bZ) (m:List State):Prop where
 hp:0<m.length
 lu:m.length<=150
 o0:∀ st∈m,wq g st.Kernel
 tM:∀ st∈m,st.di.length<=64
 nd:∀ st∈m,(st.di.map (·.Sym)).Nodup
 aA:∀ st∈m,∀ v∈st.di,wx g m.length v
theorem wx.up {g:bZ}{n cT:Nat}{v:Move}(h:wx g n v) (aN:n<=cT):wx g cT v:=⟨h.s,h.t0,by have:=h.t1; omega⟩
theorem lC.put {g:bZ}{m:List State}{q ae:Nat}(h:lC g m q ae) {st:State}(bP:m[q]?=some st) {v:Move}(hv:wx g m.length v) (aa:(syms g)[ae]?=some v.Sym):lC g (m.set q ⟨st.Kernel,st.di++[v]⟩) q (ae+1):=by
 have mc:=(List.getElem?_eq_some_iff.1 bP).1
 have hm:=List.mem_of_getElem? bP
 refine ⟨by rw [List.length_set]; exact h.hp,by rw [List.length_set]; exact h.lu,λs aP=>?_,λi s aP=>?_,λs aP w hw=>?_⟩
 ·rcases List.mem_or_eq_of_mem_set aP with aT | aT
  ·exact h.o0 s aT
  ·rw [aT]; exact h.o0 st hm
 ·rw [AJ mc] at aP
  by_cases e:i=q
  ·subst e
   rw [if_pos rfl] at aP; cases aP
   have:=h.ms i st bP
   rw [if_neg (by omega),if_pos rfl] at this ⊢
   rw [List.map_append,List.take_add_one,aa]
   exact this.append (List.Sublist.refl _)
  ·rw [if_neg e] at aP
   have:=h.ms i s aP
   rw [if_neg e] at this ⊢
   exact this
 ·rw [List.length_set]
  rcases List.mem_or_eq_of_mem_set aP with aT | aT
  ·exact h.aA s aT w hw
  ·rw [aT] at hw
   rcases List.mem_append.1 hw with hw | hw
   ·exact h.aA st hm w hw
   ·rw [List.mem_singleton.1 hw]; exact hv
theorem lC.more {g:bZ}{m:List State}{q ae:Nat}(h:lC g m q ae) (ao:m.length<150) {K:List Item}(hk:wq g K):lC g (m++[⟨K,[]⟩]) q ae:=by
 refine ⟨by simp,by simp; omega,λs aP=>?_,λi s aP=>?_,λs aP w hw=>?_⟩
 ·rcases List.mem_append.1 aP with aP | aP
  ·exact h.o0 s aP
  ·rw [List.mem_singleton.1 aP]; exact hk
 ·by_cases e:i<m.length
  ·rw [List.getElem?_append_left e] at aP; exact h.ms i s aP
  ·rw [List.getElem?_append_right (by omega)] at aP
   have:s=⟨K,[]⟩:=by
    have:=List.mem_of_getElem? aP
    simpa using this
   rw [this]; exact List.nil_sublist _
 ·rcases List.mem_append.1 aP with aP | aP
  ·exact (h.aA s aP w hw).up (by simp)
  ·rw [List.mem_singleton.1 aP] at hw; cases hw
theorem lC.mono {g:bZ}{m:List State}{q ae sn:Nat}(h:lC g m q ae) (aa:ae<=sn):lC g m q sn:=by
 refine ⟨h.hp,h.lu,h.o0,λi s aP=>?_,h.aA⟩
 have:=h.ms i s aP
 split
 ·rename_i e; rw [if_pos e] at this; exact this
 ·rename_i e; rw [if_neg e] at this
  split
  ·rename_i cQ; rw [if_pos cQ] at this
   exact this.trans (List.take_sublist_take_left aa)
  ·rename_i cQ; rw [if_neg cQ] at this; exact this
theorem lC.next {g:bZ}{m:List State}{q ae:Nat}(h:lC g m q ae):lC g m (q+1) 0:=by
 refine ⟨h.hp,h.lu,h.o0,λi s aP=>?_,h.aA⟩
 have:=h.ms i s aP
 by_cases e:i<q+1
 ·rw [if_pos e]
  split at this
  ·exact this
  ·split at this
   ·exact this.trans (List.take_sublist _ _)
   ·exact this.trans (List.nil_sublist _)
 ·rw [if_neg (by omega),if_neg (by omega)] at this
  rw [if_neg e]
  exact this.trans (List.nil_sublist _)
theorem N0 (g:bZ) (bf:gH g):Tot (An g) λr=>(r.2=0/\lB g r.1)\/r.2=4:=by
 have fF:=bf.kA
 have bY:=bf.hU
 have c6:=bf.mS
 unfold An
 refine Tot.aK (IG g bf) λaE h1=>?_
 subst h1
 have jA:=T8 g
 refine Tot.aK (Ξ:=jv (λm=>lC g m m.length 0) (λr:List State × Int=>r.2=4)) ?_ λx J=>?_
 ·refine Tot.loop (λs=>∃ q:Nat,s.2=(q:Int)/\q<=s.1.length/\lC g s.1 q 0) (λs=>151 - s.2.toNat) ⟨0,rfl,Nat.zero_le _,⟨by simp,by simp,λs aP=>?_,λi s aP=>?_,λs aP v hv=>?_⟩⟩ (by show 151 - 0<1000000000000000000; omega) λs cd=>?_
  ·rw [List.mem_singleton.1 aP]
   refine ⟨List.pairwise_singleton ..,λx J=>?_⟩
   rw [List.mem_singleton.1 J]
   obtain ⟨q,bP⟩:∃ q,g.aY[0]?=some q:=⟨g.aY[0]'(by omega),List.getElem?_eq_getElem _⟩
   exact K8 (p:=0) bP
  ·have:=List.mem_of_getElem? aP
   rw [List.mem_singleton.1 this]; exact List.nil_sublist _
  ·rw [List.mem_singleton.1 aP] at hv; cases hv
  obtain ⟨q,he,bP,yX⟩:=cd
  obtain ⟨m,i⟩:=s
  simp only at he bP yX ⊢
  subst he
  have xa:=yX.lu
  rw [eN q (by omega)]
  refine Tot.b6 (λbd=>?_) (λeb=>.az ?_)
  ·have bd:q<m.length:=by omega
   rw [et bd]
   have eC:=yX.o0 _ (List.getElem_mem bd)
   refine Tot.ax (Tot.aK (D1 g bf _ (by have:=eC.len bf; omega)) λc ab=>?_)
   have hK:=rO bf ab.1 λx J=>((ab.2 x).1 J).iW
   refine Tot.aK (Ξ:=λl:List Int=>l.length<=1000) ?_ λM8 Vt=>?_
   ·refine Tot.upto (λs=>s.2) c.length (λk s=>fX iq s.1/\s.1.length<=k) rfl (by omega) ⟨.nil,Nat.le_refl 0⟩ λk s hk he bs=>?_
    obtain ⟨l,i⟩:=s
    obtain ⟨g1,g2⟩:=bs
    simp only at he g1 g2 ⊢
    subst he
    rw [eN k (by omega)]
    refine Tot.b6 (λbd=>?_) (λeb=>.az (show l.length<=1000 by omega))
    have bd:k<c.length:=by omega
    rw [et bd]
    refine .aK (Ξ:=λl:List Int=>fX iq l/\l.length<=k+1) ?_ λo bf=>.az ⟨bd,rfl,bf⟩
    refine Tot.ax ?_
    rw [Ek g _]
    refine Tot.ax (.aK (Ξ:=λl:List Int=>fX iq l/\l.length<=k+1) ?_ λo bf=>.az bf)
    refine Tot.b6 (λaF=>.aK (BA l _ g1 (by omega)) λr aw=>.az ⟨aw.1,by have:=aw.2.1; omega⟩) (λaF=>.az ⟨g1,by omega⟩)
   ·refine Tot.aK (Ξ:=jv (λm=>lC g m q (syms g).length/\q<m.length) (λr:List State × Int=>r.2=4)) ?_ λx J=>?_
    ·refine Tot.upto (λs=>s.2) (syms g).length (λk s=>lC g s.1 q k/\q<s.1.length) rfl (by omega) ⟨yX,bd⟩ λk s hk he bs=>?_
     obtain ⟨m,i⟩:=s
     obtain ⟨r7,mc⟩:=bs
     simp only at he r7 mc ⊢
     subst he
     rw [eN k (by omega)]
     have tx:=r7.lu
     refine Tot.b6 (λbd=>?_) (λeb=>.az ?_)
     ·have bd:k<(syms g).length:=by omega
      have k7:=List.getElem_mem bd
      have n':(syms g)[k]?=some (syms g)[k]:=List.getElem?_eq_getElem bd
      rw [et bd]
      generalize (syms g)[k]=s at *
      refine Tot.ax (Tot.aK (IF M8 s (by omega)) λbX _=>?_)
      refine Tot.cv (λ_=>.az ⟨bd,rfl,r7.mono (by omega),mc⟩) (λ_=>?_)
      have oS:m[q]?=some m[q]:=List.getElem?_eq_getElem mc
      have eC:=r7.o0 _ (List.getElem_mem mc)
      rw [et mc]
      generalize m[q]=st at *
      refine Tot.ax (Tot.ax (Tot.aK (N4 g bf st.Kernel s (by have:=eC.len bf; omega)) λA_ B6=>?_))
      have ik:wq g A_:=⟨B6.1,λy ay=>((B6.2 y).1 ay).iW bf⟩
      refine Tot.aK (N5 m A_ (by omega) λt aG=>by have:=(r7.o0 t aG).len bf; omega) λz bG=>?_
      have R0:=(r7.ms q st oS).length_le
      rw [if_neg (by omega),if_pos rfl,List.length_map,List.length_take] at R0
      refine Tot.b6 (λVQ=>Tot.b6 (λ_=>.az rfl) (λVR=>?_)) (λtB=>?_)
      ·refine .aK (Ξ:=λ_=>True) (Tot.ap (by simp [lim]; omega) trivial) λ_ _=>?_
       have Qs:=r7.more (by omega) ik
       have Km:(m++[(⟨A_,[]⟩:State)])[q]?=some st:=by rw [List.getElem?_append_left mc]; exact oS
       have y9:idx (m++[(⟨A_,[]⟩:State)]) (q:Int)=some st:=by simp only [idx,if_pos (show (0:Int)<=(q:Int) by omega),Int.toNat_natCast]; exact Km
       rw [y9]
       refine Tot.ax (Tot.ax ?_)
       refine .aK (Ξ:=λ_=>True) (Tot.ap (by simp [lim]; omega) trivial) λ_ _=>.az ⟨bd,rfl,?_⟩
       refine ⟨?_,by show q<(List.set _ _ _).length; rw [List.length_set]; simp; omega⟩
       show lC g (List.set _ (q:Int).toNat _) q (k+1)
       rw [Int.toNat_natCast]
       exact Qs.put Km ⟨k7,by show (0:Int)<=(m.length:Int); omega,by show (m.length:Int)<_; simp; omega⟩ n'
      ·refine Tot.ax (Tot.ax ?_)
       refine .aK (Ξ:=λ_=>True) (Tot.ap (by simp [lim]; omega) trivial) λ_ _=>.az ⟨bd,rfl,?_⟩
       refine ⟨?_,by show q<(List.set _ _ _).length; rw [List.length_set]; exact mc⟩
       show lC g (List.set _ (q:Int).toNat _) q (k+1)
       rw [Int.toNat_natCast]
       exact r7.put oS ⟨k7,by show 0<=z; omega,bG.2⟩ n'
     ·have:k=(syms g).length:=by omega
      subst this
      exact ⟨r7,mc⟩
    ·rcases x with x | x
     ·obtain ⟨h1,al⟩:=J
      refine .az ⟨⟨q+1,rfl,al,h1.next⟩,?_⟩
      show 151 - ((q+1:Nat):Int).toNat<151 - (q:Int).toNat
      omega
     ·exact .az J
  ·have:q=m.length:=by omega
   subst this
   exact yX
 ·rcases x with x | x
  ·have J:lC g x x.length 0:=J
   have key:∀ st∈x,(st.di.map (·.Sym)).Sublist (syms g):=λst cd=>by
    obtain ⟨i,hi⟩:=List.getElem?_of_mem cd
    have:=J.ms i st hi
    rw [if_pos (List.getElem?_eq_some_iff.1 hi).1] at this
    exact this
   refine .az (.inl ⟨rfl,J.hp,J.lu,J.o0,λst cd=>?_,λst cd=>(key st cd).nodup (T9 bf),J.aA⟩)
   have:=(key st cd).length_le
   rw [List.length_map] at this; omega
  ·exact .az (.inr J)
theorem SI {α:Type}{m:List α}{q:Nat}{x:α}(h:m[q]?=some x):idx m (q:Int)=some x:=by simp [idx,h]
def GoTo (m:List State) (a s r:Int):Prop:=(r=-1/\∀ st,idx m a=some st->∀ v∈st.di,v.Sym≠s)\/∃ st v,idx m a=some st/\v∈st.di/\v.Sym=s/\r=v.hh
theorem Bz (m:List State) (a s:Int) (hm:∀ st∈m,st.di.length<=64):Tot (pP m a s) (GoTo m a s):=by
 unfold pP
 by_cases bc:0<=a/\a<(m.length:Int)
 ·obtain ⟨st,cd,l_⟩:=k_ bc.1 bc.2
  have ao:=hm st l_
  have d1:decide (0<=a)=true:=decide_eq_true bc.1
  have d2:decide (a<(m.length:Int))=true:=decide_eq_true bc.2
  rw [d1,d2]
  simp only [cond_true,cd,Option.bind_some]
  refine .aK (Ξ:=jv (λ_=>∀ v∈st.di,v.Sym≠s) (λr:Int=>∃ v,v∈st.di/\v.Sym=s/\r=v.hh)) ?_ λx J=>?_
  ·refine Tot.upto (λs=>s) st.di.length (λk _=>∀ v∈st.di.take k,v.Sym≠s) rfl (by omega) (by simp) λk i hk he bs=>?_
   subst he
   rw [eN k (by omega)]
   refine Tot.b6 (λbd=>?_) (λeb=>.az (by
    show ∀ v∈st.di,v.Sym≠s
    rw [List.take_of_length_le (by omega)] at bs; exact bs))
   have bd:k<st.di.length:=by omega
   rw [et bd]
   simp only [Option.bind_some]
   refine Tot.b6 (λe=>.az ⟨_,List.getElem_mem bd,e,rfl⟩) (λe=>.az ⟨bd,rfl,λv hv=>?_⟩)
   rw [kb bd,List.mem_append,List.mem_singleton] at hv
   rcases hv with hv | rfl
   ·exact bs v hv
   ·exact e
  ·rcases x with x | x
   ·exact .az (.inl ⟨rfl,λDe aT=>by rw [cd] at aT; cases aT; exact J⟩)
   ·obtain ⟨v,h1,al,aR⟩:=J
    exact .az (.inr ⟨st,v,cd,h1,al,aR⟩)
 ·refine .aK (Ξ:=jv (λ_=>True) (λ_:Int=>False)) (Tot.loop (λ_=>True) (λ_=>0) trivial (by show 0<1000000000000000000; omega) λi _=>?_) λx J=>?_
  ·refine .aK (Ξ:=λc=>c=false) ?_ λc ab=>by subst ab; exact .az trivial
   refine Tot.b6 (λh1=>Tot.b6 (λal=>absurd ⟨h1,al⟩ bc) (λ_=>.az rfl)) (λ_=>.az rfl)
  ·rcases x with x | x
   ·refine .az (.inl ⟨rfl,λst aT=>absurd ⟨(na aT).1,(na aT).2.1⟩ bc⟩)
   ·exact J.elim
theorem GoTo.yi {g:bZ}{m:List State}(hm:lB g m) {a s r:Int}(h:GoTo m a s r):-1<=r/\r<m.length:=by
 rcases h with ⟨rfl,_⟩ | ⟨st,v,h1,al,_,rfl⟩
 ·have:=hm.hp; exact ⟨by omega,by omega⟩
 ·have:=hm.aA st (na h1).2.2 v al
  exact ⟨by have:=this.t0; omega,this.t1⟩
theorem GoTo.yes {g:bZ}{m:List State}(hm:lB g m) {a s r:Int}(h:GoTo m a s r) {st:State}{v:Move}(aP:idx m a=some st) (hv:v∈st.di) (e:v.Sym=s):0<=r/\r<m.length:=by
 rcases h with ⟨rfl,h⟩ | ⟨st,v,h1,al,_,rfl⟩
 ·exact absurd e (h st aP v hv)
 ·have:=hm.aA st (na h1).2.2 v al
  exact ⟨this.t0,this.t1⟩
theorem II {g:bZ}{m:List State}(hm:lB g m) (a:Int) (l:List Int) (bg:-1<=a/\a<m.length) (ao:l.length<=1000):Tot (xL m a l) λr=>-1<=r/\r<m.length:=by
 unfold xL
 refine .aK (Ξ:=λr:Int=>-1<=r/\r<m.length) ?_ λr aw=>.az aw
 refine Tot.upto (λs=>s.2) l.length (λ_ s=>-1<=s.1/\s.1<m.length) rfl (by omega) bg λk s hk he bs=>?_
 obtain ⟨r,i⟩:=s
 simp only at he bs ⊢
 subst he
 rw [eN k (by omega)]
 refine .aK (Ξ:=λc=>c=true->k<l.length) (Tot.b6 (λh=>.az λ_=>by omega) (λ_=>.az λh=>by cases h)) λc ab=>Tot.cv (λh=>?_) (λ_=>.az bs)
 have bd:=ab h
 rw [et bd]
 exact Tot.ax (.aK (Bz m r _ hm.tM) λz bG=>.az ⟨bd,rfl,bG.yi hm⟩)
def s3 (m:List State) (t:Trans):Prop:=∃ st v,idx m t.State=some st/\v∈st.di/\v.Sym=t.eW/\1000<=t.eW
structure uu (m:List State) (l:List Trans):Prop where
 n:l.length<=9600
 ok:∀ t∈l,s3 m t
 fD:∀ (q:Nat) (st:State) (v:Move),m[q]?=some st->v∈st.di->1000<=v.Sym->(⟨q,v.Sym⟩:Trans)∈l
theorem N9 {g:bZ}{m:List State}(hm:lB g m):Tot (o7 m) (uu m):=by
 have aN:=hm.lu
 unfold o7
 refine .aK (Ξ:=uu m) ?_ λr aw=>.az aw
 refine Tot.upto (λs=>s.2) m.length (λk s=>s.1.length<=64 * k/\(∀ t∈s.1,s3 m t)/\∀ (q:Nat) (st:State) (v:Move),q<k->m[q]?=some st->v∈st.di->1000<=v.Sym->(⟨q,v.Sym⟩:Trans)∈s.1) rfl (by omega) ⟨Nat.le_refl 0,λt h=>(by cases h),λq _ _ h=>absurd h (Nat.not_lt_zero _)⟩ λk s hk he bs=>?_
 obtain ⟨l,i⟩:=s
 obtain ⟨h1,al,aR⟩:=bs
 simp only at he h1 al aR ⊢
 subst he
 rw [eN k (by omega)]
 refine Tot.b6 (λbd=>?_) (λeb=>.az ⟨?_,al,λq st v bP=>aR q st v ?_ bP⟩)
 ·have bd:k<m.length:=by omega
  have oS:m[k]?=some m[k]:=List.getElem?_eq_getElem bd
  have l_:=List.getElem_mem bd
  rw [et bd]
  generalize m[k]=st at *
  have tx:=hm.tM st l_
  simp only [Option.bind_some]
  refine .aK (Ξ:=λzC:List Trans=>zC.length<=64 * (k+1)/\(∀ t∈zC,s3 m t)/\(∀ t∈l,t∈zC)/\∀ v∈st.di,1000<=v.Sym->(⟨k,v.Sym⟩:Trans)∈zC) ?_ λzC hY=>.az ⟨bd,rfl,hY.1,hY.2.1,λq De v bP b3 c3 eg=>?_⟩
  ·refine Tot.upto (λs=>s.2) st.di.length (λae s=>s.1.length<=64 * k+ae/\(∀ t∈s.1,s3 m t)/\(∀ t∈l,t∈s.1)/\∀ v∈st.di.take ae,1000<=v.Sym->(⟨k,v.Sym⟩:Trans)∈s.1) rfl (by omega) ⟨h1,al,λ_ h=>h,λv hv=>by simp at hv⟩ λae s aa he bs=>?_
   obtain ⟨o,i⟩:=s
   obtain ⟨g1,g2,g3,g4⟩:=bs
   simp only at he g1 g2 g3 g4 ⊢
   subst he
   rw [eN ae (by omega)]
   refine Tot.b6 (λbd=>?_) (λeb=>.az ⟨by show o.length<=_; omega,g2,g3,by
    rw [List.take_of_length_le (by omega)] at g4; exact g4⟩)
   have bd:ae<st.di.length:=by omega
   have fT:=kb bd
   have Cr:=List.getElem_mem bd
   rw [et bd]
   generalize st.di[ae]=v at *
   simp only [Option.bind_some]
   refine .aK (Ξ:=λo:List Trans=>o.length<=64 * k+(ae+1)/\(∀ t∈o,s3 m t)/\(∀ t∈l,t∈o)/\∀ v∈st.di.take (ae+1),1000<=v.Sym->(⟨k,v.Sym⟩:Trans)∈o) ?_ λo bf=>.az ⟨bd,rfl,bf⟩
   refine .aK (Ξ:=λo:List Trans=>o.length<=64 * k+(ae+1)/\(∀ t∈o,s3 m t)/\(∀ t∈l,t∈o)/\∀ v∈st.di.take (ae+1),1000<=v.Sym->(⟨k,v.Sym⟩:Trans)∈o) (Tot.b6 (λh=>?_) (λh=>.az ⟨by omega,g2,g3,λw hw aP=>?_⟩)) λo bf=>.az bf
   ·refine .aK (Ξ:=λ_=>True) (Tot.ap (by simp [lim]; omega) trivial) λ_ _=>.az ⟨by simp; omega,λt aG=>?_,λt aG=>List.mem_append_left _ (g3 t aG),λw hw aP=>?_⟩
    ·rcases List.mem_append.1 aG with aG | aG
     ·exact g2 t aG
     ·rw [List.mem_singleton.1 aG]
      exact ⟨st,v,SI oS,Cr,rfl,h⟩
    ·rw [fT,List.mem_append,List.mem_singleton] at hw
     rcases hw with hw | rfl
     ·exact List.mem_append_left _ (g4 w hw aP)
     ·simp
   ·rw [fT,List.mem_append,List.mem_singleton] at hw
    rcases hw with hw | rfl
    ·exact g4 w hw aP
    ·exact absurd aP h
  ·by_cases e:q=k
   ·subst e
    rw [oS] at b3; cases b3
    exact hY.2.2.2 v c3 eg
   ·exact hY.2.2.1 _ (aR q De v (by omega) b3 c3 eg)
 ·show l.length<=9600
  omega
 ·have:=(List.getElem?_eq_some_iff.1 bP).1
  omega
theorem qX (l:List Trans) (a n:Int) (ao:l.length<=9600):Tot (xz l a n) λr=>-1<=r/\r<l.length/\((⟨a,n⟩:Trans)∈l->0<=r):=by
 unfold xz
 refine .aK (Ξ:=jv (λ_=>(⟨a,n⟩:Trans)∉l) (λr:Int=>0<=r/\r<l.length)) ?_ λx J=>?_
 ·refine Tot.upto (λs=>s) l.length (λk _=>(⟨a,n⟩:Trans)∉l.take k) rfl (by omega) (by simp) λk i hk he bs=>?_
  subst he
  rw [eN k (by omega)]
  refine Tot.b6 (λbd=>?_) (λeb=>.az (by
   show (⟨a,n⟩:Trans)∉l
   rw [List.take_of_length_le (by omega)] at bs; exact bs))
  have bd:k<l.length:=by omega
  have fT:=kb bd
  rw [et bd]
  generalize l[k]=y at *
  simp only [Option.bind_some]
  refine .aK (Ξ:=λc:Bool=>c=false->y≠⟨a,n⟩) (Tot.b6 (λh=>.az λaT e=>?_) (λh=>.az λ_ e=>h (by rw [e]))) λc ab=>Tot.cv (λh=>.az ⟨by show (0:Int)<=k; omega,by show (k:Int)<_; omega⟩) (λh=>.az ⟨bd,rfl,?_⟩)
  ·have:=of_decide_eq_false aT
   exact this (by rw [e])
  ·rw [fT,List.mem_append,List.mem_singleton]
   exact λaT=>aT.elim bs λe=>ab h e.symm
 ·rcases x with x | x
  ·refine .az ⟨by omega,by omega,λh=>absurd h J⟩
  ·have J:0<=x/\x<l.length:=J
   exact .az ⟨by omega,J.2,λ_=>J.1⟩
theorem NT (l:List Item) (ao:l.length<=1000000):Tot (zW l) λ_=>True:=by
 unfold zW
 refine .aK (Ξ:=λ_=>True) ?_ λx J=>by
  rcases x with x | x
  ·exact .az trivial
  ·exact .az trivial
 refine Tot.upto (λs=>s) l.length (λ_ _=>True) rfl (by omega) trivial λk i hk he _=>?_
 subst he
 rw [eN k (by omega)]
 refine Tot.b6 (λbd=>?_) (λ_=>.az trivial)
 have bd:k<l.length:=by omega
 rw [et bd]
 simp only [Option.bind_some]
 refine .aK (Ξ:=λ_=>True) (Tot.b6 (λ_=>.az trivial) (λ_=>.az trivial)) λc _=>Tot.cv (λ_=>.az trivial) (λ_=>.az ⟨bd,rfl,trivial⟩)
theorem IB (B:List Bool) (l:List Int) (ao:l.length<=1000) (h:∀ s∈l,s<1000\/(1000<=s/\s - 1000<B.length)) (ij:B.length<=1000):Tot (xA B l) λ_=>True:=by
 unfold xA
 refine .aK (Ξ:=λ_=>True) ?_ λx J=>by
  rcases x with x | x
  ·exact .az trivial
  ·exact .az trivial
 refine Tot.upto (λs=>s) l.length (λ_ _=>True) rfl (by omega) trivial λk i hk he _=>?_
 subst he
 rw [eN k (by omega)]
 refine Tot.b6 (λbd=>?_) (λ_=>.az trivial)
 have bd:k<l.length:=by omega
 have ay:=h _ (List.getElem_mem bd)
 rw [et bd]
 generalize l[k]=y at *
 simp only [Option.bind_some]
 refine .aK (Ξ:=λ_=>True) (Tot.b6 (λ_=>.az trivial) (λh1=>?_)) λc _=>Tot.cv (λ_=>.az trivial) (λ_=>.az ⟨bd,rfl,trivial⟩)
 have hw:aM (y - 1000)=y - 1000:=by rw [dx]; omega
 rw [hw]
 obtain ⟨b,aI,_⟩:=k_ (l:=B) (i:=y - 1000) (by omega) (by omega)
 rw [aI]
 exact .az trivial
theorem LN {g:bZ}(a7:gH g) {q:Prod}(bP:q∈g.aY) {B:List Bool}(ij:B.length=g.bw.length):∀ s∈q.fo,s<1000\/(1000<=s/\s - 1000<B.length):=λs aP=>by
 have aG:=a7.kA
 have aN:=a7.hU
 rcases (a7.hq q bP).right s aP with h | h <;> omega
theorem IA (g:bZ) (a7:gH g):Tot (xy g) λB=>B.length=g.bw.length:=by
 have aG:=a7.kA
 have aN:=a7.hU
 have aF:=a7.mS
 unfold xy
 refine .aK (Ξ:=λB=>B=List.replicate g.bw.length false) (Tot.mk (by simp [lim]; omega) (by simp)) λUX Qb=>?_
 subst Qb
 refine .aK (Ξ:=λB:List Bool=>B.length=g.bw.length) ?_ λB ij=>.az ij
 refine Tot.loop (λs=>s.1.length=g.bw.length) (λs=>2 * (g.bw.length - hF s.1)+s.2.toNat) (by simp) (by
  show 2 * (g.bw.length - hF _)+1<1000000000000000000; omega) λs aP=>?_
 obtain ⟨B,f⟩:=s
 simp only at aP ⊢
 refine Tot.cv (λbj=>?_) (λ_=>.az aP)
 subst bj
 refine .aK (Ξ:=λr:List Bool × Bool=>r.1.length=g.bw.length/\hF B<=hF r.1/\(r.2=true->hF B<hF r.1)) ?_ λr aw=>?_
 ·refine Tot.upto (λs=>s.2.2) g.aY.length (λ_ s=>s.1.length=g.bw.length/\hF B<=hF s.1/\(s.2.1=true->hF B<hF s.1)) rfl (by omega) ⟨aP,Nat.le_refl _,λh=>by cases h⟩ λk s hk he bs=>?_
  obtain ⟨C,f,i⟩:=s
  obtain ⟨h1,al,aR⟩:=bs
  simp only at he h1 al aR ⊢
  subst he
  rw [eN k (by omega)]
  refine Tot.b6 (λbd=>?_) (λeb=>.az ⟨h1,al,aR⟩)
  have bd:k<g.aY.length:=by omega
  have mc:=List.getElem_mem bd
  rw [et bd]
  generalize g.aY[k]=q at *
  have bP:=a7.hq q mc
  have KH:=bP.left
  obtain ⟨b,aI,_⟩:=k_ (l:=C) (i:=q.Left) KH.1 (by omega)
  simp only [Option.bind_some,aI]
  refine .aK (Ξ:=λr:List Bool × Bool=>r.1.length=g.bw.length/\hF B<=hF r.1/\(r.2=true->hF B<hF r.1)) ?_ λr aw=>.az ⟨bd,rfl,aw⟩
  refine .aK (Ξ:=λc:Bool=>c=true->b=false) ?_ λc ab=>?_
  ·cases b with
   | true=>exact .az λh=>by cases h
   | false =>
    refine .aK (IB C q.fo (by have:=a7.aO q mc; omega) (LN a7 mc h1) (by omega)) λ_ _=>.az λ_=>rfl
  ·refine .aK (Ξ:=λr:List Bool × Bool=>r.1.length=g.bw.length/\hF B<=hF r.1/\(r.2=true->hF B<hF r.1)) (Tot.cv (λh=>.az ?_) (λh=>.az ⟨h1,al,aR⟩)) λr aw=>.az aw
   have Q8:=ab h
   subst Q8
   have Fz:q.Left.toNat<C.length:=by omega
   have oS:C.getD q.Left.toNat false=false:=by
    unfold idx at aI
    rw [if_pos KH.1] at aI
    rw [List.getD_eq_getElem?_getD,aI]; rfl
   have:=uD C q.Left.toNat Fz oS
   exact ⟨by rw [List.length_set]; exact h1,by show hF B<=hF (C.set _ _); omega,λ_=>by show hF B<hF (C.set _ _); omega⟩
 ·obtain ⟨h1,al,aR⟩:=aw
  refine .az ⟨h1,?_⟩
  have ab:=Od r.1
  show 2 * (g.bw.length - hF r.1)+r.2.toNat<2 * (g.bw.length - hF B)+true.toNat
  cases iy:r.2 with
  | false=>simp only [Bool.toNat_false,Bool.toNat_true]; omega
  | true =>
   have:=aR iy
   simp only [Bool.toNat_true]; omega
structure jc (T:Nat) (r:List Int):Prop where
 a:fX iq r
 i:∀ x∈r,0<=x/\x<T
theorem jc.len {T:Nat}{r:List Int}(h:jc T r):r.length<=T:=by
 have:=xn (m:=(List.range T).map λk:Nat=>(k:Int)) (h.a.nd zT) λx J=>by
  have:=h.i x J
  exact List.mem_map.2 ⟨x.toNat,by rw [List.mem_range]; omega,by omega⟩
 simpa using this
theorem jc.nil {T:Nat}:jc T []:=⟨.nil,λx h=>by cases h⟩
theorem jc.put {T:Nat}(fF:T<=100000) {r:List Int}(h:jc T r) {x:Int}(J:0<=x/\x<T):Tot (o6 r x) λe5=>jc T e5/\r.length<=e5.length:=by
 have ao:=h.len
 refine (BA r x h.a (by omega)).use λe5 eQ=>⟨⟨eQ.1,λy ay=>?_⟩,xn (h.a.nd zT) λy ay=>(eQ.2.2 y).2 (.inl ay)⟩
 rcases (eQ.2.2 y).1 ay with aT | rfl
 ·exact h.i y aT
 ·exact J
def lX (L:List (List Int)) (i:Nat):Nat:=(L.getD i []).length
def jR (L:List (List Int)):Nat:=(L.map List.length).sum
theorem Mt:∀ (L L':List (List Int)),L.length=L'.length->(∀ i,lX L i<=lX L' i)->jR L<=jR L'/\((∃ i,lX L i<lX L' i)->jR L<jR L')
 | [],[],_,_=>⟨Nat.le_refl _,λ⟨i,h⟩=>absurd h (Nat.lt_irrefl _)⟩
 | a::L,b::L',ao,h=>by
  obtain ⟨h1,al⟩:=Mt L L' (by simpa using ao) λi=>by simpa [lX] using h (i+1)
  have bc:a.length<=b.length:=by simpa [lX] using h 0
  have dn:jR (a::L)=a.length+jR L:=by simp [jR]
  have cZ:jR (b::L')=b.length+jR L':=by simp [jR]
  rw [dn,cZ]
  refine ⟨by omega,λ⟨i,hi⟩=>?_⟩
  cases i with
  | zero =>
   have:a.length<b.length:=by simpa [lX] using hi
   omega
  | succ i =>
   have:=al ⟨i,by simpa [lX] using hi⟩
   omega
def Sets (T:Nat) (L:List (List Int)):Prop:=∀ r∈L,jc T r
theorem Ms {T:Nat}:∀ {L:List (List Int)},Sets T L->jR L<=L.length * T
 | [],_=>by simp [jR]
 | a::L,h=>by
  have h1:=(h a (by simp)).len
  have al:=Ms (L:=L) λr aw=>h r (by simp [aw])
  have dn:jR (a::L)=a.length+jR L:=by simp [jR]
  rw [dn,List.length_cons,Nat.succ_mul]; omega
structure nW (T:Nat) (L L':List (List Int)):Prop where
 n:L'.length=L.length
 s:Sets T L'
 u:∀ i,lX L i<=lX L' i
theorem nW.refl {T:Nat}{L:List (List Int)}(h:Sets T L):nW T L L:=⟨rfl,h,λ_=>Nat.le_refl _⟩
theorem nW.trans {T:Nat}{A B C:List (List Int)}(h:nW T A B) (aT:nW T B C):nW T A C:=⟨aT.n.trans h.n,aT.s,λi=>Nat.le_trans (h.u i) (aT.u i)⟩
theorem nW.set {T:Nat}{L:List (List Int)}{k:Nat}{r e5:List Int}(aP:Sets T L) (hk:L[k]?=some r) (h:jc T e5) (ao:r.length<=e5.length):nW T L (L.set k e5):=by
 have dS:=(List.getElem?_eq_some_iff.1 hk).1
 refine ⟨List.length_set ..,λx J=>?_,λi=>?_⟩
 ·rcases List.mem_or_eq_of_mem_set J with aT | aT
  ·exact aP x aT
  ·rw [aT]; exact h
 ·unfold lX
  rw [List.getD_eq_getElem?_getD,List.getD_eq_getElem?_getD,AJ dS]
  by_cases e:i=k
  ·subst e; rw [if_pos rfl,hk]; exact ao
  ·rw [if_neg e]; exact Nat.le_refl _
theorem Cz {L:List (List Int)}{k:Nat}{r:List Int}(h:L[k]?=some r):lX L k=r.length:=by unfold lX; rw [List.getD_eq_getElem?_getD,h]; rfl
theorem SH {α:Type}{l:List α}{i:Int}{y:α}(h:idx l i=some y):l[i.toNat]?=some y:=by
 unfold idx at h
 split at h
 ·exact h
 ·cases h
theorem IH (T:Nat) (fF:T<=1000) (a0 av:List (List Int)) (aN:a0.length<=9600) (he:av.length=a0.length) (bc:Sets T a0) (h1:Sets a0.length av):Tot (xK a0 av) λr=>r.length=a0.length/\Sets T r:=by
 unfold xK
 refine .aK (Ξ:=λr:List (List Int)=>r.length=a0.length/\Sets T r) ?_ λr aw=>.az aw
 have aI:a0.length * T<=9600 * 1000:=Nat.mul_le_mul aN fF
 refine Tot.loop (λs=>s.1.length=a0.length/\Sets T s.1) (λs=>2 * (a0.length * T - jR s.1)+s.2.toNat) ⟨rfl,bc⟩ (by
  show 2 * (a0.length * T - jR _)+1<1000000000000000000; omega) λs aP=>?_
 obtain ⟨L,f⟩:=s
 obtain ⟨ao,aP⟩:=aP
 simp only at ao aP ⊢
 refine Tot.cv (λbj=>?_) (λ_=>.az ⟨ao,aP⟩)
 subst bj
 refine .aK (Ξ:=λr:List (List Int) × Bool=>nW T L r.1/\(r.2=true->∃ i,lX L i<lX r.1 i)) ?_ λr aw=>?_
 ·refine Tot.upto (λs=>s.2.2) L.length (λ_ s=>nW T L s.1/\(s.2.1=true->∃ i,lX L i<lX s.1 i)) rfl (by omega) ⟨.refl aP,λh=>by cases h⟩ λk s hk hX bs=>?_
  obtain ⟨C,f,i⟩:=s
  obtain ⟨hu,ts⟩:=bs
  simp only at hX hu ts ⊢
  subst hX
  rw [eN k (by omega)]
  have KQ:=hu.n
  refine Tot.b6 (λbd=>?_) (λeb=>.az ⟨hu,ts⟩)
  have Kp:k<C.length:=by omega
  have hl:k<av.length:=by omega
  have Kk:C[k]?=some C[k]:=List.getElem?_eq_getElem Kp
  have n_:=h1 _ (List.getElem_mem hl)
  rw [et hl,et Kp]
  generalize av[k]=row at *
  generalize C[k]=lv at *
  simp only [Option.bind_some]
  have nC:=n_.len
  refine .aK (Ξ:=λD:List (List Int)=>nW T C D) ?_ λD pD=>?_
  ·refine Tot.upto (λs=>s.2) row.length (λ_ s=>nW T C s.1) rfl (by omega) (.refl hu.s) λae s aa hX bs=>?_
   obtain ⟨D,i⟩:=s
   simp only at hX bs ⊢
   subst hX
   rw [eN ae (by omega)]
   have Qf:=bs.n
   refine Tot.b6 (λbd=>?_) (λ_=>.az bs)
   have bd:ae<row.length:=by omega
   have ay:=n_.i _ (List.getElem_mem bd)
   rw [et bd]
   generalize row[ae]=y at *
   simp only [Option.bind_some]
   refine .aK (Ξ:=λE:List (List Int)=>nW T C E) ?_ λE kK=>.az ⟨bd,rfl,kK⟩
   refine Tot.count (λs=>s.2) T (λs=>∃ n:Nat,s.2=(n:Int)/\nW T C s.1) ⟨0,rfl,bs⟩ (by show (T:Int) - 0<_; omega) λs aP=>?_
   obtain ⟨E,i⟩:=s
   obtain ⟨n,Ch,kK⟩:=aP
   simp only at Ch kK ⊢
   subst Ch
   have Vp:=kK.n
   obtain ⟨z,bG,SE⟩:=k_ (l:=E) (i:=y) ay.1 (by omega)
   have nE:=kK.s z SE
   have sm:=nE.len
   have Fq:k<E.length:=by omega
   have Rq:E[k]?=some E[k]:=List.getElem?_eq_getElem Fq
   rw [bG]
   simp only [Option.bind_some]
   refine Tot.b6 (λbd=>?_) (λ_=>.az kK)
   have bd:n<z.length:=by omega
   rw [eN n (by omega),et Fq,et bd]
   simp only [Option.bind_some]
   refine .aK ((kK.s _ (List.getElem_mem Fq)).put (by omega) (nE.i _ (List.getElem_mem bd))) λe5 eQ=>.az ⟨⟨n+1,rfl,?_⟩,by show (n:Int)<((n+1:Nat):Int); omega,by show ((n+1:Nat):Int)<=T; omega⟩
   exact kK.trans (.set kK.s Rq eQ.1 eQ.2)
  ·have Qf:=pD.n
   have Kq:k<D.length:=by omega
   have Kl:D[k]?=some D[k]:=List.getElem?_eq_getElem Kq
   have tE:=hu.trans pD
   refine .aK (Ξ:=λc:Bool=>c=true->∃ i,lX L i<lX D i) ?_ λc ab=>.az ⟨by omega,rfl,tE,ab⟩
   refine Tot.cv (λbj=>.az λ_=>?_) (λ_=>?_)
   ·obtain ⟨i,hi⟩:=ts bj
    exact ⟨i,Nat.lt_of_lt_of_le hi (pD.u i)⟩
   ·rw [et Kq]
    refine Tot.ax (.az λh=>⟨k,?_⟩)
    have aR:=pD.u k
    have b3:=hu.u k
    rw [Cz Kk,Cz Kl] at aR
    rw [Cz Kk] at b3
    rw [Cz Kl]
    have:¬ ((D[k].length:Int)=(lv.length:Int)):=λe=>by rw [decide_eq_true e] at h; cases h
    omega
 ·obtain ⟨hu,bj⟩:=aw
  have Cn:=hu.n
  obtain ⟨aR,b3⟩:=Mt L r.1 Cn.symm hu.u
  have c3:=Ms hu.s
  rw [show r.1.length=a0.length by omega] at c3
  refine .az ⟨⟨by show r.1.length=_; omega,hu.s⟩,?_⟩
  show 2 * (a0.length * T - jR r.1)+r.2.toNat<2 * (a0.length * T - jR L)+true.toNat
  cases iy:r.2 with
  | false=>simp only [Bool.toNat_false,Bool.toNat_true]; omega
  | true =>
   have:=b3 (bj iy)
   simp only [Bool.toNat_true]; omega
theorem lB.sym {g:bZ}(a7:gH g) {m:List State}(hm:lB g m) {st:State}(cd:st∈m) {v:Move}(hv:v∈st.di):0<=v.Sym/\(v.Sym<1000->v.Sym<g.a'.length)/\(1000<=v.Sym->v.Sym - 1000<g.bw.length):=by
 have aG:=a7.kA
 rcases S5.1 (hm.aA st cd v hv).s with h | h
 ·exact ⟨h.1,λ_=>h.2,λaT=>by omega⟩
 ·exact ⟨by omega,λaT=>by omega,λ_=>by omega⟩
theorem s3.go {g:bZ}{m:List State}(hm:lB g m) {t:Trans}(h:s3 m t):Tot (pP m t.State t.eW) λr=>0<=r/\r<m.length:=by
 obtain ⟨st,v,h1,al,aR,_⟩:=h
 exact (Bz m t.State t.eW hm.tM).use λr aw=>aw.yes hm h1 al aR
theorem Me {T:Nat}{L:List (List Int)}{r:List Int}(h:Sets T L) (aw:jc T r):Sets T (L++[r]):=λx J=>by
 rcases List.mem_append.1 J with J | J
 ·exact h x J
 ·rw [List.mem_singleton.1 J]; exact aw
theorem N6 (g:bZ) (a7:gH g) {m:List State}(hm:lB g m):Tot (Aw m) λr=>∃ cj,o7 m=some cj/\uu m cj/\r.length=cj.length/\Sets g.a'.length r:=by
 have aG:=a7.kA
 obtain ⟨cj,oM,hZ⟩:=N9 hm
 have u5:=hZ.n
 unfold Aw
 rw [oM]
 refine Tot.ax (.aK (Ξ:=λr:List (List Int)=>r.length=cj.length/\Sets g.a'.length r) ?_ λr aw=>.az ⟨cj,rfl,hZ,aw⟩)
 refine Tot.upto (λs=>s.2) cj.length (λk s=>s.1.length=k/\Sets g.a'.length s.1) rfl (by omega) ⟨rfl,λr h=>by cases h⟩ λk s hk he bs=>?_
 obtain ⟨L,i⟩:=s
 obtain ⟨h1,al⟩:=bs
 simp only at he h1 al ⊢
 subst he
 rw [eN k (by omega)]
 refine Tot.b6 (λbd=>?_) (λeb=>.az ⟨by show L.length=_; omega,al⟩)
 have bd:k<cj.length:=by omega
 have fT:=hZ.ok _ (List.getElem_mem bd)
 rw [et bd]
 generalize cj[k]=t at *
 simp only [Option.bind_some]
 refine .aK (fT.go hm) λto zr=>?_
 obtain ⟨st,cd,k7⟩:=k_ zr.1 zr.2
 have eC:=hm.o0 st k7
 have tx:=hm.tM st k7
 rw [cd]
 simp only [Option.bind_some]
 refine .aK (NT _ (by have:=eC.len a7; omega)) λc _=>?_
 refine .aK (Ξ:=jc g.a'.length) (Tot.cv (λ_=>?_) (λ_=>.az .nil)) λxO xb=>?_
 ·refine .aK (Ξ:=λ_=>True) (Tot.ap (by simp [lim]) trivial) λ_ _=>.az ⟨List.pairwise_singleton ..,λx J=>?_⟩
  rw [List.mem_singleton.1 J]; omega
 refine .aK (Ξ:=jc g.a'.length) ?_ λr aw=>?_
 ·refine Tot.upto (λs=>s.2) st.di.length (λk s=>jc g.a'.length s.1) rfl (by omega) xb λae s aa he bs=>?_
  obtain ⟨r,i⟩:=s
  simp only at he bs ⊢
  subst he
  rw [eN ae (by omega)]
  refine Tot.b6 (λbd=>?_) (λ_=>.az bs)
  have bd:ae<st.di.length:=by omega
  have hv:=hm.sym a7 k7 (List.getElem_mem bd)
  rw [et bd]
  generalize st.di[ae]=v at *
  simp only [Option.bind_some]
  refine .aK (Ξ:=jc g.a'.length) ?_ λr aw=>.az ⟨bd,rfl,aw⟩
  refine .aK (Ξ:=jc g.a'.length) (Tot.b6 (λh=>?_) (λ_=>.az bs)) λr aw=>.az aw
  exact .aK (bs.put (by omega) ⟨hv.1,hv.2.1 h⟩) λr aw=>.az aw.1
 ·refine .aK (Ξ:=λ_=>True) (Tot.ap (by simp [lim]; omega) trivial) λ_ _=>.az ⟨bd,rfl,by simp; omega,Me al aw⟩
theorem N7 (g:bZ) (a7:gH g) {m:List State}(hm:lB g m) {cj:List Trans}(oM:o7 m=some cj) (hZ:uu m cj):Tot (Ax g m) λr=>r.length=cj.length/\Sets cj.length r:=by
 have aG:=a7.kA
 have FG:=a7.hU
 have u5:=hZ.n
 unfold Ax
 rw [oM]
 refine Tot.ax (.aK (IA g a7) λB ij=>.aK (Ξ:=λr:List (List Int)=>r.length=cj.length/\Sets cj.length r) ?_ λr aw=>.az aw)
 refine Tot.upto (λs=>s.2) cj.length (λk s=>s.1.length=k/\Sets cj.length s.1) rfl (by omega) ⟨rfl,λr h=>by cases h⟩ λk s hk he bs=>?_
 obtain ⟨L,i⟩:=s
 obtain ⟨h1,al⟩:=bs
 simp only at he h1 al ⊢
 subst he
 rw [eN k (by omega)]
 refine Tot.b6 (λbd=>?_) (λeb=>.az ⟨by show L.length=_; omega,al⟩)
 have bd:k<cj.length:=by omega
 have fT:=hZ.ok _ (List.getElem_mem bd)
 rw [et bd]
 generalize cj[k]=t at *
 simp only [Option.bind_some]
 refine .aK (fT.go hm) λto zr=>?_
 obtain ⟨st,cd,k7⟩:=k_ zr.1 zr.2
 have mZ:=SH cd
 have tx:=hm.tM st k7
 rw [cd]
 simp only [Option.bind_some]
 refine .aK (Ξ:=jc cj.length) ?_ λr aw=>?_
 ·refine Tot.upto (λs=>s.2) st.di.length (λk s=>jc cj.length s.1) rfl (by omega) .nil λae s aa he bs=>?_
  obtain ⟨r,i⟩:=s
  simp only at he bs ⊢
  subst he
  rw [eN ae (by omega)]
  refine Tot.b6 (λbd=>?_) (λ_=>.az bs)
  have bd:ae<st.di.length:=by omega
  have Cr:=List.getElem_mem bd
  have hv:=hm.sym a7 k7 Cr
  rw [et bd]
  generalize st.di[ae]=v at *
  simp only [Option.bind_some]
  refine .aK (Ξ:=jc cj.length) ?_ λr aw=>.az ⟨bd,rfl,aw⟩
  refine .aK (Ξ:=λc:Bool=>c=true->1000<=v.Sym) (Tot.b6 (λh=>?_) (λ_=>.az λh=>by cases h)) λc ab=>?_
  ·have hw:aM (v.Sym - 1000)=v.Sym - 1000:=by
    have:=hv.2.2 h
    rw [dx]; omega
   rw [hw]
   obtain ⟨b,aI,_⟩:=k_ (l:=B) (i:=v.Sym - 1000) (by omega) (by have:=hv.2.2 h; omega)
   rw [aI]
   exact Tot.ax (.az λ_=>h)
  ·refine .aK (Ξ:=jc cj.length) (Tot.cv (λh=>?_) (λ_=>.az bs)) λr aw=>.az aw
   have Cd:=hZ.fD to.toNat st v mZ Cr (ab h)
   rw [show ((to.toNat:Nat):Int)=to by omega] at Cd
   refine .aK (qX cj to v.Sym u5) λz bG=>?_
   exact .aK (bs.put (by omega) ⟨bG.2.2 Cd,bG.2.1⟩) λr aw=>.az aw.1
 ·refine .aK (Ξ:=λ_=>True) (Tot.ap (by simp [lim]; omega) trivial) λ_ _=>.az ⟨bd,rfl,by simp; omega,Me al aw⟩
theorem N8 (g:bZ) (a7:gH g) {m:List State}(hm:lB g m) {cj:List Trans}(oM:o7 m=some cj) (hZ:uu m cj):Tot (Ay g m) λr=>r.length=cj.length/\Sets cj.length r:=by
 have aG:=a7.kA
 have FG:=a7.hU
 have zh:=a7.mS
 have u5:=hZ.n
 unfold Ay
 rw [oM]
 refine Tot.ax (.aK (IA g a7) λB ij=>.aK (Ξ:=λr=>r=List.replicate cj.length ([]:List Int)) (Tot.mk (by simp [lim]; omega) (by simp)) λU0 Qo=>.aK (Ξ:=λr:List (List Int)=>r.length=cj.length/\Sets cj.length r) ?_ λr aw=>.az aw)
 subst Qo
 have UW:∀ {L:List (List Int)},(L.length=cj.length/\Sets cj.length L)->∀ {z:Int}{r e5:List Int},idx L z=some r->jc cj.length e5->(L.set z.toNat e5).length=cj.length/\Sets cj.length (L.set z.toNat e5):=λ{L} jA {z r e5} _ eQ=>⟨by rw [List.length_set]; exact jA.1,λx J=>by
  rcases List.mem_or_eq_of_mem_set J with aT | aT
  ·exact jA.2 x aT
  ·rw [aT]; exact eQ⟩
 refine Tot.upto (λs=>s.2) cj.length (λk s=>s.1.length=cj.length/\Sets cj.length s.1) rfl (by omega) ⟨by simp,λr h=>by rw [List.eq_of_mem_replicate h]; exact .nil⟩ λk s hk he bs=>?_
 obtain ⟨L,i⟩:=s
 simp only at he bs ⊢
 subst he
 rw [eN k (by omega)]
 refine Tot.b6 (λbd=>?_) (λeb=>.az bs)
 have bd:k<cj.length:=by omega
 have fT:=hZ.ok _ (List.getElem_mem bd)
 rw [et bd]
 generalize cj[k]=t at *
 simp only [Option.bind_some]
 refine .aK (Ξ:=λr:List (List Int)=>r.length=cj.length/\Sets cj.length r) ?_ λr aw=>.az ⟨bd,rfl,aw⟩
 refine Tot.upto (λs=>s.2) g.aY.length (λk s=>s.1.length=cj.length/\Sets cj.length s.1) rfl (by omega) bs λp s aF he bs=>?_
 obtain ⟨L,i⟩:=s
 simp only at he bs ⊢
 subst he
 rw [eN p (by omega)]
 refine Tot.b6 (λCg=>?_) (λeb=>.az bs)
 have Cg:p<g.aY.length:=by omega
 have mc:=List.getElem_mem Cg
 rw [et Cg]
 generalize g.aY[p]=q at *
 have bP:=a7.hq q mc
 have Cn:=a7.aO q mc
 have u4:=LN a7 mc ij
 simp only [Option.bind_some]
 refine .aK (Ξ:=λr:List (List Int)=>r.length=cj.length/\Sets cj.length r) ?_ λr aw=>.az ⟨Cg,rfl,aw⟩
 refine Tot.cv (λ_=>.az bs) (λ_=>.aK (Ξ:=λr:List (List Int)=>r.length=cj.length/\Sets cj.length r) ?_ λr aw=>.az aw)
 refine Tot.upto (λs=>s.2) q.fo.length (λk s=>s.1.length=cj.length/\Sets cj.length s.1) rfl (by omega) bs λae s aa he bs=>?_
 obtain ⟨L,i⟩:=s
 simp only at he bs ⊢
 subst he
 rw [eN ae (by omega)]
 refine Tot.b6 (λdZ=>?_) (λeb=>.az bs)
 have dZ:ae<q.fo.length:=by omega
 rw [et dZ]
 generalize q.fo[ae]=y at *
 simp only [Option.bind_some]
 refine .aK (Ξ:=λr:List (List Int)=>r.length=cj.length/\Sets cj.length r) ?_ λr aw=>.az ⟨dZ,rfl,aw⟩
 refine .aK (Ξ:=λ_=>True) (Tot.b6 (λ_=>.az trivial) (λ_=>?_)) λc _=>Tot.cv (λ_=>.az bs) (λ_=>?_)
 ·refine .aK (Ξ:=λr=>r=q.fo.drop (ae+1)) (Tot.sub ⟨by omega,by omega,by omega⟩ ?_) λr aw=>?_
  ·rw [List.take_of_length_le]
   ·congr 1
   ·rw [List.length_drop]; omega
  ·subst aw
   exact .aK (IB B _ (by rw [List.length_drop]; omega) (λs aP=>u4 s (List.mem_of_mem_drop aP)) (by omega)) λ_ _=>.az trivial
 refine .aK (Ξ:=λr=>r.length<=8) (Tot.sub ⟨by omega,by omega,by omega⟩ (by rw [List.length_take,List.length_drop]; omega)) λr aw=>?_
 obtain ⟨st,_,cd,_⟩:=fT
 have FN:=na cd
 refine .aK (II hm t.State r ⟨by omega,FN.2.1⟩ (by omega)) λz bG=>?_
 refine .aK (Ξ:=λr:List (List Int)=>r.length=cj.length/\Sets cj.length r) (Tot.cv (λ_=>?_) (λ_=>.az bs)) λr aw=>.az aw
 refine .aK (qX cj z y u5) λn aN=>?_
 refine .aK (Ξ:=λr:List (List Int)=>r.length=cj.length/\Sets cj.length r) (Tot.b6 (λbc=>?_) (λ_=>.az bs)) λr aw=>.az aw
 obtain ⟨xO,xb,FL⟩:=k_ (l:=L) bc (by rw [bs.1]; exact aN.2.1)
 rw [xb]
 refine Tot.ax (.aK ((bs.2 xO FL).put (by omega) ⟨by omega,by omega⟩) λe5 eQ=>.az (UW bs xb eQ.1))
theorem N1 (g:bZ) (a7:gH g) {m:List State}(hm:lB g m):Tot (Ao g m) λr=>∃ cj,o7 m=some cj/\uu m cj/\r.length=cj.length/\Sets g.a'.length r:=by
 have aG:=a7.kA
 unfold Ao
 refine .aK (N6 g a7 hm) λsy h1=>?_
 obtain ⟨cj,oM,hZ,Fw,FM⟩:=h1
 have u5:=hZ.n
 refine .aK (N7 g a7 hm oM hZ) λgm al=>.aK (IH g.a'.length (by omega) sy gm (by omega) (by omega) FM (by rw [Fw]; exact al.2)) λtU aR=>?_
 refine .aK (N8 g a7 hm oM hZ) λrr b3=>.aK (IH g.a'.length (by omega) tU rr (by omega) (by omega) aR.2 (by rw [aR.1,Fw]; exact b3.2)) λtV c3=>?_
 exact .az ⟨cj,oM,hZ,by omega,c3.2⟩
def pj (g:bZ) (p:Int):Prop:=0<p/\p<g.aY.length
theorem N2 (g:bZ) (a7:gH g) (K:List Item) (ao:K.length<=1000000):Tot (Ap g K) λr=>r.length<=540/\∀ p∈r,pj g p:=by
 unfold Ap
 refine .aK (D1 g a7 K ao) λc ab=>?_
 have hK:=rO a7 ab.1 λx J=>((ab.2 x).1 J).iW
 refine .aK (Ξ:=λr:List Int=>r.length<=540/\∀ p∈r,pj g p) ?_ λr aw=>.az aw
 refine Tot.upto (λs=>s.2) c.length (λk s=>s.1.length<=k/\∀ p∈s.1,pj g p) rfl (by omega) ⟨Nat.le_refl 0,λp h=>by cases h⟩ λk s hk he bs=>?_
 obtain ⟨L,i⟩:=s
 obtain ⟨h1,al⟩:=bs
 simp only at he h1 al ⊢
 subst he
 rw [eN k (by omega)]
 refine Tot.b6 (λbd=>?_) (λeb=>.az ⟨by show L.length<=_; omega,al⟩)
 have bd:k<c.length:=by omega
 have hi:=((ab.2 _).1 (List.getElem_mem bd)).iW
 rw [et bd]
 generalize c[k]=x at *
 obtain ⟨q,bP,aR,b3⟩:=hi
 simp only [Option.bind_some]
 refine .aK (Ξ:=λL:List Int=>L.length<=k+1/\∀ p∈L,pj g p) ?_ λr aw=>.az ⟨bd,rfl,aw⟩
 refine .aK (Ξ:=λc:Bool=>c=true->0<x.Prod) (Tot.b6 (λh=>?_) (λ_=>.az λh=>by cases h)) λc ab=>?_
 ·rw [bP]; exact Tot.ax (.az λ_=>h)
 refine .aK (Ξ:=λL:List Int=>L.length<=k+1/\∀ p∈L,pj g p) (Tot.cv (λh=>?_) (λ_=>.az ⟨by omega,al⟩)) λr aw=>.az aw
 refine .aK (Ξ:=λ_=>True) (Tot.ap (by simp [lim]; omega) trivial) λ_ _=>.az ⟨by simp; omega,λp aF=>?_⟩
 rcases List.mem_append.1 aF with aF | aF
 ·exact al p aF
 ·rw [List.mem_singleton.1 aF]; exact ⟨ab h,(na bP).2.1⟩
theorem N3 (g:bZ) (a7:gH g) {m:List State}(hm:lB g m) {cj:List Trans}(oM:o7 m=some cj) (hZ:uu m cj) (q p:Int):Tot (Aq g m q p) λr=>r.length<=9600/\∀ x∈r,0<=x/\x<cj.length:=by
 have u5:=hZ.n
 have zh:=a7.mS
 have FG:=a7.hU
 unfold Aq
 refine .aK (Ξ:=λc:Bool=>c=false->0<=p/\p<g.aY.length) (Tot.b6 (λ_=>.az λh=>by cases h) (λ_=>Tot.b6 (λ_=>.az λh=>by cases h) (λ_=>Tot.b6 (λ_=>.az λh=>by cases h) (λh=>.az λaT=>by have:=of_decide_eq_false aT; omega)))) λc ab=>Tot.cv (λ_=>.az ⟨Nat.zero_le _,λx h=>by cases h⟩) (λh=>?_)
 obtain ⟨bc,h1⟩:=ab h
 rw [oM]
 refine Tot.ax ?_
 refine .aK (Ξ:=λr:List Int=>r.length<=9600/\∀ x∈r,0<=x/\x<cj.length) ?_ λr aw=>.az aw
 obtain ⟨hq,FK,RN⟩:=k_ bc h1
 have Cn:=a7.aO hq RN
 refine Tot.upto (λs=>s.2) cj.length (λk s=>s.1.length<=k/\∀ x∈s.1,0<=x/\x<cj.length) rfl (by omega) ⟨Nat.le_refl 0,λp h=>by cases h⟩ λk s hk he bs=>?_
 obtain ⟨L,i⟩:=s
 obtain ⟨al,aR⟩:=bs
 simp only at he al aR ⊢
 subst he
 rw [eN k (by omega)]
 refine Tot.b6 (λbd=>?_) (λeb=>.az ⟨by show L.length<=_; omega,aR⟩)
 have bd:k<cj.length:=by omega
 have fT:=hZ.ok _ (List.getElem_mem bd)
 rw [et bd,FK]
 generalize cj[k]=t at *
 obtain ⟨st,_,cd,_⟩:=fT
 have FN:=na cd
 simp only [Option.bind_some]
 refine .aK (Ξ:=λL:List Int=>L.length<=k+1/\∀ x∈L,0<=x/\x<cj.length) ?_ λr aw=>.az ⟨bd,rfl,aw⟩
 refine .aK (Ξ:=λ_=>True) (Tot.b6 (λh=>?_) (λ_=>.az trivial)) λc ab=>?_
 ·exact .aK (II hm t.State hq.fo ⟨by omega,FN.2.1⟩ (by omega)) λ_ _=>.az trivial
 refine .aK (Ξ:=λL:List Int=>L.length<=k+1/\∀ x∈L,0<=x/\x<cj.length) (Tot.cv (λh=>?_) (λ_=>.az ⟨by omega,aR⟩)) λr aw=>.az aw
 refine .aK (Ξ:=λ_=>True) (Tot.ap (by simp [lim]; omega) trivial) λ_ _=>.az ⟨by simp; omega,λp aF=>?_⟩
 rcases List.mem_append.1 aF with aF | aF
 ·exact aR p aF
 ·rw [List.mem_singleton.1 aF]; exact ⟨by omega,by omega⟩
structure wv (g:bZ) (l:jU):Prop where
 p:pj g l.Prod
 t:jc g.a'.length l.a'
theorem wN (g:bZ) (a7:gH g) {m:List State}(hm:lB g m):Tot (Ai g m) λr=>r.length<=81000/\∀ l∈r,wv g l:=by
 have aG:=a7.kA
 have xa:=hm.lu
 unfold Ai
 refine .aK (N1 g a7 hm) λF aQ=>?_
 obtain ⟨cj,oM,hZ,Vq,jf⟩:=aQ
 have u5:=hZ.n
 refine .aK (Ξ:=λr:List jU=>r.length<=81000/\∀ l∈r,wv g l) ?_ λr aw=>.az aw
 refine Tot.upto (λs=>s.2) m.length (λk s=>s.1.length<=540 * k/\∀ l∈s.1,wv g l) rfl (by omega) ⟨Nat.le_refl 0,λp h=>by cases h⟩ λk s hk he bs=>?_
 obtain ⟨L,i⟩:=s
 obtain ⟨h1,al⟩:=bs
 simp only at he h1 al ⊢
 subst he
 rw [eN k (by omega)]
 refine Tot.b6 (λbd=>?_) (λeb=>.az ⟨by show L.length<=_; omega,al⟩)
 have bd:k<m.length:=by omega
 have eC:=hm.o0 _ (List.getElem_mem bd)
 rw [et bd]
 generalize m[k]=st at *
 refine Tot.ax (.aK (N2 g a7 st.Kernel (by have:=eC.len a7; omega)) λE kK=>?_)
 obtain ⟨Vo,Qg⟩:=kK
 refine .aK (Ξ:=λL:List jU=>L.length<=540 * (k+1)/\∀ l∈L,wv g l) ?_ λr aw=>.az ⟨bd,rfl,aw⟩
 refine Tot.upto (λs=>s.2) E.length (λae s=>s.1.length<=540 * k+ae/\∀ l∈s.1,wv g l) rfl (by omega) ⟨h1,al⟩ λae s aa he bs=>?_
 obtain ⟨L,i⟩:=s
 obtain ⟨h1,al⟩:=bs
 simp only at he h1 al ⊢
 subst he
 rw [eN ae (by omega)]
 refine Tot.b6 (λdZ=>?_) (λeb=>.az ⟨by show L.length<=_; omega,al⟩)
 have dZ:ae<E.length:=by omega
 have aF:=Qg _ (List.getElem_mem dZ)
 rw [et dZ]
 generalize E[ae]=p at *
 simp only [Option.bind_some]
 refine .aK (N3 g a7 hm oM hZ k p) λB ij=>?_
 obtain ⟨Vm,Qd⟩:=ij
 refine .aK (Ξ:=jc g.a'.length) ?_ λS b1=>?_
 ·refine Tot.upto (λs=>s.2) B.length (λ_ s=>jc g.a'.length s.1) rfl (by omega) .nil λb s aI he bs=>?_
  obtain ⟨S,i⟩:=s
  simp only at he bs ⊢
  subst he
  rw [eN b (by omega)]
  refine Tot.b6 (λw9=>?_) (λeb=>.az bs)
  have w9:b<B.length:=by omega
  have J:=Qd _ (List.getElem_mem w9)
  rw [et w9]
  generalize B[b]=x at *
  obtain ⟨row,n_,FL⟩:=k_ (l:=F) J.1 (by omega)
  have lp:=jf row FL
  have nC:=lp.len
  simp only [Option.bind_some,n_]
  refine .aK (Ξ:=jc g.a'.length) ?_ λS b1=>.az ⟨w9,rfl,b1⟩
  refine Tot.upto (λs=>s.2) row.length (λ_ s=>jc g.a'.length s.1) rfl (by omega) bs λz s bG he bs=>?_
  obtain ⟨S,i⟩:=s
  simp only at he bs ⊢
  subst he
  rw [eN z (by omega)]
  refine Tot.b6 (λoT=>?_) (λeb=>.az bs)
  have oT:z<row.length:=by omega
  rw [et oT]
  exact Tot.ax (.aK (bs.put (by omega) (lp.i _ (List.getElem_mem oT))) λr aw=>.az ⟨oT,rfl,aw.1⟩)
 ·refine .aK (Ξ:=λ_=>True) (Tot.ap (by simp [lim]; omega) trivial) λ_ _=>.az ⟨dZ,rfl,by simp; omega,λl ao=>?_⟩
  rcases List.mem_append.1 ao with ao | ao
  ·exact al l ao
  ·rw [List.mem_singleton.1 ao]; exact ⟨aF,b1⟩
def kz (c:Cell):Nat:=c.aY.length+(if 0<=c.ff then 1 else 0)+(if c.hD then 1 else 0)
theorem Mr {x:Option Int}{c:Cell}(ao:c.aY.length<=1000) (e:x=(((bif decide (0<=c.ff) then
some (aM ((c.aY.length:Int)+1))
else
some (c.aY.length:Int))).bind λh0 =>
((bif c.hD then
some (aM (h0+1))
else
some h0)).bind λdm =>
some dm)):x=some (kz c:Int):=by
 subst e
 have hw:aM ((c.aY.length:Int)+1)=(c.aY.length:Int)+1:=by rw [dx]; omega
 have sk:aM ((c.aY.length:Int)+1+1)=(c.aY.length:Int)+1+1:=by rw [dx]; omega
 unfold kz
 by_cases h:0<=c.ff
 ·cases al:c.hD <;> simp [h,hw,sk]
 ·cases al:c.hD <;> simp [h,hw]
theorem I9 (c:Cell) (ao:c.aY.length<=1000):xI c=some (kz c:Int):=Mr ao (by unfold xI; rfl)
structure nn (g:bZ) (n:Nat) (c:Cell):Prop where
 s:0<=c.State/\c.State<n
 t:0<=c.bJ/\c.bJ<g.a'.length
 f:-1<=c.ff/\c.ff<n
 p:fX iq c.aY
 q:∀ p∈c.aY,pj g p
 Mq:0<kz c
theorem nn.len {g:bZ}(a7:gH g) {n:Nat}{c:Cell}(h:nn g n c):c.aY.length<=60:=by
 have:=a7.mS
 have:=jc.len (T:=g.aY.length) ⟨h.p,λx J=>⟨by have:=(h.q x J).1; omega,(h.q x J).2⟩⟩
 omega
def we (a b:Cell):Prop:=a.State<b.State\/(a.State=b.State/\a.bJ<b.bJ)
structure ui (g:bZ) (n:Nat) (l:List Cell):Prop where
 ok:∀ c∈l,nn g n c
 Td:l.Pairwise we
 n:l.length<=6000
theorem NY (g:bZ) (a7:gH g) {m:List State}(hm:lB g m) (tL:List jU) (ao:tL.length<=81000) (hk:∀ l∈tL,wv g l):Tot (Ah g m tL) (ui g m.length):=by
 have aG:=a7.kA
 have xa:=hm.lu
 have zh:=a7.mS
 unfold Ah
 refine .aK (Ξ:=ui g m.length) ?_ λr aw=>.az aw
 refine Tot.upto (λs=>s.2) m.length (λk s=>s.1.length<=40 * k/\(∀ c∈s.1,nn g m.length c)/\s.1.Pairwise we/\∀ c∈s.1,c.State<k) rfl (by omega) ⟨Nat.le_refl 0,λp h=>(by cases h),.nil,λp h=>by cases h⟩ λk s Cf he bs=>?_
 obtain ⟨L,i⟩:=s
 obtain ⟨h1,al,aR,b3⟩:=bs
 simp only at he h1 al aR b3 ⊢
 subst he
 rw [eN k (by omega)]
 refine Tot.b6 (λbd=>?_) (λeb=>.az ⟨al,aR,by show L.length<=_; omega⟩)
 have bd:k<m.length:=by omega
 have eC:=hm.o0 _ (List.getElem_mem bd)
 rw [et bd]
 generalize m[k]=st at *
 have Vr:=eC.len a7
 refine .aK (Ξ:=λL:List Cell=>L.length<=40 * (k+1)/\(∀ c∈L,nn g m.length c)/\L.Pairwise we/\∀ c∈L,c.State<(k+1:Nat)) ?_ λr aw=>.az ⟨bd,rfl,aw⟩
 refine Tot.upto (λs=>s.2) g.a'.length (λae s=>s.1.length<=40 * k+ae/\(∀ c∈s.1,nn g m.length c)/\s.1.Pairwise we/\∀ c∈s.1,c.State<k\/(c.State=k/\c.bJ<ae)) rfl (by omega) ⟨h1,al,aR,λc ab=>.inl (b3 c ab)⟩ λae s aa he bs=>?_
 obtain ⟨L,i⟩:=s
 obtain ⟨h1,al,aR,b3⟩:=bs
 simp only at he h1 al aR b3 ⊢
 subst he
 rw [eN ae (by omega)]
 refine Tot.b6 (λdZ=>?_) (λeb=>.az ⟨by show L.length<=_; omega,al,aR,λc ab=>by rcases b3 c ab with h | h <;> omega⟩)
 refine .aK (Ξ:=λL:List Cell=>L.length<=40 * k+(ae+1)/\(∀ c∈L,nn g m.length c)/\L.Pairwise we/\∀ c∈L,c.State<k\/(c.State=k/\c.bJ<(ae+1:Nat))) ?_ λr aw=>.az ⟨by omega,rfl,aw⟩
 refine .aK (Bz m k ae hm.tM) λfu RX=>?_
 have RY:=RX.yi hm
 refine .aK (Ξ:=λ_=>True) ?_ λac _=>?_
 ·refine Tot.upto (λs=>s.2) st.Kernel.length (λ_ _=>True) rfl (by omega) trivial λz s bG he _=>?_
  obtain ⟨b,i⟩:=s
  simp only at he ⊢
  subst he
  rw [eN z (by omega)]
  simp only [Option.bind_some]
  refine Tot.b6 (λoT=>?_) (λ_=>.az trivial)
  have oT:z<st.Kernel.length:=by omega
  rw [et oT]
  simp only [Option.bind_some]
  refine .aK (Ξ:=λ_=>True) (Tot.cv (λ_=>.az trivial) (λ_=>Tot.b6 (λ_=>Tot.b6 (λ_=>.az trivial) (λ_=>.az trivial)) (λ_=>.az trivial))) λ_ _=>.az ⟨oT,rfl,trivial⟩
 refine .aK (Ξ:=λP:List Int=>fX iq P/\∀ p∈P,pj g p) ?_ λP c6=>?_
 ·refine Tot.upto (λs=>s.2) tL.length (λ_ s=>fX iq s.1/\∀ p∈s.1,pj g p) rfl (by omega) ⟨.nil,λp h=>by cases h⟩ λz s bG he bs=>?_
  obtain ⟨P,i⟩:=s
  obtain ⟨g1,g2⟩:=bs
  simp only at he g1 g2 ⊢
  subst he
  rw [eN z (by omega)]
  refine Tot.b6 (λoT=>?_) (λeb=>.az ⟨g1,g2⟩)
  have oT:z<tL.length:=by omega
  have jA:=hk _ (List.getElem_mem oT)
  rw [et oT]
  generalize tL[z]=l at *
  have FQ:=jA.t.len
  have B7:=jc.len (T:=g.aY.length) ⟨g1,λx J=>⟨by have:=(g2 x J).1; omega,(g2 x J).2⟩⟩
  simp only [Option.bind_some]
  refine .aK (Ξ:=λP:List Int=>fX iq P/\∀ p∈P,pj g p) ?_ λr aw=>.az ⟨oT,rfl,aw⟩
  refine .aK (Ξ:=λ_=>True) (Tot.b6 (λ_=>.aK (IF l.a' ae (by omega)) λ_ _=>.az trivial) (λ_=>.az trivial)) λc _=>?_
  refine .aK (Ξ:=λP:List Int=>fX iq P/\∀ p∈P,pj g p) (Tot.cv (λ_=>?_) (λ_=>.az ⟨g1,g2⟩)) λr aw=>.az aw
  refine .aK (BA P l.Prod g1 (by omega)) λr aw=>.az ⟨aw.1,λp aF=>?_⟩
  rcases (aw.2.2 p).1 aF with h | rfl
  ·exact g2 p h
  ·exact jA.p
 ·have B7:=jc.len (T:=g.aY.length) ⟨c6.1,λx J=>⟨by have:=(c6.2 x J).1; omega,(c6.2 x J).2⟩⟩
  rw [I9 _ (by show P.length<=_; omega)]
  refine Tot.ax (.aK (Ξ:=λL:List Cell=>L.length<=40 * k+(ae+1)/\(∀ c∈L,nn g m.length c)/\L.Pairwise we/\∀ c∈L,c.State<k\/(c.State=k/\c.bJ<(ae+1:Nat))) (Tot.b6 (λbc=>?_) (λ_=>.az ⟨by omega,al,aR,λc ab=>by rcases b3 c ab with h | h <;> omega⟩)) λr aw=>.az aw)
  refine .aK (Ξ:=λ_=>True) (Tot.ap (by simp [lim]; omega) trivial) λ_ _=>.az ⟨by simp; omega,λc ab=>?_,List.pairwise_append.2 ⟨aR,List.pairwise_singleton ..,λa bg b aI=>?_⟩,λc ab=>?_⟩
  ·rcases List.mem_append.1 ab with ab | ab
   ·exact al c ab
   ·rw [List.mem_singleton.1 ab]
    exact ⟨⟨by show (0:Int)<=k; omega,by show (k:Int)<_; omega⟩,⟨by show (0:Int)<=ae; omega,by show (ae:Int)<_; omega⟩,RY,c6.1,c6.2,by omega⟩
  ·rw [List.mem_singleton.1 aI]
   rcases b3 a bg with h | h
   ·exact .inl h
   ·exact .inr h
  ·rcases List.mem_append.1 ab with ab | ab
   ·rcases b3 c ab with h | h
    ·exact .inl h
    ·exact .inr ⟨h.1,by omega⟩
   ·rw [List.mem_singleton.1 ab]
    exact .inr ⟨rfl,by show (ae:Int)<_; omega⟩
open Go Go.Own
theorem iE.S7 {m:jb}{T L:Nat}(h:iE m T L):kD m (3+T) m.bD.length 0 0 :=
 ⟨h.ih,h.lo,h.hi,by have:=h.ty; omega,rfl,by rw [h.hy]; decide,by rw [h.hq]; exact Nat.le_refl 0,by rw [h.hq]; exact λp aF=>absurd aF (by simp),h.lvl,h.jO⟩
theorem t78 (s:Source) (aI:ur s):Tot (Ar s) λr=>r.2.1=0->gH r.1:=by
 unfold Ar
 refine .aK (t92 s aI) λc ab=>Tot.cv (λ_=>.az λh=>absurd h (by decide)) (λlk=>?_)
 have ok:H2 s:=ab (by simpa using lk)
 refine .aK (Tot.mk (by decide) (rfl:List.replicate (3:Int).toNat false=List.replicate (3:Int).toNat false)) λaX hL=>?_
 have Vz:=aI.Ei
 have Cn:=aI.aO
 -- declarations
 refine Tot.aK (Ξ:=λr=>iE r.1 (1001 * 1000) 0) ?_ λck c3=>?_
 ·refine Tot.count (λz=>z.2.2) s.Decls.length (λz=>0<=z.2.2/\z.2.2<=s.Decls.length/\iE z.1 (1001 * z.2.2.toNat) 0/\z.1.bU<=z.2.2) ⟨Int.le_refl 0,by show (0:Int)<=_; omega,⟨by show aX.length=3; rw [<- hL]; rfl,Nat.le_refl 3,Nat.le_refl 3,Nat.le_refl 0,Nat.le_refl 0,rfl,rfl,Int.le_refl 0,by show ∀ t∈[_,_,_],0<=bJ.Level t; simp⟩,Int.le_refl 0⟩ (by show (s.Decls.length:Int) - 0<_; omega) λz bG=>?_
  obtain ⟨m,st,i⟩:=z
  obtain ⟨bc,h1,hm,qh⟩:=bG
  simp only at bc h1 hm qh ⊢
  have hw:aM (i+1)=i+1:=by rw [dx]; omega
  rw [hw]
  have Fv:=hm.lvl
  refine Tot.b6 (λbd=>?_) (λ_=>.az (hm.mono (by omega) (Nat.le_refl _)))
  refine .aK (Tot.hz (Φ:=λy=>y∈s.Decls) bc bd λy _ ay=>ay) λd aV=>?_
  have pD:=aI.decls d aV
  have Kd:=pD.n
  refine .aK (Ξ:=λ_=>True) (Tot.cv (λ_=>.az trivial) (λ_=>.az trivial)) λje _=>.aK (Ξ:=λae=>0<=ae/\ae<=i+1) (Tot.cv (λ_=>.az (by rw [dx]; omega)) (λ_=>.az (by omega))) λgT yO=>?_
  refine Tot.aK (Ξ:=λr=>iE r.1 (1001 * i.toNat+1000) 0/\r.1.bU<=i+1) ?_ λd' yP=>.az ⟨⟨?_,?_,?_,?_⟩,?_,?_⟩
  ·refine Tot.count (λz=>z.2.2) d.fc.length (λz=>0<=z.2.2/\z.2.2<=d.fc.length/\iE z.1 (1001 * i.toNat+z.2.2.toNat) 0/\z.1.bU<=i+1) ⟨Int.le_refl 0,by show (0:Int)<=_; omega,⟨hm.ih,hm.lo,hm.hi,hm.ty,hm.hN,hm.hq,hm.hy,yO.1,hm.jO⟩,yO.2⟩ (by show (d.fc.length:Int) - 0<_; omega) λz bG=>?_
   obtain ⟨m,st,k⟩:=z
   obtain ⟨g0,g1,hm,qh⟩:=bG
   simp only at g0 g1 hm qh ⊢
   have u7:aM (k+1)=k+1:=by rw [dx]; omega
   rw [u7]
   refine Tot.b6 (λzb=>?_) (λ_=>.az ⟨hm.mono (by omega) (Nat.le_refl _),qh⟩)
   have CB:Tot (idx d.fc k) λy=>y∈d.fc:=Tot.hz g0 zb λy _ ay=>ay
   refine Tot.aK (Ξ:=λae=>iE ae.1 (1001 * i.toNat+k.toNat+1) 0/\ae.1.bU<=i+1) ?_ λae aa=>.az ⟨⟨?_,?_,?_,aa.2⟩,?_,?_⟩
   ·refine Tot.cv (λ_=>?_) (λ_=>?_)
    ·refine .aK CB λx J=>.aK (t93 m d x hm.ih (by have:=hm.hi; omega) (by have:=hm.ty; omega) (ok.decls d aV x J)) λb7 a7=>.az ⟨hm.grow a7,by show b7.bU<=_; rw [a7.lvl]; exact qh⟩
    ·refine Tot.aK (Ξ:=λae=>iE ae (1001 * i.toNat+k.toNat+1) 0/\ae.bU<=i+1) ?_ λae aa=>.aK CB λ_ _=>.az aa
     refine Tot.cv (λ_=>?_) (λ_=>.az ⟨hm.mono (by omega) (Nat.le_refl _),qh⟩)
     exact .aK CB λ_ _=>.aK CB λ_ _=>.aK (t94 m _ _) λb7 ka=>.az ⟨(hm.same ka.1).mono (by omega) (Nat.le_refl _),by rw [ka.1.jO]; exact qh⟩
   ·show 0<=k+1; omega
   ·show k+1<=(d.fc.length:Int); omega
   ·show iE ae.1 (1001 * i.toNat+(k+1).toNat) 0
    exact aa.1.mono (by omega) (Nat.le_refl _)
   ·show k<k+1; omega
   ·show k+1<=(d.fc.length:Int); omega
  ·show 0<=i+1; omega
  ·show i+1<=(s.Decls.length:Int); omega
  ·show iE d'.1 (1001 * (i+1).toNat) 0
   exact yP.1.mono (by omega) (Nat.le_refl _)
  ·exact yP.2
  ·show i<i+1; omega
  ·show i+1<=(s.Decls.length:Int); omega
 -- what stands on the left
 refine Tot.aK (Ξ:=λr=>iE r (1001 * 1000) 1000) ?_ λcV PU=>?_
 ·refine Tot.count (λz=>z.2) s.ea.length (λz=>0<=z.2/\z.2<=s.ea.length/\iE z.1 (1001 * 1000) z.2.toNat) ⟨Int.le_refl 0,by show (0:Int)<=_; omega,c3⟩ (by show (s.ea.length:Int) - 0<_; omega) λz bG=>?_
  obtain ⟨m,i⟩:=z
  obtain ⟨bc,h1,hm⟩:=bG
  simp only at bc h1 hm ⊢
  have hw:aM (i+1)=i+1:=by rw [dx]; omega
  rw [hw]
  refine Tot.b6 (λbd=>?_) (λ_=>.az (hm.mono (Nat.le_refl _) (by omega)))
  have tu:=hm.hi
  have w8:=hm.hN
  refine Tot.aK (Ξ:=λae=>iE ae (1001 * 1000) (i.toNat+1)) ?_ λae aa=>.az ⟨⟨?_,?_,?_⟩,?_,?_⟩
  ·refine .aK (Tot.hz (Φ:=λ_=>True) bc bd λy _ ay=>trivial) λr aw=>.aK (t95 m _ (by simp only [e7]; omega)) λt _=>?_
   refine Tot.aK (Ξ:=λae=>iE ae (1001 * 1000) i.toNat) ?_ λfA r4=>?_
   ·exact Tot.cv (λ_=>.aK (t94 m _ _) λb7 ka=>.az (hm.same ka.1)) (λ_=>.az hm)
   ·have VM:=r4.hN
    refine .aK (t96 fA _ (by simp only [e7]; omega)) λk _=>?_
    refine Tot.aK (Ξ:=λl=>l.length<=i.toNat+1) ?_ λl ao=>.az ⟨r4.ih,r4.lo,r4.hi,r4.ty,ao,r4.hq,r4.hy,r4.lvl,r4.jO⟩
    refine Tot.cv (λ_=>?_) (λ_=>.az (by omega))
    exact .aK (Ξ:=λ_=>True) (Tot.ap (by simp [lim]; omega) trivial) λ_ _=>.az (by simp; omega)
  ·show 0<=i+1; omega
  ·show i+1<=(s.ea.length:Int); omega
  ·show iE ae (1001 * 1000) (i+1).toNat
   exact aa.mono (Nat.le_refl _) (by omega)
  ·show i<i+1; omega
  ·show i+1<=(s.ea.length:Int); omega
 -- types and starts
 refine Tot.aK (Ξ:=λr=>iE r (1001 * 1000) 1000) ?_ λbS yR=>?_
 ·refine Tot.count (λz=>z.2) s.Decls.length (λz=>0<=z.2/\z.2<=s.Decls.length/\iE z.1 (1001 * 1000) 1000) ⟨Int.le_refl 0,by show (0:Int)<=_; omega,PU⟩ (by show (s.Decls.length:Int) - 0<_; omega) λz bG=>?_
  obtain ⟨m,i⟩:=z
  obtain ⟨bc,h1,hm⟩:=bG
  simp only at bc h1 hm ⊢
  have hw:aM (i+1)=i+1:=by rw [dx]; omega
  rw [hw]
  refine Tot.b6 (λbd=>?_) (λ_=>.az hm)
  refine Tot.aK (Ξ:=λr=>iE r (1001 * 1000) 1000) ?_ λow PX=>.az ⟨⟨?_,?_,PX⟩,?_,?_⟩
  ·have nB:i.toNat<s.Decls.length:=by omega
   have hi:idx s.Decls i=some s.Decls[i.toNat]:=by simp [idx,bc,nB]
   rw [hi]
   generalize aV:s.Decls[i.toNat]=d
   have ln:d∈s.Decls:=by rw [<- aV]; exact List.getElem_mem nB
   have Kd:=(aI.decls d ln).n
   refine Tot.count (λz=>z.2) d.fc.length (λz=>0<=z.2/\z.2<=d.fc.length/\iE z.1 (1001 * 1000) 1000) ⟨Int.le_refl 0,by show (0:Int)<=_; omega,hm⟩ (by show (d.fc.length:Int) - 0<_; omega) λz bG=>?_
   obtain ⟨m,k⟩:=z
   obtain ⟨g0,g1,hm⟩:=bG
   simp only at g0 g1 hm ⊢
   have u7:aM (k+1)=k+1:=by rw [dx]; omega
   rw [u7]
   refine Tot.ax (Tot.b6 (λzb=>?_) (λ_=>.az hm))
   have w8:=hm.hN
   refine Tot.aK (Ξ:=λae=>iE ae (1001 * 1000) 1000) ?_ λae aa=>.az ⟨⟨?_,?_,aa⟩,?_,?_⟩
   ·refine Tot.ax (.aK (Tot.hz (Φ:=λ_=>True) g0 zb λ_ _ _=>trivial) λx _=>?_)
    refine .aK (Ξ:=λ_=>True) (Tot.ax (Tot.cv (λ_=>.aK (t96 m _ (by simp only [e7]; omega)) λ_ _=>.az trivial) (λ_=>.az trivial))) λc _=>?_
    refine Tot.aK (Ξ:=λae=>iE ae (1001 * 1000) 1000) ?_ λae aa=>.az aa
    exact Tot.cv (λ_=>.aK (t94 m _ _) λb7 ka=>.az (hm.same ka.1)) (λ_=>.az hm)
   ·show 0<=k+1; omega
   ·show k+1<=(d.fc.length:Int); omega
   ·show k<k+1; omega
   ·show k+1<=(d.fc.length:Int); omega
  ·show 0<=i+1; omega
  ·show i+1<=(s.Decls.length:Int); omega
  ·show i<i+1; omega
  ·show i+1<=(s.Decls.length:Int); omega
 -- the start
 have tB:=ok.pos
 refine Tot.aK (Ξ:=λ_=>True) (Tot.cv (λ_=>.aK (Ξ:=λ_=>True) (Tot.hz (by decide) (by omega) λ_ _ _=>trivial) λ_ _=>.az trivial) (λ_=>.az trivial)) λvl _=>?_
 have VO:=yR.hN
 refine .aK (t96 bS vl (by simp only [e7]; omega)) λh3 pB=>?_
 have P4:-1<=h3/\h3<bS.bD.length:=by rcases pB with h | h <;> omega
 -- the alternatives
 have jA:bS.bD.length<=1000:=yR.hN
 generalize Qp:bS.bD.length=L at jA P4
 refine Tot.aK (Ξ:=λr=>kD r (3+1001 * 1000+1001 * 1000000) L (1001 * 1000000) (1+1001 * 1000000)/\1<=r.aq.aY.length) ?_ λa6 P5=>?_
 ·have se:=yR.S7
  rw [Qp] at se
  refine Tot.count (λz=>z.2) s.ea.length (λz=>0<=z.2/\z.2<=s.ea.length/\kD z.1 (3+1001 * 1000+1001 * (1000 * z.2.toNat)) L (1001 * (1000 * z.2.toNat)) (1+1001 * (1000 * z.2.toNat))/\1<=z.1.aq.aY.length) ⟨Int.le_refl 0,by show (0:Int)<=_; omega,⟨se.ih,se.lo,se.hi,se.ty,se.hN,se.hy,Nat.le_refl 1,λp aF=>?_,se.lvl,se.jO⟩,Nat.le_refl 1⟩ (by show (s.ea.length:Int) - 0<_; omega) λz bG=>?_
  ·rw [List.mem_singleton.1 aF]
   have VD:=yR.hy
   have l9:=yR.lo
   refine ⟨⟨Int.le_refl 0,by show (0:Int)<=L+bS.bB; omega⟩,λy ay=>?_,⟨by show (-1:Int)<=-1; omega,by show (-1:Int)<_; omega⟩⟩
   have ay:y∈[aM (1001+h3)]:=ay
   rw [List.mem_singleton.1 ay]
   have:aM (1001+h3)=1001+h3:=by rw [dx]; omega
   rw [this]
   exact .inr (by show 1000<=1001+h3/\1001+h3<=1000+((L:Int)+bS.bB); omega)
  ·obtain ⟨m,i⟩:=z
   obtain ⟨bc,h1,hm,tA⟩:=bG
   simp only at bc h1 hm tA ⊢
   have hw:aM (i+1)=i+1:=by rw [dx]; omega
   rw [hw]
   refine Tot.b6 (λbd=>?_) (λ_=>.az ⟨hm.mono (by omega) (by omega) (by omega),tA⟩)
   refine Tot.aK (Ξ:=λr=>kD r (3+1001 * 1000+1001 * (1000 * (i.toNat+1))) L (1001 * (1000 * (i.toNat+1))) (1+1001 * (1000 * (i.toNat+1)))/\1<=r.aq.aY.length) ?_ λkc B2=>.az ⟨⟨?_,?_,?_,B2.2⟩,?_,?_⟩
   ·have nB:i.toNat<s.ea.length:=by omega
    have hi:idx s.ea i=some s.ea[i.toNat]:=by simp [idx,bc,nB]
    rw [hi]
    generalize aV:s.ea[i.toNat]=d
    have ln:d∈s.ea:=by rw [<- aV]; exact List.getElem_mem nB
    have Kd:=(aI.rules d ln).n
    refine Tot.count (λz=>z.2) d.fM.length (λz=>0<=z.2/\z.2<=d.fM.length/\kD z.1 (3+1001 * 1000+1001 * (1000 * i.toNat+z.2.toNat)) L (1001 * (1000 * i.toNat+z.2.toNat)) (1+1001 * (1000 * i.toNat+z.2.toNat))/\1<=z.1.aq.aY.length) ⟨Int.le_refl 0,by show (0:Int)<=_; omega,hm,tA⟩ (by show (d.fM.length:Int) - 0<_; omega) λz bG=>?_
    obtain ⟨m,k⟩:=z
    obtain ⟨g0,g1,hm,tA⟩:=bG
    simp only at g0 g1 hm tA ⊢
    have u7:aM (k+1)=k+1:=by rw [dx]; omega
    rw [u7]
    refine Tot.ax (Tot.b6 (λzb=>?_) (λ_=>.az ⟨hm.mono (by omega) (by omega) (by omega),tA⟩))
    refine Tot.ax (Tot.ax (.aK (Tot.hz (Φ:=λy=>y∈d.fM) g0 zb λ_ _ h=>h) λa bg=>?_))
    refine .aK (t97 m d.Left a hm (by omega) (by omega) (by omega) (by omega) ((aI.rules d ln).alts a bg) (ok.rules d ln a bg)) λb7 ka=>.az ⟨⟨?_,?_,?_,ka.2⟩,?_,?_⟩
    ·show 0<=k+1; omega
    ·show k+1<=(d.fM.length:Int); omega
    ·show kD b7 (3+1001 * 1000+1001 * (1000 * i.toNat+(k+1).toNat)) L (1001 * (1000 * i.toNat+(k+1).toNat)) (1+1001 * (1000 * i.toNat+(k+1).toNat))
     exact ka.1.mono (by omega) (by omega) (by omega)
    ·show k<k+1; omega
    ·show k+1<=(d.fM.length:Int); omega
   ·show 0<=i+1; omega
   ·show i+1<=(s.ea.length:Int); omega
   ·show kD kc (3+1001 * 1000+1001 * (1000 * (i+1).toNat)) L (1001 * (1000 * (i+1).toNat)) (1+1001 * (1000 * (i+1).toNat))
    exact B2.1.mono (by omega) (by omega) (by omega)
   ·show i<i+1; omega
   ·show i+1<=(s.ea.length:Int); omega
 obtain ⟨q_,P6⟩:=P5
 refine Tot.qZ (λh=>.az λaT=>absurd aT h) (λhe=>?_)
 have Vd:=q_.hN
 have Vb:=q_.hi
 have Vf:=q_.ty
 have Vc:=q_.hy
 have Ve:=q_.xN
 -- nonterminals
 refine Tot.aK (Ξ:=λl=>l.length=1+L) ?_ λv7 Vh=>?_
 ·refine Tot.count (λz=>z.2) a6.bD.length (λz=>0<=z.2/\z.2<=a6.bD.length/\z.1.length=1+z.2.toNat) ⟨Int.le_refl 0,by show (0:Int)<=_; omega,rfl⟩ (by show (a6.bD.length:Int) - 0<_; omega) λz bG=>?_
  obtain ⟨l,i⟩:=z
  obtain ⟨bc,h1,ao⟩:=bG
  simp only at bc h1 ao ⊢
  have hw:aM (i+1)=i+1:=by rw [dx]; omega
  rw [hw]
  refine Tot.b6 (λbd=>?_) (λ_=>.az (by show l.length=1+L; omega))
  refine .aK (Tot.hz (Φ:=λ_=>True) bc bd λ_ _ _=>trivial) λlZ _=>.aK (t98 _ _ (by show a6.bW.length<=_; simp only [e7]; omega)) λv8 P7=>?_
  have Vi:v8=-1\/(0<=v8/\v8<a6.bW.length):=P7
  refine .aK (Ξ:=λ_=>True) (Tot.b6 (λh=>.aK (Ξ:=λ_=>True) (Tot.hz h (by omega) λ_ _ _=>trivial) λ_ _=>.az trivial) (λ_=>.az trivial)) λpN _=>?_
  refine .aK (Ξ:=λ_=>True) (Tot.ap (by simp [lim]; omega) trivial) λ_ _=>.az ⟨⟨?_,?_,?_⟩,?_,?_⟩
  ·show 0<=i+1; omega
  ·show i+1<=(a6.bD.length:Int); omega
  ·show (l++[_]).length=1+(i+1).toNat
   simp; omega
  ·show i<i+1; omega
  ·show i+1<=(a6.bD.length:Int); omega
 refine Tot.aK (Ξ:=λl=>(l.length:Int)=1+L+a6.bB) ?_ λi' Vj=>?_
 ·refine Tot.count (λz=>z.2) (a6.bB+1) (λz=>1<=z.2/\z.2<=a6.bB+1/\(z.1.length:Int)=1+L+(z.2 - 1)) ⟨Int.le_refl 1,by show (1:Int)<=_; omega,by show (v7.length:Int)=1+L+(1 - 1); omega⟩ (by show a6.bB+1 - 1<_; omega) λz bG=>?_
  obtain ⟨l,i⟩:=z
  obtain ⟨bc,h1,ao⟩:=bG
  simp only at bc h1 ao ⊢
  have hw:aM (i+1)=i+1:=by rw [dx]; omega
  rw [hw]
  refine Tot.b6 (λbd=>?_) (λ_=>.az (by show (l.length:Int)=1+L+a6.bB; omega))
  refine .aK (t99 i (by omega) (by omega)) λDn Vk=>.aK (Ξ:=λ_=>True) (Tot.cat (by show 1+Dn.size<=_; omega) trivial) λqK _=>?_
  refine .aK (Ξ:=λ_=>True) (Tot.ap (by simp [lim]; omega) trivial) λ_ _=>.az ⟨⟨?_,?_,?_⟩,?_,?_⟩
  ·show 1<=i+1; omega
  ·show i+1<=a6.bB+1; omega
  ·show ((l++[_]).length:Int)=1+L+(i+1 - 1)
   simp; omega
  ·show i<i+1; omega
  ·show i+1<=a6.bB+1; omega
 -- numbers
 have Rr:=q_.ih
 refine Tot.aK (Ξ:=λl=>l.length=a6.aq.a'.length/\∀ t∈l,0<=t.Level) ?_ λkB P8=>?_
 ·refine Tot.count (λz=>z.2.2) a6.aq.a'.length (λz=>3<=z.2.2/\z.2.2<=a6.aq.a'.length/\z.1.length=a6.aq.a'.length/\∀ t∈z.1,0<=t.Level) ⟨Int.le_refl 3,by have:=q_.lo; show (3:Int)<=_; omega,rfl,q_.jO⟩ (by show (a6.aq.a'.length:Int) - 3<_; omega) λz bG=>?_
  obtain ⟨l,n,i⟩:=z
  obtain ⟨bc,h1,ao,hv⟩:=bG
  simp only at bc h1 ao hv ⊢
  have hw:aM (i+1)=i+1:=by rw [dx]; omega
  rw [hw]
  refine Tot.b6 (λbd=>?_) (λ_=>.az ⟨ao,hv⟩)
  refine Tot.aK (Ξ:=λae=>ae.1.length=a6.aq.a'.length/\∀ t∈ae.1,0<=t.Level) ?_ λae aa=>.az ⟨⟨?_,?_,aa⟩,?_,?_⟩
  ·refine .aK (Tot.hz (Φ:=λ_=>True) (by omega) (by rw [Rr]; omega) λ_ _ _=>trivial) λ_ _=>?_
   refine Tot.aK (Ξ:=λae=>ae.1.length=a6.aq.a'.length/\∀ t∈ae.1,0<=t.Level) ?_ λae aa=>.az aa
   refine Tot.cv (λ_=>?_) (λ_=>.az ⟨ao,hv⟩)
   refine .aK (Tot.hz (Φ:=λy=>y∈l) (by omega) bd λ_ _ h=>h) λy ay=>.az ⟨by show (l.set _ _).length=_; simp [ao],λt aG=>?_⟩
   rcases vr aG with aG | rfl
   ·exact hv t aG
   ·exact (hv y ay:0<=y.Level)
  ·show 3<=i+1; omega
  ·show i+1<=(a6.aq.a'.length:Int); omega
  ·show i<i+1; omega
  ·show i+1<=(a6.aq.a'.length:Int); omega
 -- limits
 obtain ⟨Vl,P9⟩:=P8
 refine Tot.aK (Ξ:=λc=>c=false->kB.length<=40/\i'.length<=24/\a6.aq.aY.length<=60) ?_ λqX PR=>?_
 ·refine Tot.b6 (λ_=>.az λh=>by cases h) (λh1=>Tot.b6 (λ_=>.az λh=>by cases h) (λal=>.az λh=>?_))
  have aR:=of_decide_eq_false h
  omega
 refine Tot.aK (Ξ:=λc=>c=false->qX=false/\∀ p∈a6.aq.aY,p.fo.length<=8) ?_ λAV PS=>?_
 ·refine Tot.count (λz=>z.2) a6.aq.aY.length (λz=>0<=z.2/\z.2<=a6.aq.aY.length/\(z.1=false->qX=false/\∀ (ae:Nat) (p:Prod),(ae:Int)<z.2->a6.aq.aY[ae]?=some p->p.fo.length<=8)) ⟨Int.le_refl 0,by show (0:Int)<=_; omega,λh=>⟨h,λae p aa=>by have aa:(ae:Int)<0:=aa; omega⟩⟩ (by show (a6.aq.aY.length:Int) - 0<_; omega) λz bG=>?_
  obtain ⟨c,i⟩:=z
  obtain ⟨bc,h1,ao⟩:=bG
  simp only at bc h1 ao ⊢
  have hw:aM (i+1)=i+1:=by rw [dx]; omega
  rw [hw]
  refine Tot.b6 (λbd=>?_) (λeb=>.az λh=>⟨(ao h).1,λp aF=>?_⟩)
  ·refine Tot.aK (Ξ:=λuz=>uz=false->c=false/\∀ p,a6.aq.aY[i.toNat]?=some p->p.fo.length<=8) ?_ λuz fq=>.az ⟨⟨?_,?_,λh=>?_⟩,?_,?_⟩
   ·refine Tot.cv (λ_=>.az λh=>by cases h) (λQ'=>.aK (Tot.hz (Φ:=λy=>idx a6.aq.aY i=some y) bc bd λ_ h _=>h) λy ay=>.az λh=>⟨Q',λp aF=>?_⟩)
    have al:=(pM ay).2.2
    rw [aF] at al; cases al
    have:=of_decide_eq_false h
    omega
   ·show 0<=i+1; omega
   ·show i+1<=(a6.aq.aY.length:Int); omega
   ·obtain ⟨av,a2⟩:=fq h
    obtain ⟨hE,ic⟩:=ao av
    refine ⟨hE,λae p aa aF=>?_⟩
    have aa:(ae:Int)<i+1:=aa
    by_cases Rv:(ae:Int)<i
    ·exact ic ae p Rv aF
    ·have:ae=i.toNat:=by omega
     subst this
     exact a2 p aF
   ·show i<i+1; omega
   ·show i+1<=(a6.aq.aY.length:Int); omega
  ·obtain ⟨ae,aa,rfl⟩:=List.mem_iff_getElem.1 aF
   exact (ao h).2 ae _ (by omega) (List.getElem?_eq_getElem aa)
 refine Tot.cv (λ_=>.az λh=>absurd h (by decide)) (λab=>.az λ_=>?_)
 obtain ⟨av,a2⟩:=PS ab
 obtain ⟨hE,ic,k2⟩:=PR av
 have l9:=q_.lo
 refine ⟨⟨?_,hE⟩,⟨?_,ic⟩,⟨P6,k2⟩,λp aF=>?_,a2,P9⟩
 ·show 3<=kB.length; omega
 ·show 1<=i'.length; omega
 ·have:=q_.hq p aF
  exact this.mono (by show _<=kB.length; omega) (by show (L:Int)+a6.bB<=((i'.length:Nat):Int) - 1; omega)
theorem t68 (s:Source) (aI:ur s):Tot (Am s) λr=>r.2=true->gH r.1:=by
 unfold Am
 exact .aK (t78 s aI) λr aw=>.az λh=>aw (of_decide_eq_true h)
theorem NX (s:Source) (aI:ur s):Tot (Ag s) λr=>r.2.2=true->gH r.1/\lB r.1 r.2.1:=by
 unfold Ag
 refine .aK (t68 s aI) λr aw=>Tot.cv (λ_=>.az λh=>by cases h) (λh=>?_)
 have a7:=aw (by simpa using h)
 refine .aK (N0 r.1 a7) λm hm=>.az λh=>⟨a7,?_⟩
 have h:m.2=0:=of_decide_eq_true h
 rcases hm with hm | hm
 ·exact hm.2
 ·omega
structure x3 (g:bZ) (m:List State) (cs:List Cell):Prop where
 tf:gH g
 S3:lB g m
 ce:ui g m.length cs
theorem ID (s:Source) (aI:ur s):Tot (tR s) λr=>r.2.2.2=true->x3 r.1 r.2.1 r.2.2.1:=by
 unfold tR
 refine .aK (NX s aI) λr aw=>Tot.cv (λ_=>.az λh=>by cases h) (λh=>?_)
 obtain ⟨a7,hm⟩:=aw (by simpa using h)
 exact .aK (wN r.1 a7 hm) λtL Kt=>.aK (NY r.1 a7 hm tL Kt.1 Kt.2) λcs hx=>.az λ_=>⟨a7,hm,hx⟩
def sr (g:bZ) (p:Int):Int × Int:=match idx g.aY p with
 | some q=>match idx g.a' q.Prec with
  | some t=>(t.Level,t.fi)
  | none=>(0,0)
 | none=>(0,0)
def dec (g:bZ) (p t:Int):Int:=match idx g.a' t with
 | some k=>if (sr g p).1=0\/k.Level=0 then 0 else if (sr g p).1<k.Level then 1 else if k.Level<(sr g p).1 then 2 else if k.fi=1 then 2 else if k.fi=2 then 1 else 3
 | none=>0
theorem Pp (g:bZ) (a7:gH g) (p:Int) (aF:0<=p/\p<g.aY.length):GZ g p=some (sr g p):=by
 obtain ⟨q,bP,hm⟩:=k_ aF.1 aF.2
 have aI:=(a7.hq q hm).prec
 unfold GZ sr
 have d1:decide (p<0)=false:=decide_eq_false (by omega)
 have d2:decide ((g.aY.length:Int)<=p)=false:=decide_eq_false (by omega)
 rw [d1,d2,bP]
 simp only [cond_false,Option.bind_some]
 by_cases h:q.Prec<0
 ·rw [decide_eq_true h,vf (.inl h)]; rfl
 ·obtain ⟨t,aG,_⟩:=k_ (l:=g.a') (i:=q.Prec) (by omega) aI.2
  rw [decide_eq_false h,aG]; rfl
theorem Pn (g:bZ) (a7:gH g) (p t:Int) (aF:0<=p/\p<g.aY.length) (aG:0<=t/\t<g.a'.length):GW g p t=some (dec g p t):=by
 obtain ⟨k,hk,hm⟩:=k_ aG.1 aG.2
 unfold GW dec
 rw [Pp g a7 p aF,hk]
 have d1:decide (t<0)=false:=decide_eq_false (by omega)
 have d2:decide ((g.a'.length:Int)<=t)=false:=decide_eq_false (by omega)
 rw [d1,d2]
 generalize sr g p=x
 simp only [cond_false,Option.bind_some]
 by_cases h1:x.1=0
 ·simp [h1]
 ·by_cases al:k.Level=0
  ·simp [h1,al]
  ·rw [if_neg (by omega)]
   simp only [h1,al,decide_false,cond_false,Option.bind_some]
   by_cases aR:x.1<k.Level
   ·simp [aR]
   ·by_cases b3:k.Level<x.1
    ·simp [aR,b3]
    ·by_cases c3:k.fi=1
     ·simp [aR,b3,c3]
     ·by_cases eg:k.fi=2 <;> simp [aR,b3,c3,eg]
def ki (g:bZ) (c:Cell):Act:=match c.aY with
 | []=>if c.hD=true then ⟨3,0⟩ else ⟨1,c.ff⟩
 | p::_=>if c.hD=true then ⟨3,0⟩ else if c.ff<0 then ⟨2,p⟩ else if dec g p c.bJ=2 then ⟨2,p⟩ else if dec g p c.bJ=3 then ⟨4,0⟩ else ⟨1,c.ff⟩
def px (g:bZ) (c:Cell):List eF:=match c.aY with
 | []=>[]
 | p::r=>r.map (λx=>(⟨c.State,c.bJ,p,x⟩:eF))++(if c.hD=true\/(0<=c.ff/\dec g p c.bJ=0) then [(⟨c.State,c.bJ,-1,p⟩:eF)] else [])
structure qM (g:bZ) (n:Nat) (a:Act):Prop where
 k:0<=a.Kind/\a.Kind<=4
 hp:a.Kind=0->a.N=0
 lu:a.Kind=1->0<=a.N/\a.N<n
 pO:a.Kind=2->pj g a.N
 S9:a.Kind=3->a.N=0
 V4:a.Kind=4->a.N=0
theorem M5 {g:bZ}{n:Nat}{c:Cell}(h:nn g n c):qM g n (ki g c)/\(ki g c).Kind≠0:=by
 have zq:=h.Mq
 have bj:=h.f
 have a3:qM g n ⟨3,0⟩:=⟨⟨by decide,by decide⟩,λh=>(by cases h),λh=>(by cases h),λh=>(by cases h),λ_=>rfl,λh=>by cases h⟩
 have a4:qM g n ⟨4,0⟩:=⟨⟨by decide,by decide⟩,λh=>(by cases h),λh=>(by cases h),λh=>(by cases h),λ_=>rfl,λ_=>rfl⟩
 have av:0<=c.ff->qM g n ⟨1,c.ff⟩:=λbc=>⟨⟨by show (0:Int)<=1; decide,by show (1:Int)<=4; decide⟩,λh=>(by cases h),λ_=>⟨bc,bj.2⟩,λh=>(by cases h),λh=>(by cases h),λh=>by cases h⟩
 have a2:∀ p∈c.aY,qM g n ⟨2,p⟩:=λp aF=>⟨⟨by show (0:Int)<=2; decide,by show (2:Int)<=4; decide⟩,λh=>(by cases h),λh=>(by cases h),λ_=>h.q p aF,λh=>(by cases h),λh=>by cases h⟩
 unfold ki
 unfold kz at zq
 cases c6:c.aY with
 | nil =>
  simp only
  rw [c6] at zq
  by_cases h1:c.hD=true
  ·rw [if_pos h1]; exact ⟨a3,by decide⟩
  ·rw [if_neg h1]
   rw [if_neg h1] at zq
   refine ⟨av ?_,by show (1:Int)≠0; decide⟩
   by_cases al:0<=c.ff
   ·exact al
   ·rw [if_neg al] at zq; simp at zq
 | cons p r =>
  simp only
  have aF:=a2 p (by rw [c6]; simp)
  split
  ·exact ⟨a3,by decide⟩
  ·split
   ·exact ⟨aF,by show (2:Int)≠0; decide⟩
   ·split
    ·exact ⟨aF,by show (2:Int)≠0; decide⟩
    ·split
     ·exact ⟨a4,by decide⟩
     ·exact ⟨av (by omega),by show (1:Int)≠0; decide⟩
theorem IK {g:bZ}(a7:gH g) {n:Nat}{c:Cell}(h:nn g n c):(px g c).length<=60:=by
 have ao:=h.len a7
 unfold px
 cases c6:c.aY with
 | nil=>simp
 | cons p r =>
  rw [c6,List.length_cons] at ao
  simp only [List.length_append,List.length_map]
  split
  ·simp; omega
  ·simp; omega
theorem Pk (g:bZ) (a7:gH g) {n:Nat}(c:Cell) (h:nn g n c):CX g c=some (ki g c,px g c):=by
 have ao:=h.len a7
 suffices aP:Tot (CX g c) λr=>r=(ki g c,px g c) by
  obtain ⟨r,aw,e⟩:=aP; rw [aw,e]
 unfold CX ki px
 cases c6:c.aY with
 | nil =>
  simp only
  refine .aK (Ξ:=λl:List eF=>l=[]) ?_ λl ao=>?_
  ·refine Tot.loop (λs=>s=(([]:List eF),(1:Int))) (λ_=>0) rfl (by show 0<1000000000000000000; omega) λs aP=>?_
   subst aP
   exact .az rfl
  ·subst ao
   cases h1:c.hD
   ·exact .az (by simp)
   ·exact .az (by simp)
 | cons p r =>
  rw [c6,List.length_cons] at ao
  simp only
  have kl:idx (p::r) 0=some p:=rfl
  refine .aK (Ξ:=λl:List eF=>l=r.map (λx=>(⟨c.State,c.bJ,p,x⟩:eF))) ?_ λl ao=>?_
  ·refine Tot.count (λs=>s.2) ((r.length:Int)+1) (λs=>∃ k:Nat,k<=r.length/\s.2=((k+1:Nat):Int)/\s.1=(r.take k).map (λx=>(⟨c.State,c.bJ,p,x⟩:eF))) ⟨0,Nat.zero_le _,rfl,rfl⟩ (by show (r.length:Int)+1 - 1<_; omega) λs aP=>?_
   obtain ⟨l,i⟩:=s
   obtain ⟨k,hk,he,bs⟩:=aP
   simp only at he bs ⊢
   subst he bs
   rw [eN (k+1) (by omega),kl]
   refine Tot.b6 (λbd=>?_) (λeb=>.az ?_)
   ·rw [List.length_cons] at bd
    have bd:k<r.length:=by omega
    have dn:idx (p::r) ((k+1:Nat):Int)=some r[k]:=by
     simp only [idx,if_pos (show (0:Int)<=((k+1:Nat):Int) by omega),Int.toNat_natCast,List.getElem?_cons_succ]
     exact List.getElem?_eq_getElem bd
    rw [dn]
    refine Tot.ax (Tot.ax (.aK (Ξ:=λ_=>True) (Tot.ap (by simp [lim]; omega) trivial) λ_ _=>.az ⟨⟨k+1,by omega,rfl,?_⟩,by show ((k+1:Nat):Int)<((k+1+1:Nat):Int); omega,by show ((k+1+1:Nat):Int)<=(r.length:Int)+1; omega⟩))
    show _=(r.take (k+1)).map _
    rw [kb bd,List.map_append]; rfl
   ·rw [List.length_cons] at eb
    rw [List.take_of_length_le (by omega)]; rfl
  ·subst ao
   have aF:=h.q p (by rw [c6]; simp)
   have Em:=Pn g a7 p c.bJ ⟨by have:=aF.1; omega,aF.2⟩ h.t
   have dl:decide (((p::r).length:Int)=0)=false:=decide_eq_false (by simp; omega)
   simp only [kl,Em,dl,cond_false,Option.bind_some]
   generalize tt:dec g p c.bJ=v
   refine ⟨_,?_,rfl⟩
   have J8:eo (r.map (λx=>(⟨c.State,c.bJ,p,x⟩:eF))) [(⟨c.State,c.bJ,(-1),p⟩:eF)]=some (r.map (λx=>(⟨c.State,c.bJ,p,x⟩:eF))++[⟨c.State,c.bJ,(-1),p⟩]):=by
    unfold eo; rw [if_pos (by simp [lim]; omega)]
   cases h1:c.hD
   ·by_cases al:c.ff<0
    ·have aR:¬ (0<=c.ff):=by omega
     simp [al,aR]
    ·have aR:0<=c.ff:=by omega
     by_cases b3:v=0
     ·simp [al,aR,b3,J8]
     ·by_cases c3:v=2
      ·simp [al,aR,c3]
      ·by_cases eg:v=3
       ·simp [al,aR,eg]
       ·simp [al,aR,b3,c3,eg]
   ·simp [J8]
def rowOf (g:bZ) (l:List Cell):List Act:=l.foldl (λrow c=>row.set c.bJ.toNat (ki g c)) (List.replicate g.a'.length ⟨0,0⟩)
def fN (cs:List Cell) (q:Nat):List Cell:=cs.filter λc=>decide (c.State=(q:Int))
def go (m:List State) (q s:Int):Int:=(pP m q s).getD (-1)
theorem go_eq {g:bZ}{m:List State}(hm:lB g m) (q s:Int):pP m q s=some (go m q s)/\GoTo m q s (go m q s):=by
 obtain ⟨r,aw,h⟩:=Bz m q s hm.tM
 unfold go
 rw [aw]
 exact ⟨rfl,h⟩
theorem C7 (g:bZ):∀ (l:List Cell),(rowOf g l).length=g.a'.length:=λl=>by
 suffices h:∀ (l:List Cell) (r:List Act),(l.foldl (λrow c=>row.set c.bJ.toNat (ki g c)) r).length=r.length by
  unfold rowOf; rw [h]; simp
 intro l
 induction l with
 | nil=>intro r; rfl
 | cons c l aS=>intro r; rw [List.foldl_cons,aS,List.length_set]
theorem LP (g:bZ) (l:List Cell) (c:Cell):rowOf g (l++[c])=(rowOf g l).set c.bJ.toNat (ki g c):=by
 unfold rowOf; rw [List.foldl_append]; rfl
theorem TG {g:bZ}{n:Nat}:∀ {l:List Cell},(∀ c∈l,nn g n c)->∀ a∈rowOf g l,qM g n a:=by
 intro l h
 suffices aP:∀ (l:List Cell) (r:List Act),(∀ c∈l,nn g n c)->(∀ a∈r,qM g n a)->∀ a∈l.foldl (λrow c=>row.set c.bJ.toNat (ki g c)) r,qM g n a by
  refine aP l _ h λa bg=>?_
  rw [List.eq_of_mem_replicate bg]
  exact ⟨⟨by decide,by decide⟩,λ_=>rfl,λh=>(by cases h),λh=>(by cases h),λh=>(by cases h),λh=>by cases h⟩
 intro l
 induction l with
 | nil=>intro r _ aw; exact aw
 | cons c l aS =>
  intro r ao aw
  rw [List.foldl_cons]
  refine aS _ (λd aV=>ao d (by simp [aV])) λa bg=>?_
  rcases List.mem_or_eq_of_mem_set bg with h | h
  ·exact aw a h
  ·rw [h]; exact (M5 (ao c (by simp))).1
def oO (g:bZ) (m:List State) (q:Nat):List Int:=(List.range g.bw.length).map λa:Nat=>go m q (1000+(a:Int))
def hj (g:bZ) (l:List Cell):List eF:=l.flatMap (px g)
theorem BB {g:bZ}(a7:gH g) {n:Nat}:∀ {l:List Cell},(∀ c∈l,nn g n c)->(hj g l).length<=60 * l.length
 | [],_=>by simp [hj]
 | c::l,h=>by
  have h1:=IK a7 (h c (by simp))
  have al:=BB a7 (l:=l) λd aV=>h d (by simp [aV])
  unfold hj at al ⊢
  rw [List.flatMap_cons,List.length_append,List.length_cons]
  omega
theorem Dh {α:Type}{l:List α}{k:Nat}(h:k<l.length) (p:α->Bool):(l.take (k+1)).filter p=(l.take k).filter p++(if p l[k] then [l[k]] else []):=by
 rw [kb h,List.filter_append]
 congr 1
 rw [List.filter_cons]
 split <;> simp
structure x5 (g:bZ) (m:List State) (cs:List Cell) (d:jG):Prop where
 a:d.eV=(List.range m.length).map λq=>rowOf g (fN cs q)
 o:d.dG=(List.range m.length).map λq=>oO g m q
theorem NU (g:bZ) (m:List State) (cs:List Cell) (dW:x3 g m cs):Tot (GQ g m cs) λr=>x5 g m cs r.1/\r.2=(List.range m.length).flatMap λq=>hj g (fN cs q):=by
 obtain ⟨a7,hm,ab⟩:=dW
 have aG:=a7.kA
 have aN:=a7.hU
 have xa:=hm.lu
 have y8:=ab.n
 unfold GQ
 refine .aK (Ξ:=λr:List (List Act) × List (List Int) × List eF=>r.1=(List.range m.length).map (λq=>rowOf g (fN cs q))/\r.2.1=(List.range m.length).map (λq=>oO g m q)/\r.2.2=(List.range m.length).flatMap λq=>hj g (fN cs q)) ?_ λr aw=>.az ⟨⟨aw.1,aw.2.1⟩,aw.2.2⟩
 have ts:∀ q,(hj g (fN cs q)).length<=360000:=λq=>by
  have h1:=BB a7 (l:=fN cs q) λc mF=>ab.ok c ((List.mem_filter.1 mF).1)
  have al:=List.length_filter_le (λc:Cell=>decide (c.State=(q:Int))) cs
  unfold fN at h1 ⊢
  omega
 have Rn:∀ k,((List.range k).flatMap λq=>hj g (fN cs q)).length<=360000 * k:=λk=>by
  induction k with
  | zero=>simp
  | succ k aS =>
   rw [List.range_succ,List.flatMap_append,List.length_append]
   have:=ts k
   simp only [List.flatMap_cons,List.flatMap_nil,List.append_nil]
   omega
 refine Tot.upto (λs=>s.2.2.2) m.length (λk s=>s.1=(List.range k).map (λq=>rowOf g (fN cs q))/\s.2.1=(List.range k).map (λq=>oO g m q)/\s.2.2.1=(List.range k).flatMap λq=>hj g (fN cs q)) rfl (by omega) ⟨rfl,rfl,rfl⟩ λk s hk he bs=>?_
 obtain ⟨A,G,C,i⟩:=s
 obtain ⟨h1,al,aR⟩:=bs
 simp only at he h1 al aR ⊢
 subst he h1 al aR
 rw [eN k (by omega)]
 refine Tot.b6 (λbd=>?_) (λeb=>.az ?_)
 ·have bd:k<m.length:=by omega
  refine .aK (Ξ:=λr=>r=List.replicate g.a'.length (⟨0,0⟩:Act)) (Tot.mk (by simp [lim]; omega) (by simp)) λqQ gE=>?_
  subst gE
  have VA:=Rn k
  refine .aK (Ξ:=λr:List eF × List Act=>r.1=(List.range k).flatMap (λq=>hj g (fN cs q))++hj g (fN cs k)/\r.2=rowOf g (fN cs k)) ?_ λr aw=>?_
  ·refine Tot.upto (λs=>s.2.2) cs.length (λae s=>s.1=(List.range k).flatMap (λq=>hj g (fN cs q))++hj g (fN (cs.take ae) k)/\s.2.1=rowOf g (fN (cs.take ae) k)) rfl (by omega) ⟨by simp [fN,hj],by simp [fN,rowOf]⟩ λae s aa he bs=>?_
   obtain ⟨C,R,i⟩:=s
   obtain ⟨h1,al⟩:=bs
   simp only at he h1 al ⊢
   subst he h1 al
   rw [eN ae (by omega)]
   refine Tot.b6 (λdZ=>?_) (λeb=>.az ?_)
   ·have dZ:ae<cs.length:=by omega
    have u1:=ab.ok _ (List.getElem_mem dZ)
    have sd:=Dh dZ (λc:Cell=>decide (c.State=(k:Int)))
    have VV:(hj g (fN (cs.take ae) k)).length<=360000:=by
     have h1:=BB a7 (l:=fN (cs.take ae) k) λc mF=>ab.ok c (List.mem_of_mem_take ((List.mem_filter.1 mF).1))
     have al:=List.length_filter_le (λc:Cell=>decide (c.State=(k:Int))) (cs.take ae)
     rw [List.length_take] at al
     unfold fN at h1 ⊢
     omega
    rw [et dZ]
    generalize cs[ae]=c at *
    simp only [Option.bind_some]
    refine .aK (Ξ:=λr:List eF × List Act=>r.1=(List.range k).flatMap (λq=>hj g (fN cs q))++hj g (fN (cs.take (ae+1)) k)/\r.2=rowOf g (fN (cs.take (ae+1)) k)) ?_ λr aw=>.az ⟨dZ,rfl,aw⟩
    refine .aK (Ξ:=λr:List eF × List Act=>r.1=(List.range k).flatMap (λq=>hj g (fN cs q))++hj g (fN (cs.take (ae+1)) k)/\r.2=rowOf g (fN (cs.take (ae+1)) k)) (Tot.b6 (λaP=>?_) (λaP=>.az ?_)) λr aw=>.az aw
    ·rw [decide_eq_true aP,if_pos rfl] at sd
     rw [Pk g a7 c u1]
     simp only [Option.bind_some]
     have nC:=C7 g (fN (cs.take ae) k)
     obtain ⟨a0,E1,_⟩:=k_ (l:=rowOf g (fN (cs.take ae) k)) (i:=c.bJ) u1.t.1 (by rw [nC]; exact u1.t.2)
     rw [E1]
     have hK:=IK a7 u1
     refine Tot.ax (.aK (Ξ:=λ_=>True) (Tot.ap (by rw [List.length_append]; simp only [lim]; omega) trivial) λ_ _=>.az ⟨?_,?_⟩)
     ·show _=_++hj g ((cs.take (ae+1)).filter _)
      rw [sd]
      unfold hj
      rw [List.flatMap_append,List.append_assoc]
      simp [fN]
     ·show _=rowOf g ((cs.take (ae+1)).filter _)
      rw [sd,LP]; rfl
    ·have:(if (decide (c.State=(k:Int)))=true then [c] else [])=[]:=by simp [aP]
     rw [this,List.append_nil] at sd
     unfold fN
     rw [sd]
     exact ⟨rfl,rfl⟩
   ·have e:cs.take ae=cs:=List.take_of_length_le (by omega)
    rw [e]
    exact ⟨rfl,rfl⟩
  ·obtain ⟨C,R⟩:=r
   obtain ⟨h1,al⟩:=aw
   simp only at h1 al ⊢
   subst h1 al
   refine .aK (Ξ:=λr=>r=List.replicate g.bw.length (0:Int)) (Tot.mk (by simp [lim]; omega) (by simp)) λUZ Qk=>?_
   subst Qk
   refine .aK (Ξ:=λr:List Int=>r=oO g m k) ?_ λr aw=>?_
   ·refine Tot.upto (λs=>s.2) g.bw.length (λae s=>s.1.length=g.bw.length/\∀ i:Nat,i<ae->s.1[i]?=some (go m k (1000+(i:Int)))) rfl (by omega) ⟨by simp,λi hi=>absurd hi (Nat.not_lt_zero _)⟩ λae s aa he bs=>?_
    obtain ⟨L,i⟩:=s
    obtain ⟨h1,al⟩:=bs
    simp only at he h1 al ⊢
    subst he
    rw [eN ae (by omega)]
    refine Tot.b6 (λdZ=>?_) (λeb=>.az ?_)
    ·have dZ:ae<L.length:=by omega
     have hw:aM (1000+(ae:Int))=1000+(ae:Int):=by rw [dx]; omega
     rw [hw,(go_eq hm k _).1,et dZ]
     refine Tot.ax (Tot.ax (.az ⟨by omega,rfl,?_,λi hi=>?_⟩))
     ·show (L.set _ _).length=_
      rw [List.length_set]; exact h1
     ·show (L.set (ae:Int).toNat _)[i]?=_
      rw [Int.toNat_natCast,AJ dZ]
      by_cases e:i=ae
      ·subst e; rw [if_pos rfl]
      ·rw [if_neg e]; exact al i (by omega)
    ·show L=oO g m k
     refine List.ext_getElem? λi=>?_
     unfold oO
     by_cases hi:i<g.bw.length
     ·rw [al i (by omega),List.getElem?_map,List.getElem?_range hi]; rfl
     ·rw [List.getElem?_eq_none (by omega),List.getElem?_eq_none (by simp; omega)]
   ·subst aw
    refine .aK (Ξ:=λ_=>True) (Tot.ap (by simp [lim]; omega) trivial) λ_ _=>.aK (Ξ:=λ_=>True) (Tot.ap (by simp [lim]; omega) trivial) λ_ _=>.az ⟨bd,rfl,?_,?_,?_⟩
    ·show _=(List.range (k+1)).map _
     rw [List.range_succ,List.map_append]; rfl
    ·show _=(List.range (k+1)).map _
     rw [List.range_succ,List.map_append]; rfl
    ·show _=(List.range (k+1)).flatMap _
     rw [List.range_succ,List.flatMap_append]; simp
 ·have:k=m.length:=by omega
  subst this
  exact ⟨rfl,rfl,rfl⟩
structure uj (g:bZ) (n:Nat) (d:jG):Prop where
 hp:0<n/\n<=150
 tf:gH g
 a:d.eV.length=n
 Ik:∀ r∈d.eV,r.length=g.a'.length/\∀ a∈r,qM g n a
 o:d.dG.length=n
 vz:∀ r∈d.dG,r.length=g.bw.length/\∀ v∈r,-1<=v/\v<n
theorem x5.yi {g:bZ}{m:List State}{cs:List Cell}{d:jG}(h:x5 g m cs d) (dW:x3 g m cs):uj g m.length d:=by
 obtain ⟨a7,hm,ab⟩:=dW
 refine ⟨⟨hm.hp,hm.lu⟩,a7,by rw [h.a]; simp,λr aw=>?_,by rw [h.o]; simp,λr aw=>?_⟩
 ·rw [h.a] at aw
  obtain ⟨q,_,rfl⟩:=List.mem_map.1 aw
  exact ⟨C7 g _,TG λc mF=>ab.ok c (List.mem_filter.1 mF).1⟩
 ·rw [h.o] at aw
  obtain ⟨q,_,rfl⟩:=List.mem_map.1 aw
  refine ⟨by simp [oO],λv hv=>?_⟩
  obtain ⟨a,_,rfl⟩:=List.mem_map.1 hv
  exact (go_eq hm q _).2.yi hm
theorem LJ {g:bZ}(a7:gH g) {n:Nat}{cs:List Cell}(ab:ui g n cs) {f:Cell->Option Int}(bj:∀ c:Cell,c.aY.length<=1000->f c=some (kz c:Int)):Tot (cK (R:=Int) (λ(s1:Int × Int) =>
(bif decide (s1.2<(cs.length:Int)) then
((idx cs s1.2).bind λbu =>
(f bu).bind λbl =>
((bif decide (1<bl) then
some (aM (s1.1+1))
else
some s1.1)).bind λjm =>
some jm).bind λlr =>
some (.inl (lr,aM (s1.2+1)))
else
some (.inr s1.1))) (0,0)) λr=>r=((cs.filter λc=>decide (1<kz c)).length:Int):=by
 have y8:=ab.n
 refine Tot.upto (λs=>s.2) cs.length (λk s=>s.1=(((cs.take k).filter λc=>decide (1<kz c)).length:Int)) rfl (by omega) rfl λk s hk he bs=>?_
 obtain ⟨z,i⟩:=s
 simp only at he bs ⊢
 subst he bs
 rw [eN k (by omega)]
 refine Tot.b6 (λbd=>?_) (λeb=>.az ?_)
 ·have bd:k<cs.length:=by omega
  have Rb:=ab.ok _ (List.getElem_mem bd)
  have sd:=Dh bd (λc:Cell=>decide (1<kz c))
  have ts:=List.length_filter_le (λc:Cell=>decide (1<kz c)) (cs.take k)
  rw [List.length_take] at ts
  rw [et bd]
  generalize cs[k]=c at *
  have hK:=Rb.len a7
  rw [show (some c).bind=λ(f:Cell->Option Int)=>f c from rfl]
  simp only [bj c (by omega),Option.bind_some]
  refine .aK (Ξ:=λz:Int=>z=(((cs.take (k+1)).filter λc=>decide (1<kz c)).length:Int)) ?_ λr aw=>.az ⟨bd,rfl,aw⟩
  rw [sd]
  refine .aK (Ξ:=λz:Int=>z=(((cs.take k).filter (λc=>decide (1<kz c))++if decide (1<kz c)=true then [c] else []).length:Int)) (Tot.b6 (λh=>.az ?_) (λh=>.az ?_)) λr aw=>.az aw
  ·have:1<kz c:=by omega
   rw [eN _ (by omega)]
   simp [this]
  ·have:¬ 1<kz c:=by omega
   simp [this]
 ·have e:cs.take k=cs:=List.take_of_length_le (by omega)
  rw [e]; rfl
theorem yn {g:bZ}(a7:gH g) {n:Nat}{cs:List Cell}(ab:ui g n cs):Tot (GS cs) λr=>r=((cs.filter λc=>decide (1<kz c)).length:Int):=by
 unfold GS
 exact .aK (LJ a7 ab I9) λr aw=>.az aw
theorem s6 (s:Source) (aI:ur s):Tot (Lw s) λr=>r.2.2.2=true->∃ n,uj r.1 n r.2.1:=by
 unfold Lw
 refine .aK (ID s aI) λr aw=>Tot.cv (λ_=>.az λh=>by cases h) (λh=>?_)
 have dW:=aw (by simpa using h)
 exact .aK (NU _ _ _ dW) λd aV=>.aK (yn dW.tf dW.ce) λ_ _=>.az λ_=>⟨_,aV.1.yi dW⟩
theorem Pf (a:Act):CU a=ng a:=by
 have h1:decide (a.N<20000)=decide (a.N<=19999):=decide_eq_decide.2 (by omega)
 have al:decide (0<a.N)=decide (1<=a.N):=decide_eq_decide.2 (by omega)
 unfold CU ng
 rw [h1,al]
theorem u16 (a:Act):Tot (ng a) λ_=>True:=by
 unfold ng
 repeat' first | apply Tot.bi | refine Tot.cv (λ_=>?_) (λ_=>?_) | exact Tot.az trivial | apply Tot.az
theorem IC (n:Int):∃ b c,vE n=some b/\ng b=some c/\(c=n\/(c=0/\b=⟨0,0⟩)):=by
 by_cases h1:1<=n/\n<=20000
 ·have e:aM (n - 1)=n - 1:=by rw [dx]; omega
  have cZ:aM (n - 1+1)=n:=by rw [dx]; omega
  refine ⟨⟨1,n - 1⟩,n,?_,?_,.inl rfl⟩
  ·simp [vE,h1,e]
  ·have:0<=n - 1/\n - 1<=19999:=by omega
   have jV:aM n=n:=by rw [dx]; omega
   simp [ng,h1,this,jV]
 ·by_cases al:n<=-1/\-19999<=n
  ·have e:aM (-n)=-n:=by rw [dx]; omega
   have cZ:aM n=n:=by rw [dx]; omega
   have aR:¬ 1<=n:=by omega
   refine ⟨⟨2,-n⟩,n,?_,?_,.inl rfl⟩
   ·simp [vE,al,aR,e]
   ·have:1<=-n/\-n<=19999:=by omega
    simp [ng,this,cZ]
  ·by_cases aR:n=20001
   ·subst aR; exact ⟨⟨3,0⟩,20001,by decide,by decide,.inl rfl⟩
   ·by_cases b3:n=20002
    ·subst b3; exact ⟨⟨4,0⟩,20002,by decide,by decide,.inl rfl⟩
    ·refine ⟨⟨0,0⟩,0,?_,by decide,.inr ⟨rfl,rfl⟩⟩
     have f1:(decide (1<=n)&&decide (n<=20000))=false:=by simp; omega
     have f2:(decide (n<=-1)&&decide (-19999<=n))=false:=by simp; omega
     have g1:(bif decide (1<=n) then some (decide (n<=20000)) else some false)=some (decide (1<=n)&&decide (n<=20000)):=by cases decide (1<=n) <;> rfl
     have g2:(bif decide (n<=-1) then some (decide (-19999<=n)) else some false)=some (decide (n<=-1)&&decide (-19999<=n)):=by cases decide (n<=-1) <;> rfl
     unfold vE
     rw [g1,f1,g2,f2]
     simp [aR,b3]
theorem s5 (a:Act):∃ c,ng a=some c/\(c=0\/vE c=some a):=by
 obtain ⟨c,ab,_⟩:=u16 a
 refine ⟨c,ab,?_⟩
 obtain ⟨K,N⟩:=a
 have g:∀ p q:Prop,∀ [Decidable p] [Decidable q],(bif decide p then some (decide q) else some false)=some (decide (p/\q)):=λp q _ _=>by
  by_cases aF:p <;> simp [aF]
 by_cases h1:K=1/\0<=N/\N<=19999
 ·obtain ⟨rfl,h1⟩:=h1
  have e:aM (N+1)=N+1:=by rw [dx]; omega
  have cZ:aM (N+1 - 1)=N:=by rw [dx]; omega
  simp [ng,h1,e] at ab
  subst ab
  have al:1<=N+1/\N+1<=20000:=by omega
  have jV:aM N=N:=by rw [dx]; omega
  exact .inr (by simp [vE,al,jV])
 ·by_cases al:K=2/\1<=N/\N<=19999
  ·obtain ⟨rfl,al⟩:=al
   have e:aM (-N)=-N:=by rw [dx]; omega
   have cZ:aM N=N:=by rw [dx]; omega
   simp [ng,al,e] at ab
   subst ab
   have aR:¬ 1<=-N:=by omega
   have b3:-N<=-1/\-19999<=-N:=by omega
   exact .inr (by simp [vE,aR,b3,cZ])
  ·by_cases aR:K=3/\N=0
   ·obtain ⟨rfl,rfl⟩:=aR
    have:ng ⟨3,0⟩=some 20001:=by decide
    rw [this] at ab; cases ab
    exact .inr (by decide)
   ·by_cases b3:K=4/\N=0
    ·obtain ⟨rfl,rfl⟩:=b3
     have:ng ⟨4,0⟩=some 20002:=by decide
     rw [this] at ab; cases ab
     exact .inr (by decide)
    ·refine .inl ?_
     have vm:(bif decide (K=1) then (bif decide (0<=N) then some (decide (N<=19999)) else some false) else some false)=some false:=by
      rw [g]; by_cases h:K=1
      ·have:=λaT=>h1 ⟨h,aT⟩
       simp [h]; omega
      ·simp [h]
     have sq:(bif decide (K=2) then (bif decide (1<=N) then some (decide (N<=19999)) else some false) else some false)=some false:=by
      rw [g]; by_cases h:K=2
      ·have:=λaT=>al ⟨h,aT⟩
       simp [h]; omega
      ·simp [h]
     have SY:(bif decide (K=3) then some (decide (N=0)) else some false)=some false:=by rw [g]; simp [aR]
     have Gp:(bif decide (K=4) then some (decide (N=0)) else some false)=some false:=by rw [g]; simp [b3]
     unfold ng at ab
     rw [vm,sq,SY,Gp] at ab
     simpa using ab.symm
def nV (l:List Int) (v:Int):Prop:=(l=[]/\v=-1)\/(v∈l/\∀ x∈l,l.count x<l.count v\/(l.count x=l.count v/\v<=x))
theorem nV.uniq {l:List Int}{v w:Int}(h:nV l v) (aT:nV l w):v=w:=by
 rcases h with ⟨h1,al⟩ | ⟨h1,al⟩ <;> rcases aT with ⟨aR,b3⟩ | ⟨aR,b3⟩
 ·omega
 ·subst h1; cases aR
 ·subst aR; cases h1
 ·have a:=al w aR
  have b:=b3 v h1
  omega
theorem rV (l:List Int) (y x:Int):(l++[y]).count x=l.count x+(if y=x then 1 else 0):=by
 rw [List.count_append]
 by_cases e:y=x
 ·subst e; simp
 ·rw [if_neg e,List.count_eq_zero.2 λhm=>e (List.mem_singleton.1 hm).symm]
theorem O7 {l:List Int}{x:Int}(h:x∈l):0<l.count x:=List.count_pos_iff.2 h
theorem nV.snoc {l:List Int}{b y:Int}(h:nV l b) (bc:∀ x∈l,0<=x) (ay:0<=y):nV (l++[y]) (if b<0\/(l++[y]).count b<(l++[y]).count y\/((l++[y]).count y=(l++[y]).count b/\y<b) then y else b):=by
 refine .inr ?_
 rcases h with ⟨rfl,rfl⟩ | ⟨aI,hm⟩
 ·rw [if_pos (.inl (by decide))]
  refine ⟨by simp,λx J=>?_⟩
  rw [List.nil_append,List.mem_singleton] at J
  subst J; exact .inr ⟨rfl,Int.le_refl _⟩
 ·have J9:=bc b aI
  have key:∀ x∈l++[y],x∈l\/x=y:=λx J=>by simpa using J
  have uL:(l++[y]).count y=l.count y+1:=by rw [rV,if_pos rfl]
  by_cases J':b=y
  ·subst J'
   rw [if_neg (by omega)]
   refine ⟨by simp,λx J=>?_⟩
   rw [uL]
   by_cases e:x=b
   ·subst e; exact .inr ⟨uL,Int.le_refl _⟩
   ·rw [rV,if_neg (λh=>e h.symm)]
    rcases key x J with J | J
    ·have:=hm x J; omega
    ·exact absurd J e
  ·have D4:(l++[y]).count b=l.count b:=by rw [rV,if_neg (λh=>J' h.symm)]; rfl
   by_cases ab:b<0\/(l++[y]).count b<(l++[y]).count y\/((l++[y]).count y=(l++[y]).count b/\y<b)
   ·rw [if_pos ab]
    rw [D4,uL] at ab
    refine ⟨by simp,λx J=>?_⟩
    rw [uL]
    by_cases e:x=y
    ·subst e; exact .inr ⟨uL,Int.le_refl _⟩
    ·rw [rV,if_neg (λh=>e h.symm)]
     rcases key x J with J | J
     ·have:=hm x J; omega
     ·exact absurd J e
   ·rw [if_neg ab]
    rw [D4,uL] at ab
    refine ⟨by simp [aI],λx J=>?_⟩
    rw [D4]
    by_cases e:x=y
    ·subst e; rw [uL]; omega
    ·rw [rV,if_neg (λh=>e h.symm)]
     rcases key x J with J | J
     ·have:=hm x J; omega
     ·exact absurd J e
theorem Gr {x:Int}(h:-1<=x/\x<=1000000):qw x=true:=by unfold qw; rw [decide_eq_true]; omega
theorem NV (l:List Int) (ao:l.length<=100000) (bc:∀ x∈l,0<=x/\x<=1000000):Tot (Af l) (nV l):=by
 unfold Af
 refine .aK (Ξ:=nV l) ?_ λr aw=>.az aw
 refine Tot.upto (λs=>s.2.2) l.length (λk s=>s.1.length=k/\(∀ x,(nM s.1 x).getD 0=((l.take k).count x:Int))/\nV (l.take k) s.2.1) rfl (by omega) ⟨rfl,λx=>by simp [nM],.inl ⟨rfl,rfl⟩⟩ λk s hk he bs=>?_
 obtain ⟨m,b,i⟩:=s
 obtain ⟨h1,al,aR⟩:=bs
 simp only at he h1 al aR ⊢
 subst he
 rw [eN k (by omega)]
 refine Tot.b6 (λbd=>?_) (λeb=>.az ?_)
 ·have bd:k<l.length:=by omega
  have ay:=bc _ (List.getElem_mem bd)
  have fT:=kb bd
  have J4:∀ x∈l.take k,0<=x/\x<=1000000:=λx J=>bc x (List.mem_of_mem_take J)
  have hK:=List.count_le_length (a:=l[k]) (l:=l.take k)
  rw [et bd]
  generalize l[k]=y at *
  have aI:-1<=b/\b<=1000000:=by
   rcases aR with ⟨_,rfl⟩ | ⟨h,_⟩
   ·omega
   ·have:=J4 b h; omega
  rw [List.length_take] at hK
  have dn:ss qw 0 m y=some ((l.take k).count y:Int):=by unfold ss; rw [if_pos (Gr ⟨by omega,ay.2⟩),al]
  have cZ:aM (((l.take k).count y:Int)+1)=(((l.take k).count y+1:Nat):Int):=eN _ (by omega)
  have jV:zL qw m y (((l.take k).count y+1:Nat):Int)=some ((y,(((l.take k).count y+1:Nat):Int))::m):=by
   unfold zL
   rw [Gr ⟨by omega,ay.2⟩,Bool.true_and,if_pos (decide_eq_true (by simp only [lim]; omega))]
  have Kw:∀ x,(nM ((y,(((l.take k).count y+1:Nat):Int))::m) x).getD 0=((l.take (k+1)).count x:Int):=λx=>by
   rw [fT,rV]
   unfold nM
   by_cases e:y=x
   ·subst e; rw [if_pos rfl,if_pos rfl]; rfl
   ·rw [if_neg e,if_neg e,al]; rfl
  have q4:∀ x,(-1<=x/\x<=1000000)->ss qw 0 ((y,(((l.take k).count y+1:Nat):Int))::m) x=some ((l.take (k+1)).count x:Int):=λx J=>by unfold ss; rw [if_pos (Gr J),Kw]
  have aP:=aR.snoc (y:=y) (λx J=>(J4 x J).1) ay.1
  rw [<- fT] at aP
  have lk:=List.count_le_length (a:=y) (l:=l.take (k+1))
  have sb:=List.count_le_length (a:=b) (l:=l.take (k+1))
  rw [List.length_take] at lk sb
  simp only [Option.bind_some,dn,cZ,jV,q4 y ⟨by omega,ay.2⟩,q4 b aI]
  have hw:aM (((l.take (k+1)).count y:Int) - ((l.take (k+1)).count b:Int))=((l.take (k+1)).count y:Int) - ((l.take (k+1)).count b:Int):=by rw [dx]; omega
  rw [hw]
  refine .aK (Ξ:=λr:List (Int × Int) × Int=>r.1=(y,(((l.take k).count y+1:Nat):Int))::m/\nV (l.take (k+1)) r.2) ?_ λr aw=>.az ⟨bd,rfl,by rw [aw.1]; simp [h1],by rw [aw.1]; exact Kw,aw.2⟩
  refine .aK (Ξ:=λc:Bool=>c=decide (b<0\/(l.take (k+1)).count b<(l.take (k+1)).count y\/((l.take (k+1)).count y=(l.take (k+1)).count b/\y<b))) ?_ λc ab=>?_
  ·refine Tot.b6 (λh=>.az (decide_eq_true (.inl h)).symm) (λh=>Tot.b6 (λaT=>.az (decide_eq_true (.inr (.inl (by omega)))).symm) (λaT=>Tot.b6 (λal=>.az ?_) (λal=>.az (decide_eq_false (by omega)).symm)))
   exact decide_eq_decide.2 (by omega)
  ·subst ab
   refine .aK (Ξ:=λz=>z=(if b<0\/(l.take (k+1)).count b<(l.take (k+1)).count y\/((l.take (k+1)).count y=(l.take (k+1)).count b/\y<b) then y else b)) (Tot.b6 (λh=>.az (if_pos h).symm) (λh=>.az (if_neg h).symm)) λz bG=>.az ⟨rfl,?_⟩
   show nV _ z
   rw [bG]; exact aP
 ·have e:l.take k=l:=List.take_of_length_le (by omega)
  rw [e] at aR
  exact aR
theorem NW (l:List Int) (ao:l.length<=100000) (bc:∀ x∈l,0<=x/\x<=1000000):Tot (xG l) (nV l):=by
 unfold xG
 refine .aK (Ξ:=λr:List Int=>fX iq r/\r.length<=l.length/\∀ x,x∈r↔x∈l) ?_ λD pD=>?_
 ·refine Tot.upto (λs=>s.2) l.length (λk s=>fX iq s.1/\s.1.length<=k/\∀ x,x∈s.1↔x∈l.take k) rfl (by omega) ⟨.nil,Nat.le_refl 0,λx=>by simp⟩ λk s hk he bs=>?_
  obtain ⟨r,i⟩:=s
  obtain ⟨h1,al,aR⟩:=bs
  simp only at he h1 al aR ⊢
  subst he
  rw [eN k (by omega)]
  refine Tot.b6 (λbd=>?_) (λeb=>.az ?_)
  ·have bd:k<l.length:=by omega
   have fT:=kb bd
   rw [et bd]
   generalize l[k]=y at *
   refine Tot.ax (.aK (BA r y h1 (by omega)) λe5 eQ=>.az ⟨bd,rfl,eQ.1,by have:=eQ.2.1; show e5.length<=k+1; omega,λx=>?_⟩)
   rw [fT,List.mem_append,List.mem_singleton,<- aR]
   exact eQ.2.2 x
  ·have e:l.take k=l:=List.take_of_length_le (by omega)
   rw [e] at aR
   exact ⟨h1,by omega,aR⟩
 ·obtain ⟨Qe,Vn,B3⟩:=pD
  refine .aK (Ξ:=λr:Int=>nV l r) ?_ λr aw=>.az aw
  refine Tot.upto (λs=>s.2.2) D.length (λk s=>(k=0/\s.1=-1/\s.2.1=0)\/(s.1∈D.take k/\s.2.1=(l.count s.1:Int)/\∀ x∈D.take k,l.count x<l.count s.1\/(l.count x=l.count s.1/\s.1<=x))) rfl (by omega) (.inl ⟨rfl,rfl,rfl⟩) λk s hk he bs=>?_
  obtain ⟨b,n,i⟩:=s
  simp only at he bs ⊢
  subst he
  rw [eN k (by omega)]
  refine Tot.b6 (λbd=>?_) (λeb=>.az ?_)
  ·have bd:k<D.length:=by omega
   have fT:=kb bd
   have SC:=List.getElem_mem bd
   have qm:∀ x∈D.take k,x<D[k]:=λx J=>by
    obtain ⟨ae,aa,rfl⟩:=List.mem_iff_getElem.1 J
    rw [List.length_take] at aa
    rw [List.getElem_take]
    exact Gz.1 (Im Qe (by omega) bd (by omega))
   rw [et bd]
   generalize D[k]=y at *
   have Ct:=(B3 y).1 SC
   refine .aK (Ξ:=λr:Int × Int=>r.1∈D.take (k+1)/\r.2=(l.count r.1:Int)/\∀ x∈D.take (k+1),l.count x<l.count r.1\/(l.count x=l.count r.1/\r.1<=x)) ?_ λr aw=>.az ⟨bd,rfl,.inr aw⟩
   refine .aK (Ξ:=λz:Int=>z=(l.count y:Int)) ?_ λz bG=>?_
   ·refine Tot.upto (λs=>s.2) l.length (λae s=>s.1=((l.take ae).count y:Int)) rfl (by omega) (by simp) λae s aa he bs=>?_
    obtain ⟨z,i⟩:=s
    simp only at he bs ⊢
    subst he bs
    rw [eN ae (by omega)]
    refine Tot.b6 (λdZ=>?_) (λeb=>.az ?_)
    ·have dZ:ae<l.length:=by omega
     have lO:=kb dZ
     have hK:=List.count_le_length (a:=y) (l:=l.take ae)
     rw [List.length_take] at hK
     rw [et dZ]
     generalize l[ae]=x at *
     simp only [Option.bind_some]
     refine .aK (Ξ:=λz:Int=>z=((l.take (ae+1)).count y:Int)) ?_ λz bG=>.az ⟨dZ,rfl,bG⟩
     rw [lO,rV]
     refine .aK (Ξ:=λz:Int=>z=(((l.take ae).count y+if x=y then 1 else 0:Nat):Int)) (Tot.b6 (λe=>.az ?_) (λe=>.az ?_)) λz bG=>.az bG
     ·rw [if_pos e,eN _ (by omega)]
     ·rw [if_neg e]; rfl
    ·have e:l.take ae=l:=List.take_of_length_le (by omega)
     rw [e]; rfl
   ·subst bG
    refine .aK (Ξ:=λr:Int × Int=>r.1∈D.take (k+1)/\r.2=(l.count r.1:Int)/\∀ x∈D.take (k+1),l.count x<l.count r.1\/(l.count x=l.count r.1/\r.1<=x)) ?_ λr aw=>.az aw
    have Vy:=O7 Ct
    rw [fT]
    have key:∀ x∈D.take k++[y],x∈D.take k\/x=y:=λx J=>by simpa using J
    refine Tot.b6 (λab=>Tot.ax (.az ⟨by simp,rfl,λx J=>?_⟩)) (λab=>?_)
    ·rcases key x J with J | rfl
     ·rcases bs with ⟨rfl,_,_⟩ | ⟨h1,al,aR⟩
      ·simp at J
      ·have:=aR x J; show l.count x<l.count y\/_; omega
     ·exact .inr ⟨rfl,Int.le_refl _⟩
    ·rcases bs with ⟨rfl,_,rfl⟩ | ⟨h1,al,aR⟩
     ·omega
     ·refine .az ⟨by simp [h1],al,λx J=>?_⟩
      rcases key x J with J | rfl
      ·exact aR x J
      ·have:=qm b h1
       have ab:¬ ((n:Int)<(l.count x:Int)):=ab
       have al:n=(l.count b:Int):=al
       show l.count x<l.count b\/(l.count x=l.count b/\b<=x)
       omega
  ·have e:D.take k=D:=List.take_of_length_le (by omega)
   rw [e] at bs
   rcases bs with ⟨rfl,rfl,_⟩ | ⟨h1,al,aR⟩
   ·have:D=[]:=List.eq_nil_of_length_eq_zero (by omega)
    refine .inl ⟨?_,rfl⟩
    refine List.eq_nil_iff_forall_not_mem.2 λx J=>?_
    have:=(B3 x).2 J
    subst_vars
    cases this
   ·exact .inr ⟨(B3 b).1 h1,λx J=>aR x ((B3 x).2 J)⟩
def mR (l:List Int):Int:=(xG l).getD (-1)
def DB (l:List Int):Prop:=l.length<=100000/\∀ x∈l,0<=x/\x<=1000000
theorem CP {l:List Int}(h:DB l):Af l=some (mR l)/\xG l=some (mR l)/\nV l (mR l):=by
 obtain ⟨v,hv,h1⟩:=NV l h.1 h.2
 obtain ⟨w,hw,al⟩:=NW l h.1 h.2
 have e:mR l=w:=by unfold mR; rw [hw]; rfl
 have cZ:=h1.uniq al
 rw [e]
 exact ⟨by rw [hv,cZ],hw,al⟩
def kv {α:Type}(keep:α->Bool) (val:α->Int) (l:List α):List fZ:=(l.zipIdx.filter λp=>keep p.1).map λp=>(⟨(p.2:Nat),val p.1⟩:fZ)
theorem C0 {α:Type}(keep:α->Bool) (val:α->Int) (l:List α) (x:α):kv keep val (l++[x])=kv keep val l++(if keep x=true then [(⟨l.length,val x⟩:fZ)] else []):=by
 unfold kv
 rw [List.zipIdx_append,List.filter_append,List.map_append]
 congr 1
 cases h:keep x <;> simp [h]
theorem CZ {α:Type}(keep:α->Bool) (val:α->Int) (l:List α):(kv keep val l).length<=l.length:=by
 unfold kv
 rw [List.length_map]
 refine Nat.le_trans (List.length_filter_le ..) ?_
 rw [List.length_zipIdx]; exact Nat.le_refl _
def red (r:List Act):List Int:=(r.filter λa=>decide (a.Kind=2)).map (·.N)
theorem G7 (r:List Act) (a:Act):red (r++[a])=red r++(if a.Kind=2 then [a.N] else []):=by
 unfold red
 rw [List.filter_append,List.map_append]
 congr 1
 by_cases h:a.Kind=2 <;> simp [h]
theorem C3 (r:List Act):(red r).length<=r.length:=by
 unfold red
 rw [List.length_map]; exact List.length_filter_le ..
def mD (a:Act):Int:=(ng a).getD 0
theorem IL (a:Act):CU a=some (mD a)/\ng a=some (mD a):=by
 obtain ⟨c,ab,_⟩:=u16 a
 have:mD a=c:=by unfold mD; rw [ab]; rfl
 rw [this,Pf]
 exact ⟨ab,ab⟩
def la (d:Int) (a:Act):Bool:=!decide (a.Kind=0)&&(!decide (a.Kind=2)||!decide (a.N=d))
def tY (r:List Act):Row:=⟨mR (red r),kv (la (mR (red r))) mD r⟩
def lR (d v:Int):Bool:=decide (0<=v)&&!decide (v=d)
def pos (c:List Int):List Int:=c.filter λv=>decide (0<=v)
theorem LH (r:List Int) (a:Int):pos (r++[a])=pos r++(if 0<=a then [a] else []):=by
 unfold pos
 rw [List.filter_append]
 congr 1
 by_cases h:0<=a <;> simp [h]
def tZ (c:List Int):Row:=⟨mR (pos c),kv (lR (mR (pos c))) id c⟩
def fQ (d:jG) (a:Nat):List Int:=d.dG.map λr=>r.getD a 0
theorem LM {g:bZ}{n:Nat}(a7:gH g) {r:List Act}(ao:r.length=g.a'.length) (h:∀ a∈r,qM g n a):DB (red r):=by
 have aG:=a7.kA
 have aF:=a7.mS
 have:=C3 r
 refine ⟨by omega,λx J=>?_⟩
 unfold red at J
 obtain ⟨a,bg,rfl⟩:=List.mem_map.1 J
 rw [List.mem_filter] at bg
 have hk:=(h a bg.1).pO (of_decide_eq_true bg.2)
 have h1:=hk.1
 have al:=hk.2
 omega
theorem LG {c:List Int}(ao:c.length<=150) (h:∀ v∈c,v<150):DB (pos c):=by
 have:=List.length_filter_le (λv:Int=>decide (0<=v)) c
 refine ⟨by unfold pos; omega,λx J=>?_⟩
 unfold pos at J
 rw [List.mem_filter] at J
 have h1:=h x J.1
 have al:=of_decide_eq_true J.2
 omega
theorem Bu (g:bZ) (n:Nat) (d:jG) (aV:uj g n d):Tot (Lx d) λr=>r=d.eV.map tY:=by
 have a7:=aV.tf
 have aG:=a7.kA
 have aN:=aV.hp
 have bg:=aV.a
 unfold Lx
 refine .aK (Ξ:=λr:List Row=>r=d.eV.map tY) ?_ λr aw=>.az aw
 refine Tot.upto (λs=>s.2) d.eV.length (λk s=>s.1=(d.eV.take k).map tY) rfl (by omega) rfl λk s hk he bs=>?_
 obtain ⟨R,i⟩:=s
 simp only at he bs ⊢
 subst he bs
 rw [eN k (by omega)]
 refine Tot.b6 (λbd=>?_) (λeb=>.az ?_)
 ·have bd:k<d.eV.length:=by omega
  have fT:=kb bd
  obtain ⟨nC,xc⟩:=aV.Ik _ (List.getElem_mem bd)
  simp only [et bd,Option.bind_some]
  generalize d.eV[k]=r at *
  have k7:=LM a7 nC xc
  obtain ⟨yt,yu,_⟩:=CP k7
  refine .aK (Ξ:=λl:List Int=>l=red r) ?_ λl ao=>?_
  ·refine Tot.upto (λs=>s.2) r.length (λae s=>s.1=red (r.take ae)) rfl (by omega) rfl λae s aa he bs=>?_
   obtain ⟨L,i⟩:=s
   simp only at he bs ⊢
   subst he bs
   rw [eN ae (by omega)]
   refine Tot.b6 (λdZ=>?_) (λeb=>.az ?_)
   ·have dZ:ae<r.length:=by omega
    have lO:=kb dZ
    have hlen:=C3 (r.take ae)
    rw [List.length_take] at hlen
    simp only [et dZ,Option.bind_some]
    generalize r[ae]=a at *
    refine .aK (Ξ:=λL:List Int=>L=red (r.take (ae+1))) ?_ λr aw=>.az ⟨dZ,rfl,aw⟩
    rw [lO,G7]
    refine .aK (Ξ:=λL:List Int=>L=red (r.take ae)++(if a.Kind=2 then [a.N] else [])) (Tot.b6 (λh=>?_) (λh=>.az ?_)) λr aw=>.az aw
    ·rw [if_pos h]
     exact .aK (Ξ:=λ_=>True) (Tot.ap (by simp [lim]; omega) trivial) λ_ _=>.az rfl
    ·rw [if_neg h,List.append_nil]
   ·have e:r.take ae=r:=List.take_of_length_le (by omega)
    rw [e]; rfl
  ·subst ao
   rw [yt]
   refine Tot.ax (.aK (Ξ:=λl:List fZ=>l=kv (la (mR (red r))) mD r) ?_ λl ao=>?_)
   ·generalize mR (red r)=D
    refine Tot.upto (λs=>s.2) r.length (λae s=>s.1=kv (la D) mD (r.take ae)) rfl (by omega) rfl λae s aa he bs=>?_
    obtain ⟨L,i⟩:=s
    simp only at he bs ⊢
    subst he bs
    rw [eN ae (by omega)]
    refine Tot.b6 (λdZ=>?_) (λeb=>.az ?_)
    ·have dZ:ae<r.length:=by omega
     have lO:=kb dZ
     have hlen:=CZ (la D) mD (r.take ae)
     have fg:(r.take ae).length=ae:=by rw [List.length_take]; omega
     rw [List.length_take] at hlen
     simp only [et dZ,Option.bind_some]
     generalize r[ae]=a at *
     rw [(IL a).1]
     refine .aK (Ξ:=λL:List fZ=>L=kv (la D) mD (r.take (ae+1))) ?_ λr aw=>.az ⟨dZ,rfl,aw⟩
     rw [lO,C0,fg]
     refine .aK (Ξ:=λc:Bool=>c=la D a) (Tot.cv (λh=>?_) (λh=>.az ?_)) λc ab=>?_
     ·refine Tot.cv (λal=>.az ?_) (λal=>.az ?_)
      ·unfold la; rw [h,al]; rfl
      ·unfold la; rw [h,al]; rfl
     ·unfold la; rw [h]; rfl
     subst ab
     refine .aK (Ξ:=λL:List fZ=>L=kv (la D) mD (r.take ae)++(if la D a=true then [(⟨ae,mD a⟩:fZ)] else [])) (Tot.cv (λh=>?_) (λh=>.az ?_)) λr aw=>.az aw
     ·rw [if_pos h]
      exact Tot.ax (.aK (Ξ:=λ_=>True) (Tot.ap (by simp [lim]; omega) trivial) λ_ _=>.az rfl)
     ·rw [if_neg (by rw [h]; decide),List.append_nil]
    ·have e:r.take ae=r:=List.take_of_length_le (by omega)
     rw [e]; rfl
   ·subst ao
    refine .aK (Ξ:=λ_=>True) (Tot.ap (by simp [lim]; omega) trivial) λ_ _=>.az ⟨bd,rfl,?_⟩
    show _=(d.eV.take (k+1)).map tY
    rw [fT,List.map_append]; rfl
 ·have e:d.eV.take k=d.eV:=List.take_of_length_le (by omega)
  rw [e]; rfl
theorem wL (g:bZ) (n:Nat) (d:jG) (aV:uj g n d):Tot (Ly d) λr=>r=d.eV.map tY:=by
 have a7:=aV.tf
 have aG:=a7.kA
 have aN:=aV.hp
 have bg:=aV.a
 unfold Ly
 refine .aK (Ξ:=λr:List Row=>r=d.eV.map tY) ?_ λr aw=>.az aw
 refine Tot.upto (λs=>s.2) d.eV.length (λk s=>s.1=(d.eV.take k).map tY) rfl (by omega) rfl λk s hk he bs=>?_
 obtain ⟨R,i⟩:=s
 simp only at he bs ⊢
 subst he bs
 rw [eN k (by omega)]
 refine Tot.b6 (λbd=>?_) (λeb=>.az ?_)
 ·have bd:k<d.eV.length:=by omega
  have fT:=kb bd
  obtain ⟨nC,xc⟩:=aV.Ik _ (List.getElem_mem bd)
  simp only [et bd,Option.bind_some]
  generalize d.eV[k]=r at *
  have k7:=LM a7 nC xc
  obtain ⟨yt,yu,_⟩:=CP k7
  refine .aK (Ξ:=λl:List Int=>l=red r) ?_ λl ao=>?_
  ·refine Tot.upto (λs=>s.2) r.length (λae s=>s.1=red (r.take ae)) rfl (by omega) rfl λae s aa he bs=>?_
   obtain ⟨L,i⟩:=s
   simp only at he bs ⊢
   subst he bs
   rw [eN ae (by omega)]
   refine Tot.b6 (λdZ=>?_) (λeb=>.az ?_)
   ·have dZ:ae<r.length:=by omega
    have lO:=kb dZ
    have hlen:=C3 (r.take ae)
    rw [List.length_take] at hlen
    simp only [et dZ,Option.bind_some]
    generalize r[ae]=a at *
    refine .aK (Ξ:=λL:List Int=>L=red (r.take (ae+1))) ?_ λr aw=>.az ⟨dZ,rfl,aw⟩
    rw [lO,G7]
    refine .aK (Ξ:=λL:List Int=>L=red (r.take ae)++(if a.Kind=2 then [a.N] else [])) (Tot.b6 (λh=>?_) (λh=>.az ?_)) λr aw=>.az aw
    ·rw [if_pos h]
     exact .aK (Ξ:=λ_=>True) (Tot.ap (by simp [lim]; omega) trivial) λ_ _=>.az rfl
    ·rw [if_neg h,List.append_nil]
   ·have e:r.take ae=r:=List.take_of_length_le (by omega)
    rw [e]; rfl
  ·subst ao
   rw [yu]
   refine Tot.ax (.aK (Ξ:=λl:List fZ=>l=kv (la (mR (red r))) mD r) ?_ λl ao=>?_)
   ·generalize mR (red r)=D
    refine Tot.upto (λs=>s.2) r.length (λae s=>s.1=kv (la D) mD (r.take ae)) rfl (by omega) rfl λae s aa he bs=>?_
    obtain ⟨L,i⟩:=s
    simp only at he bs ⊢
    subst he bs
    rw [eN ae (by omega)]
    refine Tot.b6 (λdZ=>?_) (λeb=>.az ?_)
    ·have dZ:ae<r.length:=by omega
     have lO:=kb dZ
     have hlen:=CZ (la D) mD (r.take ae)
     have fg:(r.take ae).length=ae:=by rw [List.length_take]; omega
     rw [List.length_take] at hlen
     simp only [et dZ,Option.bind_some]
     generalize r[ae]=a at *
     rw [(IL a).2]
     refine .aK (Ξ:=λL:List fZ=>L=kv (la D) mD (r.take (ae+1))) ?_ λr aw=>.az ⟨dZ,rfl,aw⟩
     rw [lO,C0,fg]
     refine .aK (Ξ:=λc:Bool=>c=la D a) (Tot.cv (λh=>?_) (λh=>.az ?_)) λc ab=>?_
     ·refine Tot.cv (λal=>.az ?_) (λal=>.az ?_)
      ·unfold la; rw [h,al]; rfl
      ·unfold la; rw [h,al]; rfl
     ·unfold la; rw [h]; rfl
     subst ab
     refine .aK (Ξ:=λL:List fZ=>L=kv (la D) mD (r.take ae)++(if la D a=true then [(⟨ae,mD a⟩:fZ)] else [])) (Tot.cv (λh=>?_) (λh=>.az ?_)) λr aw=>.az aw
     ·rw [if_pos h]
      exact Tot.ax (.aK (Ξ:=λ_=>True) (Tot.ap (by simp [lim]; omega) trivial) λ_ _=>.az rfl)
     ·rw [if_neg (by rw [h]; decide),List.append_nil]
    ·have e:r.take ae=r:=List.take_of_length_le (by omega)
     rw [e]; rfl
   ·subst ao
    refine .aK (Ξ:=λ_=>True) (Tot.ap (by simp [lim]; omega) trivial) λ_ _=>.az ⟨bd,rfl,?_⟩
    show _=(d.eV.take (k+1)).map tY
    rw [fT,List.map_append]; rfl
 ·have e:d.eV.take k=d.eV:=List.take_of_length_le (by omega)
  rw [e]; rfl
theorem yo (d:jG) (a:Nat):(fQ d a).length=d.dG.length:=by simp [fQ]
theorem BC {d:jG}{a q:Nat}(h:q<d.dG.length):(fQ d a).take (q+1)=(fQ d a).take q++[(d.dG[q]).getD a 0]:=by
 rw [kb (by rw [yo]; exact h)]
 congr 2
 simp [fQ]
theorem IM {g:bZ}{n:Nat}{d:jG}(aV:uj g n d) {a:Nat}(bg:a<g.bw.length):∀ v∈fQ d a,-1<=v/\v<n:=λv hv=>by
 unfold fQ at hv
 obtain ⟨r,aw,rfl⟩:=List.mem_map.1 hv
 obtain ⟨h1,al⟩:=aV.vz r aw
 refine al _ ?_
 rw [List.getD_eq_getElem?_getD,List.getElem?_eq_getElem (by omega)]
 exact List.getElem_mem _
theorem Cy {r:List Int}{a:Nat}(h:a<r.length):idx r (a:Int)=some (r.getD a 0):=by
 rw [et h,List.getD_eq_getElem?_getD,List.getElem?_eq_getElem h]; rfl
theorem LF (c:List Int):(pos c).length<=c.length:=List.length_filter_le ..
theorem Bv (g:bZ) (n:Nat) (d:jG) (aV:uj g n d):Tot (Lz d) λr=>r=(List.range g.bw.length).map λa=>tZ (fQ d a):=by
 have a7:=aV.tf
 have aG:=a7.hU
 have aN:=aV.hp
 have bg:=aV.o
 have bc:0<d.dG.length:=by omega
 obtain ⟨RS,_⟩:=aV.vz _ (List.getElem_mem bc)
 have i0:idx d.dG 0=some d.dG[0]:=et (k:=0) bc
 unfold Lz
 refine Tot.b6 (λh=>absurd h (by omega)) (λ_=>?_)
 rw [i0]
 refine Tot.ax (.aK (Ξ:=λr:List Row=>r=(List.range g.bw.length).map λa=>tZ (fQ d a)) ?_ λr aw=>.az aw)
 refine Tot.upto (λs=>s.2) g.bw.length (λk s=>s.1=(List.range k).map λa=>tZ (fQ d a)) rfl (by omega) rfl λk s hk he bs=>?_
 obtain ⟨R,i⟩:=s
 simp only at he bs ⊢
 subst he bs
 rw [eN k (by omega)]
 refine Tot.b6 (λbd=>?_) (λeb=>.az ?_)
 ·have ik:k<g.bw.length:=by omega
  have k7:=LG (c:=fQ d k) (by rw [yo]; omega) λv hv=>by have:=(IM aV ik v hv).2; omega
  obtain ⟨yt,yu,_⟩:=CP k7
  have hK:=yo d k
  refine .aK (Ξ:=λl:List Int=>l=pos (fQ d k)) ?_ λl ao=>?_
  ·refine Tot.upto (λs=>s.2) d.dG.length (λae s=>s.1=pos ((fQ d k).take ae)) rfl (by omega) rfl λae s aa he bs=>?_
   obtain ⟨L,i⟩:=s
   simp only at he bs ⊢
   subst he bs
   rw [eN ae (by omega)]
   refine Tot.b6 (λdZ=>?_) (λeb=>.az ?_)
   ·have dZ:ae<d.dG.length:=by omega
    have lO:=BC (a:=k) dZ
    have hlen:=LF ((fQ d k).take ae)
    rw [List.length_take] at hlen
    obtain ⟨nC,_⟩:=aV.vz _ (List.getElem_mem dZ)
    simp only [et dZ,Option.bind_some,Cy (show k<(d.dG[ae]).length by omega)]
    generalize (d.dG[ae]).getD k 0=v at *
    refine .aK (Ξ:=λL:List Int=>L=pos ((fQ d k).take (ae+1))) ?_ λr aw=>.az ⟨dZ,rfl,aw⟩
    rw [lO,LH]
    refine .aK (Ξ:=λL:List Int=>L=pos ((fQ d k).take ae)++(if 0<=v then [v] else [])) (Tot.b6 (λh=>?_) (λh=>.az ?_)) λr aw=>.az aw
    ·rw [if_pos h]
     exact .aK (Ξ:=λ_=>True) (Tot.ap (by simp [lim]; omega) trivial) λ_ _=>.az rfl
    ·rw [if_neg h,List.append_nil]
   ·have e:(fQ d k).take ae=fQ d k:=List.take_of_length_le (by omega)
    rw [e]; rfl
  ·subst ao
   rw [yt]
   refine Tot.ax (.aK (Ξ:=λl:List fZ=>l=kv (lR (mR (pos (fQ d k)))) id (fQ d k)) ?_ λl ao=>?_)
   ·generalize mR (pos (fQ d k))=D
    refine Tot.upto (λs=>s.2) d.dG.length (λae s=>s.1=kv (lR D) id ((fQ d k).take ae)) rfl (by omega) rfl λae s aa he bs=>?_
    obtain ⟨L,i⟩:=s
    simp only at he bs ⊢
    subst he bs
    rw [eN ae (by omega)]
    refine Tot.b6 (λdZ=>?_) (λeb=>.az ?_)
    ·have dZ:ae<d.dG.length:=by omega
     have lO:=BC (a:=k) dZ
     have hlen:=CZ (lR D) id ((fQ d k).take ae)
     have fg:((fQ d k).take ae).length=ae:=by rw [List.length_take]; omega
     rw [fg] at hlen
     obtain ⟨nC,_⟩:=aV.vz _ (List.getElem_mem dZ)
     simp only [et dZ,Option.bind_some,Cy (show k<(d.dG[ae]).length by omega)]
     generalize (d.dG[ae]).getD k 0=v at *
     refine .aK (Ξ:=λL:List fZ=>L=kv (lR D) id ((fQ d k).take (ae+1))) ?_ λr aw=>.az ⟨dZ,rfl,aw⟩
     rw [lO,C0,fg]
     refine .aK (Ξ:=λc:Bool=>c=lR D v) (Tot.cv (λh=>.az ?_) (λh=>.az ?_)) λc ab=>?_
     ·unfold lR; rw [h]; rfl
     ·unfold lR; rw [h]; rfl
     subst ab
     refine .aK (Ξ:=λL:List fZ=>L=kv (lR D) id ((fQ d k).take ae)++(if lR D v=true then [(⟨ae,id v⟩:fZ)] else [])) (Tot.cv (λh=>?_) (λh=>.az ?_)) λr aw=>.az aw
     ·rw [if_pos h]
      exact .aK (Ξ:=λ_=>True) (Tot.ap (by simp [lim]; omega) trivial) λ_ _=>.az rfl
     ·rw [if_neg (by rw [h]; decide),List.append_nil]
    ·have e:(fQ d k).take ae=fQ d k:=List.take_of_length_le (by omega)
     rw [e]; rfl
   ·subst ao
    refine .aK (Ξ:=λ_=>True) (Tot.ap (by simp [lim]; omega) trivial) λ_ _=>.az ⟨ik,rfl,?_⟩
    show _=(List.range (k+1)).map λa=>tZ (fQ d a)
    rw [List.range_succ,List.map_append]; rfl
 ·have:k=g.bw.length:=by omega
  subst this; rfl
theorem Bw (g:bZ) (n:Nat) (d:jG) (aV:uj g n d):Tot (LA d) λr=>r=(List.range g.bw.length).map λa=>tZ (fQ d a):=by
 have a7:=aV.tf
 have aG:=a7.hU
 have aN:=aV.hp
 have bg:=aV.o
 have bc:0<d.dG.length:=by omega
 obtain ⟨RS,_⟩:=aV.vz _ (List.getElem_mem bc)
 have i0:idx d.dG 0=some d.dG[0]:=et (k:=0) bc
 have g0:decide ((0:Int)<(d.dG.length:Int))=true:=decide_eq_true (by omega)
 unfold LA
 refine .aK (Ξ:=λr:List Row=>r=(List.range g.bw.length).map λa=>tZ (fQ d a)) ?_ λr aw=>.az aw
 refine Tot.upto (λs=>s.2) g.bw.length (λk s=>s.1=(List.range k).map λa=>tZ (fQ d a)) rfl (by omega) rfl λk s hk he bs=>?_
 obtain ⟨R,i⟩:=s
 simp only at he bs ⊢
 subst he bs
 rw [eN k (by omega),g0,i0]
 simp only [cond_true,Option.bind_some]
 refine Tot.b6 (λbd=>?_) (λeb=>.az ?_)
 ·have ik:k<g.bw.length:=by omega
  have k7:=LG (c:=fQ d k) (by rw [yo]; omega) λv hv=>by have:=(IM aV ik v hv).2; omega
  obtain ⟨yt,yu,_⟩:=CP k7
  have hK:=yo d k
  refine .aK (Ξ:=λl:List Int=>l=pos (fQ d k)) ?_ λl ao=>?_
  ·refine Tot.upto (λs=>s.2) d.dG.length (λae s=>s.1=pos ((fQ d k).take ae)) rfl (by omega) rfl λae s aa he bs=>?_
   obtain ⟨L,i⟩:=s
   simp only at he bs ⊢
   subst he bs
   rw [eN ae (by omega)]
   refine Tot.b6 (λdZ=>?_) (λeb=>.az ?_)
   ·have dZ:ae<d.dG.length:=by omega
    have lO:=BC (a:=k) dZ
    have hlen:=LF ((fQ d k).take ae)
    rw [List.length_take] at hlen
    obtain ⟨nC,_⟩:=aV.vz _ (List.getElem_mem dZ)
    simp only [et dZ,Option.bind_some,Cy (show k<(d.dG[ae]).length by omega)]
    generalize (d.dG[ae]).getD k 0=v at *
    refine .aK (Ξ:=λL:List Int=>L=pos ((fQ d k).take (ae+1))) ?_ λr aw=>.az ⟨dZ,rfl,aw⟩
    rw [lO,LH]
    refine .aK (Ξ:=λL:List Int=>L=pos ((fQ d k).take ae)++(if 0<=v then [v] else [])) (Tot.b6 (λh=>?_) (λh=>.az ?_)) λr aw=>.az aw
    ·rw [if_pos h]
     exact .aK (Ξ:=λ_=>True) (Tot.ap (by simp [lim]; omega) trivial) λ_ _=>.az rfl
    ·rw [if_neg h,List.append_nil]
   ·have e:(fQ d k).take ae=fQ d k:=List.take_of_length_le (by omega)
    rw [e]; rfl
  ·subst ao
   rw [yu]
   refine Tot.ax (.aK (Ξ:=λl:List fZ=>l=kv (lR (mR (pos (fQ d k)))) id (fQ d k)) ?_ λl ao=>?_)
   ·generalize mR (pos (fQ d k))=D
    refine Tot.upto (λs=>s.2) d.dG.length (λae s=>s.1=kv (lR D) id ((fQ d k).take ae)) rfl (by omega) rfl λae s aa he bs=>?_
    obtain ⟨L,i⟩:=s
    simp only at he bs ⊢
    subst he bs
    rw [eN ae (by omega)]
    refine Tot.b6 (λdZ=>?_) (λeb=>.az ?_)
    ·have dZ:ae<d.dG.length:=by omega
     have lO:=BC (a:=k) dZ
     have hlen:=CZ (lR D) id ((fQ d k).take ae)
     have fg:((fQ d k).take ae).length=ae:=by rw [List.length_take]; omega
     rw [fg] at hlen
     obtain ⟨nC,_⟩:=aV.vz _ (List.getElem_mem dZ)
     simp only [et dZ,Option.bind_some,Cy (show k<(d.dG[ae]).length by omega)]
     generalize (d.dG[ae]).getD k 0=v at *
     refine .aK (Ξ:=λL:List fZ=>L=kv (lR D) id ((fQ d k).take (ae+1))) ?_ λr aw=>.az ⟨dZ,rfl,aw⟩
     rw [lO,C0,fg]
     refine .aK (Ξ:=λc:Bool=>c=lR D v) (Tot.cv (λh=>.az ?_) (λh=>.az ?_)) λc ab=>?_
     ·unfold lR; rw [h]; rfl
     ·unfold lR; rw [h]; rfl
     subst ab
     refine .aK (Ξ:=λL:List fZ=>L=kv (lR D) id ((fQ d k).take ae)++(if lR D v=true then [(⟨ae,id v⟩:fZ)] else [])) (Tot.cv (λh=>?_) (λh=>.az ?_)) λr aw=>.az aw
     ·rw [if_pos h]
      exact .aK (Ξ:=λ_=>True) (Tot.ap (by simp [lim]; omega) trivial) λ_ _=>.az rfl
     ·rw [if_neg (by rw [h]; decide),List.append_nil]
    ·have e:(fQ d k).take ae=fQ d k:=List.take_of_length_le (by omega)
     rw [e]; rfl
   ·subst ao
    refine .aK (Ξ:=λ_=>True) (Tot.ap (by simp [lim]; omega) trivial) λ_ _=>.az ⟨ik,rfl,?_⟩
    show _=(List.range (k+1)).map λa=>tZ (fQ d a)
    rw [List.range_succ,List.map_append]; rfl
 ·have:k=g.bw.length:=by omega
  subst this; rfl
theorem I8 (g:bZ) (t:Int):xH g t=some (match idx g.a' t with | some k=>(k.Level,k.fi) | none=>(0,0)):=by
 unfold xH
 by_cases bc:t<0
 ·rw [vf (.inl bc)]; simp [bc]
 ·by_cases h1:(g.a'.length:Int)<=t
  ·rw [vf (.inr h1)]; simp [h1]
  ·obtain ⟨k,hk,_⟩:=k_ (l:=g.a') (i:=t) (by omega) (by omega)
   simp [bc,h1,hk]
theorem Pl (g:bZ) (p:Int):Al g p=some (sr g p):=by
 unfold Al sr
 by_cases bc:p<0
 ·rw [vf (.inl bc)]; simp [bc]
 ·by_cases h1:(g.aY.length:Int)<=p
  ·rw [vf (.inr h1)]; simp [h1]
  ·obtain ⟨k,hk,_⟩:=k_ (l:=g.aY) (i:=p) (by omega) (by omega)
   simp only [bc,h1,hk,decide_false,cond_false,Option.bind_some,I8]
   first | done | (cases idx g.a' k.Prec <;> rfl)
theorem Pc (g:bZ) (p t:Int):dec g p t=0\/dec g p t=1\/dec g p t=2\/dec g p t=3:=by
 unfold dec
 split
 ·repeat' split
  all_goals simp
 ·exact .inl rfl
theorem Ph (g:bZ) (p t:Int):Ab g p t=some (dec g p t):=by
 unfold Ab
 rw [Pl,I8]
 unfold dec
 generalize sr g p=x
 cases hk:idx g.a' t with
 | none =>
  simp only [Option.bind_some]
  by_cases h1:x.1=0 <;> simp [h1]
 | some k =>
  simp only [Option.bind_some]
  by_cases h1:x.1=0
  ·simp [h1]
  ·by_cases al:k.Level=0
   ·simp [h1,al]
   ·rw [if_neg (by omega)]
    simp only [h1,al,decide_false,cond_false,Option.bind_some]
    by_cases aR:x.1<k.Level
    ·simp [aR]
    ·by_cases b3:k.Level<x.1
     ·have:¬ k.Level=x.1:=by omega
      simp [aR,b3,this]
     ·have:k.Level=x.1:=by omega
      rw [if_neg aR,if_neg b3]
      by_cases c3:k.fi=1
      ·simp [this,c3]
      ·by_cases eg:k.fi=2
       ·simp [this,eg]
       ·simp [this,c3,eg]
theorem Io {p:Int}{r:List Int}(h:fX iq (p::r)):∀ x∈r,p<x:=λx J=>Gz.1 ((List.pairwise_cons.1 h).1 x J)
theorem IE (p:Int) (r:List Int) (ao:r.length<=1000) (h:fX iq (p::r)):vG (p::r)=some p:=by
 suffices aP:Tot (vG (p::r)) λz=>z=p by
  obtain ⟨z,bG,e⟩:=aP; rw [bG,e]
 have bd:=Io h
 unfold vG
 refine Tot.b6 (λh=>by rw [List.length_cons] at h; omega) (λ_=>?_)
 have kl:idx (p::r) 0=some p:=rfl
 rw [kl]
 refine Tot.ax (.aK (Ξ:=λz:Int=>z=p) ?_ λz bG=>.az bG)
 refine Tot.count (λs=>s.2) ((p::r).length:Int) (λs=>s.1=p/\1<=s.2) ⟨rfl,Int.le_refl _⟩ (by rw [List.length_cons]; show ((r.length+1:Nat):Int) - 1<_; omega) λs aP=>?_
 obtain ⟨z,i⟩:=s
 obtain ⟨h1,al⟩:=aP
 simp only at h1 al ⊢
 subst h1
 have RE:(z::r).length=r.length+1:=rfl
 refine Tot.b6 (λRF=>?_) (λ_=>.az rfl)
 obtain ⟨y,ay,hm⟩:=k_ (l:=z::r) (i:=i) (by omega) RF
 rw [ay]
 have SD:z<=y:=by
  rcases List.mem_cons.1 hm with rfl | hm
  ·exact Int.le_refl _
  ·have:=bd y hm; omega
 refine Tot.ax (.az ⟨⟨Int.min_eq_left SD,?_⟩,?_,?_⟩)
 ·show 1<=aM (i+1)
  rw [dx]; omega
 ·show i<aM (i+1)
  rw [dx]; omega
 ·show aM (i+1)<=_
  rw [dx]; omega
def D6 (g:bZ) (c:Cell):Bool:=match c.aY with
 | []=>false
 | p::_=>decide (c.hD=true\/(0<=c.ff/\dec g p c.bJ=0))
theorem Pj (g:bZ) (a7:gH g) {n:Nat}(c:Cell) (h:nn g n c):Ak g c=some (ki g c,D6 g c):=by
 have ao:=h.len a7
 have aF:=h.p
 unfold Ak ki D6
 cases c6:c.aY with
 | nil =>
  simp only
  cases h1:c.hD <;> simp
 | cons p r =>
  rw [c6,List.length_cons] at ao
  rw [c6] at aF
  have dl:decide (((p::r).length:Int)=0)=false:=decide_eq_false (by simp; omega)
  simp only [dl,cond_false,IE p r (by omega) aF,Option.bind_some,Ph]
  have aV:=Pc g p c.bJ
  generalize dec g p c.bJ=v at *
  cases h1:c.hD
  ·by_cases al:c.ff<0
   ·have aR:¬ 0<=c.ff:=by omega
    simp [al,aR]
   ·have aR:0<=c.ff:=by omega
    rcases aV with rfl | rfl | rfl | rfl <;> simp [al,aR]
  ·simp
theorem Pm:∀ k:Fin 24,CY [-1] ((k.val+1:Nat):Int)=some (List.replicate (k.val+1) (-1)):=by decide +kernel
theorem NZ (g:bZ) (a7:gH g) {m:List State}(hm:lB g m):Tot (Aj g m) λd=>d.eV=(List.range m.length).map (λ_=>List.replicate g.a'.length (⟨0,0⟩:Act))/\d.dG=(List.range m.length).map λq=>oO g m q:=by
 have aG:=a7.kA
 have aN:=a7.hU
 have xa:=hm.lu
 unfold Aj
 refine .aK (Ξ:=λr:List (List Act) × List (List Int)=>r.1=(List.range m.length).map (λ_=>List.replicate g.a'.length (⟨0,0⟩:Act))/\r.2=(List.range m.length).map λq=>oO g m q) ?_ λr aw=>.az aw
 refine Tot.upto (λs=>s.2.2) m.length (λk s=>s.1=(List.range k).map (λ_=>List.replicate g.a'.length (⟨0,0⟩:Act))/\s.2.1=(List.range k).map λq=>oO g m q) rfl (by omega) ⟨rfl,rfl⟩ λk s hk he bs=>?_
 obtain ⟨A,G,i⟩:=s
 obtain ⟨h1,al⟩:=bs
 simp only at he h1 al ⊢
 subst he h1 al
 rw [eN k (by omega)]
 refine Tot.b6 (λbd=>?_) (λeb=>.az ?_)
 ·have bd:k<m.length:=by omega
  have cd:idx m (k:Int)=some m[k]:=et bd
  have k7:=List.getElem_mem bd
  rw [cd]
  generalize m[k]=st at *
  have tx:=hm.tM st k7
  have ga:=hm.nd st k7
  have I_:=Pm ⟨g.bw.length - 1,by omega⟩
  simp only [show g.bw.length - 1+1=g.bw.length by omega] at I_
  simp only [Option.bind_some,I_]
  refine .aK (Ξ:=λL:List Int=>L=oO g m k) ?_ λL jA=>?_
  ·refine Tot.upto (λs=>s.2) st.di.length (λae s=>s.1.length=g.bw.length/\∀ a:Nat,a<g.bw.length->(∃ v∈st.di.take ae,v.Sym=1000+(a:Int)/\s.1[a]?=some v.hh)\/((∀ v∈st.di.take ae,v.Sym≠1000+(a:Int))/\s.1[a]?=some (-1))) rfl (by omega) ⟨by simp,λa bg=>.inr ⟨by simp,by simp [bg]⟩⟩ λae s aa he bs=>?_
   obtain ⟨L,i⟩:=s
   obtain ⟨h1,al⟩:=bs
   simp only at he h1 al ⊢
   subst he
   rw [eN ae (by omega)]
   refine Tot.b6 (λdZ=>?_) (λeb=>.az ?_)
   ·have dZ:ae<st.di.length:=by omega
    have lO:=kb dZ
    have xf:=hm.sym a7 k7 (List.getElem_mem dZ)
    have VS:∀ v∈st.di.take ae,v.Sym≠(st.di[ae]).Sym:=λv hv e=>by
     obtain ⟨i,hi,rfl⟩:=List.mem_iff_getElem.1 hv
     rw [List.length_take] at hi
     rw [List.getElem_take] at e
     have:=List.pairwise_iff_getElem.1 ga i ae (by rw [List.length_map]; omega) (by rw [List.length_map]; omega) (by omega)
     rw [List.getElem_map,List.getElem_map] at this
     exact this e
    simp only [et dZ,Option.bind_some]
    generalize st.di[ae]=v at *
    refine .aK (Ξ:=λL:List Int=>L.length=g.bw.length/\∀ a:Nat,a<g.bw.length->(∃ v∈st.di.take (ae+1),v.Sym=1000+(a:Int)/\L[a]?=some v.hh)\/((∀ v∈st.di.take (ae+1),v.Sym≠1000+(a:Int))/\L[a]?=some (-1))) ?_ λL jA=>.az ⟨dZ,rfl,jA⟩
    rw [lO]
    have mem:∀ w,w∈st.di.take ae++[v]↔w∈st.di.take ae\/w=v:=λw=>by simp
    refine .aK (Ξ:=λL:List Int=>L.length=g.bw.length/\∀ a:Nat,a<g.bw.length->(∃ w∈st.di.take ae++[v],w.Sym=1000+(a:Int)/\L[a]?=some w.hh)\/((∀ w∈st.di.take ae++[v],w.Sym≠1000+(a:Int))/\L[a]?=some (-1))) (Tot.b6 (λh=>?_) (λh=>.az ⟨h1,λa bg=>?_⟩)) λL jA=>.az jA
    ·have aI:=xf.2.2 h
     have hw:aM (v.Sym - 1000)=v.Sym - 1000:=by rw [dx]; omega
     rw [hw]
     obtain ⟨y,ay,_⟩:=k_ (l:=L) (i:=v.Sym - 1000) (by omega) (by omega)
     rw [ay]
     refine Tot.ax (.az ⟨by rw [List.length_set]; exact h1,λa bg=>?_⟩)
     rw [AJ (by omega)]
     by_cases e:a=(v.Sym - 1000).toNat
     ·rw [if_pos e]
      exact .inl ⟨v,(mem v).2 (.inr rfl),by omega,rfl⟩
     ·rw [if_neg e]
      rcases al a bg with ⟨w,sj,sk,FX⟩ | ⟨sj,sk⟩
      ·exact .inl ⟨w,(mem w).2 (.inl sj),sk,FX⟩
      ·refine .inr ⟨λw hw=>?_,sk⟩
       rcases (mem w).1 hw with hw | rfl
       ·exact sj w hw
       ·omega
    ·rcases al a bg with ⟨w,sj,sk,FX⟩ | ⟨sj,sk⟩
     ·exact .inl ⟨w,(mem w).2 (.inl sj),sk,FX⟩
     ·refine .inr ⟨λw hw=>?_,sk⟩
      rcases (mem w).1 hw with hw | rfl
      ·exact sj w hw
      ·omega
   ·have e:st.di.take ae=st.di:=List.take_of_length_le (by omega)
    rw [e] at al
    show L=oO g m k
    refine List.ext_getElem? λa=>?_
    unfold oO
    by_cases bg:a<g.bw.length
    ·rw [List.getElem?_map,List.getElem?_range bg]
     have Cc:=(go_eq hm k (1000+(a:Int))).2
     show _=some (go m k (1000+(a:Int)))
     rcases al a bg with ⟨v,oc,pK,R6⟩ | ⟨oc,pK⟩
     ·rw [R6]
      rcases Cc with ⟨_,b3⟩ | ⟨De,w,b3,c3,eg,kn⟩
      ·exact absurd pK (b3 st cd v oc)
      ·rw [cd] at b3; cases b3
       have:v=w:=by
        obtain ⟨i,hi,rfl⟩:=List.mem_iff_getElem.1 oc
        obtain ⟨xi,VC,rfl⟩:=List.mem_iff_getElem.1 c3
        have key:i=xi:=by
         by_cases c1:i<xi
         ·have:=List.pairwise_iff_getElem.1 ga i xi (by rw [List.length_map]; omega) (by rw [List.length_map]; omega) c1
          rw [List.getElem_map,List.getElem_map] at this
          exact absurd (pK.trans eg.symm) this
         ·by_cases c2:xi<i
          ·have:=List.pairwise_iff_getElem.1 ga xi i (by rw [List.length_map]; omega) (by rw [List.length_map]; omega) c2
           rw [List.getElem_map,List.getElem_map] at this
           exact absurd (eg.trans pK.symm) this
          ·omega
        subst key; rfl
       rw [kn,this]
     ·rw [pK]
      rcases Cc with ⟨b3,_⟩ | ⟨De,w,b3,c3,eg,kn⟩
      ·rw [b3]
      ·rw [cd] at b3; cases b3
       exact absurd eg (oc w c3)
    ·rw [List.getElem?_eq_none (by omega),List.getElem?_eq_none (by simp; omega)]
  ·subst jA
   refine .aK (Ξ:=λ_=>True) (Tot.ap (by simp [lim]; omega) trivial) λ_ _=>?_
   refine .aK (Ξ:=λr=>r=List.replicate g.a'.length (⟨0,0⟩:Act)) (Tot.mk (by simp [lim]; omega) (by simp)) λqQ gE=>?_
   subst gE
   refine .aK (Ξ:=λ_=>True) (Tot.ap (by simp [lim]; omega) trivial) λ_ _=>.az ⟨bd,rfl,?_,?_⟩
   ·show _=(List.range (k+1)).map _
    rw [List.range_succ,List.map_append]; rfl
   ·show _=(List.range (k+1)).map _
    rw [List.range_succ,List.map_append]; rfl
 ·have:k=m.length:=by omega
  subst this
  exact ⟨rfl,rfl⟩
theorem NB {cs:List Cell}{k:Nat}(h:k<cs.length) (q:Nat):fN (cs.take (k+1)) q=fN (cs.take k) q++(if cs[k].State=(q:Int) then [cs[k]] else []):=by
 unfold fN
 rw [Dh h]
 by_cases e:cs[k].State=(q:Int) <;> simp [e]
theorem N' (g:bZ) (l:List Cell) (c:Cell):hj g (l++[c])=hj g l++px g c:=by
 unfold hj
 rw [List.flatMap_append]; simp
theorem rS (g:bZ) (m:List State) (cs:List Cell) (dW:x3 g m cs):Tot (vF g m cs) λr=>x5 g m cs r.1/\r.2=hj g cs:=by
 obtain ⟨a7,hm,ab⟩:=dW
 have aG:=a7.kA
 have xa:=hm.lu
 have y8:=ab.n
 unfold vF
 refine .aK (NZ g a7 hm) λd aV=>?_
 obtain ⟨Ca,Rh⟩:=aV
 refine .aK (Ξ:=λr:List (List Act) × List eF=>r.1=(List.range m.length).map (λq=>rowOf g (fN cs q))/\r.2=hj g cs) ?_ λr aw=>.az ⟨⟨aw.1,Rh⟩,aw.2⟩
 rw [Ca]
 refine Tot.upto (λs=>s.2.2) cs.length (λk s=>s.1=(List.range m.length).map (λq=>rowOf g (fN (cs.take k) q))/\s.2.1=hj g (cs.take k)) rfl (by omega) ⟨by simp [fN,rowOf],by simp [hj]⟩ λk s hk he bs=>?_
 obtain ⟨A,C,i⟩:=s
 obtain ⟨h1,al⟩:=bs
 simp only at he h1 al ⊢
 subst he h1 al
 rw [eN k (by omega)]
 refine Tot.b6 (λbd=>?_) (λeb=>.az ?_)
 ·have bd:k<cs.length:=by omega
  have fT:=kb bd
  have fS:=NB bd
  have eA:=ab.ok _ (List.getElem_mem bd)
  have hK:(hj g (cs.take k)).length<=360000:=by
   have h1:=BB a7 (l:=cs.take k) λc mF=>ab.ok c (List.mem_of_mem_take mF)
   rw [List.length_take] at h1
   omega
  rw [et bd]
  generalize cs[k]=c at *
  have cd:=eA.s
  have nC:=C7 g (fN (cs.take k) c.State.toNat)
  have Pq:idx ((List.range m.length).map λq=>rowOf g (fN (cs.take k) q)) c.State=some (rowOf g (fN (cs.take k) c.State.toNat)):=by
   unfold idx
   rw [if_pos cd.1,List.getElem?_map,List.getElem?_range (by omega)]; rfl
  obtain ⟨a0,gI,_⟩:=k_ (l:=rowOf g (fN (cs.take k) c.State.toNat)) (i:=c.bJ) eA.t.1 (by rw [nC]; exact eA.t.2)
  have Jh:((List.range m.length).map λq=>rowOf g (fN (cs.take k) q)).set c.State.toNat ((rowOf g (fN (cs.take k) c.State.toNat)).set c.bJ.toNat (ki g c))=(List.range m.length).map λq=>rowOf g (fN (cs.take (k+1)) q):=by
   refine List.ext_getElem? λq=>?_
   rw [AJ (by simp; omega),List.getElem?_map,List.getElem?_map]
   by_cases e:q=c.State.toNat
   ·rw [if_pos e,e,List.getElem?_range (by omega)]
    show _=some (rowOf g (fN (cs.take (k+1)) c.State.toNat))
    rw [fS,if_pos (by omega),LP]
   ·rw [if_neg e]
    by_cases bP:q<m.length
    ·rw [List.getElem?_range bP]
     show some (rowOf g (fN (cs.take k) q))=some (rowOf g (fN (cs.take (k+1)) q))
     rw [fS,if_neg (by omega),List.append_nil]
    ·rw [List.getElem?_eq_none (by simp; omega)]; rfl
  have B7:=eA.len a7
  simp only [Option.bind_some,Pj g a7 c eA,Pq,gI]
  refine .aK (Ξ:=λr:List (List Act) × List eF=>r.1=(List.range m.length).map (λq=>rowOf g (fN (cs.take (k+1)) q))/\r.2=hj g (cs.take (k+1))) ?_ λr aw=>.az ⟨bd,rfl,aw⟩
  rw [fT,N',<- fT]
  cases c6:c.aY with
  | nil =>
   refine Tot.b6 (λ_=>.az ⟨Jh,?_⟩) (λh=>absurd rfl h)
   show hj g (cs.take k)=_
   unfold px
   rw [c6,List.append_nil]
  | cons p r =>
   have E3:=eA.p
   rw [c6] at E3 B7
   rw [List.length_cons] at B7
   have Fz:=Io E3
   refine Tot.b6 (λh=>by rw [List.length_cons] at h; omega) (λ_=>?_)
   rw [IE p r (by omega) E3]
   refine Tot.ax (.aK (Ξ:=λl:List eF=>l=hj g (cs.take k)++r.map (λx=>(⟨c.State,c.bJ,p,x⟩:eF))) ?_ λl ao=>?_)
   ·refine Tot.upto (λs=>s.2) (p::r).length (λae s=>s.1=hj g (cs.take k)++(r.take (ae - 1)).map (λx=>(⟨c.State,c.bJ,p,x⟩:eF))) rfl (by rw [List.length_cons]; omega) (by simp) λae s aa he bs=>?_
    obtain ⟨L,i⟩:=s
    simp only at he bs ⊢
    subst he bs
    rw [eN ae (by rw [List.length_cons] at aa; omega)]
    refine Tot.b6 (λdZ=>?_) (λeb=>.az ?_)
    ·have dZ:ae<(p::r).length:=by omega
     rw [et dZ]
     simp only [Option.bind_some]
     refine .aK (Ξ:=λl:List eF=>l=hj g (cs.take k)++(r.take (ae+1 - 1)).map (λx=>(⟨c.State,c.bJ,p,x⟩:eF))) ?_ λl ao=>.az ⟨dZ,rfl,ao⟩
     cases ae with
     | zero =>
      refine .aK (Ξ:=λl:List eF=>l=hj g (cs.take k)++(r.take (0+1 - 1)).map (λx=>(⟨c.State,c.bJ,p,x⟩:eF))) (Tot.qZ (λh=>absurd rfl h) (λ_=>.az ?_)) λl ao=>.az ao
      simp
     | succ ae =>
      rw [List.length_cons] at dZ
      have Ku:ae<r.length:=by omega
      have ez:=Fz _ (List.getElem_mem Ku)
      rw [List.getElem_cons_succ]
      have hZ:=kb Ku
      refine .aK (Ξ:=λl:List eF=>l=hj g (cs.take k)++(r.take (ae+1+1 - 1)).map (λx=>(⟨c.State,c.bJ,p,x⟩:eF))) (Tot.qZ (λ_=>?_) (λh=>by omega)) λl ao=>.az ao
      refine .aK (Ξ:=λ_=>True) (Tot.ap (by simp [lim]; omega) trivial) λ_ _=>.az ?_
      rw [Nat.add_sub_cancel,Nat.add_sub_cancel,hZ,List.map_append,List.append_assoc]; rfl
    ·rw [List.length_cons] at eb aa
     have e:r.take (ae - 1)=r:=List.take_of_length_le (by omega)
     rw [e]; rfl
   ·subst ao
    refine .aK (Ξ:=λl:List eF=>l=hj g (cs.take k)++px g c) ?_ λl ao=>.az ⟨Jh,ao⟩
    unfold px D6
    rw [c6]
    simp only
    refine Tot.b6 (λh=>?_) (λh=>.az ?_)
    ·rw [if_pos h]
     refine .aK (Ξ:=λ_=>True) (Tot.ap (by simp [lim]; omega) trivial) λ_ _=>.az (by rw [List.append_assoc])
    ·rw [if_neg h,List.append_nil]
 ·have e:cs.take k=cs:=List.take_of_length_le (by omega)
  rw [e]
  exact ⟨rfl,rfl⟩
theorem Bx (P:List fZ) (i:Int) (h:P.length<=1000000):Tot (LB P i) λr=>(∃ v,(⟨i,v⟩:fZ)∈P/\r=(v,true))\/((∀ v,(⟨i,v⟩:fZ)∉P)/\r=(0,false)):=by
 unfold LB
 refine .aK (Ξ:=jv (λ_=>∀ v,(⟨i,v⟩:fZ)∉P) (λr:Int × Bool=>∃ v,(⟨i,v⟩:fZ)∈P/\r=(v,true))) ?_ λx J=>?_
 ·refine Tot.upto (λs=>s) P.length (λk _=>∀ v,(⟨i,v⟩:fZ)∉P.take k) rfl (by omega) (by simp) λk s hk he bs=>?_
  subst he
  rw [eN k (by omega)]
  refine Tot.b6 (λbd=>?_) (λ_=>.az ?_)
  ·have bd:k<P.length:=by omega
   have fT:=kb bd
   have hm:=List.getElem_mem bd
   simp only [et bd,Option.bind_some]
   generalize P[k]=p at *
   refine Tot.b6 (λe=>.az ⟨p.wD,by rw [<- e]; exact hm,rfl⟩) (λe=>.az ⟨bd,rfl,λv hv=>?_⟩)
   rw [fT,List.mem_append,List.mem_singleton] at hv
   rcases hv with hv | hv
   ·exact bs v hv
   ·exact e (by rw [<- hv])
  ·have e:P.take k=P:=List.take_of_length_le (by omega)
   rw [e] at bs
   exact bs
 ·rcases x with x | x
  ·exact .az (.inr ⟨J,rfl⟩)
  ·exact .az (.inl J)
theorem wM (r:List Act) (n:Int) (h:r.length<=100000):GP r n=some ((red r).count n:Int):=by
 suffices aP:Tot (GP r n) λz=>z=((red r).count n:Int) by
  obtain ⟨z,bG,e⟩:=aP; rw [bG,e]
 unfold GP
 refine .aK (Ξ:=λz:Int=>z=((red r).count n:Int)) ?_ λz bG=>.az bG
 refine Tot.upto (λs=>s.2) r.length (λk s=>s.1=((red (r.take k)).count n:Int)) rfl (by omega) (by simp [red]) λk s hk he bs=>?_
 obtain ⟨z,i⟩:=s
 simp only at he bs ⊢
 subst he bs
 rw [eN k (by omega)]
 refine Tot.b6 (λbd=>?_) (λeb=>.az ?_)
 ·have bd:k<r.length:=by omega
  have fT:=kb bd
  have h1:=List.count_le_length (a:=n) (l:=red (r.take k))
  have al:=C3 (r.take k)
  rw [List.length_take] at al
  simp only [et bd,Option.bind_some]
  generalize r[k]=a at *
  refine .aK (Ξ:=λz:Int=>z=((red (r.take (k+1))).count n:Int)) ?_ λz bG=>.az ⟨bd,rfl,bG⟩
  rw [fT,G7]
  refine .aK (Ξ:=λc:Bool=>c=decide (a.Kind=2/\a.N=n)) (Tot.b6 (λh=>.az ?_) (λh=>.az ?_)) λc ab=>?_
  ·exact decide_eq_decide.2 ⟨λaT=>⟨h,aT⟩,λaT=>aT.2⟩
  ·exact (decide_eq_false λaT=>h aT.1).symm
  subst ab
  refine .aK (Ξ:=λz:Int=>z=((red (r.take k)++if a.Kind=2 then [a.N] else []).count n:Int)) (Tot.b6 (λh=>.az ?_) (λh=>.az ?_)) λz bG=>.az bG
  ·rw [if_pos h.1,rV,if_pos h.2,eN _ (by omega)]
  ·by_cases aR:a.Kind=2
   ·rw [if_pos aR,rV,if_neg λaT=>h ⟨aR,aT⟩]; rfl
   ·rw [if_neg aR,List.append_nil]
 ·have e:r.take k=r:=List.take_of_length_le (by omega)
  rw [e]; rfl
def nc (l:List eF):Nat:=(l.filter λc=>decide (c.gd=-1)).length
theorem By (l:List eF) (ao:l.length<=1000000):xE l=some ((nc l:Int),((l.length - nc l:Nat):Int)):=by
 suffices aP:Tot (xE l) λr=>r=((nc l:Int),((l.length - nc l:Nat):Int)) by
  obtain ⟨r,aw,e⟩:=aP; rw [aw,e]
 have hk:nc l<=l.length:=List.length_filter_le ..
 unfold xE
 refine .aK (Ξ:=λz:Int=>z=(nc l:Int)) ?_ λz bG=>?_
 ·refine Tot.upto (λs=>s.2) l.length (λk s=>s.1=(nc (l.take k):Int)) rfl (by omega) rfl λk s hk he bs=>?_
  obtain ⟨z,i⟩:=s
  simp only at he bs ⊢
  subst he bs
  rw [eN k (by omega)]
  refine Tot.b6 (λbd=>?_) (λeb=>.az ?_)
  ·have bd:k<l.length:=by omega
   have sd:=Dh bd (λc:eF=>decide (c.gd=-1))
   have ts:nc (l.take k)<=k:=by
    have:=List.length_filter_le (λc:eF=>decide (c.gd=-1)) (l.take k)
    rw [List.length_take] at this
    unfold nc; omega
   rw [et bd]
   generalize l[k]=c at *
   simp only [Option.bind_some]
   refine .aK (Ξ:=λz:Int=>z=(nc (l.take (k+1)):Int)) ?_ λr aw=>.az ⟨bd,rfl,aw⟩
   have e:nc (l.take (k+1))=nc (l.take k)+(if c.gd=-1 then 1 else 0):=by
    unfold nc
    rw [sd]
    by_cases h:c.gd=-1 <;> simp [h]
   rw [e]
   refine .aK (Ξ:=λz:Int=>z=((nc (l.take k)+(if c.gd=-1 then 1 else 0):Nat):Int)) (Tot.b6 (λh=>.az ?_) (λh=>.az ?_)) λr aw=>.az aw
   ·rw [if_pos h,eN _ (by omega)]
   ·rw [if_neg h]; rfl
  ·have e:l.take k=l:=List.take_of_length_le (by omega)
   rw [e]; rfl
 ·subst bG
  refine .az ?_
  have:aM ((l.length:Int) - (nc l:Int))=((l.length - nc l:Nat):Int):=by rw [dx]; omega
  rw [this]
theorem JH (g:bZ) {i:Nat}:∀ (l:List Cell) (r:List Act),(∀ c∈l,c.bJ.toNat≠i)->(l.foldl (λrow c=>row.set c.bJ.toNat (ki g c)) r)[i]?=r[i]?
 | [],_,_=>rfl
 | c::l,r,h=>by
  rw [List.foldl_cons,JH g l _ λd aV=>h d (by simp [aV]),List.getElem?_set]
  rw [if_neg (h c (by simp))]
theorem JG (g:bZ) {c:Cell}:∀ (l:List Cell) (r:List Act),c∈l->l.Pairwise (λa b=>a.bJ.toNat≠b.bJ.toNat)->c.bJ.toNat<r.length->(l.foldl (λrow c=>row.set c.bJ.toNat (ki g c)) r)[c.bJ.toNat]?=some (ki g c)
 | [],_,h,_,_=>by cases h
 | d::l,r,h,aF,ao=>by
  obtain ⟨h1,al⟩:=List.pairwise_cons.1 aF
  rw [List.foldl_cons]
  rcases List.mem_cons.1 h with rfl | h
  ·rw [JH g l _ λe he=>(h1 e he).symm,List.getElem?_set,if_pos rfl,if_pos ao]
  ·exact JG g l _ h al (by rw [List.length_set]; exact ao)
theorem NC {g:bZ}{n:Nat}{cs:List Cell}(ab:ui g n cs) (q:Nat):(fN cs q).Pairwise λa b=>a.bJ.toNat≠b.bJ.toNat:=by
 unfold fN
 refine List.Pairwise.imp_of_mem (λ{a b} bg aI h=>?_) (List.Pairwise.sublist List.filter_sublist ab.Td)
 rw [List.mem_filter] at bg aI
 have h1:=of_decide_eq_true bg.2
 have al:=of_decide_eq_true aI.2
 have aR:=(ab.ok a bg.1).t
 have b3:=(ab.ok b aI.1).t
 rcases h with h | h <;> omega
theorem M6 {g:bZ}{m:List State}{cs:List Cell}{d:jG}(dW:x3 g m cs) (h:x5 g m cs d) {c:Cell}(mF:c∈cs):∃ row,idx d.eV c.State=some row/\row.length=g.a'.length/\idx row c.bJ=some (ki g c):=by
 have eA:=dW.ce.ok c mF
 have aP:=eA.s
 have aG:=eA.t
 refine ⟨rowOf g (fN cs c.State.toNat),?_,C7 g _,?_⟩
 ·rw [h.a]
  unfold idx
  rw [if_pos aP.1,List.getElem?_map,List.getElem?_range (by omega)]; rfl
 ·unfold idx
  rw [if_pos aG.1]
  unfold rowOf
  refine JG g _ _ ?_ (NC dW.ce _) (by simp; omega)
  unfold fN
  rw [List.mem_filter]
  exact ⟨mF,decide_eq_true (by omega)⟩
theorem Pg (c:Cell) (ao:c.aY.length<=1000):Aa c=some (kz c:Int):=Mr ao (by unfold Aa; rfl)
theorem ym {g:bZ}(a7:gH g) {n:Nat}{cs:List Cell}(ab:ui g n cs):Tot (Ac cs) λr=>r=((cs.filter λc=>decide (1<kz c)).length:Int):=by
 unfold Ac
 exact .aK (LJ a7 ab Pg) λr aw=>.az aw
theorem Lp {g:bZ}{c:Cell}(h:kz c=1):px g c=[]/\((c.aY=[]/\c.ff<0/\c.hD=true/\ki g c=⟨3,0⟩)\/(c.aY=[]/\0<=c.ff/\c.hD=false/\ki g c=⟨1,c.ff⟩)\/∃ p,c.aY=[p]/\ki g c=⟨2,p⟩):=by
 unfold kz at h
 unfold px ki
 cases c6:c.aY with
 | nil =>
  rw [c6] at h
  refine ⟨rfl,?_⟩
  simp only
  by_cases h1:c.hD=true
  ·rw [if_pos h1] at h
   by_cases al:0<=c.ff
   ·rw [if_pos al] at h; simp at h
   ·exact .inl ⟨trivial,by omega,h1,by rw [if_pos h1]⟩
  ·rw [if_neg h1] at h
   by_cases al:0<=c.ff
   ·exact .inr (.inl ⟨trivial,al,by simpa using h1,by rw [if_neg h1]⟩)
   ·rw [if_neg al] at h; simp at h
 | cons p r =>
  rw [c6,List.length_cons] at h
  have h1:c.hD≠true:=λe=>by rw [if_pos e] at h; omega
  have al:¬ 0<=c.ff:=λe=>by rw [if_pos e] at h; omega
  have aw:r=[]:=List.eq_nil_of_length_eq_zero (by omega)
  subst aw
  simp only
  refine ⟨by simp [h1,al],.inr (.inr ⟨p,rfl,?_⟩)⟩
  rw [if_neg h1,if_pos (by omega)]
theorem t11 (x:qL):zX x=some true:=by
 suffices h:Tot (zX x) λr=>r=true by
  obtain ⟨r,aw,e⟩:=h; rw [aw,e]
 unfold zX
 rw [UD]
 refine Tot.ax (.aK (t20 x) λy aI=>.aK (ID y aI) λd aV=>Tot.cv (λ_=>.az rfl) (λh=>?_))
 have dW:=aV (by simpa using h)
 generalize d.1=g at *
 generalize d.2.1=m at *
 generalize d.2.2.1=cs at *
 have xa:=dW.S3.lu
 have aG:=dW.tf.kA
 have y8:=dW.ce.n
 refine .aK (rS g m cs dW) λr aw=>.aK (ym dW.tf dW.ce) λz bG=>?_
 obtain ⟨pD,w1⟩:=aw
 have r9:r.1.eV.length=m.length:=by rw [pD.a]; simp
 subst bG
 refine Tot.b6 (λ_=>.az (by rw [r9]; simp)) (λgY=>?_)
 have gx:∀ c∈cs,kz c=1:=λc ab=>by
  have bc:=(dW.ce.ok c ab).Mq
  by_cases e:1<kz c
  ·have:c∈cs.filter λc=>decide (1<kz c):=by rw [List.mem_filter]; exact ⟨ab,decide_eq_true e⟩
   have:=List.length_pos_of_mem this
   omega
  ·omega
 refine .aK (Ξ:=jv (λ_=>True) (λ_:Bool=>False)) ?_ λx J=>?_
 ·refine Tot.upto (λs=>s) cs.length (λ_ _=>True) rfl (by omega) trivial λk i hk he _=>?_
  subst he
  rw [eN k (by omega)]
  refine Tot.b6 (λbd=>?_) (λ_=>.az trivial)
  have bd:k<cs.length:=by omega
  have mF:=List.getElem_mem bd
  simp only [et bd,Option.bind_some]
  generalize cs[k]=c at *
  have eA:=dW.ce.ok c mF
  have aP:=eA.s
  have fT:=eA.t
  obtain ⟨row,Py,nC,gI⟩:=M6 dW pD mF
  obtain ⟨_,h1⟩:=Lp (g:=g) (gx c mF)
  refine .aK (Ξ:=λae:Int × Int=>ae=(if 0<=c.ff then (1,c.ff) else (3,0))) (Tot.b6 (λh=>.az (if_pos h).symm) (λh=>.az (if_neg h).symm)) λae aa=>?_
  refine .aK (Ξ:=λae:Int × Int=>ae=((ki g c).Kind,(ki g c).N)) ?_ λsn rb=>?_
  ·rcases h1 with ⟨al,aR,b3,c3⟩ | ⟨al,aR,b3,c3⟩ | ⟨p,al,c3⟩
   ·rw [al,c3]
    refine Tot.b6 (λh=>by simp at h) (λ_=>.az ?_)
    rw [aa,if_neg (by omega)]
   ·rw [al,c3]
    refine Tot.b6 (λh=>by simp at h) (λ_=>.az ?_)
    rw [aa,if_pos aR]
   ·rw [al,c3]
    exact Tot.b6 (λ_=>.az rfl) (λh=>absurd (by simp) h)
  ·subst rb
   refine .aK (Ξ:=λc=>c=false) ?_ λc ab=>?_
   ·refine Tot.b6 (λh=>by omega) (λ_=>?_)
    rw [Py]
    simp only [Option.bind_some]
    refine Tot.b6 (λh=>by omega) (λ_=>?_)
    rw [gI]
    exact ⟨false,by simp,rfl⟩
   ·subst ab
    exact .az ⟨bd,rfl,trivial⟩
 ·rcases x with x | x
  ·refine .az ?_
   have:hj g cs=[]:=by
    unfold hj
    rw [List.flatMap_eq_nil_iff]
    exact λc ab=>(Lp (gx c ab)).1
   rw [w1,this]; rfl
  ·exact J.elim
end Go.Proofs
namespace Go.Own
open Go
section
variable {P:Program}{N:dE}{ops:Array Oper}{cc:List (List Nat)}{g g0:aU}{K:aU->Prop}{l:List Oper}{acc:Acc}{d i ae dh:Nat}{op:Op}{ty:TypeId}{pos:String}{after:Array Edge}{x:ag}{b c:Bool}
theorem cH (aI:c=!b) (hk:ar P N ops l (e2 g d (.cw [])) K) (h:(ops[ae]?).bind (·.dst)=some dh:=by rfl) (a7:g dh=some (.lit (.bool c)):=by rfl) (bY:N.ok d=true:=by rfl) (bj:g d=none:=by rfl):ar P N ops (⟨some d,op,ty,pos,after,some (ae,b)⟩::l) g K:=.ps h a7 aI bY bj hk
theorem hb (hk:ar P N ops l (e2 g d (.cw [])) K) (h:(ops[ae]?).bind (·.dst)=some dh:=by rfl) (a7:g dh=some (.cw []):=by rfl) (bY:N.ok d=true:=by rfl) (bj:g d=none:=by rfl):ar P N ops (⟨some d,op,ty,pos,after,some (ae,b)⟩::l) g K:=.pu h a7 bY bj hk
theorem a1 (aI:c=b) (aF:dr P g op ty x) (hk:ar P N ops l (e2 g d x) K) (h:(ops[ae]?).bind (·.dst)=some dh:=by rfl) (a7:g dh=some (.lit (.bool c)):=by rfl) (bY:N.ok d=true:=by rfl) (bj:g d=none:=by rfl):ar P N ops (⟨some d,op,ty,pos,after,some (ae,b)⟩::l) g K:=.v aF bY bj (.jS h a7 aI) hk
theorem MW (hk:ar P N ops l (e2 g d (.cw [])) K) (h:(ops[ae]?).bind (·.dst)=some dh:=by rfl) (a7:g dh=some (.lit (.bool c)):=by rfl) (aI:c=!b:=by assumption) (bY:N.ok d=true:=by rfl) (bj:g d=none:=by rfl):ar P N ops (⟨some d,op,ty,pos,after,some (ae,b)⟩::l) g K:=.ps h a7 aI bY bj hk
theorem fx (aF:dr P g op ty x) (hk:ar P N ops l (e2 g d x) K) (h:(ops[ae]?).bind (·.dst)=some dh:=by rfl) (a7:g dh=some (.lit (.bool c)):=by rfl) (aI:c=b:=by assumption) (bY:N.ok d=true:=by rfl) (bj:g d=none:=by rfl):ar P N ops (⟨some d,op,ty,pos,after,some (ae,b)⟩::l) g K:=.v aF bY bj (.jS h a7 aI) hk
theorem aH (dp:Nat) (aI:c=!b) (hk:bV P N ops cc g0 i ((dp,d,some (.cw []))::acc) l K) (h:(ops[ae]?).bind (·.dst)=some dh:=by rfl) (a7:nN cc g0 dp acc dh=some (ba c):=by rfl) (aa:Nat.beq ops.size (dp+l.length+1)=true:=by rfl) (bj:g0 d=none:=by rfl) (aN:acc.all (λe=>!Nat.beq e.2.1 d)=true:=by rfl) (bY:N.ok d=true:=by rfl):bV P N ops cc g0 i acc (⟨some d,op,ty,pos,after,some (ae,b)⟩::l) K:=.ps dp h a7 aI aa bj aN bY hk
theorem fw (dp:Nat) (hk:bV P N ops cc g0 i ((dp,d,some (.cw []))::acc) l K) (h:(ops[ae]?).bind (·.dst)=some dh:=by rfl) (a7:nN cc g0 dp acc dh=some (.cw []):=by rfl) (aa:Nat.beq ops.size (dp+l.length+1)=true:=by rfl) (bj:g0 d=none:=by rfl) (aN:acc.all (λe=>!Nat.beq e.2.1 d)=true:=by rfl) (bY:N.ok d=true:=by rfl):bV P N ops cc g0 i acc (⟨some d,op,ty,pos,after,some (ae,b)⟩::l) K:=.pu dp h a7 aa bj aN bY hk
theorem bx (dp:Nat) (aI:c=b) (aF:dr P (nN cc g0 dp acc) op ty x) (hk:bV P N ops cc g0 i ((dp,d,some x)::acc) l K) (h:(ops[ae]?).bind (·.dst)=some dh:=by rfl) (a7:nN cc g0 dp acc dh=some (.lit (.bool c)):=by rfl) (aa:Nat.beq ops.size (dp+l.length+1)=true:=by rfl) (bj:g0 d=none:=by rfl) (aN:acc.all (λe=>!Nat.beq e.2.1 d)=true:=by rfl) (bY:N.ok d=true:=by rfl):bV P N ops cc g0 i acc (⟨some d,op,ty,pos,after,some (ae,b)⟩::l) K:=.v dp aF aa bj aN bY (.jS h a7 aI) hk
end
section
variable {P:Program}{N:dE}{ops:Array Oper}{g:aU}{K:aU->Prop}{l:List Oper}{A B:Code}{G G1:List (Nat × ag)}{Φ:Exit->aU->Prop}{t id:Nat}{b:Bool}{α:Type}{X Y o:α}
theorem W.bH (h:(bif b then X else Y)=o) (ab:get G t=some (ba b)) (fF:b=true->X=o->W P N A (get G) Φ) (aQ:b=false->Y=o->W P N B (get G) Φ):W P N (.cond (.tmp t) A B) (get G) Φ:=W.cI ab (λe=>fF e (Oc e h)) (λe=>aQ e (Ob e h))
def pick (g:aU):List Nat->Option (List (Nat × ag))
 | []=>some []
 | k::ks=>match g k with
  | some x=>match pick g ks with
   | some l=>some ((k,x)::l)
   | none=>none
  | none=>none
class x9 (l:List (Nat × ag)):Prop where p:∀ e∈l,c' e.2
instance:x9 []:=⟨λ_ h=>by cases h⟩
instance {k:Nat}{x:ag}{l:List (Nat × ag)} [h:cP x] [ao:x9 l]:x9 ((k,x)::l):=⟨λe he=>by
 rcases List.mem_cons.1 he with rfl | he
 ·exact h.bI
 ·exact ao.p e he⟩
theorem G0 {c:Bool}{g g2:aU}:∀ {ks:List Nat}{G1:List (Nat × ag)},pick g ks=some G1->(∀ e∈G1,c' e.2)->Trim c g g2 G1
 | [],_,h,_=>by cases h; exact .nil
 | k::ks,G1,h,aN=>by
  unfold pick at h
  split at h
  ·rename_i x J
   split at h
   ·rename_i l ao
    cases h
    have:cP x:=⟨aN (k,x) (by simp)⟩
    exact .n J (G0 ao λe he=>aN e (by simp [he]))
   ·cases h
  ·cases h
structure wu (ks:List Nat) (G1:List (Nat × ag)) (g':aU):Prop where p:kF g' (get G1)
theorem bR {ks:List Nat}(h:pick g ks=some G1) [aN:x9 G1]:ar P N ops [] g (wu ks G1):=.nil ⟨(G0 (c:=true) (g2:=get G1) h aN.p).fW⟩
theorem La {l:List Oper}{ks:List Nat}(h:ar P N l.toArray l g (wu ks G1)):ar P N l.toArray l g λg'=>kF g' (get G1):=λi hi=>by
 obtain ⟨g',h1,al⟩:=h i hi
 exact ⟨g',h1,al.p⟩
theorem ar.bp (ks:List Nat) (h:pick g ks=some G1) [aN:x9 G1] (hk:ar P N ops l (get G1) K):ar P N ops l g K:=.TD (G0 h aN.p) hk
theorem W.bp {l:List Oper}(ks:List Nat) (h:ar P N l.toArray l (get G) (wu ks G1)) (hk:ai .normal Φ G1):W P N (.region id l.toArray false) (get G) Φ:=W.rx G1 (La h) hk
theorem W.rs {l:List Oper}(G1:List (Nat × ag)) (h:ar P N l.toArray l (get G) λg'=>kF g' (get G1)) (hk:W P N B (get G1) Φ):W P N (.seq (.region id l.toArray false) B) (get G) Φ:=W.bb (W.rx G1 h (ai.a_ hk))
theorem W.bM {l:List Oper}(ks:List Nat) (h:ar P N l.toArray l (get G) (wu ks G1)) (hk:W P N B (get G1) Φ):W P N (.seq (.region id l.toArray false) B) (get G) Φ:=W.rs G1 (La h) hk
end
end Go.Own
namespace Go.Own
open Go
class gM (P:Program) (t:TypeId):Prop where p:hr P t=true
class rF (P:Program) (t:TypeId):Prop where p:pW P t=true
class gW (P:Program) (t:TypeId) (e:outParam TypeId) (z:outParam Nat):Prop where p:fm P t e z=true
class dy (P:Program) (s:TypeId) (f:Nat) (off:outParam Nat) (t:outParam TypeId):Prop where p:du P s f off t=true
section
variable {P:Program}{N:dE}{ops:Array Oper}{g:aU}{K:aU->Prop}{l:List Oper}{ty t:TypeId}{a:Operand}{k r z n:Nat}{cs jz:List ag}
theorem O.cB {v:Value}(aP:g r=some (.obj cs)) (J:Rd g a (.ptr ⟨r,[]⟩ k)) (aG:hr P t=true) (ab:cs[k]?=some (.lit v)):dr P g (.load t a) ty (.lit v):=O.c9 aP J aG ab rfl
theorem O.xk (aP:g r=some (.obj cs)) (J:Rd g a (.ptr ⟨r,[]⟩ k)) (aG:hr P t=true) (ab:cs[k]?=some (.aD z n jz)):dr P g (.load t a) ty (.aD z n jz):=O.c9 aP J aG ab rfl
theorem O.xl (aP:g r=some (.obj cs)) (J:Rd g a (.ptr ⟨r,[]⟩ k)) (aG:hr P t=true) (ab:cs[k]?=some (.own z n jz)):dr P g (.load t a) ty (.bm z ⟨r,[k]⟩ n):=O.c9 aP J aG ab rfl
end
section
variable {P:Program}{N:dE}{ops:Array Oper}{g:aU}{K:aU->Prop}{l:List Oper}{t0 d:Nat}{t1 t2 ty:TypeId}{av a2 a3:Operand}{lu:Nat}{v0:Value}{pos:String}{after:Array Edge}{op:Op}{U':Nat × Bool}
theorem ar.hC (op:Op) (u:Option (Nat × Bool)) (h:ar P N ops (⟨some d,op,ty,pos,after,u⟩::l) g K):ar P N ops (⟨some d,op,ty,pos,after,u⟩::l) g K:=h
theorem ar.nl (h:ar P N ops [] g K):ar P N ops [] g K:=h
theorem ar.aW (h:ar P N ops l g K:=by
(repeat' (first
 | exact np .nil
 | exact .nil
 | refine .n rfl ?_
 | (first
  | ((with_reducible apply ar.hC (.move (.tmp _)) none); (first | refine br rfl ?_ | refine ah (O.aA (.aD rfl)) ?_ | refine ah (O.aA (.own rfl)) ?_ | refine ah (O.aA (.obj rfl)) ?_ | refine ah (O.aA (.bn rfl)) ?_ | refine ah (O.aA (.ptr rfl)) ?_ | refine ah (O.aA (.bm rfl)) ?_))
  | ((with_reducible apply ar.hC (.load _ _) none); (first | refine ah (O.cB rfl (.ptr rfl) gM.p rfl) ?_ | refine ah (O.c8 (.bn rfl) gM.p rfl) ?_ | refine ah (O.xk rfl (.ptr rfl) gM.p rfl) ?_ | refine ah (O.cB rfl (.obj rfl) gM.p rfl) ?_ | refine ah (O.xk rfl (.obj rfl) gM.p rfl) ?_ | refine ah (O.xl rfl (.ptr rfl) gM.p rfl) ?_ | refine ah (O.xl rfl (.obj rfl) gM.p rfl) ?_))
  | ((with_reducible apply ar.hC (.fieldAddr _ _ _) none); (first | refine ah (O.bk rfl (.obj rfl) dy.p rfl) ?_ | refine ah (O.eP (.bn rfl) dy.p) ?_ | refine ah (O.bk rfl (.ptr rfl) dy.p rfl) ?_))
  | ((with_reducible apply ar.hC (.assign (.tmp _)) none); (first | refine MY rfl ?_ | refine ah (O.dv (.aD rfl)) ?_ | refine ah (O.dv (.own rfl)) ?_ | refine ah (O.dv (.obj rfl)) ?_ | refine ah (O.dv (.bn rfl)) ?_ | refine ah (O.dv (.ptr rfl)) ?_ | refine ah (O.dv (.bm rfl)) ?_))
  | ((with_reducible apply ar.hC (.assign (.const _)) none); (first | refine MZ rfl ?_ | refine ah (O.dv .CF) ?_))
  | ((with_reducible apply ar.hC (.indexAddr _ _ _) none); (first | refine ah (O.cE (.aD rfl) (.lit rfl) gW.p (by assumption)) ?_ | refine ah (O.cE (.aD rfl) (.k rfl) gW.p (by assumption)) ?_))
  | ((with_reducible apply ar.hC (.binOp .add _ _ _ _) none); (first | refine ah (O.add (.lit rfl) (.k rfl)) ?_ | refine ah (O.add (.lit rfl) (.lit rfl)) ?_ | refine ah (O.add (.k rfl) (.lit rfl)) ?_))
  | ((with_reducible apply ar.hC (.binOp .lss _ _ _ _) none); (first | refine ah (O.lss (.lit rfl) (.k rfl)) ?_ | refine ah (O.lss (.lit rfl) (.lit rfl)) ?_ | refine ah (O.lss (.k rfl) (.lit rfl)) ?_))
  | ((with_reducible apply ar.hC (.binOp .eql _ _ _ _) none); (first | refine ah (O.eql (.lit rfl) (.k rfl)) ?_ | refine ah (O.eql (.lit rfl) (.lit rfl)) ?_ | refine ah (O.eql (.k rfl) (.lit rfl)) ?_ | refine ah (O.n0 (.lit rfl) (.lit rfl)) ?_ | refine ah (O.n0 (.lit rfl) (.k rfl)) ?_))
  | ((with_reducible apply ar.hC (.binOp .neq _ _ _ _) none); (first | refine ah (O.neq (.lit rfl) (.k rfl)) ?_ | refine ah (O.neq (.lit rfl) (.lit rfl)) ?_ | refine ah (O.neq (.k rfl) (.lit rfl)) ?_ | refine ah (O.lS (.lit rfl) (.lit rfl)) ?_ | refine ah (O.lS (.lit rfl) (.k rfl)) ?_))
  | ((with_reducible apply ar.hC (.binOp .geq _ _ _ _) none); (first | refine ah (O.geq (.lit rfl) (.k rfl)) ?_ | refine ah (O.geq (.lit rfl) (.lit rfl)) ?_ | refine ah (O.geq (.k rfl) (.lit rfl)) ?_))
  | ((with_reducible apply ar.hC (.binOp .gtr _ _ _ _) none); (first | refine ah (O.gtr (.lit rfl) (.k rfl)) ?_ | refine ah (O.gtr (.lit rfl) (.lit rfl)) ?_ | refine ah (O.gtr (.k rfl) (.lit rfl)) ?_))
  | ((with_reducible apply ar.hC (.binOp .sub _ _ _ _) none); (first | refine ah (O.sub (.lit rfl) (.k rfl)) ?_ | refine ah (O.sub (.lit rfl) (.lit rfl)) ?_ | refine ah (O.sub (.k rfl) (.lit rfl)) ?_))
  | ((with_reducible apply ar.hC (.binOp .leq _ _ _ _) none); (first | refine ah (O.leq (.lit rfl) (.k rfl)) ?_ | refine ah (O.leq (.lit rfl) (.lit rfl)) ?_ | refine ah (O.leq (.k rfl) (.lit rfl)) ?_))
  | ((with_reducible apply ar.hC (.pick _ _ _) none); (first | refine ah (O.eu (.lit rfl) rfl (.lit rfl)) ?_ | refine ah (O.cC (.lit rfl) rfl (.lit rfl)) ?_ | refine ah (O.eu (.lit rfl) rfl (.k rfl)) ?_ | refine ah (O.cC (.lit rfl) rfl (.k rfl)) ?_ | refine ah (O.eu (.lit rfl) (by assumption) (.lit rfl)) ?_ | refine ah (O.cC (.lit rfl) (by assumption) (.lit rfl)) ?_ | refine ah (O.eu (.lit rfl) (by assumption) (.k rfl)) ?_ | refine ah (O.cC (.lit rfl) (by assumption) (.k rfl)) ?_))
  | ((with_reducible apply ar.hC (.call { callee:=.builtin .len,args:=#[_],argTypes:=#[_] }) none); (first | refine ah (O.gz (.aD rfl) gW.p) ?_ | refine ah (O.o2 (.bm rfl) gW.p) ?_ | refine ah (O.o2 (.own rfl) gW.p) ?_ | refine ah (O.mo (.lit rfl) rF.p) ?_))
  | ((with_reducible apply ar.hC (.unOp .not _ _) none); (first | refine ah (O.not (.lit rfl)) ?_))
  | ((with_reducible apply ar.hC (.nilCheck _) none); (first | refine ah (O.eX (.ptr rfl)) ?_ | refine ah (O.zM (.bn rfl)) ?_ | refine ah (O.eX (.obj rfl)) ?_))
  | ((with_reducible apply ar.hC (.index _ _ _) none); (first | refine ah (O.p4 (.lit rfl) (.lit rfl) rF.p (by assumption)) ?_))
  | ((with_reducible apply ar.hC (.move (.const _)) none); (first | refine ah (O.aA (.k rfl)) ?_ | refine ah (O.aA .CF) ?_)))
 | ((with_reducible apply ar.nl); first | exact bR rfl | refine np ?_)
 | ((with_reducible apply ar.hC _ (some _)); first
  | (first | refine cH rfl ?_ | refine MW ?_ | refine hb ?_)
  | ((with_reducible apply ar.hC (.move (.tmp _)) (some _)); (first | refine a1 rfl (O.aA (.lit rfl)) ?_ | refine fx (O.aA (.lit rfl)) ?_ | refine a1 rfl (O.aA (.aD rfl)) ?_ | refine fx (O.aA (.aD rfl)) ?_ | refine a1 rfl (O.aA (.own rfl)) ?_ | refine fx (O.aA (.own rfl)) ?_ | refine a1 rfl (O.aA (.obj rfl)) ?_ | refine fx (O.aA (.obj rfl)) ?_ | refine a1 rfl (O.aA (.bn rfl)) ?_ | refine fx (O.aA (.bn rfl)) ?_ | refine a1 rfl (O.aA (.ptr rfl)) ?_ | refine fx (O.aA (.ptr rfl)) ?_ | refine a1 rfl (O.aA (.bm rfl)) ?_ | refine fx (O.aA (.bm rfl)) ?_))
  | ((with_reducible apply ar.hC (.load _ _) (some _)); (first | refine a1 rfl (O.cB rfl (.ptr rfl) gM.p rfl) ?_ | refine fx (O.cB rfl (.ptr rfl) gM.p rfl) ?_ | refine a1 rfl (O.c8 (.bn rfl) gM.p rfl) ?_ | refine fx (O.c8 (.bn rfl) gM.p rfl) ?_ | refine a1 rfl (O.xk rfl (.ptr rfl) gM.p rfl) ?_ | refine fx (O.xk rfl (.ptr rfl) gM.p rfl) ?_ | refine a1 rfl (O.cB rfl (.obj rfl) gM.p rfl) ?_ | refine fx (O.cB rfl (.obj rfl) gM.p rfl) ?_ | refine a1 rfl (O.xk rfl (.obj rfl) gM.p rfl) ?_ | refine fx (O.xk rfl (.obj rfl) gM.p rfl) ?_ | refine a1 rfl (O.xl rfl (.ptr rfl) gM.p rfl) ?_ | refine fx (O.xl rfl (.ptr rfl) gM.p rfl) ?_ | refine a1 rfl (O.xl rfl (.obj rfl) gM.p rfl) ?_ | refine fx (O.xl rfl (.obj rfl) gM.p rfl) ?_))
  | ((with_reducible apply ar.hC (.fieldAddr _ _ _) (some _)); (first | refine a1 rfl (O.bk rfl (.obj rfl) dy.p rfl) ?_ | refine fx (O.bk rfl (.obj rfl) dy.p rfl) ?_ | refine a1 rfl (O.eP (.bn rfl) dy.p) ?_ | refine fx (O.eP (.bn rfl) dy.p) ?_ | refine a1 rfl (O.bk rfl (.ptr rfl) dy.p rfl) ?_ | refine fx (O.bk rfl (.ptr rfl) dy.p rfl) ?_))
  | ((with_reducible apply ar.hC (.indexAddr _ _ _) (some _)); (first | refine a1 rfl (O.cE (.aD rfl) (.lit rfl) gW.p (by assumption)) ?_ | refine fx (O.cE (.aD rfl) (.lit rfl) gW.p (by assumption)) ?_ | refine a1 rfl (O.cE (.aD rfl) (.k rfl) gW.p (by assumption)) ?_ | refine fx (O.cE (.aD rfl) (.k rfl) gW.p (by assumption)) ?_))
  | ((with_reducible apply ar.hC (.binOp .add _ _ _ _) (some _)); (first | refine a1 rfl (O.add (.lit rfl) (.k rfl)) ?_ | refine fx (O.add (.lit rfl) (.k rfl)) ?_ | refine a1 rfl (O.add (.lit rfl) (.lit rfl)) ?_ | refine fx (O.add (.lit rfl) (.lit rfl)) ?_ | refine a1 rfl (O.add (.k rfl) (.lit rfl)) ?_ | refine fx (O.add (.k rfl) (.lit rfl)) ?_))
  | ((with_reducible apply ar.hC (.binOp .lss _ _ _ _) (some _)); (first | refine a1 rfl (O.lss (.lit rfl) (.k rfl)) ?_ | refine fx (O.lss (.lit rfl) (.k rfl)) ?_ | refine a1 rfl (O.lss (.lit rfl) (.lit rfl)) ?_ | refine fx (O.lss (.lit rfl) (.lit rfl)) ?_ | refine a1 rfl (O.lss (.k rfl) (.lit rfl)) ?_ | refine fx (O.lss (.k rfl) (.lit rfl)) ?_))
  | ((with_reducible apply ar.hC (.binOp .eql _ _ _ _) (some _)); (first | refine a1 rfl (O.eql (.lit rfl) (.k rfl)) ?_ | refine fx (O.eql (.lit rfl) (.k rfl)) ?_ | refine a1 rfl (O.eql (.lit rfl) (.lit rfl)) ?_ | refine fx (O.eql (.lit rfl) (.lit rfl)) ?_ | refine a1 rfl (O.eql (.k rfl) (.lit rfl)) ?_ | refine fx (O.eql (.k rfl) (.lit rfl)) ?_ | refine a1 rfl (O.n0 (.lit rfl) (.lit rfl)) ?_ | refine fx (O.n0 (.lit rfl) (.lit rfl)) ?_ | refine a1 rfl (O.n0 (.lit rfl) (.k rfl)) ?_ | refine fx (O.n0 (.lit rfl) (.k rfl)) ?_))
  | ((with_reducible apply ar.hC (.binOp .neq _ _ _ _) (some _)); (first | refine a1 rfl (O.neq (.lit rfl) (.k rfl)) ?_ | refine fx (O.neq (.lit rfl) (.k rfl)) ?_ | refine a1 rfl (O.neq (.lit rfl) (.lit rfl)) ?_ | refine fx (O.neq (.lit rfl) (.lit rfl)) ?_ | refine a1 rfl (O.neq (.k rfl) (.lit rfl)) ?_ | refine fx (O.neq (.k rfl) (.lit rfl)) ?_ | refine a1 rfl (O.lS (.lit rfl) (.lit rfl)) ?_ | refine fx (O.lS (.lit rfl) (.lit rfl)) ?_ | refine a1 rfl (O.lS (.lit rfl) (.k rfl)) ?_ | refine fx (O.lS (.lit rfl) (.k rfl)) ?_))
  | ((with_reducible apply ar.hC (.binOp .geq _ _ _ _) (some _)); (first | refine a1 rfl (O.geq (.lit rfl) (.k rfl)) ?_ | refine fx (O.geq (.lit rfl) (.k rfl)) ?_ | refine a1 rfl (O.geq (.lit rfl) (.lit rfl)) ?_ | refine fx (O.geq (.lit rfl) (.lit rfl)) ?_ | refine a1 rfl (O.geq (.k rfl) (.lit rfl)) ?_ | refine fx (O.geq (.k rfl) (.lit rfl)) ?_))
  | ((with_reducible apply ar.hC (.binOp .gtr _ _ _ _) (some _)); (first | refine a1 rfl (O.gtr (.lit rfl) (.k rfl)) ?_ | refine fx (O.gtr (.lit rfl) (.k rfl)) ?_ | refine a1 rfl (O.gtr (.lit rfl) (.lit rfl)) ?_ | refine fx (O.gtr (.lit rfl) (.lit rfl)) ?_ | refine a1 rfl (O.gtr (.k rfl) (.lit rfl)) ?_ | refine fx (O.gtr (.k rfl) (.lit rfl)) ?_))
  | ((with_reducible apply ar.hC (.binOp .sub _ _ _ _) (some _)); (first | refine a1 rfl (O.sub (.lit rfl) (.k rfl)) ?_ | refine fx (O.sub (.lit rfl) (.k rfl)) ?_ | refine a1 rfl (O.sub (.lit rfl) (.lit rfl)) ?_ | refine fx (O.sub (.lit rfl) (.lit rfl)) ?_ | refine a1 rfl (O.sub (.k rfl) (.lit rfl)) ?_ | refine fx (O.sub (.k rfl) (.lit rfl)) ?_))
  | ((with_reducible apply ar.hC (.binOp .leq _ _ _ _) (some _)); (first | refine a1 rfl (O.leq (.lit rfl) (.k rfl)) ?_ | refine fx (O.leq (.lit rfl) (.k rfl)) ?_ | refine a1 rfl (O.leq (.lit rfl) (.lit rfl)) ?_ | refine fx (O.leq (.lit rfl) (.lit rfl)) ?_ | refine a1 rfl (O.leq (.k rfl) (.lit rfl)) ?_ | refine fx (O.leq (.k rfl) (.lit rfl)) ?_))
  | ((with_reducible apply ar.hC (.call { callee:=.builtin .len,args:=#[_],argTypes:=#[_] }) (some _)); (first | refine a1 rfl (O.gz (.aD rfl) gW.p) ?_ | refine fx (O.gz (.aD rfl) gW.p) ?_ | refine a1 rfl (O.o2 (.bm rfl) gW.p) ?_ | refine fx (O.o2 (.bm rfl) gW.p) ?_ | refine a1 rfl (O.o2 (.own rfl) gW.p) ?_ | refine fx (O.o2 (.own rfl) gW.p) ?_ | refine a1 rfl (O.mo (.lit rfl) rF.p) ?_ | refine fx (O.mo (.lit rfl) rF.p) ?_))
  | ((with_reducible apply ar.hC (.unOp .not _ _) (some _)); (first | refine a1 rfl (O.not (.lit rfl)) ?_ | refine fx (O.not (.lit rfl)) ?_))
  | ((with_reducible apply ar.hC (.nilCheck _) (some _)); (first | refine a1 rfl (O.eX (.ptr rfl)) ?_ | refine fx (O.eX (.ptr rfl)) ?_ | refine a1 rfl (O.zM (.bn rfl)) ?_ | refine fx (O.zM (.bn rfl)) ?_ | refine a1 rfl (O.eX (.obj rfl)) ?_ | refine fx (O.eX (.obj rfl)) ?_))
  | ((with_reducible apply ar.hC (.index _ _ _) (some _)); (first | refine a1 rfl (O.p4 (.lit rfl) (.lit rfl) rF.p (by assumption)) ?_ | refine fx (O.p4 (.lit rfl) (.lit rfl) rF.p (by assumption)) ?_)))))):ar P N ops l g K:=h
theorem W.H_ {id:Nat}{l:List Oper}{G G1:List (Nat × ag)}{Φ:Exit->aU->Prop}(ks:List Nat) (hk:ai .normal Φ G1) (h:ar P N l.toArray l (get G) (wu ks G1):=by exact ar.aW):W P N (.region id l.toArray false) (get G) Φ:=W.bp ks h hk
theorem W.dv {id:Nat}{l:List Oper}{B:Code}{G:List (Nat × ag)}{Φ:Exit->aU->Prop}(G1:List (Nat × ag)) (hk:W P N B (get G1) Φ) (h:ar P N l.toArray l (get G) (λg'=>kF g' (get G1)):=by exact ar.aW):W P N (.seq (.region id l.toArray false) B) (get G) Φ:=W.rs G1 h hk
theorem W.aZ {id:Nat}{l:List Oper}{B:Code}{G G1:List (Nat × ag)}{Φ:Exit->aU->Prop}(ks:List Nat) (hk:W P N B (get G1) Φ) (h:ar P N l.toArray l (get G) (wu ks G1):=by exact ar.aW):W P N (.seq (.region id l.toArray false) B) (get G) Φ:=W.bM ks h hk
end
end Go.Own
namespace Go.Own
open Go
section
variable {P:Program}{N:dE}{G:List (Nat × ag)}{g':aU}
theorem cA {rs:List ResultVar}{ys xs:List ag}{res:ag}{outs:List (Option ag)}{n:Nat}(h:oB P (get G) rs ys xs g') (he:pS xs=res:=by rfl) (bf:rK g' N.pins 0 outs:=by (repeat' first | exact .nil | refine .no ?_)) (ga:(rs.filterMap fun | .cell t _=>some t | _=>none).Nodup:=by exact of_decide_eq_true (by kernel_rfl)) (ao:outs.length=n:=by rfl):ai .ret (A7 P N rs n outs res) G:=ai.fin (Fin.ro h he ga bf ao (.inr rfl))
end
end Go.Own
