/-
  What is proved here: parts of the proof that the last text states: rules for walks through code, and of this program's functions what they answer. No condition of their own.
-/
import Derived.KernelRfl
import Derived.Test.YtbcajhiedeghlaaE3
namespace Go.Proofs
open Go Go.Own Go.Sort
set_option maxRecDepth 100000
set_option linter.unusedVariables false
theorem Bw {α:Type}{l:List α}{k:Nat}{x:α}(hk:k<l.length) (i:Nat):(l.set k x)[i]?=if i=k then some x else l[i]?:=by
 rw [List.getElem?_set];by_cases e:k=i
 ·subst e; simp [hk]
 ·simp [e,Ne.symm e]
theorem QM (x y:Item):(decide (x.Prod=y.Prod)&&(decide (x.dH=y.dH)&&true))=decide (x=y):=by
 obtain ⟨aI,x2⟩:=x;obtain ⟨kh,y2⟩:=y;simp
theorem Pf (a b:List Item) (h:a.length<=1000000):Tot (A2 a b) λc=>(c=true↔a=b):=by
 unfold A2;refine Tot.nv (λek=>.au ⟨λh=>(by cases h),λe=>absurd (by rw [e]) ek⟩) (λhe=>?_);have ao:a.length=b.length:=by omega
 refine Tot.aE (Ξ:=hX (λ_=>a=b) (λx:Bool=>x=false/\a≠b)) ?_ λx J=>?_
 ·refine Tot.count (λs=>s) a.length (λs=>∃ k:Nat,k<=a.length/\s=(k:Int)/\∀ (ae:Nat) (h:ae<a.length),ae<k->a[ae]=b[ae]) ⟨0,Nat.zero_le _,rfl,λae _ aa=>absurd aa (Nat.not_lt_zero _)⟩ (by show (a.length:Int) - 0<_; omega) λs aL=>?_;obtain ⟨k,hk,rfl,kY⟩:=aL;rw [eE k (by omega)];refine Tot.bK (λa_=>?_) (λec=>.au ?_)
  ·have a_:k<a.length:=by omega
   have x4:k<b.length:=by omega
   rw [ed a_,ed x4];simp only [Option.bind_some,QM];refine Tot.nv (λek=>.au ⟨rfl,λe=>ek (by subst e; rfl)⟩) (λheq=>.au ⟨⟨k+1,by omega,rfl,λae aa eQ=>?_⟩,by show (k:Int)<((k+1:Nat):Int); omega,by show ((k+1:Nat):Int)<=_; omega⟩);by_cases e:ae=k
   ·subst e; exact heq
   ·exact kY ae aa (by omega)
  ·exact List.ext_getElem ao λi h1 al=>kY i h1 (by omega)
 ·rcases x with _ | x
  ·exact .au ⟨λ_=>J,λ_=>rfl⟩
  ·obtain ⟨rfl,ek⟩:x=false/\a≠b:=J;exact .au ⟨λh=>(by cases h),λh=>absurd h ek⟩
def syms (g:bV):List Int:=(List.range g.a6.length).map (λk:Nat=>(k:Int))++(List.range g.bx.length).map (λk:Nat=>1000+(k:Int))
theorem JV (g:bV) (bh:gM g):Tot (Bj g) λl=>l=syms g:=by
 have fG:=bh.kO;have b5:=bh.h2;unfold Bj;refine .aE (Ξ:=λl:List Int=>l=(List.range g.a6.length).map (λk:Nat=>(k:Int))) ?_ λl ao=>?_
 ·refine Tot.upto (λs=>s.2) g.a6.length (λk s=>s.1=(List.range k).map (λk:Nat=>(k:Int))) rfl (by omega) rfl λk s hk he bw=>?_;obtain ⟨l,i⟩:=s;simp only at he bw ⊢;subst he bw;rw [eE k (by omega)];refine Tot.bK (λa_=>?_) (λec=>.au ?_)
  ·refine .aE (Ξ:=λ_=>True) (Tot.ap (by simp [lim]; omega) trivial) λ_ _=>.au ⟨by omega,rfl,?_⟩;show _=(List.range (k+1)).map _;rw [List.range_succ,List.map_append]; rfl
  ·have:k=g.a6.length:=by omega
   subst this; rfl
 ·subst ao;refine .aE (Ξ:=λl:List Int=>l=syms g) ?_ λr aw=>.au aw;refine Tot.upto (λs=>s.2) g.bx.length (λk s=>s.1=(List.range g.a6.length).map (λk:Nat=>(k:Int))++(List.range k).map (λk:Nat=>1000+(k:Int))) rfl (by omega) (by simp) λk s hk he bw=>?_;obtain ⟨l,i⟩:=s;simp only at he bw ⊢;subst he bw;rw [eE k (by omega)];refine Tot.bK (λa_=>?_) (λec=>.au ?_)
  ·refine .aE (Ξ:=λ_=>True) (Tot.ap (by simp [lim]; omega) trivial) λ_ _=>.au ⟨by omega,rfl,?_⟩;have hw:aO (1000+(k:Int))=1000+(k:Int):=by rw [c8]; omega
   show _=_++(List.range (k+1)).map _;rw [hw,List.range_succ,List.map_append,List.append_assoc]; rfl
  ·have:k=g.bx.length:=by omega
   subst this; rfl
theorem Vt (g:bV):(syms g).length=g.a6.length+g.bx.length:=by simp [syms]
theorem Uf {g:bV}{s:Int}:s∈syms g↔(0<=s/\s<g.a6.length)\/(1000<=s/\s<1000+g.bx.length):=by
 unfold syms;rw [List.mem_append,List.mem_map,List.mem_map];constructor
 ·rintro (⟨k,hk,rfl⟩ | ⟨k,hk,rfl⟩)
  ·rw [List.mem_range] at hk; exact .inl (by omega)
  ·rw [List.mem_range] at hk; exact .inr (by omega)
 ·rintro (h | h)
  ·exact .inl ⟨s.toNat,by rw [List.mem_range]; omega,by omega⟩
  ·exact .inr ⟨(s - 1000).toNat,by rw [List.mem_range]; omega,by omega⟩
theorem Vu {g:bV}(bh:gM g):(syms g).Nodup:=by
 have aJ:=bh.kO;unfold syms;rw [List.nodup_append];refine ⟨List.pairwise_map.2 ((List.nodup_range (n:=g.a6.length)).imp λ{a b} h e=>h (by omega)),List.pairwise_map.2 ((List.nodup_range (n:=g.bx.length)).imp λ{a b} h e=>h (by omega)),λa bf b aK=>?_⟩;obtain ⟨i,hi,rfl⟩:=List.mem_map.1 bf;obtain ⟨ae,aa,rfl⟩:=List.mem_map.1 aK;rw [List.mem_range] at hi;omega
structure xp (g:bV) (K:List Item):Prop where
 a:f_ ha K
 i:∀ x∈K,je g x
theorem xp.len {g:bV}(bh:gM g) {K:List Item}(h:xp g K):K.length<=540:=sz bh h.a h.i
theorem JU (l:List Int) (x:Int) (h:l.length<=1000000):Tot (uQ l x) λc=>(c=true↔x∈l):=by
 unfold uQ;refine .aE (Ξ:=hX (λ_=>x∉l) (λr:Bool=>r=true/\x∈l)) ?_ λr aw=>?_
 ·refine Tot.upto (λs=>s) l.length (λk s=>x∉l.take k) rfl (by omega) (by simp) λk s hk he bw=>?_;subst he;rw [eE k (by omega)];refine Tot.bK (λa_=>?_) (λec=>.au ?_)
  ·have a_:k<l.length:=by omega
   rw [ed a_];simp only [Option.bind_some];refine Tot.bK (λe=>.au ⟨rfl,by rw [<- e]; exact List.getElem_mem a_⟩) (λe=>.au ⟨a_,rfl,?_⟩);rw [j5 a_,List.mem_append,List.mem_singleton];exact λh=>h.elim bw λh=>e h.symm
  ·rw [List.take_of_length_le (by omega)] at bw;exact bw
 ·rcases r with r | r
  ·exact .au ⟨λh=>(by cases h),λh=>absurd h aw⟩
  ·obtain ⟨rfl,h⟩:=aw;exact .au ⟨λ_=>h,λ_=>rfl⟩
theorem Pr (m:List State) (k:List Item) (bd:m.length<=1000) (h1:∀ st∈m,st.Kernel.length<=1000000):Tot (Bl m k) λr=>-1<=r/\r<m.length:=by
 unfold Bl;refine .aE (Ξ:=hX (λ_=>True) (λr:Int=>0<=r/\r<m.length)) ?_ λx J=>?_
 ·refine Tot.upto (λs=>s) m.length (λ_ _=>True) rfl (by omega) trivial λae s aa he _=>?_;subst he;rw [eE ae (by omega)];refine Tot.bK (λa_=>?_) (λec=>.au trivial);have a_:ae<m.length:=by omega
  rw [ed a_];refine Tot.ax (.aE (Pf _ k (h1 _ (List.getElem_mem a_))) λc ab=>Tot.cg (λh=>.au ⟨by omega,by omega⟩) (λh=>.au ⟨a_,rfl,trivial⟩))
 ·rcases x with x | x
  ·exact .au ⟨by omega,by omega⟩
  ·have J:0<=x/\x<m.length:=J;exact .au ⟨by omega,by omega⟩
structure xt (g:bV) (n:Nat) (v:Move):Prop where
 s:v.Sym∈syms g
 t0:0<=v.hA
 t1:v.hA<n
structure lR (g:bV) (m:List State) (q ae:Nat):Prop where
 hG:0<m.length
 lK:m.length<=150
 pF:∀ st∈m,xp g st.Kernel
 ms:∀ (i:Nat) (st:State),m[i]?=some st->(st.dm.map (·.Sym)).Sublist (if i<q then syms g else if i=q then (syms g).take ae else [])
 aA:∀ st∈m,∀ v∈st.dm,xt g m.length v
structure lD (g:bV) (m:List State):Prop where
 hG:0<m.length
 lK:m.length<=150
 pF:∀ st∈m,xp g st.Kernel
 s_:∀ st∈m,st.dm.length<=64
 nd:∀ st∈m,(st.dm.map (·.Sym)).Nodup
 aA:∀ st∈m,∀ v∈st.dm,xt g m.length v
theorem xt.up {g:bV}{n cY:Nat}{v:Move}(h:xt g n v) (aP:n<=cY):xt g cY v:=⟨h.s,h.t0,by have:=h.t1; omega⟩
theorem lR.put {g:bV}{m:List State}{q ae:Nat}(h:lR g m q ae) {st:State}(bR:m[q]?=some st) {v:Move}(hv:xt g m.length v) (aa:(syms g)[ae]?=some v.Sym):lR g (m.set q ⟨st.Kernel,st.dm++[v]⟩) q (ae+1):=by
 have mH:=(List.getElem?_eq_some_iff.1 bR).1;have hm:=List.mem_of_getElem? bR;refine ⟨by rw [List.length_set]; exact h.hG,by rw [List.length_set]; exact h.lK,λs aL=>?_,λi s aL=>?_,λs aL w hw=>?_⟩
 ·rcases List.mem_or_eq_of_mem_set aL with aR | aR
  ·exact h.pF s aR
  ·rw [aR]; exact h.pF st hm
 ·rw [Bw mH] at aL;by_cases e:i=q
  ·subst e;rw [if_pos rfl] at aL; cases aL;have:=h.ms i st bR;rw [if_neg (by omega),if_pos rfl] at this ⊢;rw [List.map_append,List.take_add_one,aa];exact this.append (List.Sublist.refl _)
  ·rw [if_neg e] at aL;have:=h.ms i s aL;rw [if_neg e] at this ⊢;exact this
 ·rw [List.length_set];rcases List.mem_or_eq_of_mem_set aL with aR | aR
  ·exact h.aA s aR w hw
  ·rw [aR] at hw;rcases List.mem_append.1 hw with hw | hw
   ·exact h.aA st hm w hw
   ·rw [List.mem_singleton.1 hw]; exact hv
theorem lR.more {g:bV}{m:List State}{q ae:Nat}(h:lR g m q ae) (ao:m.length<150) {K:List Item}(hk:xp g K):lR g (m++[⟨K,[]⟩]) q ae:=by
 refine ⟨by simp,by simp; omega,λs aL=>?_,λi s aL=>?_,λs aL w hw=>?_⟩
 ·rcases List.mem_append.1 aL with aL | aL
  ·exact h.pF s aL
  ·rw [List.mem_singleton.1 aL]; exact hk
 ·by_cases e:i<m.length
  ·rw [List.getElem?_append_left e] at aL; exact h.ms i s aL
  ·rw [List.getElem?_append_right (by omega)] at aL;have:s=⟨K,[]⟩:=by
    have:=List.mem_of_getElem? aL;simpa using this
   rw [this]; exact List.nil_sublist _
 ·rcases List.mem_append.1 aL with aL | aL
  ·exact (h.aA s aL w hw).up (by simp)
  ·rw [List.mem_singleton.1 aL] at hw; cases hw
theorem lR.mono {g:bV}{m:List State}{q ae uI:Nat}(h:lR g m q ae) (aa:ae<=uI):lR g m q uI:=by
 refine ⟨h.hG,h.lK,h.pF,λi s aL=>?_,h.aA⟩;have:=h.ms i s aL;split
 ·rename_i e; rw [if_pos e] at this; exact this
 ·rename_i e; rw [if_neg e] at this;split
  ·rename_i cU; rw [if_pos cU] at this;exact this.trans (List.take_sublist_take_left aa)
  ·rename_i cU; rw [if_neg cU] at this; exact this
theorem lR.next {g:bV}{m:List State}{q ae:Nat}(h:lR g m q ae):lR g m (q+1) 0:=by
 refine ⟨h.hG,h.lK,h.pF,λi s aL=>?_,h.aA⟩;have:=h.ms i s aL;by_cases e:i<q+1
 ·rw [if_pos e]
  split at this
  ·exact this
  ·split at this
   ·exact this.trans (List.take_sublist _ _)
   ·exact this.trans (List.nil_sublist _)
 ·rw [if_neg (by omega),if_neg (by omega)] at this;rw [if_neg e];exact this.trans (List.nil_sublist _)
theorem Pm (g:bV) (bh:gM g):Tot (wM g) λr=>(r.2=0/\lD g r.1)\/r.2=4:=by
 have fG:=bh.kO;have b5:=bh.h2;have cT:=bh.jB;unfold wM;refine Tot.aE (JV g bh) λaI h1=>?_;subst h1;have jO:=Vt g;refine Tot.aE (Ξ:=hX (λm=>lR g m m.length 0) (λr:List State × Int=>r.2=4)) ?_ λx J=>?_
 ·refine Tot.loop (λs=>∃ q:Nat,s.2=(q:Int)/\q<=s.1.length/\lR g s.1 q 0) (λs=>151 - s.2.toNat) ⟨0,rfl,Nat.zero_le _,⟨by simp,by simp,λs aL=>?_,λi s aL=>?_,λs aL v hv=>?_⟩⟩ (by show 151 - 0<1000000000000000000; omega) λs cf=>?_
  ·rw [List.mem_singleton.1 aL];refine ⟨List.pairwise_singleton ..,λx J=>?_⟩;rw [List.mem_singleton.1 J];obtain ⟨q,bR⟩:∃ q,g.aX[0]?=some q:=⟨g.aX[0]'(by omega),List.getElem?_eq_getElem _⟩;exact Mk (p:=0) bR
  ·have:=List.mem_of_getElem? aL;rw [List.mem_singleton.1 this]; exact List.nil_sublist _
  ·rw [List.mem_singleton.1 aL] at hv; cases hv
  obtain ⟨q,he,bR,z1⟩:=cf;obtain ⟨m,i⟩:=s;simp only at he bR z1 ⊢;subst he;have x6:=z1.lK;rw [eE q (by omega)];refine Tot.bK (λa_=>?_) (λec=>.au ?_)
  ·have a_:q<m.length:=by omega
   rw [ed a_];have eK:=z1.pF _ (List.getElem_mem a_);refine Tot.ax (Tot.aE (EY g bh _ (by have:=eK.len bh; omega)) λc ab=>?_);have hr:=sz bh ab.1 λx J=>((ab.2 x).1 J).je;refine Tot.aE (Ξ:=λl:List Int=>l.length<=1000) ?_ λEx WN=>?_
   ·refine Tot.upto (λs=>s.2) c.length (λk s=>f_ ic s.1/\s.1.length<=k) rfl (by omega) ⟨.nil,Nat.le_refl 0⟩ λk s hk he bw=>?_;obtain ⟨l,i⟩:=s;obtain ⟨g1,g2⟩:=bw;simp only at he g1 g2 ⊢;subst he;rw [eE k (by omega)];refine Tot.bK (λa_=>?_) (λec=>.au (show l.length<=1000 by omega));have a_:k<c.length:=by omega
    rw [ed a_];refine .aE (Ξ:=λl:List Int=>f_ ic l/\l.length<=k+1) ?_ λo bh=>.au ⟨a_,rfl,bh⟩;refine Tot.ax ?_;rw [Ff g _];refine Tot.ax (.aE (Ξ:=λl:List Int=>f_ ic l/\l.length<=k+1) ?_ λo bh=>.au bh);refine Tot.bK (λaG=>.aE (Cl l _ g1 (by omega)) λr aw=>.au ⟨aw.1,by have:=aw.2.1; omega⟩) (λaG=>.au ⟨g1,by omega⟩)
   ·refine Tot.aE (Ξ:=hX (λm=>lR g m q (syms g).length/\q<m.length) (λr:List State × Int=>r.2=4)) ?_ λx J=>?_
    ·refine Tot.upto (λs=>s.2) (syms g).length (λk s=>lR g s.1 q k/\q<s.1.length) rfl (by omega) ⟨z1,a_⟩ λk s hk he bw=>?_;obtain ⟨m,i⟩:=s;obtain ⟨sQ,mH⟩:=bw;simp only at he sQ mH ⊢;subst he;rw [eE k (by omega)];have ux:=sQ.lK;refine Tot.bK (λa_=>?_) (λec=>.au ?_)
     ·have a_:k<(syms g).length:=by omega
      have kF:=List.getElem_mem a_;have oH:(syms g)[k]?=some (syms g)[k]:=List.getElem?_eq_getElem a_;rw [ed a_];generalize (syms g)[k]=s at *;refine Tot.ax (Tot.aE (JU Ex s (by omega)) λbX _=>?_);refine Tot.cg (λ_=>.au ⟨a_,rfl,sQ.mono (by omega),mH⟩) (λ_=>?_);have pq:m[q]?=some m[q]:=List.getElem?_eq_getElem mH;have eK:=sQ.pF _ (List.getElem_mem mH);rw [ed mH];generalize m[q]=st at *;refine Tot.ax (Tot.ax (Tot.aE (Pq g bh st.Kernel s (by have:=eK.len bh; omega)) λBV CT=>?_));have iy:xp g BV:=⟨CT.1,λy az=>((CT.2 y).1 az).je bh⟩;refine Tot.aE (Pr m BV (by omega) λt aJ=>by have:=(sQ.pF t aJ).len bh; omega) λz bA=>?_;have S':=(sQ.ms q st pq).length_le;rw [if_neg (by omega),if_pos rfl,List.length_map,List.length_take] at S';refine Tot.bK (λW'=>Tot.bK (λ_=>.au rfl) (λXa=>?_)) (λsZ=>?_)
      ·refine .aE (Ξ:=λ_=>True) (Tot.ap (by simp [lim]; omega) trivial) λ_ _=>?_;have RE:=sQ.more (by omega) iy;have LB:(m++[(⟨BV,[]⟩:State)])[q]?=some st:=by rw [List.getElem?_append_left mH]; exact pq
       have Ac:idx (m++[(⟨BV,[]⟩:State)]) (q:Int)=some st:=by simp only [idx,if_pos (show (0:Int)<=(q:Int) by omega),Int.toNat_natCast]; exact LB
       rw [Ac];refine Tot.ax (Tot.ax ?_);refine .aE (Ξ:=λ_=>True) (Tot.ap (by simp [lim]; omega) trivial) λ_ _=>.au ⟨a_,rfl,?_⟩;refine ⟨?_,by show q<(List.set _ _ _).length; rw [List.length_set]; simp; omega⟩;show lR g (List.set _ (q:Int).toNat _) q (k+1);rw [Int.toNat_natCast];exact RE.put LB ⟨kF,by show (0:Int)<=(m.length:Int); omega,by show (m.length:Int)<_; simp; omega⟩ oH
      ·refine Tot.ax (Tot.ax ?_);refine .aE (Ξ:=λ_=>True) (Tot.ap (by simp [lim]; omega) trivial) λ_ _=>.au ⟨a_,rfl,?_⟩;refine ⟨?_,by show q<(List.set _ _ _).length; rw [List.length_set]; exact mH⟩;show lR g (List.set _ (q:Int).toNat _) q (k+1);rw [Int.toNat_natCast];exact sQ.put pq ⟨kF,by show 0<=z; omega,bA.2⟩ oH
     ·have:k=(syms g).length:=by omega
      subst this;exact ⟨sQ,mH⟩
    ·rcases x with x | x
     ·obtain ⟨h1,al⟩:=J;refine .au ⟨⟨q+1,rfl,al,h1.next⟩,?_⟩;show 151 - ((q+1:Nat):Int).toNat<151 - (q:Int).toNat;omega
     ·exact .au J
  ·have:q=m.length:=by omega
   subst this;exact z1
 ·rcases x with x | x
  ·have J:lR g x x.length 0:=J;have key:∀ st∈x,(st.dm.map (·.Sym)).Sublist (syms g):=λst cf=>by
    obtain ⟨i,hi⟩:=List.getElem?_of_mem cf;have:=J.ms i st hi;rw [if_pos (List.getElem?_eq_some_iff.1 hi).1] at this;exact this
   refine .au (.inl ⟨rfl,J.hG,J.lK,J.pF,λst cf=>?_,λst cf=>(key st cf).nodup (Vu bh),J.aA⟩);have:=(key st cf).length_le;rw [List.length_map] at this; omega
  ·exact .au (.inr J)
theorem TT {α:Type}{m:List α}{q:Nat}{x:α}(h:m[q]?=some x):idx m (q:Int)=some x:=by simp [idx,h]
def GoTo (m:List State) (a s r:Int):Prop:=(r=-1/\∀ st,idx m a=some st->∀ v∈st.dm,v.Sym≠s)\/∃ st v,idx m a=some st/\v∈st.dm/\v.Sym=s/\r=v.hA
theorem zm (m:List State) (a s:Int) (hm:∀ st∈m,st.dm.length<=64):Tot (qq m a s) (GoTo m a s):=by
 unfold qq;by_cases bd:0<=a/\a<(m.length:Int)
 ·obtain ⟨st,cf,lG⟩:=k6 bd.1 bd.2;have ao:=hm st lG;have d1:decide (0<=a)=true:=decide_eq_true bd.1;have d2:decide (a<(m.length:Int))=true:=decide_eq_true bd.2;rw [d1,d2];simp only [cond_true,cf,Option.bind_some];refine .aE (Ξ:=hX (λ_=>∀ v∈st.dm,v.Sym≠s) (λr:Int=>∃ v,v∈st.dm/\v.Sym=s/\r=v.hA)) ?_ λx J=>?_
  ·refine Tot.upto (λs=>s) st.dm.length (λk _=>∀ v∈st.dm.take k,v.Sym≠s) rfl (by omega) (by simp) λk i hk he bw=>?_;subst he;rw [eE k (by omega)];refine Tot.bK (λa_=>?_) (λec=>.au (by
    show ∀ v∈st.dm,v.Sym≠s;rw [List.take_of_length_le (by omega)] at bw; exact bw))
   have a_:k<st.dm.length:=by omega
   rw [ed a_];simp only [Option.bind_some];refine Tot.bK (λe=>.au ⟨_,List.getElem_mem a_,e,rfl⟩) (λe=>.au ⟨a_,rfl,λv hv=>?_⟩);rw [j5 a_,List.mem_append,List.mem_singleton] at hv;rcases hv with hv | rfl
   ·exact bw v hv
   ·exact e
  ·rcases x with x | x
   ·exact .au (.inl ⟨rfl,λD9 aR=>by rw [cf] at aR; cases aR; exact J⟩)
   ·obtain ⟨v,h1,al,aQ⟩:=J;exact .au (.inr ⟨st,v,cf,h1,al,aQ⟩)
 ·refine .aE (Ξ:=hX (λ_=>True) (λ_:Int=>False)) (Tot.loop (λ_=>True) (λ_=>0) trivial (by show 0<1000000000000000000; omega) λi _=>?_) λx J=>?_
  ·refine .aE (Ξ:=λc=>c=false) ?_ λc ab=>by subst ab; exact .au trivial
   refine Tot.bK (λh1=>Tot.bK (λal=>absurd ⟨h1,al⟩ bd) (λ_=>.au rfl)) (λ_=>.au rfl)
  ·rcases x with x | x
   ·refine .au (.inl ⟨rfl,λst aR=>absurd ⟨(nA aR).1,(nA aR).2.1⟩ bd⟩)
   ·exact J.elim
theorem GoTo.xD {g:bV}{m:List State}(hm:lD g m) {a s r:Int}(h:GoTo m a s r):-1<=r/\r<m.length:=by
 rcases h with ⟨rfl,_⟩ | ⟨st,v,h1,al,_,rfl⟩
 ·have:=hm.hG; exact ⟨by omega,by omega⟩
 ·have:=hm.aA st (nA h1).2.2 v al;exact ⟨by have:=this.t0; omega,this.t1⟩
theorem GoTo.yes {g:bV}{m:List State}(hm:lD g m) {a s r:Int}(h:GoTo m a s r) {st:State}{v:Move}(aL:idx m a=some st) (hv:v∈st.dm) (e:v.Sym=s):0<=r/\r<m.length:=by
 rcases h with ⟨rfl,h⟩ | ⟨st,v,h1,al,_,rfl⟩
 ·exact absurd e (h st aL v hv)
 ·have:=hm.aA st (nA h1).2.2 v al;exact ⟨this.t0,this.t1⟩
theorem JX {g:bV}{m:List State}(hm:lD g m) (a:Int) (l:List Int) (bf:-1<=a/\a<m.length) (ao:l.length<=1000):Tot (yI m a l) λr=>-1<=r/\r<m.length:=by
 unfold yI;refine .aE (Ξ:=λr:Int=>-1<=r/\r<m.length) ?_ λr aw=>.au aw;refine Tot.upto (λs=>s.2) l.length (λ_ s=>-1<=s.1/\s.1<m.length) rfl (by omega) bf λk s hk he bw=>?_;obtain ⟨r,i⟩:=s;simp only at he bw ⊢;subst he;rw [eE k (by omega)];refine .aE (Ξ:=λc=>c=true->k<l.length) (Tot.bK (λh=>.au λ_=>by omega) (λ_=>.au λh=>by cases h)) λc ab=>Tot.cg (λh=>?_) (λ_=>.au bw);have a_:=ab h;rw [ed a_];exact Tot.ax (.aE (zm m r _ hm.s_) λz bA=>.au ⟨a_,rfl,bA.xD hm⟩)
def tK (m:List State) (t:Trans):Prop:=∃ st v,idx m t.State=some st/\v∈st.dm/\v.Sym=t.eY/\1000<=t.eY
structure vg (m:List State) (l:List Trans):Prop where
 n:l.length<=9600
 ok:∀ t∈l,tK m t
 fI:∀ (q:Nat) (st:State) (v:Move),m[q]?=some st->v∈st.dm->1000<=v.Sym->(⟨q,v.Sym⟩:Trans)∈l
theorem Pv {g:bV}{m:List State}(hm:lD g m):Tot (pL m) (vg m):=by
 have aP:=hm.lK;unfold pL;refine .aE (Ξ:=vg m) ?_ λr aw=>.au aw;refine Tot.upto (λs=>s.2) m.length (λk s=>s.1.length<=64 * k/\(∀ t∈s.1,tK m t)/\∀ (q:Nat) (st:State) (v:Move),q<k->m[q]?=some st->v∈st.dm->1000<=v.Sym->(⟨q,v.Sym⟩:Trans)∈s.1) rfl (by omega) ⟨Nat.le_refl 0,λt h=>(by cases h),λq _ _ h=>absurd h (Nat.not_lt_zero _)⟩ λk s hk he bw=>?_;obtain ⟨l,i⟩:=s;obtain ⟨h1,al,aQ⟩:=bw;simp only at he h1 al aQ ⊢;subst he;rw [eE k (by omega)];refine Tot.bK (λa_=>?_) (λec=>.au ⟨?_,al,λq st v bR=>aQ q st v ?_ bR⟩)
 ·have a_:k<m.length:=by omega
  have pq:m[k]?=some m[k]:=List.getElem?_eq_getElem a_;have lG:=List.getElem_mem a_;rw [ed a_];generalize m[k]=st at *;have ux:=hm.s_ st lG;simp only [Option.bind_some];refine .aE (Ξ:=λAI:List Trans=>AI.length<=64 * (k+1)/\(∀ t∈AI,tK m t)/\(∀ t∈l,t∈AI)/\∀ v∈st.dm,1000<=v.Sym->(⟨k,v.Sym⟩:Trans)∈AI) ?_ λAI h_=>.au ⟨a_,rfl,h_.1,h_.2.1,λq D9 v bR bW da eb=>?_⟩
  ·refine Tot.upto (λs=>s.2) st.dm.length (λae s=>s.1.length<=64 * k+ae/\(∀ t∈s.1,tK m t)/\(∀ t∈l,t∈s.1)/\∀ v∈st.dm.take ae,1000<=v.Sym->(⟨k,v.Sym⟩:Trans)∈s.1) rfl (by omega) ⟨h1,al,λ_ h=>h,λv hv=>by simp at hv⟩ λae s aa he bw=>?_;obtain ⟨o,i⟩:=s;obtain ⟨g1,g2,g3,g4⟩:=bw;simp only at he g1 g2 g3 g4 ⊢;subst he;rw [eE ae (by omega)];refine Tot.bK (λa_=>?_) (λec=>.au ⟨by show o.length<=_; omega,g2,g3,by
    rw [List.take_of_length_le (by omega)] at g4; exact g4⟩)
   have a_:ae<st.dm.length:=by omega
   have gb:=j5 a_;have Dh:=List.getElem_mem a_;rw [ed a_];generalize st.dm[ae]=v at *;simp only [Option.bind_some];refine .aE (Ξ:=λo:List Trans=>o.length<=64 * k+(ae+1)/\(∀ t∈o,tK m t)/\(∀ t∈l,t∈o)/\∀ v∈st.dm.take (ae+1),1000<=v.Sym->(⟨k,v.Sym⟩:Trans)∈o) ?_ λo bh=>.au ⟨a_,rfl,bh⟩;refine .aE (Ξ:=λo:List Trans=>o.length<=64 * k+(ae+1)/\(∀ t∈o,tK m t)/\(∀ t∈l,t∈o)/\∀ v∈st.dm.take (ae+1),1000<=v.Sym->(⟨k,v.Sym⟩:Trans)∈o) (Tot.bK (λh=>?_) (λh=>.au ⟨by omega,g2,g3,λw hw aL=>?_⟩)) λo bh=>.au bh
   ·refine .aE (Ξ:=λ_=>True) (Tot.ap (by simp [lim]; omega) trivial) λ_ _=>.au ⟨by simp; omega,λt aJ=>?_,λt aJ=>List.mem_append_left _ (g3 t aJ),λw hw aL=>?_⟩
    ·rcases List.mem_append.1 aJ with aJ | aJ
     ·exact g2 t aJ
     ·rw [List.mem_singleton.1 aJ];exact ⟨st,v,TT pq,Dh,rfl,h⟩
    ·rw [gb,List.mem_append,List.mem_singleton] at hw;rcases hw with hw | rfl
     ·exact List.mem_append_left _ (g4 w hw aL)
     ·simp
   ·rw [gb,List.mem_append,List.mem_singleton] at hw;rcases hw with hw | rfl
    ·exact g4 w hw aL
    ·exact absurd aL h
  ·by_cases e:q=k
   ·subst e;rw [pq] at bW; cases bW;exact h_.2.2.2 v da eb
   ·exact h_.2.2.1 _ (aQ q D9 v (by omega) bW da eb)
 ·show l.length<=9600;omega
 ·have:=(List.getElem?_eq_some_iff.1 bR).1;omega
theorem qM (l:List Trans) (a n:Int) (ao:l.length<=9600):Tot (yw l a n) λr=>-1<=r/\r<l.length/\((⟨a,n⟩:Trans)∈l->0<=r):=by
 unfold yw;refine .aE (Ξ:=hX (λ_=>(⟨a,n⟩:Trans)∉l) (λr:Int=>0<=r/\r<l.length)) ?_ λx J=>?_
 ·refine Tot.upto (λs=>s) l.length (λk _=>(⟨a,n⟩:Trans)∉l.take k) rfl (by omega) (by simp) λk i hk he bw=>?_;subst he;rw [eE k (by omega)];refine Tot.bK (λa_=>?_) (λec=>.au (by
   show (⟨a,n⟩:Trans)∉l;rw [List.take_of_length_le (by omega)] at bw; exact bw))
  have a_:k<l.length:=by omega
  have gb:=j5 a_;rw [ed a_];generalize l[k]=y at *;simp only [Option.bind_some];refine .aE (Ξ:=λc:Bool=>c=false->y≠⟨a,n⟩) (Tot.bK (λh=>.au λaR e=>?_) (λh=>.au λ_ e=>h (by rw [e]))) λc ab=>Tot.cg (λh=>.au ⟨by show (0:Int)<=k; omega,by show (k:Int)<_; omega⟩) (λh=>.au ⟨a_,rfl,?_⟩)
  ·have:=of_decide_eq_false aR;exact this (by rw [e])
  ·rw [gb,List.mem_append,List.mem_singleton];exact λaR=>aR.elim bw λe=>ab h e.symm
 ·rcases x with x | x
  ·refine .au ⟨by omega,by omega,λh=>absurd h J⟩
  ·have J:0<=x/\x<l.length:=J;exact .au ⟨by omega,J.2,λ_=>J.1⟩
theorem Pg (l:List Item) (ao:l.length<=1000000):Tot (A3 l) λ_=>True:=by
 unfold A3;refine .aE (Ξ:=λ_=>True) ?_ λx J=>by
  rcases x with x | x
  ·exact .au trivial
  ·exact .au trivial
 refine Tot.upto (λs=>s) l.length (λ_ _=>True) rfl (by omega) trivial λk i hk he _=>?_;subst he;rw [eE k (by omega)];refine Tot.bK (λa_=>?_) (λ_=>.au trivial);have a_:k<l.length:=by omega
 rw [ed a_];simp only [Option.bind_some];refine .aE (Ξ:=λ_=>True) (Tot.bK (λ_=>.au trivial) (λ_=>.au trivial)) λc _=>Tot.cg (λ_=>.au trivial) (λ_=>.au ⟨a_,rfl,trivial⟩)
theorem JO (B:List Bool) (l:List Int) (ao:l.length<=1000) (h:∀ s∈l,s<1000\/(1000<=s/\s - 1000<B.length)) (ix:B.length<=1000):Tot (yx B l) λ_=>True:=by
 unfold yx;refine .aE (Ξ:=λ_=>True) ?_ λx J=>by
  rcases x with x | x
  ·exact .au trivial
  ·exact .au trivial
 refine Tot.upto (λs=>s) l.length (λ_ _=>True) rfl (by omega) trivial λk i hk he _=>?_;subst he;rw [eE k (by omega)];refine Tot.bK (λa_=>?_) (λ_=>.au trivial);have a_:k<l.length:=by omega
 have az:=h _ (List.getElem_mem a_);rw [ed a_];generalize l[k]=y at *;simp only [Option.bind_some];refine .aE (Ξ:=λ_=>True) (Tot.bK (λ_=>.au trivial) (λh1=>?_)) λc _=>Tot.cg (λ_=>.au trivial) (λ_=>.au ⟨a_,rfl,trivial⟩);have hw:aO (y - 1000)=y - 1000:=by rw [c8]; omega
 rw [hw];obtain ⟨b,aK,_⟩:=k6 (l:=B) (i:=y - 1000) (by omega) (by omega);rw [aK];exact .au trivial
theorem Nc {g:bV}(ba:gM g) {q:Prod}(bR:q∈g.aX) {B:List Bool}(ix:B.length=g.bx.length):∀ s∈q.fm,s<1000\/(1000<=s/\s - 1000<B.length):=λs aL=>by
 have aJ:=ba.kO;have aP:=ba.h2;rcases (ba.hy q bR).right s aL with h | h <;> omega
theorem JN (g:bV) (ba:gM g):Tot (yv g) λB=>B.length=g.bx.length:=by
 have aJ:=ba.kO;have aP:=ba.h2;have aG:=ba.jB;unfold yv;refine .aE (Ξ:=λB=>B=List.replicate g.bx.length false) (Tot.mk (by simp [lim]; omega) (by simp)) λWg Rn=>?_;subst Rn;refine .aE (Ξ:=λB:List Bool=>B.length=g.bx.length) ?_ λB ix=>.au ix;refine Tot.loop (λs=>s.1.length=g.bx.length) (λs=>2 * (g.bx.length - hP s.1)+s.2.toNat) (by simp) (by
  show 2 * (g.bx.length - hP _)+1<1000000000000000000; omega) λs aL=>?_
 obtain ⟨B,f⟩:=s;simp only at aL ⊢;refine Tot.cg (λbn=>?_) (λ_=>.au aL);subst bn;refine .aE (Ξ:=λr:List Bool × Bool=>r.1.length=g.bx.length/\hP B<=hP r.1/\(r.2=true->hP B<hP r.1)) ?_ λr aw=>?_
 ·refine Tot.upto (λs=>s.2.2) g.aX.length (λ_ s=>s.1.length=g.bx.length/\hP B<=hP s.1/\(s.2.1=true->hP B<hP s.1)) rfl (by omega) ⟨aL,Nat.le_refl _,λh=>by cases h⟩ λk s hk he bw=>?_;obtain ⟨C,f,i⟩:=s;obtain ⟨h1,al,aQ⟩:=bw;simp only at he h1 al aQ ⊢;subst he;rw [eE k (by omega)];refine Tot.bK (λa_=>?_) (λec=>.au ⟨h1,al,aQ⟩);have a_:k<g.aX.length:=by omega
  have mH:=List.getElem_mem a_;rw [ed a_];generalize g.aX[k]=q at *;have bR:=ba.hy q mH;have LY:=bR.left;obtain ⟨b,aK,_⟩:=k6 (l:=C) (i:=q.Left) LY.1 (by omega);simp only [Option.bind_some,aK];refine .aE (Ξ:=λr:List Bool × Bool=>r.1.length=g.bx.length/\hP B<=hP r.1/\(r.2=true->hP B<hP r.1)) ?_ λr aw=>.au ⟨a_,rfl,aw⟩;refine .aE (Ξ:=λc:Bool=>c=true->b=false) ?_ λc ab=>?_
  ·cases b with
   | true=>exact .au λh=>by cases h
   | false =>
    refine .aE (JO C q.fm (by have:=ba.aH q mH; omega) (Nc ba mH h1) (by omega)) λ_ _=>.au λ_=>rfl
  ·refine .aE (Ξ:=λr:List Bool × Bool=>r.1.length=g.bx.length/\hP B<=hP r.1/\(r.2=true->hP B<hP r.1)) (Tot.cg (λh=>.au ?_) (λh=>.au ⟨h1,al,aQ⟩)) λr aw=>.au aw;have Sf:=ab h;subst Sf;have x3:q.Left.toNat<C.length:=by omega
   have pq:C.getD q.Left.toNat false=false:=by
    unfold idx at aK;rw [if_pos LY.1] at aK;rw [List.getD_eq_getElem?_getD,aK]; rfl
   have:=vo C q.Left.toNat x3 pq;exact ⟨by rw [List.length_set]; exact h1,by show hP B<=hP (C.set _ _); omega,λ_=>by show hP B<hP (C.set _ _); omega⟩
 ·obtain ⟨h1,al,aQ⟩:=aw;refine .au ⟨h1,?_⟩;have ab:=PE r.1;show 2 * (g.bx.length - hP r.1)+r.2.toNat<2 * (g.bx.length - hP B)+true.toNat;cases iG:r.2 with
  | false=>simp only [Bool.toNat_false,Bool.toNat_true]; omega
  | true =>
   have:=aQ iG;simp only [Bool.toNat_true]; omega
structure jl (T:Nat) (r:List Int):Prop where
 a:f_ ic r
 i:∀ x∈r,0<=x/\x<T
theorem jl.len {T:Nat}{r:List Int}(h:jl T r):r.length<=T:=by
 have:=yk (m:=(List.range T).map λk:Nat=>(k:Int)) (h.a.nd AZ) λx J=>by
  have:=h.i x J;exact List.mem_map.2 ⟨x.toNat,by rw [List.mem_range]; omega,by omega⟩
 simpa using this
theorem jl.nil {T:Nat}:jl T []:=⟨.nil,λx h=>by cases h⟩
theorem jl.put {T:Nat}(fG:T<=100000) {r:List Int}(h:jl T r) {x:Int}(J:0<=x/\x<T):Tot (oc r x) λe8=>jl T e8/\r.length<=e8.length:=by
 have ao:=h.len;refine (Cl r x h.a (by omega)).use λe8 eT=>⟨⟨eT.1,λy az=>?_⟩,yk (h.a.nd AZ) λy az=>(eT.2.2 y).2 (.inl az)⟩;rcases (eT.2.2 y).1 az with aR | rfl
 ·exact h.i y aR
 ·exact J
def mm (L:List (List Int)) (i:Nat):Nat:=(L.getD i []).length
def jC (L:List (List Int)):Nat:=(L.map List.length).sum
theorem NW:∀ (L L':List (List Int)),L.length=L'.length->(∀ i,mm L i<=mm L' i)->jC L<=jC L'/\((∃ i,mm L i<mm L' i)->jC L<jC L')
 | [],[],_,_=>⟨Nat.le_refl _,λ⟨i,h⟩=>absurd h (Nat.lt_irrefl _)⟩
 | a::L,b::L',ao,h=>by
  obtain ⟨h1,al⟩:=NW L L' (by simpa using ao) λi=>by simpa [mm] using h (i+1)
  have bd:a.length<=b.length:=by simpa [mm] using h 0
  have dg:jC (a::L)=a.length+jC L:=by simp [jC]
  have c5:jC (b::L')=b.length+jC L':=by simp [jC]
  rw [dg,c5];refine ⟨by omega,λ⟨i,hi⟩=>?_⟩;cases i with
  | zero =>
   have:a.length<b.length:=by simpa [mm] using hi
   omega
  | succ i =>
   have:=al ⟨i,by simpa [mm] using hi⟩;omega
def Sets (T:Nat) (L:List (List Int)):Prop:=∀ r∈L,jl T r
theorem NV {T:Nat}:∀ {L:List (List Int)},Sets T L->jC L<=L.length * T
 | [],_=>by simp [jC]
 | a::L,h=>by
  have h1:=(h a (by simp)).len;have al:=NV (L:=L) λr aw=>h r (by simp [aw]);have dg:jC (a::L)=a.length+jC L:=by simp [jC]
  rw [dg,List.length_cons,Nat.succ_mul]; omega
structure ou (T:Nat) (L L':List (List Int)):Prop where
 n:L'.length=L.length
 s:Sets T L'
 u:∀ i,mm L i<=mm L' i
theorem ou.refl {T:Nat}{L:List (List Int)}(h:Sets T L):ou T L L:=⟨rfl,h,λ_=>Nat.le_refl _⟩
theorem ou.trans {T:Nat}{A B C:List (List Int)}(h:ou T A B) (aR:ou T B C):ou T A C:=⟨aR.n.trans h.n,aR.s,λi=>Nat.le_trans (h.u i) (aR.u i)⟩
theorem ou.set {T:Nat}{L:List (List Int)}{k:Nat}{r e8:List Int}(aL:Sets T L) (hk:L[k]?=some r) (h:jl T e8) (ao:r.length<=e8.length):ou T L (L.set k e8):=by
 have dW:=(List.getElem?_eq_some_iff.1 hk).1;refine ⟨List.length_set ..,λx J=>?_,λi=>?_⟩
 ·rcases List.mem_or_eq_of_mem_set J with aR | aR
  ·exact aL x aR
  ·rw [aR]; exact h
 ·unfold mm;rw [List.getD_eq_getElem?_getD,List.getD_eq_getElem?_getD,Bw dW];by_cases e:i=k
  ·subst e; rw [if_pos rfl,hk]; exact ao
  ·rw [if_neg e]; exact Nat.le_refl _
theorem Ds {L:List (List Int)}{k:Nat}{r:List Int}(h:L[k]?=some r):mm L k=r.length:=by unfold mm; rw [List.getD_eq_getElem?_getD,h]; rfl
theorem TS {α:Type}{l:List α}{i:Int}{y:α}(h:idx l i=some y):l[i.toNat]?=some y:=by
 unfold idx at h
 split at h
 ·exact h
 ·cases h
theorem JW (T:Nat) (fG:T<=1000) (a0 ay:List (List Int)) (aP:a0.length<=9600) (he:ay.length=a0.length) (bd:Sets T a0) (h1:Sets a0.length ay):Tot (yH a0 ay) λr=>r.length=a0.length/\Sets T r:=by
 unfold yH;refine .aE (Ξ:=λr:List (List Int)=>r.length=a0.length/\Sets T r) ?_ λr aw=>.au aw;have aK:a0.length * T<=9600 * 1000:=Nat.mul_le_mul aP fG;refine Tot.loop (λs=>s.1.length=a0.length/\Sets T s.1) (λs=>2 * (a0.length * T - jC s.1)+s.2.toNat) ⟨rfl,bd⟩ (by
  show 2 * (a0.length * T - jC _)+1<1000000000000000000; omega) λs aL=>?_
 obtain ⟨L,f⟩:=s;obtain ⟨ao,aL⟩:=aL;simp only at ao aL ⊢;refine Tot.cg (λbn=>?_) (λ_=>.au ⟨ao,aL⟩);subst bn;refine .aE (Ξ:=λr:List (List Int) × Bool=>ou T L r.1/\(r.2=true->∃ i,mm L i<mm r.1 i)) ?_ λr aw=>?_
 ·refine Tot.upto (λs=>s.2.2) L.length (λ_ s=>ou T L s.1/\(s.2.1=true->∃ i,mm L i<mm s.1 i)) rfl (by omega) ⟨.refl aL,λh=>by cases h⟩ λk s hk h9 bw=>?_;obtain ⟨C,f,i⟩:=s;obtain ⟨hu,uk⟩:=bw;simp only at h9 hu uk ⊢;subst h9;rw [eE k (by omega)];have L6:=hu.n;refine Tot.bK (λa_=>?_) (λec=>.au ⟨hu,uk⟩);have LG:k<C.length:=by omega
  have hd:k<ay.length:=by omega
  have Lz:C[k]?=some C[k]:=List.getElem?_eq_getElem LG;have oG:=h1 _ (List.getElem_mem hd);rw [ed hd,ed LG];generalize ay[k]=row at *;generalize C[k]=lL at *;simp only [Option.bind_some];have n0:=oG.len;refine .aE (Ξ:=λD:List (List Int)=>ou T C D) ?_ λD oB=>?_
  ·refine Tot.upto (λs=>s.2) row.length (λ_ s=>ou T C s.1) rfl (by omega) (.refl hu.s) λae s aa h9 bw=>?_;obtain ⟨D,i⟩:=s;simp only at h9 bw ⊢;subst h9;rw [eE ae (by omega)];have Rr:=bw.n;refine Tot.bK (λa_=>?_) (λ_=>.au bw);have a_:ae<row.length:=by omega
   have az:=oG.i _ (List.getElem_mem a_);rw [ed a_];generalize row[ae]=y at *;simp only [Option.bind_some];refine .aE (Ξ:=λE:List (List Int)=>ou T C E) ?_ λE kY=>.au ⟨a_,rfl,kY⟩;refine Tot.count (λs=>s.2) T (λs=>∃ n:Nat,s.2=(n:Int)/\ou T C s.1) ⟨0,rfl,bw⟩ (by show (T:Int) - 0<_; omega) λs aL=>?_;obtain ⟨E,i⟩:=s;obtain ⟨n,C8,kY⟩:=aL;simp only at C8 kY ⊢;subst C8;have WJ:=kY.n;obtain ⟨z,bA,TP⟩:=k6 (l:=E) (i:=y) az.1 (by omega);have n5:=kY.s z TP;have s7:=n5.len;have Gs:k<E.length:=by omega
   have SB:E[k]?=some E[k]:=List.getElem?_eq_getElem Gs;rw [bA];simp only [Option.bind_some];refine Tot.bK (λa_=>?_) (λ_=>.au kY);have a_:n<z.length:=by omega
   rw [eE n (by omega),ed Gs,ed a_];simp only [Option.bind_some];refine .aE ((kY.s _ (List.getElem_mem Gs)).put (by omega) (n5.i _ (List.getElem_mem a_))) λe8 eT=>.au ⟨⟨n+1,rfl,?_⟩,by show (n:Int)<((n+1:Nat):Int); omega,by show ((n+1:Nat):Int)<=T; omega⟩;exact kY.trans (.set kY.s SB eT.1 eT.2)
  ·have Rr:=oB.n;have LH:k<D.length:=by omega
   have LA:D[k]?=some D[k]:=List.getElem?_eq_getElem LH;have uC:=hu.trans oB;refine .aE (Ξ:=λc:Bool=>c=true->∃ i,mm L i<mm D i) ?_ λc ab=>.au ⟨by omega,rfl,uC,ab⟩;refine Tot.cg (λbn=>.au λ_=>?_) (λ_=>?_)
   ·obtain ⟨i,hi⟩:=uk bn;exact ⟨i,Nat.lt_of_lt_of_le hi (oB.u i)⟩
   ·rw [ed LH];refine Tot.ax (.au λh=>⟨k,?_⟩);have aQ:=oB.u k;have bW:=hu.u k;rw [Ds Lz,Ds LA] at aQ;rw [Ds Lz] at bW;rw [Ds LA];have:¬ ((D[k].length:Int)=(lL.length:Int)):=λe=>by rw [decide_eq_true e] at h; cases h
    omega
 ·obtain ⟨hu,bn⟩:=aw;have Dc:=hu.n;obtain ⟨aQ,bW⟩:=NW L r.1 Dc.symm hu.u;have da:=NV hu.s;rw [show r.1.length=a0.length by omega] at da;refine .au ⟨⟨by show r.1.length=_; omega,hu.s⟩,?_⟩;show 2 * (a0.length * T - jC r.1)+r.2.toNat<2 * (a0.length * T - jC L)+true.toNat;cases iG:r.2 with
  | false=>simp only [Bool.toNat_false,Bool.toNat_true]; omega
  | true =>
   have:=bW (bn iG);simp only [Bool.toNat_true]; omega
theorem lD.sym {g:bV}(ba:gM g) {m:List State}(hm:lD g m) {st:State}(cf:st∈m) {v:Move}(hv:v∈st.dm):0<=v.Sym/\(v.Sym<1000->v.Sym<g.a6.length)/\(1000<=v.Sym->v.Sym - 1000<g.bx.length):=by
 have aJ:=ba.kO;rcases Uf.1 (hm.aA st cf v hv).s with h | h
 ·exact ⟨h.1,λ_=>h.2,λaR=>by omega⟩
 ·exact ⟨by omega,λaR=>by omega,λ_=>by omega⟩
theorem tK.go {g:bV}{m:List State}(hm:lD g m) {t:Trans}(h:tK m t):Tot (qq m t.State t.eY) λr=>0<=r/\r<m.length:=by
 obtain ⟨st,v,h1,al,aQ,_⟩:=h;exact (zm m t.State t.eY hm.s_).use λr aw=>aw.yes hm h1 al aQ
theorem NG {T:Nat}{L:List (List Int)}{r:List Int}(h:Sets T L) (aw:jl T r):Sets T (L++[r]):=λx J=>by
 rcases List.mem_append.1 J with J | J
 ·exact h x J
 ·rw [List.mem_singleton.1 J]; exact aw
theorem Ps (g:bV) (ba:gM g) {m:List State}(hm:lD g m):Tot (Bm m) λr=>∃ ck,pL m=some ck/\vg m ck/\r.length=ck.length/\Sets g.a6.length r:=by
 have aJ:=ba.kO;obtain ⟨ck,pc,h'⟩:=Pv hm;have vT:=h'.n;unfold Bm;rw [pc];refine Tot.ax (.aE (Ξ:=λr:List (List Int)=>r.length=ck.length/\Sets g.a6.length r) ?_ λr aw=>.au ⟨ck,rfl,h',aw⟩);refine Tot.upto (λs=>s.2) ck.length (λk s=>s.1.length=k/\Sets g.a6.length s.1) rfl (by omega) ⟨rfl,λr h=>by cases h⟩ λk s hk he bw=>?_;obtain ⟨L,i⟩:=s;obtain ⟨h1,al⟩:=bw;simp only at he h1 al ⊢;subst he;rw [eE k (by omega)];refine Tot.bK (λa_=>?_) (λec=>.au ⟨by show L.length=_; omega,al⟩);have a_:k<ck.length:=by omega
 have gb:=h'.ok _ (List.getElem_mem a_);rw [ed a_];generalize ck[k]=t at *;simp only [Option.bind_some];refine .aE (gb.go hm) λto Aw=>?_;obtain ⟨st,cf,kF⟩:=k6 Aw.1 Aw.2;have eK:=hm.pF st kF;have ux:=hm.s_ st kF;rw [cf];simp only [Option.bind_some];refine .aE (Pg _ (by have:=eK.len ba; omega)) λc _=>?_;refine .aE (Ξ:=jl g.a6.length) (Tot.cg (λ_=>?_) (λ_=>.au .nil)) λuR x8=>?_
 ·refine .aE (Ξ:=λ_=>True) (Tot.ap (by simp [lim]) trivial) λ_ _=>.au ⟨List.pairwise_singleton ..,λx J=>?_⟩;rw [List.mem_singleton.1 J]; omega
 refine .aE (Ξ:=jl g.a6.length) ?_ λr aw=>?_
 ·refine Tot.upto (λs=>s.2) st.dm.length (λk s=>jl g.a6.length s.1) rfl (by omega) x8 λae s aa he bw=>?_;obtain ⟨r,i⟩:=s;simp only at he bw ⊢;subst he;rw [eE ae (by omega)];refine Tot.bK (λa_=>?_) (λ_=>.au bw);have a_:ae<st.dm.length:=by omega
  have hv:=hm.sym ba kF (List.getElem_mem a_);rw [ed a_];generalize st.dm[ae]=v at *;simp only [Option.bind_some];refine .aE (Ξ:=jl g.a6.length) ?_ λr aw=>.au ⟨a_,rfl,aw⟩;refine .aE (Ξ:=jl g.a6.length) (Tot.bK (λh=>?_) (λ_=>.au bw)) λr aw=>.au aw;exact .aE (bw.put (by omega) ⟨hv.1,hv.2.1 h⟩) λr aw=>.au aw.1
 ·refine .aE (Ξ:=λ_=>True) (Tot.ap (by simp [lim]; omega) trivial) λ_ _=>.au ⟨a_,rfl,by simp; omega,NG al aw⟩
theorem Pt (g:bV) (ba:gM g) {m:List State}(hm:lD g m) {ck:List Trans}(pc:pL m=some ck) (h':vg m ck):Tot (Bn g m) λr=>r.length=ck.length/\Sets ck.length r:=by
 have aJ:=ba.kO;have GG:=ba.h2;have vT:=h'.n;unfold Bn;rw [pc];refine Tot.ax (.aE (JN g ba) λB ix=>.aE (Ξ:=λr:List (List Int)=>r.length=ck.length/\Sets ck.length r) ?_ λr aw=>.au aw);refine Tot.upto (λs=>s.2) ck.length (λk s=>s.1.length=k/\Sets ck.length s.1) rfl (by omega) ⟨rfl,λr h=>by cases h⟩ λk s hk he bw=>?_;obtain ⟨L,i⟩:=s;obtain ⟨h1,al⟩:=bw;simp only at he h1 al ⊢;subst he;rw [eE k (by omega)];refine Tot.bK (λa_=>?_) (λec=>.au ⟨by show L.length=_; omega,al⟩);have a_:k<ck.length:=by omega
 have gb:=h'.ok _ (List.getElem_mem a_);rw [ed a_];generalize ck[k]=t at *;simp only [Option.bind_some];refine .aE (gb.go hm) λto Aw=>?_;obtain ⟨st,cf,kF⟩:=k6 Aw.1 Aw.2;have ny:=TS cf;have ux:=hm.s_ st kF;rw [cf];simp only [Option.bind_some];refine .aE (Ξ:=jl ck.length) ?_ λr aw=>?_
 ·refine Tot.upto (λs=>s.2) st.dm.length (λk s=>jl ck.length s.1) rfl (by omega) .nil λae s aa he bw=>?_;obtain ⟨r,i⟩:=s;simp only at he bw ⊢;subst he;rw [eE ae (by omega)];refine Tot.bK (λa_=>?_) (λ_=>.au bw);have a_:ae<st.dm.length:=by omega
  have Dh:=List.getElem_mem a_;have hv:=hm.sym ba kF Dh;rw [ed a_];generalize st.dm[ae]=v at *;simp only [Option.bind_some];refine .aE (Ξ:=jl ck.length) ?_ λr aw=>.au ⟨a_,rfl,aw⟩;refine .aE (Ξ:=λc:Bool=>c=true->1000<=v.Sym) (Tot.bK (λh=>?_) (λ_=>.au λh=>by cases h)) λc ab=>?_
  ·have hw:aO (v.Sym - 1000)=v.Sym - 1000:=by
    have:=hv.2.2 h;rw [c8]; omega
   rw [hw];obtain ⟨b,aK,_⟩:=k6 (l:=B) (i:=v.Sym - 1000) (by omega) (by have:=hv.2.2 h; omega);rw [aK];exact Tot.ax (.au λ_=>h)
  ·refine .aE (Ξ:=jl ck.length) (Tot.cg (λh=>?_) (λ_=>.au bw)) λr aw=>.au aw;have C3:=h'.fI to.toNat st v ny Dh (ab h);rw [show ((to.toNat:Nat):Int)=to by omega] at C3;refine .aE (qM ck to v.Sym vT) λz bA=>?_;exact .aE (bw.put (by omega) ⟨bA.2.2 C3,bA.2.1⟩) λr aw=>.au aw.1
 ·refine .aE (Ξ:=λ_=>True) (Tot.ap (by simp [lim]; omega) trivial) λ_ _=>.au ⟨a_,rfl,by simp; omega,NG al aw⟩
theorem Pu (g:bV) (ba:gM g) {m:List State}(hm:lD g m) {ck:List Trans}(pc:pL m=some ck) (h':vg m ck):Tot (Bo g m) λr=>r.length=ck.length/\Sets ck.length r:=by
 have aJ:=ba.kO;have GG:=ba.h2;have Ak:=ba.jB;have vT:=h'.n;unfold Bo;rw [pc];refine Tot.ax (.aE (JN g ba) λB ix=>.aE (Ξ:=λr=>r=List.replicate ck.length ([]:List Int)) (Tot.mk (by simp [lim]; omega) (by simp)) λWj RA=>.aE (Ξ:=λr:List (List Int)=>r.length=ck.length/\Sets ck.length r) ?_ λr aw=>.au aw);subst RA;have Wf:∀ {L:List (List Int)},(L.length=ck.length/\Sets ck.length L)->∀ {z:Int}{r e8:List Int},idx L z=some r->jl ck.length e8->(L.set z.toNat e8).length=ck.length/\Sets ck.length (L.set z.toNat e8):=λ{L} jO {z r e8} _ eT=>⟨by rw [List.length_set]; exact jO.1,λx J=>by
  rcases List.mem_or_eq_of_mem_set J with aR | aR
  ·exact jO.2 x aR
  ·rw [aR]; exact eT⟩
 refine Tot.upto (λs=>s.2) ck.length (λk s=>s.1.length=ck.length/\Sets ck.length s.1) rfl (by omega) ⟨by simp,λr h=>by rw [List.eq_of_mem_replicate h]; exact .nil⟩ λk s hk he bw=>?_;obtain ⟨L,i⟩:=s;simp only at he bw ⊢;subst he;rw [eE k (by omega)];refine Tot.bK (λa_=>?_) (λec=>.au bw);have a_:k<ck.length:=by omega
 have gb:=h'.ok _ (List.getElem_mem a_);rw [ed a_];generalize ck[k]=t at *;simp only [Option.bind_some];refine .aE (Ξ:=λr:List (List Int)=>r.length=ck.length/\Sets ck.length r) ?_ λr aw=>.au ⟨a_,rfl,aw⟩;refine Tot.upto (λs=>s.2) g.aX.length (λk s=>s.1.length=ck.length/\Sets ck.length s.1) rfl (by omega) bw λp s aG he bw=>?_;obtain ⟨L,i⟩:=s;simp only at he bw ⊢;subst he;rw [eE p (by omega)];refine Tot.bK (λC6=>?_) (λec=>.au bw);have C6:p<g.aX.length:=by omega
 have mH:=List.getElem_mem C6;rw [ed C6];generalize g.aX[p]=q at *;have bR:=ba.hy q mH;have Dc:=ba.aH q mH;have vS:=Nc ba mH ix;simp only [Option.bind_some];refine .aE (Ξ:=λr:List (List Int)=>r.length=ck.length/\Sets ck.length r) ?_ λr aw=>.au ⟨C6,rfl,aw⟩;refine Tot.cg (λ_=>.au bw) (λ_=>.aE (Ξ:=λr:List (List Int)=>r.length=ck.length/\Sets ck.length r) ?_ λr aw=>.au aw);refine Tot.upto (λs=>s.2) q.fm.length (λk s=>s.1.length=ck.length/\Sets ck.length s.1) rfl (by omega) bw λae s aa he bw=>?_;obtain ⟨L,i⟩:=s;simp only at he bw ⊢;subst he;rw [eE ae (by omega)];refine Tot.bK (λdX=>?_) (λec=>.au bw);have dX:ae<q.fm.length:=by omega
 rw [ed dX];generalize q.fm[ae]=y at *;simp only [Option.bind_some];refine .aE (Ξ:=λr:List (List Int)=>r.length=ck.length/\Sets ck.length r) ?_ λr aw=>.au ⟨dX,rfl,aw⟩;refine .aE (Ξ:=λ_=>True) (Tot.bK (λ_=>.au trivial) (λ_=>?_)) λc _=>Tot.cg (λ_=>.au bw) (λ_=>?_)
 ·refine .aE (Ξ:=λr=>r=q.fm.drop (ae+1)) (Tot.sub ⟨by omega,by omega,by omega⟩ ?_) λr aw=>?_
  ·rw [List.take_of_length_le]
   ·congr 1
   ·rw [List.length_drop]; omega
  ·subst aw;exact .aE (JO B _ (by rw [List.length_drop]; omega) (λs aL=>vS s (List.mem_of_mem_drop aL)) (by omega)) λ_ _=>.au trivial
 refine .aE (Ξ:=λr=>r.length<=8) (Tot.sub ⟨by omega,by omega,by omega⟩ (by rw [List.length_take,List.length_drop]; omega)) λr aw=>?_;obtain ⟨st,_,cf,_⟩:=gb;have GN:=nA cf;refine .aE (JX hm t.State r ⟨by omega,GN.2.1⟩ (by omega)) λz bA=>?_;refine .aE (Ξ:=λr:List (List Int)=>r.length=ck.length/\Sets ck.length r) (Tot.cg (λ_=>?_) (λ_=>.au bw)) λr aw=>.au aw;refine .aE (qM ck z y vT) λn aP=>?_;refine .aE (Ξ:=λr:List (List Int)=>r.length=ck.length/\Sets ck.length r) (Tot.bK (λbd=>?_) (λ_=>.au bw)) λr aw=>.au aw;obtain ⟨uR,x8,GL⟩:=k6 (l:=L) bd (by rw [bw.1]; exact aP.2.1);rw [x8];refine Tot.ax (.aE ((bw.2 uR GL).put (by omega) ⟨by omega,by omega⟩) λe8 eT=>.au (Wf bw x8 eT.1))
theorem Pn (g:bV) (ba:gM g) {m:List State}(hm:lD g m):Tot (Bg g m) λr=>∃ ck,pL m=some ck/\vg m ck/\r.length=ck.length/\Sets g.a6.length r:=by
 have aJ:=ba.kO;unfold Bg;refine .aE (Ps g ba hm) λtg h1=>?_;obtain ⟨ck,pc,h',Gw,GM⟩:=h1;have vT:=h'.n;refine .aE (Pt g ba hm pc h') λfY al=>.aE (JW g.a6.length (by omega) tg fY (by omega) (by omega) GM (by rw [Gw]; exact al.2)) λuS aQ=>?_;refine .aE (Pu g ba hm pc h') λsf bW=>.aE (JW g.a6.length (by omega) uS sf (by omega) (by omega) aQ.2 (by rw [aQ.1,Gw]; exact bW.2)) λuT da=>?_;exact .au ⟨ck,pc,h',by omega,da.2⟩
def pY (g:bV) (p:Int):Prop:=0<p/\p<g.aX.length
theorem Po (g:bV) (ba:gM g) (K:List Item) (ao:K.length<=1000000):Tot (Bh g K) λr=>r.length<=540/\∀ p∈r,pY g p:=by
 unfold Bh;refine .aE (EY g ba K ao) λc ab=>?_;have hr:=sz ba ab.1 λx J=>((ab.2 x).1 J).je;refine .aE (Ξ:=λr:List Int=>r.length<=540/\∀ p∈r,pY g p) ?_ λr aw=>.au aw;refine Tot.upto (λs=>s.2) c.length (λk s=>s.1.length<=k/\∀ p∈s.1,pY g p) rfl (by omega) ⟨Nat.le_refl 0,λp h=>by cases h⟩ λk s hk he bw=>?_;obtain ⟨L,i⟩:=s;obtain ⟨h1,al⟩:=bw;simp only at he h1 al ⊢;subst he;rw [eE k (by omega)];refine Tot.bK (λa_=>?_) (λec=>.au ⟨by show L.length<=_; omega,al⟩);have a_:k<c.length:=by omega
 have hi:=((ab.2 _).1 (List.getElem_mem a_)).je;rw [ed a_];generalize c[k]=x at *;obtain ⟨q,bR,aQ,bW⟩:=hi;simp only [Option.bind_some];refine .aE (Ξ:=λL:List Int=>L.length<=k+1/\∀ p∈L,pY g p) ?_ λr aw=>.au ⟨a_,rfl,aw⟩;refine .aE (Ξ:=λc:Bool=>c=true->0<x.Prod) (Tot.bK (λh=>?_) (λ_=>.au λh=>by cases h)) λc ab=>?_
 ·rw [bR]; exact Tot.ax (.au λ_=>h)
 refine .aE (Ξ:=λL:List Int=>L.length<=k+1/\∀ p∈L,pY g p) (Tot.cg (λh=>?_) (λ_=>.au ⟨by omega,al⟩)) λr aw=>.au aw;refine .aE (Ξ:=λ_=>True) (Tot.ap (by simp [lim]; omega) trivial) λ_ _=>.au ⟨by simp; omega,λp aG=>?_⟩;rcases List.mem_append.1 aG with aG | aG
 ·exact al p aG
 ·rw [List.mem_singleton.1 aG]; exact ⟨ab h,(nA bR).2.1⟩
theorem Pp (g:bV) (ba:gM g) {m:List State}(hm:lD g m) {ck:List Trans}(pc:pL m=some ck) (h':vg m ck) (q p:Int):Tot (Bi g m q p) λr=>r.length<=9600/\∀ x∈r,0<=x/\x<ck.length:=by
 have vT:=h'.n;have Ak:=ba.jB;have GG:=ba.h2;unfold Bi;refine .aE (Ξ:=λc:Bool=>c=false->0<=p/\p<g.aX.length) (Tot.bK (λ_=>.au λh=>by cases h) (λ_=>Tot.bK (λ_=>.au λh=>by cases h) (λ_=>Tot.bK (λ_=>.au λh=>by cases h) (λh=>.au λaR=>by have:=of_decide_eq_false aR; omega)))) λc ab=>Tot.cg (λ_=>.au ⟨Nat.zero_le _,λx h=>by cases h⟩) (λh=>?_);obtain ⟨bd,h1⟩:=ab h;rw [pc];refine Tot.ax ?_;refine .aE (Ξ:=λr:List Int=>r.length<=9600/\∀ x∈r,0<=x/\x<ck.length) ?_ λr aw=>.au aw;obtain ⟨hy,GK,SY⟩:=k6 bd h1;have Dc:=ba.aH hy SY;refine Tot.upto (λs=>s.2) ck.length (λk s=>s.1.length<=k/\∀ x∈s.1,0<=x/\x<ck.length) rfl (by omega) ⟨Nat.le_refl 0,λp h=>by cases h⟩ λk s hk he bw=>?_;obtain ⟨L,i⟩:=s;obtain ⟨al,aQ⟩:=bw;simp only at he al aQ ⊢;subst he;rw [eE k (by omega)];refine Tot.bK (λa_=>?_) (λec=>.au ⟨by show L.length<=_; omega,aQ⟩);have a_:k<ck.length:=by omega
 have gb:=h'.ok _ (List.getElem_mem a_);rw [ed a_,GK];generalize ck[k]=t at *;obtain ⟨st,_,cf,_⟩:=gb;have GN:=nA cf;simp only [Option.bind_some];refine .aE (Ξ:=λL:List Int=>L.length<=k+1/\∀ x∈L,0<=x/\x<ck.length) ?_ λr aw=>.au ⟨a_,rfl,aw⟩;refine .aE (Ξ:=λ_=>True) (Tot.bK (λh=>?_) (λ_=>.au trivial)) λc ab=>?_
 ·exact .aE (JX hm t.State hy.fm ⟨by omega,GN.2.1⟩ (by omega)) λ_ _=>.au trivial
 refine .aE (Ξ:=λL:List Int=>L.length<=k+1/\∀ x∈L,0<=x/\x<ck.length) (Tot.cg (λh=>?_) (λ_=>.au ⟨by omega,aQ⟩)) λr aw=>.au aw;refine .aE (Ξ:=λ_=>True) (Tot.ap (by simp [lim]; omega) trivial) λ_ _=>.au ⟨by simp; omega,λp aG=>?_⟩;rcases List.mem_append.1 aG with aG | aG
 ·exact aQ p aG
 ·rw [List.mem_singleton.1 aG]; exact ⟨by omega,by omega⟩
structure xr (g:bV) (l:jV):Prop where
 p:pY g l.Prod
 t:jl g.a6.length l.a6
theorem rO (g:bV) (ba:gM g) {m:List State}(hm:lD g m):Tot (Bc g m) λr=>r.length<=81000/\∀ l∈r,xr g l:=by
 have aJ:=ba.kO;have x6:=hm.lK;unfold Bc;refine .aE (Pn g ba hm) λF aT=>?_;obtain ⟨ck,pc,h',WK,jq⟩:=aT;have vT:=h'.n;refine .aE (Ξ:=λr:List jV=>r.length<=81000/\∀ l∈r,xr g l) ?_ λr aw=>.au aw;refine Tot.upto (λs=>s.2) m.length (λk s=>s.1.length<=540 * k/\∀ l∈s.1,xr g l) rfl (by omega) ⟨Nat.le_refl 0,λp h=>by cases h⟩ λk s hk he bw=>?_;obtain ⟨L,i⟩:=s;obtain ⟨h1,al⟩:=bw;simp only at he h1 al ⊢;subst he;rw [eE k (by omega)];refine Tot.bK (λa_=>?_) (λec=>.au ⟨by show L.length<=_; omega,al⟩);have a_:k<m.length:=by omega
 have eK:=hm.pF _ (List.getElem_mem a_);rw [ed a_];generalize m[k]=st at *;refine Tot.ax (.aE (Po g ba st.Kernel (by have:=eK.len ba; omega)) λE kY=>?_);obtain ⟨WI,Rs⟩:=kY;refine .aE (Ξ:=λL:List jV=>L.length<=540 * (k+1)/\∀ l∈L,xr g l) ?_ λr aw=>.au ⟨a_,rfl,aw⟩;refine Tot.upto (λs=>s.2) E.length (λae s=>s.1.length<=540 * k+ae/\∀ l∈s.1,xr g l) rfl (by omega) ⟨h1,al⟩ λae s aa he bw=>?_;obtain ⟨L,i⟩:=s;obtain ⟨h1,al⟩:=bw;simp only at he h1 al ⊢;subst he;rw [eE ae (by omega)];refine Tot.bK (λdX=>?_) (λec=>.au ⟨by show L.length<=_; omega,al⟩);have dX:ae<E.length:=by omega
 have aG:=Rs _ (List.getElem_mem dX);rw [ed dX];generalize E[ae]=p at *;simp only [Option.bind_some];refine .aE (Pp g ba hm pc h' k p) λB ix=>?_;obtain ⟨WG,Rp⟩:=ix;refine .aE (Ξ:=jl g.a6.length) ?_ λS b6=>?_
 ·refine Tot.upto (λs=>s.2) B.length (λ_ s=>jl g.a6.length s.1) rfl (by omega) .nil λb s aK he bw=>?_;obtain ⟨S,i⟩:=s;simp only at he bw ⊢;subst he;rw [eE b (by omega)];refine Tot.bK (λx4=>?_) (λec=>.au bw);have x4:b<B.length:=by omega
  have J:=Rp _ (List.getElem_mem x4);rw [ed x4];generalize B[b]=x at *;obtain ⟨row,oG,GL⟩:=k6 (l:=F) J.1 (by omega);have lH:=jq row GL;have n0:=lH.len;simp only [Option.bind_some,oG];refine .aE (Ξ:=jl g.a6.length) ?_ λS b6=>.au ⟨x4,rfl,b6⟩;refine Tot.upto (λs=>s.2) row.length (λ_ s=>jl g.a6.length s.1) rfl (by omega) bw λz s bA he bw=>?_;obtain ⟨S,i⟩:=s;simp only at he bw ⊢;subst he;rw [eE z (by omega)];refine Tot.bK (λpr=>?_) (λec=>.au bw);have pr:z<row.length:=by omega
  rw [ed pr];exact Tot.ax (.aE (bw.put (by omega) (lH.i _ (List.getElem_mem pr))) λr aw=>.au ⟨pr,rfl,aw.1⟩)
 ·refine .aE (Ξ:=λ_=>True) (Tot.ap (by simp [lim]; omega) trivial) λ_ _=>.au ⟨dX,rfl,by simp; omega,λl ao=>?_⟩;rcases List.mem_append.1 ao with ao | ao
  ·exact al l ao
  ·rw [List.mem_singleton.1 ao]; exact ⟨aG,b6⟩
def k' (c:Cell):Nat:=c.aX.length+(if 0<=c.fh then 1 else 0)+(if c.gi then 1 else 0)
theorem NU {x:Option Int}{c:Cell}(ao:c.aX.length<=1000) (e:x=(((bif decide (0<=c.fh) then
some (aO ((c.aX.length:Int)+1))
else
some (c.aX.length:Int))).bind λib =>
((bif c.gi then
some (aO (ib+1))
else
some ib)).bind λdr =>
some dr)):x=some (k' c:Int):=by
 subst e;have hw:aO ((c.aX.length:Int)+1)=(c.aX.length:Int)+1:=by rw [c8]; omega
 have q_:aO ((c.aX.length:Int)+1+1)=(c.aX.length:Int)+1+1:=by rw [c8]; omega
 unfold k';by_cases h:0<=c.fh
 ·cases al:c.gi <;> simp [h,hw,q_]
 ·cases al:c.gi <;> simp [h,hw]
theorem Kq (c:Cell) (ao:c.aX.length<=1000):yG c=some (k' c:Int):=NU ao (by unfold yG; rfl)
structure lB (g:bV) (n:Nat) (c:Cell):Prop where
 s:0<=c.State/\c.State<n
 t:0<=c.bC/\c.bC<g.a6.length
 f:-1<=c.fh/\c.fh<n
 p:f_ ic c.aX
 q:∀ p∈c.aX,pY g p
 VK:0<k' c
theorem lB.len {g:bV}(ba:gM g) {n:Nat}{c:Cell}(h:lB g n c):c.aX.length<=60:=by
 have:=ba.jB;have:=jl.len (T:=g.aX.length) ⟨h.p,λx J=>⟨by have:=(h.q x J).1; omega,(h.q x J).2⟩⟩;omega
def xf (a b:Cell):Prop:=a.State<b.State\/(a.State=b.State/\a.bC<b.bC)
structure qE (g:bV) (n:Nat) (l:List Cell):Prop where
 ok:∀ c∈l,lB g n c
 HM:l.Pairwise xf
 n:l.length<=6000
theorem Pl (g:bV) (ba:gM g) {m:List State}(hm:lD g m) (qn:List jV) (ao:qn.length<=81000) (hk:∀ l∈qn,xr g l):Tot (wJ g m qn) (qE g m.length):=by
 have aJ:=ba.kO;have x6:=hm.lK;have Ak:=ba.jB;unfold wJ;refine .aE (Ξ:=qE g m.length) ?_ λr aw=>.au aw;refine Tot.upto (λs=>s.2) m.length (λk s=>s.1.length<=40 * k/\(∀ c∈s.1,lB g m.length c)/\s.1.Pairwise xf/\∀ c∈s.1,c.State<k) rfl (by omega) ⟨Nat.le_refl 0,λp h=>(by cases h),.nil,λp h=>by cases h⟩ λk s C5 he bw=>?_;obtain ⟨L,i⟩:=s;obtain ⟨h1,al,aQ,bW⟩:=bw;simp only at he h1 al aQ bW ⊢;subst he;rw [eE k (by omega)];refine Tot.bK (λa_=>?_) (λec=>.au ⟨al,aQ,by show L.length<=_; omega⟩);have a_:k<m.length:=by omega
 have eK:=hm.pF _ (List.getElem_mem a_);rw [ed a_];generalize m[k]=st at *;have WL:=eK.len ba;refine .aE (Ξ:=λL:List Cell=>L.length<=40 * (k+1)/\(∀ c∈L,lB g m.length c)/\L.Pairwise xf/\∀ c∈L,c.State<(k+1:Nat)) ?_ λr aw=>.au ⟨a_,rfl,aw⟩;refine Tot.upto (λs=>s.2) g.a6.length (λae s=>s.1.length<=40 * k+ae/\(∀ c∈s.1,lB g m.length c)/\s.1.Pairwise xf/\∀ c∈s.1,c.State<k\/(c.State=k/\c.bC<ae)) rfl (by omega) ⟨h1,al,aQ,λc ab=>.inl (bW c ab)⟩ λae s aa he bw=>?_;obtain ⟨L,i⟩:=s;obtain ⟨h1,al,aQ,bW⟩:=bw;simp only at he h1 al aQ bW ⊢;subst he;rw [eE ae (by omega)];refine Tot.bK (λdX=>?_) (λec=>.au ⟨by show L.length<=_; omega,al,aQ,λc ab=>by rcases bW c ab with h | h <;> omega⟩);refine .aE (Ξ:=λL:List Cell=>L.length<=40 * k+(ae+1)/\(∀ c∈L,lB g m.length c)/\L.Pairwise xf/\∀ c∈L,c.State<k\/(c.State=k/\c.bC<(ae+1:Nat))) ?_ λr aw=>.au ⟨by omega,rfl,aw⟩;refine .aE (zm m k ae hm.s_) λfx GO=>?_;have S9:=GO.xD hm;refine .aE (Ξ:=λ_=>True) ?_ λac _=>?_
 ·refine Tot.upto (λs=>s.2) st.Kernel.length (λ_ _=>True) rfl (by omega) trivial λz s bA he _=>?_;obtain ⟨b,i⟩:=s;simp only at he ⊢;subst he;rw [eE z (by omega)];simp only [Option.bind_some];refine Tot.bK (λpr=>?_) (λ_=>.au trivial);have pr:z<st.Kernel.length:=by omega
  rw [ed pr];simp only [Option.bind_some];refine .aE (Ξ:=λ_=>True) (Tot.cg (λ_=>.au trivial) (λ_=>Tot.bK (λ_=>Tot.bK (λ_=>.au trivial) (λ_=>.au trivial)) (λ_=>.au trivial))) λ_ _=>.au ⟨pr,rfl,trivial⟩
 refine .aE (Ξ:=λP:List Int=>f_ ic P/\∀ p∈P,pY g p) ?_ λP cT=>?_
 ·refine Tot.upto (λs=>s.2) qn.length (λ_ s=>f_ ic s.1/\∀ p∈s.1,pY g p) rfl (by omega) ⟨.nil,λp h=>by cases h⟩ λz s bA he bw=>?_;obtain ⟨P,i⟩:=s;obtain ⟨g1,g2⟩:=bw;simp only at he g1 g2 ⊢;subst he;rw [eE z (by omega)];refine Tot.bK (λpr=>?_) (λec=>.au ⟨g1,g2⟩);have pr:z<qn.length:=by omega
  have jO:=hk _ (List.getElem_mem pr);rw [ed pr];generalize qn[z]=l at *;have GQ:=jO.t.len;have CU:=jl.len (T:=g.aX.length) ⟨g1,λx J=>⟨by have:=(g2 x J).1; omega,(g2 x J).2⟩⟩;simp only [Option.bind_some];refine .aE (Ξ:=λP:List Int=>f_ ic P/\∀ p∈P,pY g p) ?_ λr aw=>.au ⟨pr,rfl,aw⟩;refine .aE (Ξ:=λ_=>True) (Tot.bK (λ_=>.aE (JU l.a6 ae (by omega)) λ_ _=>.au trivial) (λ_=>.au trivial)) λc _=>?_;refine .aE (Ξ:=λP:List Int=>f_ ic P/\∀ p∈P,pY g p) (Tot.cg (λ_=>?_) (λ_=>.au ⟨g1,g2⟩)) λr aw=>.au aw;refine .aE (Cl P l.Prod g1 (by omega)) λr aw=>.au ⟨aw.1,λp aG=>?_⟩;rcases (aw.2.2 p).1 aG with h | rfl
  ·exact g2 p h
  ·exact jO.p
 ·have CU:=jl.len (T:=g.aX.length) ⟨cT.1,λx J=>⟨by have:=(cT.2 x J).1; omega,(cT.2 x J).2⟩⟩;rw [Kq _ (by show P.length<=_; omega)];refine Tot.ax (.aE (Ξ:=λL:List Cell=>L.length<=40 * k+(ae+1)/\(∀ c∈L,lB g m.length c)/\L.Pairwise xf/\∀ c∈L,c.State<k\/(c.State=k/\c.bC<(ae+1:Nat))) (Tot.bK (λbd=>?_) (λ_=>.au ⟨by omega,al,aQ,λc ab=>by rcases bW c ab with h | h <;> omega⟩)) λr aw=>.au aw);refine .aE (Ξ:=λ_=>True) (Tot.ap (by simp [lim]; omega) trivial) λ_ _=>.au ⟨by simp; omega,λc ab=>?_,List.pairwise_append.2 ⟨aQ,List.pairwise_singleton ..,λa bf b aK=>?_⟩,λc ab=>?_⟩
  ·rcases List.mem_append.1 ab with ab | ab
   ·exact al c ab
   ·rw [List.mem_singleton.1 ab];exact ⟨⟨by show (0:Int)<=k; omega,by show (k:Int)<_; omega⟩,⟨by show (0:Int)<=ae; omega,by show (ae:Int)<_; omega⟩,S9,cT.1,cT.2,by omega⟩
  ·rw [List.mem_singleton.1 aK];rcases bW a bf with h | h
   ·exact .inl h
   ·exact .inr h
  ·rcases List.mem_append.1 ab with ab | ab
   ·rcases bW c ab with h | h
    ·exact .inl h
    ·exact .inr ⟨h.1,by omega⟩
   ·rw [List.mem_singleton.1 ab];exact .inr ⟨rfl,by show (ae:Int)<_; omega⟩
open Go Go.Own
theorem iM.Uh {m:fQ}{T L:Nat}(h:iM m T L):kQ m (3+T) m.bG.length 0 0 :=
 ⟨h.h7,h.lo,h.hi,by have:=h.ty; omega,rfl,by rw [h.hx]; decide,by rw [h.hy]; exact Nat.le_refl 0,by rw [h.hy]; exact λp aG=>absurd aG (by simp),h.lvl,h.gQ⟩
theorem t78 (s:Source) (aK:qK s):Tot (wN s) λr=>r.2.1=0->gM r.1:=by
 unfold wN;refine .aE (t92 s aK) λc ab=>Tot.cg (λ_=>.au λh=>absurd h (by decide)) (λk1=>?_);have ok:Jc s:=ab (by simpa using k1);refine .aE (Tot.mk (by decide) (rfl:List.replicate (3:Int).toNat false=List.replicate (3:Int).toNat false)) λaZ hE=>?_;have Sr:=aK.Cx;have Dc:=aK.aH
 -- declarations
 refine Tot.aE (Ξ:=λr=>iM r.1 (1001 * 1000) 0) ?_ λcn da=>?_
 ·refine Tot.count (λz=>z.2.2) s.Decls.length (λz=>0<=z.2.2/\z.2.2<=s.Decls.length/\iM z.1 (1001 * z.2.2.toNat) 0/\z.1.b0<=z.2.2) ⟨Int.le_refl 0,by show (0:Int)<=_; omega,⟨by show aZ.length=3; rw [<- hE]; rfl,Nat.le_refl 3,Nat.le_refl 3,Nat.le_refl 0,Nat.le_refl 0,rfl,rfl,Int.le_refl 0,by show ∀ t∈[_,_,_],0<=bC.Level t; simp⟩,Int.le_refl 0⟩ (by show (s.Decls.length:Int) - 0<_; omega) λz bA=>?_;obtain ⟨m,st,i⟩:=z;obtain ⟨bd,h1,hm,q2⟩:=bA;simp only at bd h1 hm q2 ⊢;have hw:aO (i+1)=i+1:=by rw [c8]; omega
  rw [hw];have Gv:=hm.lvl;refine Tot.bK (λa_=>?_) (λ_=>.au (hm.mono (by omega) (Nat.le_refl _)));refine .aE (Tot.hK (Φ:=λy=>y∈s.Decls) bd a_ λy _ az=>az) λd aU=>?_;have oB:=aK.decls d aU;have Ls:=oB.n;refine .aE (Ξ:=λ_=>True) (Tot.cg (λ_=>.au trivial) (λ_=>.au trivial)) λjn _=>.aE (Ξ:=λae=>0<=ae/\ae<=i+1) (Tot.cg (λ_=>.au (by rw [c8]; omega)) (λ_=>.au (by omega))) λgP zR=>?_;refine Tot.aE (Ξ:=λr=>iM r.1 (1001 * i.toNat+1000) 0/\r.1.b0<=i+1) ?_ λdU ua=>.au ⟨⟨?_,?_,?_,?_⟩,?_,?_⟩
  ·refine Tot.count (λz=>z.2.2) d.fg.length (λz=>0<=z.2.2/\z.2.2<=d.fg.length/\iM z.1 (1001 * i.toNat+z.2.2.toNat) 0/\z.1.b0<=i+1) ⟨Int.le_refl 0,by show (0:Int)<=_; omega,⟨hm.h7,hm.lo,hm.hi,hm.ty,hm.fX,hm.hy,hm.hx,zR.1,hm.gQ⟩,zR.2⟩ (by show (d.fg.length:Int) - 0<_; omega) λz bA=>?_;obtain ⟨m,st,k⟩:=z;obtain ⟨g0,g1,hm,q2⟩:=bA;simp only at g0 g1 hm q2 ⊢;have vV:aO (k+1)=k+1:=by rw [c8]; omega
   rw [vV];refine Tot.bK (λvP=>?_) (λ_=>.au ⟨hm.mono (by omega) (Nat.le_refl _),q2⟩);have Du:Tot (idx d.fg k) λy=>y∈d.fg:=Tot.hK g0 vP λy _ az=>az;refine Tot.aE (Ξ:=λae=>iM ae.1 (1001 * i.toNat+k.toNat+1) 0/\ae.1.b0<=i+1) ?_ λae aa=>.au ⟨⟨?_,?_,?_,aa.2⟩,?_,?_⟩
   ·refine Tot.cg (λ_=>?_) (λ_=>?_)
    ·refine .aE Du λx J=>.aE (t93 m d x hm.h7 (by have:=hm.hi; omega) (by have:=hm.ty; omega) (ok.decls d aU x J)) λbS ba=>.au ⟨hm.grow ba,by show bS.b0<=_; rw [ba.lvl]; exact q2⟩
    ·refine Tot.aE (Ξ:=λae=>iM ae (1001 * i.toNat+k.toNat+1) 0/\ae.b0<=i+1) ?_ λae aa=>.aE Du λ_ _=>.au aa;refine Tot.cg (λ_=>?_) (λ_=>.au ⟨hm.mono (by omega) (Nat.le_refl _),q2⟩);exact .aE Du λ_ _=>.aE Du λ_ _=>.aE (t94 m _ _) λbS iz=>.au ⟨(hm.same iz.1).mono (by omega) (Nat.le_refl _),by rw [iz.1.gQ]; exact q2⟩
   ·show 0<=k+1; omega
   ·show k+1<=(d.fg.length:Int); omega
   ·show iM ae.1 (1001 * i.toNat+(k+1).toNat) 0;exact aa.1.mono (by omega) (Nat.le_refl _)
   ·show k<k+1; omega
   ·show k+1<=(d.fg.length:Int); omega
  ·show 0<=i+1; omega
  ·show i+1<=(s.Decls.length:Int); omega
  ·show iM dU.1 (1001 * (i+1).toNat) 0;exact ua.1.mono (by omega) (Nat.le_refl _)
  ·exact ua.2
  ·show i<i+1; omega
  ·show i+1<=(s.Decls.length:Int); omega
 -- what stands on the left
 refine Tot.aE (Ξ:=λr=>iM r (1001 * 1000) 1000) ?_ λc3 FA=>?_
 ·refine Tot.count (λz=>z.2) s.ei.length (λz=>0<=z.2/\z.2<=s.ei.length/\iM z.1 (1001 * 1000) z.2.toNat) ⟨Int.le_refl 0,by show (0:Int)<=_; omega,da⟩ (by show (s.ei.length:Int) - 0<_; omega) λz bA=>?_;obtain ⟨m,i⟩:=z;obtain ⟨bd,h1,hm⟩:=bA;simp only at bd h1 hm ⊢;have hw:aO (i+1)=i+1:=by rw [c8]; omega
  rw [hw];refine Tot.bK (λa_=>?_) (λ_=>.au (hm.mono (Nat.le_refl _) (by omega)));have uo:=hm.hi;have uv:=hm.fX;refine Tot.aE (Ξ:=λae=>iM ae (1001 * 1000) (i.toNat+1)) ?_ λae aa=>.au ⟨⟨?_,?_,?_⟩,?_,?_⟩
  ·refine .aE (Tot.hK (Φ:=λ_=>True) bd a_ λy _ az=>trivial) λr aw=>.aE (t95 m _ (by simp only [e9]; omega)) λt _=>?_;refine Tot.aE (Ξ:=λae=>iM ae (1001 * 1000) i.toNat) ?_ λfA lY=>?_
   ·exact Tot.cg (λ_=>.aE (t94 m _ _) λbS iz=>.au (hm.same iz.1)) (λ_=>.au hm)
   ·have W6:=lY.fX;refine .aE (t96 fA _ (by simp only [e9]; omega)) λk _=>?_;refine Tot.aE (Ξ:=λl=>l.length<=i.toNat+1) ?_ λl ao=>.au ⟨lY.h7,lY.lo,lY.hi,lY.ty,ao,lY.hy,lY.hx,lY.lvl,lY.gQ⟩;refine Tot.cg (λ_=>?_) (λ_=>.au (by omega));exact .aE (Ξ:=λ_=>True) (Tot.ap (by simp [lim]; omega) trivial) λ_ _=>.au (by simp; omega)
  ·show 0<=i+1; omega
  ·show i+1<=(s.ei.length:Int); omega
  ·show iM ae (1001 * 1000) (i+1).toNat;exact aa.mono (Nat.le_refl _) (by omega)
  ·show i<i+1; omega
  ·show i+1<=(s.ei.length:Int); omega
 -- types and starts
 refine Tot.aE (Ξ:=λr=>iM r (1001 * 1000) 1000) ?_ λbY nV=>?_
 ·refine Tot.count (λz=>z.2) s.Decls.length (λz=>0<=z.2/\z.2<=s.Decls.length/\iM z.1 (1001 * 1000) 1000) ⟨Int.le_refl 0,by show (0:Int)<=_; omega,FA⟩ (by show (s.Decls.length:Int) - 0<_; omega) λz bA=>?_;obtain ⟨m,i⟩:=z;obtain ⟨bd,h1,hm⟩:=bA;simp only at bd h1 hm ⊢;have hw:aO (i+1)=i+1:=by rw [c8]; omega
  rw [hw];refine Tot.bK (λa_=>?_) (λ_=>.au hm);refine Tot.aE (Ξ:=λr=>iM r (1001 * 1000) 1000) ?_ λla Q9=>.au ⟨⟨?_,?_,Q9⟩,?_,?_⟩
  ·have mD:i.toNat<s.Decls.length:=by omega
   have hi:idx s.Decls i=some s.Decls[i.toNat]:=by simp [idx,bd,mD]
   rw [hi];generalize aU:s.Decls[i.toNat]=d;have kn:d∈s.Decls:=by rw [<- aU]; exact List.getElem_mem mD
   have Ls:=(aK.decls d kn).n;refine Tot.count (λz=>z.2) d.fg.length (λz=>0<=z.2/\z.2<=d.fg.length/\iM z.1 (1001 * 1000) 1000) ⟨Int.le_refl 0,by show (0:Int)<=_; omega,hm⟩ (by show (d.fg.length:Int) - 0<_; omega) λz bA=>?_;obtain ⟨m,k⟩:=z;obtain ⟨g0,g1,hm⟩:=bA;simp only at g0 g1 hm ⊢;have vV:aO (k+1)=k+1:=by rw [c8]; omega
   rw [vV];refine Tot.ax (Tot.bK (λvP=>?_) (λ_=>.au hm));have uv:=hm.fX;refine Tot.aE (Ξ:=λae=>iM ae (1001 * 1000) 1000) ?_ λae aa=>.au ⟨⟨?_,?_,aa⟩,?_,?_⟩
   ·refine Tot.ax (.aE (Tot.hK (Φ:=λ_=>True) g0 vP λ_ _ _=>trivial) λx _=>?_);refine .aE (Ξ:=λ_=>True) (Tot.ax (Tot.cg (λ_=>.aE (t96 m _ (by simp only [e9]; omega)) λ_ _=>.au trivial) (λ_=>.au trivial))) λc _=>?_;refine Tot.aE (Ξ:=λae=>iM ae (1001 * 1000) 1000) ?_ λae aa=>.au aa;exact Tot.cg (λ_=>.aE (t94 m _ _) λbS iz=>.au (hm.same iz.1)) (λ_=>.au hm)
   ·show 0<=k+1; omega
   ·show k+1<=(d.fg.length:Int); omega
   ·show k<k+1; omega
   ·show k+1<=(d.fg.length:Int); omega
  ·show 0<=i+1; omega
  ·show i+1<=(s.Decls.length:Int); omega
  ·show i<i+1; omega
  ·show i+1<=(s.Decls.length:Int); omega
 -- the start
 have sZ:=ok.pos;refine Tot.aE (Ξ:=λ_=>True) (Tot.cg (λ_=>.aE (Ξ:=λ_=>True) (Tot.hK (by decide) (by omega) λ_ _ _=>trivial) λ_ _=>.au trivial) (λ_=>.au trivial)) λs8 _=>?_;have W8:=nV.fX;refine .aE (t96 bY s8 (by simp only [e9]; omega)) λh6 pf=>?_;have Rf:-1<=h6/\h6<bY.bG.length:=by rcases pf with h | h <;> omega
 -- the alternatives
 have jO:bY.bG.length<=1000:=nV.fX;generalize RB:bY.bG.length=L at jO Rf;refine Tot.aE (Ξ:=λr=>kQ r (3+1001 * 1000+1001 * 1000000) L (1001 * 1000000) (1+1001 * 1000000)/\1<=r.aq.aX.length) ?_ λbc Rg=>?_
 ·have sX:=nV.Uh;rw [RB] at sX;refine Tot.count (λz=>z.2) s.ei.length (λz=>0<=z.2/\z.2<=s.ei.length/\kQ z.1 (3+1001 * 1000+1001 * (1000 * z.2.toNat)) L (1001 * (1000 * z.2.toNat)) (1+1001 * (1000 * z.2.toNat))/\1<=z.1.aq.aX.length) ⟨Int.le_refl 0,by show (0:Int)<=_; omega,⟨sX.h7,sX.lo,sX.hi,sX.ty,sX.fX,sX.hx,Nat.le_refl 1,λp aG=>?_,sX.lvl,sX.gQ⟩,Nat.le_refl 1⟩ (by show (s.ei.length:Int) - 0<_; omega) λz bA=>?_
  ·rw [List.mem_singleton.1 aG];have WX:=nV.hx;have mC:=nV.lo;refine ⟨⟨Int.le_refl 0,by show (0:Int)<=L+bY.bD; omega⟩,λy az=>?_,⟨by show (-1:Int)<=-1; omega,by show (-1:Int)<_; omega⟩⟩;have az:y∈[aO (1001+h6)]:=az;rw [List.mem_singleton.1 az];have:aO (1001+h6)=1001+h6:=by rw [c8]; omega
   rw [this];exact .inr (by show 1000<=1001+h6/\1001+h6<=1000+((L:Int)+bY.bD); omega)
  ·obtain ⟨m,i⟩:=z;obtain ⟨bd,h1,hm,uz⟩:=bA;simp only at bd h1 hm uz ⊢;have hw:aO (i+1)=i+1:=by rw [c8]; omega
   rw [hw];refine Tot.bK (λa_=>?_) (λ_=>.au ⟨hm.mono (by omega) (by omega) (by omega),uz⟩);refine Tot.aE (Ξ:=λr=>kQ r (3+1001 * 1000+1001 * (1000 * (i.toNat+1))) L (1001 * (1000 * (i.toNat+1))) (1+1001 * (1000 * (i.toNat+1)))/\1<=r.aq.aX.length) ?_ λkq CP=>.au ⟨⟨?_,?_,?_,CP.2⟩,?_,?_⟩
   ·have mD:i.toNat<s.ei.length:=by omega
    have hi:idx s.ei i=some s.ei[i.toNat]:=by simp [idx,bd,mD]
    rw [hi];generalize aU:s.ei[i.toNat]=d;have kn:d∈s.ei:=by rw [<- aU]; exact List.getElem_mem mD
    have Ls:=(aK.rules d kn).n;refine Tot.count (λz=>z.2) d.fR.length (λz=>0<=z.2/\z.2<=d.fR.length/\kQ z.1 (3+1001 * 1000+1001 * (1000 * i.toNat+z.2.toNat)) L (1001 * (1000 * i.toNat+z.2.toNat)) (1+1001 * (1000 * i.toNat+z.2.toNat))/\1<=z.1.aq.aX.length) ⟨Int.le_refl 0,by show (0:Int)<=_; omega,hm,uz⟩ (by show (d.fR.length:Int) - 0<_; omega) λz bA=>?_;obtain ⟨m,k⟩:=z;obtain ⟨g0,g1,hm,uz⟩:=bA;simp only at g0 g1 hm uz ⊢;have vV:aO (k+1)=k+1:=by rw [c8]; omega
    rw [vV];refine Tot.ax (Tot.bK (λvP=>?_) (λ_=>.au ⟨hm.mono (by omega) (by omega) (by omega),uz⟩));refine Tot.ax (Tot.ax (.aE (Tot.hK (Φ:=λy=>y∈d.fR) g0 vP λ_ _ h=>h) λa bf=>?_));refine .aE (t97 m d.Left a hm (by omega) (by omega) (by omega) (by omega) ((aK.rules d kn).alts a bf) (ok.rules d kn a bf)) λbS iz=>.au ⟨⟨?_,?_,?_,iz.2⟩,?_,?_⟩
    ·show 0<=k+1; omega
    ·show k+1<=(d.fR.length:Int); omega
    ·show kQ bS (3+1001 * 1000+1001 * (1000 * i.toNat+(k+1).toNat)) L (1001 * (1000 * i.toNat+(k+1).toNat)) (1+1001 * (1000 * i.toNat+(k+1).toNat));exact iz.1.mono (by omega) (by omega) (by omega)
    ·show k<k+1; omega
    ·show k+1<=(d.fR.length:Int); omega
   ·show 0<=i+1; omega
   ·show i+1<=(s.ei.length:Int); omega
   ·show kQ kq (3+1001 * 1000+1001 * (1000 * (i+1).toNat)) L (1001 * (1000 * (i+1).toNat)) (1+1001 * (1000 * (i+1).toNat));exact CP.1.mono (by omega) (by omega) (by omega)
   ·show i<i+1; omega
   ·show i+1<=(s.ei.length:Int); omega
 obtain ⟨pg,Rh⟩:=Rg;refine Tot.nv (λh=>.au λaR=>absurd aR h) (λhe=>?_);have Wx:=pg.fX;have Wv:=pg.hi;have Wz:=pg.ty;have Ww:=pg.hx;have Wy:=pg.yK
 -- nonterminals
 refine Tot.aE (Ξ:=λl=>l.length=1+L) ?_ λu6 WB=>?_
 ·refine Tot.count (λz=>z.2) bc.bG.length (λz=>0<=z.2/\z.2<=bc.bG.length/\z.1.length=1+z.2.toNat) ⟨Int.le_refl 0,by show (0:Int)<=_; omega,rfl⟩ (by show (bc.bG.length:Int) - 0<_; omega) λz bA=>?_;obtain ⟨l,i⟩:=z;obtain ⟨bd,h1,ao⟩:=bA;simp only at bd h1 ao ⊢;have hw:aO (i+1)=i+1:=by rw [c8]; omega
  rw [hw];refine Tot.bK (λa_=>?_) (λ_=>.au (by show l.length=1+L; omega));refine .aE (Tot.hK (Φ:=λ_=>True) bd a_ λ_ _ _=>trivial) λmq _=>.aE (t98 _ _ (by show bc.b2.length<=_; simp only [e9]; omega)) λw_ Ri=>?_;have WC:w_=-1\/(0<=w_/\w_<bc.b2.length):=Ri;refine .aE (Ξ:=λ_=>True) (Tot.bK (λh=>.aE (Ξ:=λ_=>True) (Tot.hK h (by omega) λ_ _ _=>trivial) λ_ _=>.au trivial) (λ_=>.au trivial)) λqm _=>?_;refine .aE (Ξ:=λ_=>True) (Tot.ap (by simp [lim]; omega) trivial) λ_ _=>.au ⟨⟨?_,?_,?_⟩,?_,?_⟩
  ·show 0<=i+1; omega
  ·show i+1<=(bc.bG.length:Int); omega
  ·show (l++[_]).length=1+(i+1).toNat;simp; omega
  ·show i<i+1; omega
  ·show i+1<=(bc.bG.length:Int); omega
 refine Tot.aE (Ξ:=λl=>(l.length:Int)=1+L+bc.bD) ?_ λiT WD=>?_
 ·refine Tot.count (λz=>z.2) (bc.bD+1) (λz=>1<=z.2/\z.2<=bc.bD+1/\(z.1.length:Int)=1+L+(z.2 - 1)) ⟨Int.le_refl 1,by show (1:Int)<=_; omega,by show (u6.length:Int)=1+L+(1 - 1); omega⟩ (by show bc.bD+1 - 1<_; omega) λz bA=>?_;obtain ⟨l,i⟩:=z;obtain ⟨bd,h1,ao⟩:=bA;simp only at bd h1 ao ⊢;have hw:aO (i+1)=i+1:=by rw [c8]; omega
  rw [hw];refine Tot.bK (λa_=>?_) (λ_=>.au (by show (l.length:Int)=1+L+bc.bD; omega));refine .aE (t99 i (by omega) (by omega)) λEf WE=>.aE (Ξ:=λ_=>True) (Tot.cat (by show 1+Ef.size<=_; omega) trivial) λrC _=>?_;refine .aE (Ξ:=λ_=>True) (Tot.ap (by simp [lim]; omega) trivial) λ_ _=>.au ⟨⟨?_,?_,?_⟩,?_,?_⟩
  ·show 1<=i+1; omega
  ·show i+1<=bc.bD+1; omega
  ·show ((l++[_]).length:Int)=1+L+(i+1 - 1);simp; omega
  ·show i<i+1; omega
  ·show i+1<=bc.bD+1; omega
 -- numbers
 have LC:=pg.h7;refine Tot.aE (Ξ:=λl=>l.length=bc.aq.a6.length/\∀ t∈l,0<=t.Level) ?_ λkt Rj=>?_
 ·refine Tot.count (λz=>z.2.2) bc.aq.a6.length (λz=>3<=z.2.2/\z.2.2<=bc.aq.a6.length/\z.1.length=bc.aq.a6.length/\∀ t∈z.1,0<=t.Level) ⟨Int.le_refl 3,by have:=pg.lo; show (3:Int)<=_; omega,rfl,pg.gQ⟩ (by show (bc.aq.a6.length:Int) - 3<_; omega) λz bA=>?_;obtain ⟨l,n,i⟩:=z;obtain ⟨bd,h1,ao,hv⟩:=bA;simp only at bd h1 ao hv ⊢;have hw:aO (i+1)=i+1:=by rw [c8]; omega
  rw [hw];refine Tot.bK (λa_=>?_) (λ_=>.au ⟨ao,hv⟩);refine Tot.aE (Ξ:=λae=>ae.1.length=bc.aq.a6.length/\∀ t∈ae.1,0<=t.Level) ?_ λae aa=>.au ⟨⟨?_,?_,aa⟩,?_,?_⟩
  ·refine .aE (Tot.hK (Φ:=λ_=>True) (by omega) (by rw [LC]; omega) λ_ _ _=>trivial) λ_ _=>?_;refine Tot.aE (Ξ:=λae=>ae.1.length=bc.aq.a6.length/\∀ t∈ae.1,0<=t.Level) ?_ λae aa=>.au aa;refine Tot.cg (λ_=>?_) (λ_=>.au ⟨ao,hv⟩);refine .aE (Tot.hK (Φ:=λy=>y∈l) (by omega) a_ λ_ _ h=>h) λy az=>.au ⟨by show (l.set _ _).length=_; simp [ao],λt aJ=>?_⟩;rcases wq aJ with aJ | rfl
   ·exact hv t aJ
   ·exact (hv y az:0<=y.Level)
  ·show 3<=i+1; omega
  ·show i+1<=(bc.aq.a6.length:Int); omega
  ·show i<i+1; omega
  ·show i+1<=(bc.aq.a6.length:Int); omega
 -- limits
 obtain ⟨K5,Rk⟩:=Rj;refine Tot.aE (Ξ:=λc=>c=false->kt.length<=40/\iT.length<=24/\bc.aq.aX.length<=60) ?_ λqM Q4=>?_
 ·refine Tot.bK (λ_=>.au λh=>by cases h) (λh1=>Tot.bK (λ_=>.au λh=>by cases h) (λal=>.au λh=>?_));have aQ:=of_decide_eq_false h;omega
 refine Tot.aE (Ξ:=λc=>c=false->qM=false/\∀ p∈bc.aq.aX,p.fm.length<=8) ?_ λyR Q5=>?_
 ·refine Tot.count (λz=>z.2) bc.aq.aX.length (λz=>0<=z.2/\z.2<=bc.aq.aX.length/\(z.1=false->qM=false/\∀ (ae:Nat) (p:Prod),(ae:Int)<z.2->bc.aq.aX[ae]?=some p->p.fm.length<=8)) ⟨Int.le_refl 0,by show (0:Int)<=_; omega,λh=>⟨h,λae p aa=>by have aa:(ae:Int)<0:=aa; omega⟩⟩ (by show (bc.aq.aX.length:Int) - 0<_; omega) λz bA=>?_;obtain ⟨c,i⟩:=z;obtain ⟨bd,h1,ao⟩:=bA;simp only at bd h1 ao ⊢;have hw:aO (i+1)=i+1:=by rw [c8]; omega
  rw [hw];refine Tot.bK (λa_=>?_) (λec=>.au λh=>⟨(ao h).1,λp aG=>?_⟩)
  ·refine Tot.aE (Ξ:=λvk=>vk=false->c=false/\∀ p,bc.aq.aX[i.toNat]?=some p->p.fm.length<=8) ?_ λvk fy=>.au ⟨⟨?_,?_,λh=>?_⟩,?_,?_⟩
   ·refine Tot.cg (λ_=>.au λh=>by cases h) (λSi=>.aE (Tot.hK (Φ:=λy=>idx bc.aq.aX i=some y) bd a_ λ_ h _=>h) λy az=>.au λh=>⟨Si,λp aG=>?_⟩);have al:=(qk az).2.2;rw [aG] at al; cases al;have:=of_decide_eq_false h;omega
   ·show 0<=i+1; omega
   ·show i+1<=(bc.aq.aX.length:Int); omega
   ·obtain ⟨ay,a2⟩:=fy h;obtain ⟨hN,iu⟩:=ao ay;refine ⟨hN,λae p aa aG=>?_⟩;have aa:(ae:Int)<i+1:=aa;by_cases SF:(ae:Int)<i
    ·exact iu ae p SF aG
    ·have:ae=i.toNat:=by omega
     subst this;exact a2 p aG
   ·show i<i+1; omega
   ·show i+1<=(bc.aq.aX.length:Int); omega
  ·obtain ⟨ae,aa,rfl⟩:=List.mem_iff_getElem.1 aG;exact (ao h).2 ae _ (by omega) (List.getElem?_eq_getElem aa)
 refine Tot.cg (λ_=>.au λh=>absurd h (by decide)) (λab=>.au λ_=>?_);obtain ⟨ay,a2⟩:=Q5 ab;obtain ⟨hN,iu,lk⟩:=Q4 ay;have mC:=pg.lo;refine ⟨⟨?_,hN⟩,⟨?_,iu⟩,⟨Rh,lk⟩,λp aG=>?_,a2,Rk⟩
 ·show 3<=kt.length; omega
 ·show 1<=iT.length; omega
 ·have:=pg.hy p aG;exact this.mono (by show _<=kt.length; omega) (by show (L:Int)+bc.bD<=((iT.length:Nat):Int) - 1; omega)
theorem t68 (s:Source) (aK:qK s):Tot (wL s) λr=>r.2=true->gM r.1:=by
 unfold wL;exact .aE (t78 s aK) λr aw=>.au λh=>aw (of_decide_eq_true h)
theorem JS (s:Source) (aK:qK s):Tot (wI s) λr=>r.2.2=true->gM r.1/\lD r.1 r.2.1:=by
 unfold wI;refine .aE (t68 s aK) λr aw=>Tot.cg (λ_=>.au λh=>by cases h) (λh=>?_);have ba:=aw (by simpa using h);refine .aE (Pm r.1 ba) λm hm=>.au λh=>⟨ba,?_⟩;have h:m.2=0:=of_decide_eq_true h;rcases hm with hm | hm
 ·exact hm.2
 ·omega
structure xb (g:bV) (m:List State) (cs:List Cell):Prop where
 sN:gM g
 Ud:lD g m
 ce:qE g m.length cs
theorem JQ (s:Source) (aK:qK s):Tot (rm s) λr=>r.2.2.2=true->xb r.1 r.2.1 r.2.2.1:=by
 unfold rm;refine .aE (JS s aK) λr aw=>Tot.cg (λ_=>.au λh=>by cases h) (λh=>?_);obtain ⟨ba,hm⟩:=aw (by simpa using h);exact .aE (rO r.1 ba hm) λqn LK=>.aE (Pl r.1 ba hm qn LK.1 LK.2) λcs hs=>.au λ_=>⟨ba,hm,hs⟩
def qo (g:bV) (p:Int):Int × Int:=match idx g.aX p with
 | some q=>match idx g.a6 q.Prec with
  | some t=>(t.Level,t.eC)
  | none=>(0,0)
 | none=>(0,0)
def dec (g:bV) (p t:Int):Int:=match idx g.a6 t with
 | some k=>if (qo g p).1=0\/k.Level=0 then 0 else if (qo g p).1<k.Level then 1 else if k.Level<(qo g p).1 then 2 else if k.eC=1 then 2 else if k.eC=2 then 1 else 3
 | none=>0
theorem QG (g:bV) (ba:gM g) (p:Int) (aG:0<=p/\p<g.aX.length):H5 g p=some (qo g p):=by
 obtain ⟨q,bR,hm⟩:=k6 aG.1 aG.2;have aK:=(ba.hy q hm).prec;unfold H5 qo;have d1:decide (p<0)=false:=decide_eq_false (by omega);have d2:decide ((g.aX.length:Int)<=p)=false:=decide_eq_false (by omega);rw [d1,d2,bR];simp only [cond_false,Option.bind_some];by_cases h:q.Prec<0
 ·rw [decide_eq_true h,v' (.inl h)]; rfl
 ·obtain ⟨t,aJ,_⟩:=k6 (l:=g.a6) (i:=q.Prec) (by omega) aK.2;rw [decide_eq_false h,aJ]; rfl
theorem QE (g:bV) (ba:gM g) (p t:Int) (aG:0<=p/\p<g.aX.length) (aJ:0<=t/\t<g.a6.length):H2 g p t=some (dec g p t):=by
 obtain ⟨k,hk,hm⟩:=k6 aJ.1 aJ.2;unfold H2 dec;rw [QG g ba p aG,hk];have d1:decide (t<0)=false:=decide_eq_false (by omega);have d2:decide ((g.a6.length:Int)<=t)=false:=decide_eq_false (by omega);rw [d1,d2];generalize qo g p=x;simp only [cond_false,Option.bind_some];by_cases h1:x.1=0
 ·simp [h1]
 ·by_cases al:k.Level=0
  ·simp [h1,al]
  ·rw [if_neg (by omega)];simp only [h1,al,decide_false,cond_false,Option.bind_some];by_cases aQ:x.1<k.Level
   ·simp [aQ]
   ·by_cases bW:k.Level<x.1
    ·simp [aQ,bW]
    ·by_cases da:k.eC=1
     ·simp [aQ,bW,da]
     ·by_cases eb:k.eC=2 <;> simp [aQ,bW,da,eb]
def jM (g:bV) (c:Cell):Act:=match c.aX with
 | []=>if c.gi=true then ⟨3,0⟩ else ⟨1,c.fh⟩
 | p::_=>if c.gi=true then ⟨3,0⟩ else if c.fh<0 then ⟨2,p⟩ else if dec g p c.bC=2 then ⟨2,p⟩ else if dec g p c.bC=3 then ⟨4,0⟩ else ⟨1,c.fh⟩
def kW (g:bV) (c:Cell):List er:=match c.aX with
 | []=>[]
 | p::r=>r.map (λx=>(⟨c.State,c.bC,p,x⟩:er))++(if c.gi=true\/(0<=c.fh/\dec g p c.bC=0) then [(⟨c.State,c.bC,-1,p⟩:er)] else [])
structure rD (g:bV) (n:Nat) (a:Act):Prop where
 k:0<=a.Kind/\a.Kind<=4
 hG:a.Kind=0->a.N=0
 lK:a.Kind=1->0<=a.N/\a.N<n
 qp:a.Kind=2->pY g a.N
 Uj:a.Kind=3->a.N=0
 Xn:a.Kind=4->a.N=0
theorem Ew {g:bV}{n:Nat}{c:Cell}(h:lB g n c):rD g n (jM g c)/\(jM g c).Kind≠0:=by
 have py:=h.VK;have bn:=h.f;have a3:rD g n ⟨3,0⟩:=⟨⟨by decide,by decide⟩,λh=>(by cases h),λh=>(by cases h),λh=>(by cases h),λ_=>rfl,λh=>by cases h⟩;have a4:rD g n ⟨4,0⟩:=⟨⟨by decide,by decide⟩,λh=>(by cases h),λh=>(by cases h),λh=>(by cases h),λ_=>rfl,λ_=>rfl⟩;have ay:0<=c.fh->rD g n ⟨1,c.fh⟩:=λbd=>⟨⟨by show (0:Int)<=1; decide,by show (1:Int)<=4; decide⟩,λh=>(by cases h),λ_=>⟨bd,bn.2⟩,λh=>(by cases h),λh=>(by cases h),λh=>by cases h⟩;have a2:∀ p∈c.aX,rD g n ⟨2,p⟩:=λp aG=>⟨⟨by show (0:Int)<=2; decide,by show (2:Int)<=4; decide⟩,λh=>(by cases h),λh=>(by cases h),λ_=>h.q p aG,λh=>(by cases h),λh=>by cases h⟩;unfold jM;unfold k' at py;cases cT:c.aX with
 | nil =>
  simp only;rw [cT] at py;by_cases h1:c.gi=true
  ·rw [if_pos h1]; exact ⟨a3,by decide⟩
  ·rw [if_neg h1];rw [if_neg h1] at py;refine ⟨ay ?_,by show (1:Int)≠0; decide⟩;by_cases al:0<=c.fh
   ·exact al
   ·rw [if_neg al] at py; simp at py
 | cons p r =>
  simp only;have aG:=a2 p (by rw [cT]; simp);split
  ·exact ⟨a3,by decide⟩
  ·split
   ·exact ⟨aG,by show (2:Int)≠0; decide⟩
   ·split
    ·exact ⟨aG,by show (2:Int)≠0; decide⟩
    ·split
     ·exact ⟨a4,by decide⟩
     ·exact ⟨ay (by omega),by show (1:Int)≠0; decide⟩
theorem JZ {g:bV}(ba:gM g) {n:Nat}{c:Cell}(h:lB g n c):(kW g c).length<=60:=by
 have ao:=h.len ba;unfold kW;cases cT:c.aX with
 | nil=>simp
 | cons p r =>
  rw [cT,List.length_cons] at ao;simp only [List.length_append,List.length_map];split
  ·simp; omega
  ·simp; omega
theorem QB (g:bV) (ba:gM g) {n:Nat}(c:Cell) (h:lB g n c):DP g c=some (jM g c,kW g c):=by
 have ao:=h.len ba
 suffices aL:Tot (DP g c) λr=>r=(jM g c,kW g c) by
  obtain ⟨r,aw,e⟩:=aL; rw [aw,e]
 unfold DP jM kW;cases cT:c.aX with
 | nil =>
  simp only;refine .aE (Ξ:=λl:List er=>l=[]) ?_ λl ao=>?_
  ·refine Tot.loop (λs=>s=(([]:List er),(1:Int))) (λ_=>0) rfl (by show 0<1000000000000000000; omega) λs aL=>?_;subst aL;exact .au rfl
  ·subst ao;cases h1:c.gi
   ·exact .au (by simp)
   ·exact .au (by simp)
 | cons p r =>
  rw [cT,List.length_cons] at ao;simp only;have jN:idx (p::r) 0=some p:=rfl;refine .aE (Ξ:=λl:List er=>l=r.map (λx=>(⟨c.State,c.bC,p,x⟩:er))) ?_ λl ao=>?_
  ·refine Tot.count (λs=>s.2) ((r.length:Int)+1) (λs=>∃ k:Nat,k<=r.length/\s.2=((k+1:Nat):Int)/\s.1=(r.take k).map (λx=>(⟨c.State,c.bC,p,x⟩:er))) ⟨0,Nat.zero_le _,rfl,rfl⟩ (by show (r.length:Int)+1 - 1<_; omega) λs aL=>?_;obtain ⟨l,i⟩:=s;obtain ⟨k,hk,he,bw⟩:=aL;simp only at he bw ⊢;subst he bw;rw [eE (k+1) (by omega),jN];refine Tot.bK (λa_=>?_) (λec=>.au ?_)
   ·rw [List.length_cons] at a_;have a_:k<r.length:=by omega
    have dg:idx (p::r) ((k+1:Nat):Int)=some r[k]:=by
     simp only [idx,if_pos (show (0:Int)<=((k+1:Nat):Int) by omega),Int.toNat_natCast,List.getElem?_cons_succ];exact List.getElem?_eq_getElem a_
    rw [dg];refine Tot.ax (Tot.ax (.aE (Ξ:=λ_=>True) (Tot.ap (by simp [lim]; omega) trivial) λ_ _=>.au ⟨⟨k+1,by omega,rfl,?_⟩,by show ((k+1:Nat):Int)<((k+1+1:Nat):Int); omega,by show ((k+1+1:Nat):Int)<=(r.length:Int)+1; omega⟩));show _=(r.take (k+1)).map _;rw [j5 a_,List.map_append]; rfl
   ·rw [List.length_cons] at ec;rw [List.take_of_length_le (by omega)]; rfl
  ·subst ao;have aG:=h.q p (by rw [cT]; simp);have Fh:=QE g ba p c.bC ⟨by have:=aG.1; omega,aG.2⟩ h.t;have dl:decide (((p::r).length:Int)=0)=false:=decide_eq_false (by simp; omega);simp only [jN,Fh,dl,cond_false,Option.bind_some];generalize um:dec g p c.bC=v;refine ⟨_,?_,rfl⟩;have Ll:ez (r.map (λx=>(⟨c.State,c.bC,p,x⟩:er))) [(⟨c.State,c.bC,(-1),p⟩:er)]=some (r.map (λx=>(⟨c.State,c.bC,p,x⟩:er))++[⟨c.State,c.bC,(-1),p⟩]):=by
    unfold ez; rw [if_pos (by simp [lim]; omega)]
   cases h1:c.gi
   ·by_cases al:c.fh<0
    ·have aQ:¬ (0<=c.fh):=by omega
     simp [al,aQ]
    ·have aQ:0<=c.fh:=by omega
     by_cases bW:v=0
     ·simp [al,aQ,bW,Ll]
     ·by_cases da:v=2
      ·simp [al,aQ,da]
      ·by_cases eb:v=3
       ·simp [al,aQ,eb]
       ·simp [al,aQ,bW,da,eb]
   ·simp [Ll]
def rowOf (g:bV) (l:List Cell):List Act:=l.foldl (λrow c=>row.set c.bC.toNat (jM g c)) (List.replicate g.a6.length ⟨0,0⟩)
def fv (cs:List Cell) (q:Nat):List Cell:=cs.filter λc=>decide (c.State=(q:Int))
def go (m:List State) (q s:Int):Int:=(qq m q s).getD (-1)
theorem go_eq {g:bV}{m:List State}(hm:lD g m) (q s:Int):qq m q s=some (go m q s)/\GoTo m q s (go m q s):=by
 obtain ⟨r,aw,h⟩:=zm m q s hm.s_;unfold go;rw [aw];exact ⟨rfl,h⟩
theorem DZ (g:bV):∀ (l:List Cell),(rowOf g l).length=g.a6.length:=λl=>by
 suffices h:∀ (l:List Cell) (r:List Act),(l.foldl (λrow c=>row.set c.bC.toNat (jM g c)) r).length=r.length by
  unfold rowOf; rw [h]; simp
 intro l
 induction l with
 | nil=>intro r; rfl
 | cons c l aS=>intro r; rw [List.foldl_cons,aS,List.length_set]
theorem Nf (g:bV) (l:List Cell) (c:Cell):rowOf g (l++[c])=(rowOf g l).set c.bC.toNat (jM g c):=by
 unfold rowOf; rw [List.foldl_append]; rfl
theorem U3 {g:bV}{n:Nat}:∀ {l:List Cell},(∀ c∈l,lB g n c)->∀ a∈rowOf g l,rD g n a:=by
 intro l h
 suffices aL:∀ (l:List Cell) (r:List Act),(∀ c∈l,lB g n c)->(∀ a∈r,rD g n a)->∀ a∈l.foldl (λrow c=>row.set c.bC.toNat (jM g c)) r,rD g n a by
  refine aL l _ h λa bf=>?_;rw [List.eq_of_mem_replicate bf];exact ⟨⟨by decide,by decide⟩,λ_=>rfl,λh=>(by cases h),λh=>(by cases h),λh=>(by cases h),λh=>by cases h⟩
 intro l
 induction l with
 | nil=>intro r _ aw; exact aw
 | cons c l aS =>
  intro r ao aw;rw [List.foldl_cons];refine aS _ (λd aU=>ao d (by simp [aU])) λa bf=>?_;rcases List.mem_or_eq_of_mem_set bf with h | h
  ·exact aw a h
  ·rw [h]; exact (Ew (ao c (by simp))).1
def pe (g:bV) (m:List State) (q:Nat):List Int:=(List.range g.bx.length).map λa:Nat=>go m q (1000+(a:Int))
def fo (g:bV) (l:List Cell):List er:=l.flatMap (kW g)
theorem zo {g:bV}(ba:gM g) {n:Nat}:∀ {l:List Cell},(∀ c∈l,lB g n c)->(fo g l).length<=60 * l.length
 | [],_=>by simp [fo]
 | c::l,h=>by
  have h1:=JZ ba (h c (by simp));have al:=zo ba (l:=l) λd aU=>h d (by simp [aU]);unfold fo at al ⊢;rw [List.flatMap_cons,List.length_append,List.length_cons];omega
theorem BC {α:Type}{l:List α}{k:Nat}(h:k<l.length) (p:α->Bool):(l.take (k+1)).filter p=(l.take k).filter p++(if p l[k] then [l[k]] else []):=by
 rw [j5 h,List.filter_append];congr 1;rw [List.filter_cons]
 split <;> simp
structure xh (g:bV) (m:List State) (cs:List Cell) (d:jG):Prop where
 a:d.dG=(List.range m.length).map λq=>rowOf g (fv cs q)
 o:d.dh=(List.range m.length).map λq=>pe g m q
theorem Ph (g:bV) (m:List State) (cs:List Cell) (dA:xb g m cs):Tot (HV g m cs) λr=>xh g m cs r.1/\r.2=(List.range m.length).flatMap λq=>fo g (fv cs q):=by
 obtain ⟨ba,hm,ab⟩:=dA;have aJ:=ba.kO;have aP:=ba.h2;have x6:=hm.lK;have xY:=ab.n;unfold HV;refine .aE (Ξ:=λr:List (List Act) × List (List Int) × List er=>r.1=(List.range m.length).map (λq=>rowOf g (fv cs q))/\r.2.1=(List.range m.length).map (λq=>pe g m q)/\r.2.2=(List.range m.length).flatMap λq=>fo g (fv cs q)) ?_ λr aw=>.au ⟨⟨aw.1,aw.2.1⟩,aw.2.2⟩;have uk:∀ q,(fo g (fv cs q)).length<=360000:=λq=>by
  have h1:=zo ba (l:=fv cs q) λc ja=>ab.ok c ((List.mem_filter.1 ja).1);have al:=List.length_filter_le (λc:Cell=>decide (c.State=(q:Int))) cs;unfold fv at h1 ⊢;omega
 have Sy:∀ k,((List.range k).flatMap λq=>fo g (fv cs q)).length<=360000 * k:=λk=>by
  induction k with
  | zero=>simp
  | succ k aS =>
   rw [List.range_succ,List.flatMap_append,List.length_append];have:=uk k;simp only [List.flatMap_cons,List.flatMap_nil,List.append_nil];omega
 refine Tot.upto (λs=>s.2.2.2) m.length (λk s=>s.1=(List.range k).map (λq=>rowOf g (fv cs q))/\s.2.1=(List.range k).map (λq=>pe g m q)/\s.2.2.1=(List.range k).flatMap λq=>fo g (fv cs q)) rfl (by omega) ⟨rfl,rfl,rfl⟩ λk s hk he bw=>?_;obtain ⟨A,G,C,i⟩:=s;obtain ⟨h1,al,aQ⟩:=bw;simp only at he h1 al aQ ⊢;subst he h1 al aQ;rw [eE k (by omega)];refine Tot.bK (λa_=>?_) (λec=>.au ?_)
 ·have a_:k<m.length:=by omega
  refine .aE (Ξ:=λr=>r=List.replicate g.a6.length (⟨0,0⟩:Act)) (Tot.mk (by simp [lim]; omega) (by simp)) λpZ gK=>?_;subst gK;have WU:=Sy k;refine .aE (Ξ:=λr:List er × List Act=>r.1=(List.range k).flatMap (λq=>fo g (fv cs q))++fo g (fv cs k)/\r.2=rowOf g (fv cs k)) ?_ λr aw=>?_
  ·refine Tot.upto (λs=>s.2.2) cs.length (λae s=>s.1=(List.range k).flatMap (λq=>fo g (fv cs q))++fo g (fv (cs.take ae) k)/\s.2.1=rowOf g (fv (cs.take ae) k)) rfl (by omega) ⟨by simp [fv,fo],by simp [fv,rowOf]⟩ λae s aa he bw=>?_;obtain ⟨C,R,i⟩:=s;obtain ⟨h1,al⟩:=bw;simp only at he h1 al ⊢;subst he h1 al;rw [eE ae (by omega)];refine Tot.bK (λdX=>?_) (λec=>.au ?_)
   ·have dX:ae<cs.length:=by omega
    have vO:=ab.ok _ (List.getElem_mem dX);have qZ:=BC dX (λc:Cell=>decide (c.State=(k:Int)));have Xe:(fo g (fv (cs.take ae) k)).length<=360000:=by
     have h1:=zo ba (l:=fv (cs.take ae) k) λc ja=>ab.ok c (List.mem_of_mem_take ((List.mem_filter.1 ja).1));have al:=List.length_filter_le (λc:Cell=>decide (c.State=(k:Int))) (cs.take ae);rw [List.length_take] at al;unfold fv at h1 ⊢;omega
    rw [ed dX];generalize cs[ae]=c at *;simp only [Option.bind_some];refine .aE (Ξ:=λr:List er × List Act=>r.1=(List.range k).flatMap (λq=>fo g (fv cs q))++fo g (fv (cs.take (ae+1)) k)/\r.2=rowOf g (fv (cs.take (ae+1)) k)) ?_ λr aw=>.au ⟨dX,rfl,aw⟩;refine .aE (Ξ:=λr:List er × List Act=>r.1=(List.range k).flatMap (λq=>fo g (fv cs q))++fo g (fv (cs.take (ae+1)) k)/\r.2=rowOf g (fv (cs.take (ae+1)) k)) (Tot.bK (λaL=>?_) (λaL=>.au ?_)) λr aw=>.au aw
    ·rw [decide_eq_true aL,if_pos rfl] at qZ;rw [QB g ba c vO];simp only [Option.bind_some];have n0:=DZ g (fv (cs.take ae) k);obtain ⟨a0,F4,_⟩:=k6 (l:=rowOf g (fv (cs.take ae) k)) (i:=c.bC) vO.t.1 (by rw [n0]; exact vO.t.2);rw [F4];have hr:=JZ ba vO;refine Tot.ax (.aE (Ξ:=λ_=>True) (Tot.ap (by rw [List.length_append]; simp only [lim]; omega) trivial) λ_ _=>.au ⟨?_,?_⟩)
     ·show _=_++fo g ((cs.take (ae+1)).filter _);rw [qZ];unfold fo;rw [List.flatMap_append,List.append_assoc];simp [fv]
     ·show _=rowOf g ((cs.take (ae+1)).filter _);rw [qZ,Nf]; rfl
    ·have:(if (decide (c.State=(k:Int)))=true then [c] else [])=[]:=by simp [aL]
     rw [this,List.append_nil] at qZ;unfold fv;rw [qZ];exact ⟨rfl,rfl⟩
   ·have e:cs.take ae=cs:=List.take_of_length_le (by omega);rw [e];exact ⟨rfl,rfl⟩
  ·obtain ⟨C,R⟩:=r;obtain ⟨h1,al⟩:=aw;simp only at h1 al ⊢;subst h1 al;refine .aE (Ξ:=λr=>r=List.replicate g.bx.length (0:Int)) (Tot.mk (by simp [lim]; omega) (by simp)) λWi Rw=>?_;subst Rw;refine .aE (Ξ:=λr:List Int=>r=pe g m k) ?_ λr aw=>?_
   ·refine Tot.upto (λs=>s.2) g.bx.length (λae s=>s.1.length=g.bx.length/\∀ i:Nat,i<ae->s.1[i]?=some (go m k (1000+(i:Int)))) rfl (by omega) ⟨by simp,λi hi=>absurd hi (Nat.not_lt_zero _)⟩ λae s aa he bw=>?_;obtain ⟨L,i⟩:=s;obtain ⟨h1,al⟩:=bw;simp only at he h1 al ⊢;subst he;rw [eE ae (by omega)];refine Tot.bK (λdX=>?_) (λec=>.au ?_)
    ·have dX:ae<L.length:=by omega
     have hw:aO (1000+(ae:Int))=1000+(ae:Int):=by rw [c8]; omega
     rw [hw,(go_eq hm k _).1,ed dX];refine Tot.ax (Tot.ax (.au ⟨by omega,rfl,?_,λi hi=>?_⟩))
     ·show (L.set _ _).length=_;rw [List.length_set]; exact h1
     ·show (L.set (ae:Int).toNat _)[i]?=_;rw [Int.toNat_natCast,Bw dX];by_cases e:i=ae
      ·subst e; rw [if_pos rfl]
      ·rw [if_neg e]; exact al i (by omega)
    ·show L=pe g m k;refine List.ext_getElem? λi=>?_;unfold pe;by_cases hi:i<g.bx.length
     ·rw [al i (by omega),List.getElem?_map,List.getElem?_range hi]; rfl
     ·rw [List.getElem?_eq_none (by omega),List.getElem?_eq_none (by simp; omega)]
   ·subst aw;refine .aE (Ξ:=λ_=>True) (Tot.ap (by simp [lim]; omega) trivial) λ_ _=>.aE (Ξ:=λ_=>True) (Tot.ap (by simp [lim]; omega) trivial) λ_ _=>.au ⟨a_,rfl,?_,?_,?_⟩
    ·show _=(List.range (k+1)).map _;rw [List.range_succ,List.map_append]; rfl
    ·show _=(List.range (k+1)).map _;rw [List.range_succ,List.map_append]; rfl
    ·show _=(List.range (k+1)).flatMap _;rw [List.range_succ,List.flatMap_append]; simp
 ·have:k=m.length:=by omega
  subst this;exact ⟨rfl,rfl,rfl⟩
structure u' (g:bV) (n:Nat) (d:jG):Prop where
 hG:0<n/\n<=150
 sN:gM g
 a:d.dG.length=n
 EE:∀ r∈d.dG,r.length=g.a6.length/\∀ a∈r,rD g n a
 o:d.dh.length=n
 uK:∀ r∈d.dh,r.length=g.bx.length/\∀ v∈r,-1<=v/\v<n
theorem xh.xD {g:bV}{m:List State}{cs:List Cell}{d:jG}(h:xh g m cs d) (dA:xb g m cs):u' g m.length d:=by
 obtain ⟨ba,hm,ab⟩:=dA;refine ⟨⟨hm.hG,hm.lK⟩,ba,by rw [h.a]; simp,λr aw=>?_,by rw [h.o]; simp,λr aw=>?_⟩
 ·rw [h.a] at aw;obtain ⟨q,_,rfl⟩:=List.mem_map.1 aw;exact ⟨DZ g _,U3 λc ja=>ab.ok c (List.mem_filter.1 ja).1⟩
 ·rw [h.o] at aw;obtain ⟨q,_,rfl⟩:=List.mem_map.1 aw;refine ⟨by simp [pe],λv hv=>?_⟩;obtain ⟨a,_,rfl⟩:=List.mem_map.1 hv;exact (go_eq hm q _).2.xD hm
theorem M' {g:bV}(ba:gM g) {n:Nat}{cs:List Cell}(ab:qE g n cs) {f:Cell->Option Int}(bn:∀ c:Cell,c.aX.length<=1000->f c=some (k' c:Int)):Tot (cJ (R:=Int) (λ(s1:Int × Int) =>
(bif decide (s1.2<(cs.length:Int)) then
((idx cs s1.2).bind λbr =>
(f br).bind λbj =>
((bif decide (1<bj) then
some (aO (s1.1+1))
else
some s1.1)).bind λj1 =>
some j1).bind λmQ =>
some (.inl (mQ,aO (s1.2+1)))
else
some (.inr s1.1))) (0,0)) λr=>r=((cs.filter λc=>decide (1<k' c)).length:Int):=by
 have xY:=ab.n;refine Tot.upto (λs=>s.2) cs.length (λk s=>s.1=(((cs.take k).filter λc=>decide (1<k' c)).length:Int)) rfl (by omega) rfl λk s hk he bw=>?_;obtain ⟨z,i⟩:=s;simp only at he bw ⊢;subst he bw;rw [eE k (by omega)];refine Tot.bK (λa_=>?_) (λec=>.au ?_)
 ·have a_:k<cs.length:=by omega
  have Sk:=ab.ok _ (List.getElem_mem a_);have qZ:=BC a_ (λc:Cell=>decide (1<k' c));have uk:=List.length_filter_le (λc:Cell=>decide (1<k' c)) (cs.take k);rw [List.length_take] at uk;rw [ed a_];generalize cs[k]=c at *;have hr:=Sk.len ba;rw [show (some c).bind=λ(f:Cell->Option Int)=>f c from rfl]
  simp only [bn c (by omega),Option.bind_some];refine .aE (Ξ:=λz:Int=>z=(((cs.take (k+1)).filter λc=>decide (1<k' c)).length:Int)) ?_ λr aw=>.au ⟨a_,rfl,aw⟩;rw [qZ];refine .aE (Ξ:=λz:Int=>z=(((cs.take k).filter (λc=>decide (1<k' c))++if decide (1<k' c)=true then [c] else []).length:Int)) (Tot.bK (λh=>.au ?_) (λh=>.au ?_)) λr aw=>.au aw
  ·have:1<k' c:=by omega
   rw [eE _ (by omega)];simp [this]
  ·have:¬ 1<k' c:=by omega
   simp [this]
 ·have e:cs.take k=cs:=List.take_of_length_le (by omega);rw [e]; rfl
theorem zj {g:bV}(ba:gM g) {n:Nat}{cs:List Cell}(ab:qE g n cs):Tot (HX cs) λr=>r=((cs.filter λc=>decide (1<k' c)).length:Int):=by
 unfold HX;exact .aE (M' ba ab Kq) λr aw=>.au aw
theorem tO (s:Source) (aK:qK s):Tot (MW s) λr=>r.2.2.2=true->∃ n,u' r.1 n r.2.1:=by
 unfold MW;refine .aE (JQ s aK) λr aw=>Tot.cg (λ_=>.au λh=>by cases h) (λh=>?_);have dA:=aw (by simpa using h);exact .aE (Ph _ _ _ dA) λd aU=>.aE (zj dA.sN dA.ce) λ_ _=>.au λ_=>⟨_,aU.1.xD dA⟩
theorem Qz (a:Act):DN a=nE a:=by
 have h1:decide (a.N<20000)=decide (a.N<=19999):=decide_eq_decide.2 (by omega);have al:decide (0<a.N)=decide (1<=a.N):=decide_eq_decide.2 (by omega);unfold DN nE;rw [h1,al]
theorem u16 (a:Act):Tot (nE a) λ_=>True:=by
 unfold nE
 repeat' first | apply Tot.bi | refine Tot.cg (λ_=>?_) (λ_=>?_) | exact Tot.au trivial | apply Tot.au
theorem JP (n:Int):∃ b c,wG n=some b/\nE b=some c/\(c=n\/(c=0/\b=⟨0,0⟩)):=by
 by_cases h1:1<=n/\n<=20000
 ·have e:aO (n - 1)=n - 1:=by rw [c8]; omega
  have c5:aO (n - 1+1)=n:=by rw [c8]; omega
  refine ⟨⟨1,n - 1⟩,n,?_,?_,.inl rfl⟩
  ·simp [wG,h1,e]
  ·have:0<=n - 1/\n - 1<=19999:=by omega
   have jo:aO n=n:=by rw [c8]; omega
   simp [nE,h1,this,jo]
 ·by_cases al:n<=-1/\-19999<=n
  ·have e:aO (-n)=-n:=by rw [c8]; omega
   have c5:aO n=n:=by rw [c8]; omega
   have aQ:¬ 1<=n:=by omega
   refine ⟨⟨2,-n⟩,n,?_,?_,.inl rfl⟩
   ·simp [wG,al,aQ,e]
   ·have:1<=-n/\-n<=19999:=by omega
    simp [nE,this,c5]
  ·by_cases aQ:n=20001
   ·subst aQ; exact ⟨⟨3,0⟩,20001,by decide,by decide,.inl rfl⟩
   ·by_cases bW:n=20002
    ·subst bW; exact ⟨⟨4,0⟩,20002,by decide,by decide,.inl rfl⟩
    ·refine ⟨⟨0,0⟩,0,?_,by decide,.inr ⟨rfl,rfl⟩⟩;have f1:(decide (1<=n)&&decide (n<=20000))=false:=by simp; omega
     have f2:(decide (n<=-1)&&decide (-19999<=n))=false:=by simp; omega
     have g1:(bif decide (1<=n) then some (decide (n<=20000)) else some false)=some (decide (1<=n)&&decide (n<=20000)):=by cases decide (1<=n) <;> rfl
     have g2:(bif decide (n<=-1) then some (decide (-19999<=n)) else some false)=some (decide (n<=-1)&&decide (-19999<=n)):=by cases decide (n<=-1) <;> rfl
     unfold wG;rw [g1,f1,g2,f2];simp [aQ,bW]
theorem tN (a:Act):∃ c,nE a=some c/\(c=0\/wG c=some a):=by
 obtain ⟨c,ab,_⟩:=u16 a;refine ⟨c,ab,?_⟩;obtain ⟨K,N⟩:=a;have g:∀ p q:Prop,∀ [Decidable p] [Decidable q],(bif decide p then some (decide q) else some false)=some (decide (p/\q)):=λp q _ _=>by
  by_cases aG:p <;> simp [aG]
 by_cases h1:K=1/\0<=N/\N<=19999
 ·obtain ⟨rfl,h1⟩:=h1;have e:aO (N+1)=N+1:=by rw [c8]; omega
  have c5:aO (N+1 - 1)=N:=by rw [c8]; omega
  simp [nE,h1,e] at ab;subst ab;have al:1<=N+1/\N+1<=20000:=by omega
  have jo:aO N=N:=by rw [c8]; omega
  exact .inr (by simp [wG,al,jo])
 ·by_cases al:K=2/\1<=N/\N<=19999
  ·obtain ⟨rfl,al⟩:=al;have e:aO (-N)=-N:=by rw [c8]; omega
   have c5:aO N=N:=by rw [c8]; omega
   simp [nE,al,e] at ab;subst ab;have aQ:¬ 1<=-N:=by omega
   have bW:-N<=-1/\-19999<=-N:=by omega
   exact .inr (by simp [wG,aQ,bW,c5])
  ·by_cases aQ:K=3/\N=0
   ·obtain ⟨rfl,rfl⟩:=aQ;have:nE ⟨3,0⟩=some 20001:=by decide
    rw [this] at ab; cases ab;exact .inr (by decide)
   ·by_cases bW:K=4/\N=0
    ·obtain ⟨rfl,rfl⟩:=bW;have:nE ⟨4,0⟩=some 20002:=by decide
     rw [this] at ab; cases ab;exact .inr (by decide)
    ·refine .inl ?_;have oN:(bif decide (K=1) then (bif decide (0<=N) then some (decide (N<=19999)) else some false) else some false)=some false:=by
      rw [g]; by_cases h:K=1
      ·have:=λaR=>h1 ⟨h,aR⟩;simp [h]; omega
      ·simp [h]
     have pE:(bif decide (K=2) then (bif decide (1<=N) then some (decide (N<=19999)) else some false) else some false)=some false:=by
      rw [g]; by_cases h:K=2
      ·have:=λaR=>al ⟨h,aR⟩;simp [h]; omega
      ·simp [h]
     have T8:(bif decide (K=3) then some (decide (N=0)) else some false)=some false:=by rw [g]; simp [aQ]
     have Hu:(bif decide (K=4) then some (decide (N=0)) else some false)=some false:=by rw [g]; simp [bW]
     unfold nE at ab;rw [oN,pE,T8,Hu] at ab;simpa using ab.symm
def ot (l:List Int) (v:Int):Prop:=(l=[]/\v=-1)\/(v∈l/\∀ x∈l,l.count x<l.count v\/(l.count x=l.count v/\v<=x))
theorem ot.uniq {l:List Int}{v w:Int}(h:ot l v) (aR:ot l w):v=w:=by
 rcases h with ⟨h1,al⟩ | ⟨h1,al⟩ <;> rcases aR with ⟨aQ,bW⟩ | ⟨aQ,bW⟩
 ·omega
 ·subst h1; cases aQ
 ·subst aQ; cases h1
 ·have a:=al w aQ;have b:=bW v h1;omega
theorem sF (l:List Int) (y x:Int):(l++[y]).count x=l.count x+(if y=x then 1 else 0):=by
 rw [List.count_append];by_cases e:y=x
 ·subst e; simp
 ·rw [if_neg e,List.count_eq_zero.2 λhm=>e (List.mem_singleton.1 hm).symm]
theorem Qo {l:List Int}{x:Int}(h:x∈l):0<l.count x:=List.count_pos_iff.2 h
theorem ot.snoc {l:List Int}{b y:Int}(h:ot l b) (bd:∀ x∈l,0<=x) (az:0<=y):ot (l++[y]) (if b<0\/(l++[y]).count b<(l++[y]).count y\/((l++[y]).count y=(l++[y]).count b/\y<b) then y else b):=by
 refine .inr ?_;rcases h with ⟨rfl,rfl⟩ | ⟨aK,hm⟩
 ·rw [if_pos (.inl (by decide))];refine ⟨by simp,λx J=>?_⟩;rw [List.nil_append,List.mem_singleton] at J;subst J; exact .inr ⟨rfl,Int.le_refl _⟩
 ·have Lm:=bd b aK;have key:∀ x∈l++[y],x∈l\/x=y:=λx J=>by simpa using J
  have vy:(l++[y]).count y=l.count y+1:=by rw [sF,if_pos rfl]
  by_cases Lo:b=y
  ·subst Lo;rw [if_neg (by omega)];refine ⟨by simp,λx J=>?_⟩;rw [vy];by_cases e:x=b
   ·subst e; exact .inr ⟨vy,Int.le_refl _⟩
   ·rw [sF,if_neg (λh=>e h.symm)];rcases key x J with J | J
    ·have:=hm x J; omega
    ·exact absurd J e
  ·have E1:(l++[y]).count b=l.count b:=by rw [sF,if_neg (λh=>Lo h.symm)]; rfl
   by_cases ab:b<0\/(l++[y]).count b<(l++[y]).count y\/((l++[y]).count y=(l++[y]).count b/\y<b)
   ·rw [if_pos ab];rw [E1,vy] at ab;refine ⟨by simp,λx J=>?_⟩;rw [vy];by_cases e:x=y
    ·subst e; exact .inr ⟨vy,Int.le_refl _⟩
    ·rw [sF,if_neg (λh=>e h.symm)];rcases key x J with J | J
     ·have:=hm x J; omega
     ·exact absurd J e
   ·rw [if_neg ab];rw [E1,vy] at ab;refine ⟨by simp [aK],λx J=>?_⟩;rw [E1];by_cases e:x=y
    ·subst e; rw [vy]; omega
    ·rw [sF,if_neg (λh=>e h.symm)];rcases key x J with J | J
     ·have:=hm x J; omega
     ·exact absurd J e
theorem Hw {x:Int}(h:-1<=x/\x<=1000000):rh x=true:=by unfold rh; rw [decide_eq_true]; omega
theorem Pk (l:List Int) (ao:l.length<=100000) (bd:∀ x∈l,0<=x/\x<=1000000):Tot (Bb l) (ot l):=by
 unfold Bb;refine .aE (Ξ:=ot l) ?_ λr aw=>.au aw;refine Tot.upto (λs=>s.2.2) l.length (λk s=>s.1.length=k/\(∀ x,(oh s.1 x).getD 0=((l.take k).count x:Int))/\ot (l.take k) s.2.1) rfl (by omega) ⟨rfl,λx=>by simp [oh],.inl ⟨rfl,rfl⟩⟩ λk s hk he bw=>?_;obtain ⟨m,b,i⟩:=s;obtain ⟨h1,al,aQ⟩:=bw;simp only at he h1 al aQ ⊢;subst he;rw [eE k (by omega)];refine Tot.bK (λa_=>?_) (λec=>.au ?_)
 ·have a_:k<l.length:=by omega
  have az:=bd _ (List.getElem_mem a_);have gb:=j5 a_;have Lh:∀ x∈l.take k,0<=x/\x<=1000000:=λx J=>bd x (List.mem_of_mem_take J);have hr:=List.count_le_length (a:=l[k]) (l:=l.take k);rw [ed a_];generalize l[k]=y at *;have aK:-1<=b/\b<=1000000:=by
   rcases aQ with ⟨_,rfl⟩ | ⟨h,_⟩
   ·omega
   ·have:=Lh b h; omega
  rw [List.length_take] at hr;have dg:s9 rh 0 m y=some ((l.take k).count y:Int):=by unfold s9; rw [if_pos (Hw ⟨by omega,az.2⟩),al]
  have c5:aO (((l.take k).count y:Int)+1)=(((l.take k).count y+1:Nat):Int):=eE _ (by omega);have jo:AR rh m y (((l.take k).count y+1:Nat):Int)=some ((y,(((l.take k).count y+1:Nat):Int))::m):=by
   unfold AR;rw [Hw ⟨by omega,az.2⟩,Bool.true_and,if_pos (decide_eq_true (by simp only [lim]; omega))]
  have C7:∀ x,(oh ((y,(((l.take k).count y+1:Nat):Int))::m) x).getD 0=((l.take (k+1)).count x:Int):=λx=>by
   rw [gb,sF];unfold oh;by_cases e:y=x
   ·subst e; rw [if_pos rfl,if_pos rfl]; rfl
   ·rw [if_neg e,if_neg e,al]; rfl
  have pa:∀ x,(-1<=x/\x<=1000000)->s9 rh 0 ((y,(((l.take k).count y+1:Nat):Int))::m) x=some ((l.take (k+1)).count x:Int):=λx J=>by unfold s9; rw [if_pos (Hw J),C7]
  have aL:=aQ.snoc (y:=y) (λx J=>(Lh x J).1) az.1;rw [<- gb] at aL;have k1:=List.count_le_length (a:=y) (l:=l.take (k+1));have sV:=List.count_le_length (a:=b) (l:=l.take (k+1));rw [List.length_take] at k1 sV;simp only [Option.bind_some,dg,c5,jo,pa y ⟨by omega,az.2⟩,pa b aK];have hw:aO (((l.take (k+1)).count y:Int) - ((l.take (k+1)).count b:Int))=((l.take (k+1)).count y:Int) - ((l.take (k+1)).count b:Int):=by rw [c8]; omega
  rw [hw];refine .aE (Ξ:=λr:List (Int × Int) × Int=>r.1=(y,(((l.take k).count y+1:Nat):Int))::m/\ot (l.take (k+1)) r.2) ?_ λr aw=>.au ⟨a_,rfl,by rw [aw.1]; simp [h1],by rw [aw.1]; exact C7,aw.2⟩;refine .aE (Ξ:=λc:Bool=>c=decide (b<0\/(l.take (k+1)).count b<(l.take (k+1)).count y\/((l.take (k+1)).count y=(l.take (k+1)).count b/\y<b))) ?_ λc ab=>?_
  ·refine Tot.bK (λh=>.au (decide_eq_true (.inl h)).symm) (λh=>Tot.bK (λaR=>.au (decide_eq_true (.inr (.inl (by omega)))).symm) (λaR=>Tot.bK (λal=>.au ?_) (λal=>.au (decide_eq_false (by omega)).symm)));exact decide_eq_decide.2 (by omega)
  ·subst ab;refine .aE (Ξ:=λz=>z=(if b<0\/(l.take (k+1)).count b<(l.take (k+1)).count y\/((l.take (k+1)).count y=(l.take (k+1)).count b/\y<b) then y else b)) (Tot.bK (λh=>.au (if_pos h).symm) (λh=>.au (if_neg h).symm)) λz bA=>.au ⟨rfl,?_⟩
   show ot _ z;rw [bA]; exact aL
 ·have e:l.take k=l:=List.take_of_length_le (by omega);rw [e] at aQ;exact aQ
theorem zk (l:List Int) (ao:l.length<=100000) (bd:∀ x∈l,0<=x/\x<=1000000):Tot (yE l) (ot l):=by
 unfold yE;refine .aE (Ξ:=λr:List Int=>f_ ic r/\r.length<=l.length/\∀ x,x∈r↔x∈l) ?_ λD oB=>?_
 ·refine Tot.upto (λs=>s.2) l.length (λk s=>f_ ic s.1/\s.1.length<=k/\∀ x,x∈s.1↔x∈l.take k) rfl (by omega) ⟨.nil,Nat.le_refl 0,λx=>by simp⟩ λk s hk he bw=>?_;obtain ⟨r,i⟩:=s;obtain ⟨h1,al,aQ⟩:=bw;simp only at he h1 al aQ ⊢;subst he;rw [eE k (by omega)];refine Tot.bK (λa_=>?_) (λec=>.au ?_)
  ·have a_:k<l.length:=by omega
   have gb:=j5 a_;rw [ed a_];generalize l[k]=y at *;refine Tot.ax (.aE (Cl r y h1 (by omega)) λe8 eT=>.au ⟨a_,rfl,eT.1,by have:=eT.2.1; show e8.length<=k+1; omega,λx=>?_⟩);rw [gb,List.mem_append,List.mem_singleton,<- aQ];exact eT.2.2 x
  ·have e:l.take k=l:=List.take_of_length_le (by omega);rw [e] at aQ;exact ⟨h1,by omega,aQ⟩
 ·obtain ⟨Rq,WH,CQ⟩:=oB;refine .aE (Ξ:=λr:Int=>ot l r) ?_ λr aw=>.au aw;refine Tot.upto (λs=>s.2.2) D.length (λk s=>(k=0/\s.1=-1/\s.2.1=0)\/(s.1∈D.take k/\s.2.1=(l.count s.1:Int)/\∀ x∈D.take k,l.count x<l.count s.1\/(l.count x=l.count s.1/\s.1<=x))) rfl (by omega) (.inl ⟨rfl,rfl,rfl⟩) λk s hk he bw=>?_;obtain ⟨b,n,i⟩:=s;simp only at he bw ⊢;subst he;rw [eE k (by omega)];refine Tot.bK (λa_=>?_) (λec=>.au ?_)
  ·have a_:k<D.length:=by omega
   have gb:=j5 a_;have TM:=List.getElem_mem a_;have q7:∀ x∈D.take k,x<D[k]:=λx J=>by
    obtain ⟨ae,aa,rfl⟩:=List.mem_iff_getElem.1 J;rw [List.length_take] at aa;rw [List.getElem_take];exact HE.1 (Jx Rq (by omega) a_ (by omega))
   rw [ed a_];generalize D[k]=y at *;have Dk:=(CQ y).1 TM;refine .aE (Ξ:=λr:Int × Int=>r.1∈D.take (k+1)/\r.2=(l.count r.1:Int)/\∀ x∈D.take (k+1),l.count x<l.count r.1\/(l.count x=l.count r.1/\r.1<=x)) ?_ λr aw=>.au ⟨a_,rfl,.inr aw⟩;refine .aE (Ξ:=λz:Int=>z=(l.count y:Int)) ?_ λz bA=>?_
   ·refine Tot.upto (λs=>s.2) l.length (λae s=>s.1=((l.take ae).count y:Int)) rfl (by omega) (by simp) λae s aa he bw=>?_;obtain ⟨z,i⟩:=s;simp only at he bw ⊢;subst he bw;rw [eE ae (by omega)];refine Tot.bK (λdX=>?_) (λec=>.au ?_)
    ·have dX:ae<l.length:=by omega
     have l9:=j5 dX;have hr:=List.count_le_length (a:=y) (l:=l.take ae);rw [List.length_take] at hr;rw [ed dX];generalize l[ae]=x at *;simp only [Option.bind_some];refine .aE (Ξ:=λz:Int=>z=((l.take (ae+1)).count y:Int)) ?_ λz bA=>.au ⟨dX,rfl,bA⟩;rw [l9,sF];refine .aE (Ξ:=λz:Int=>z=(((l.take ae).count y+if x=y then 1 else 0:Nat):Int)) (Tot.bK (λe=>.au ?_) (λe=>.au ?_)) λz bA=>.au bA
     ·rw [if_pos e,eE _ (by omega)]
     ·rw [if_neg e]; rfl
    ·have e:l.take ae=l:=List.take_of_length_le (by omega);rw [e]; rfl
   ·subst bA;refine .aE (Ξ:=λr:Int × Int=>r.1∈D.take (k+1)/\r.2=(l.count r.1:Int)/\∀ x∈D.take (k+1),l.count x<l.count r.1\/(l.count x=l.count r.1/\r.1<=x)) ?_ λr aw=>.au aw;have WS:=Qo Dk;rw [gb];have key:∀ x∈D.take k++[y],x∈D.take k\/x=y:=λx J=>by simpa using J
    refine Tot.bK (λab=>Tot.ax (.au ⟨by simp,rfl,λx J=>?_⟩)) (λab=>?_)
    ·rcases key x J with J | rfl
     ·rcases bw with ⟨rfl,_,_⟩ | ⟨h1,al,aQ⟩
      ·simp at J
      ·have:=aQ x J; show l.count x<l.count y\/_; omega
     ·exact .inr ⟨rfl,Int.le_refl _⟩
    ·rcases bw with ⟨rfl,_,rfl⟩ | ⟨h1,al,aQ⟩
     ·omega
     ·refine .au ⟨by simp [h1],al,λx J=>?_⟩;rcases key x J with J | rfl
      ·exact aQ x J
      ·have:=q7 b h1;have ab:¬ ((n:Int)<(l.count x:Int)):=ab;have al:n=(l.count b:Int):=al;show l.count x<l.count b\/(l.count x=l.count b/\b<=x);omega
  ·have e:D.take k=D:=List.take_of_length_le (by omega);rw [e] at bw;rcases bw with ⟨rfl,rfl,_⟩ | ⟨h1,al,aQ⟩
   ·have:D=[]:=List.eq_nil_of_length_eq_zero (by omega);refine .inl ⟨?_,rfl⟩;refine List.eq_nil_iff_forall_not_mem.2 λx J=>?_;have:=(CQ x).2 J
    subst_vars
    cases this
   ·exact .inr ⟨(CQ b).1 h1,λx J=>aQ x ((CQ x).2 J)⟩
def nn (l:List Int):Int:=(yE l).getD (-1)
def Es (l:List Int):Prop:=l.length<=100000/\∀ x∈l,0<=x/\x<=1000000
theorem DI {l:List Int}(h:Es l):Bb l=some (nn l)/\yE l=some (nn l)/\ot l (nn l):=by
 obtain ⟨v,hv,h1⟩:=Pk l h.1 h.2;obtain ⟨w,hw,al⟩:=zk l h.1 h.2;have e:nn l=w:=by unfold nn; rw [hw]; rfl
 have c5:=h1.uniq al;rw [e];exact ⟨by rw [hv,c5],hw,al⟩
def kJ {α:Type}(keep:α->Bool) (val:α->Int) (l:List α):List gk:=(l.zipIdx.filter λp=>keep p.1).map λp=>(⟨(p.2:Nat),val p.1⟩:gk)
theorem DS {α:Type}(keep:α->Bool) (val:α->Int) (l:List α) (x:α):kJ keep val (l++[x])=kJ keep val l++(if keep x=true then [(⟨l.length,val x⟩:gk)] else []):=by
 unfold kJ;rw [List.zipIdx_append,List.filter_append,List.map_append];congr 1;cases h:keep x <;> simp [h]
theorem DR {α:Type}(keep:α->Bool) (val:α->Int) (l:List α):(kJ keep val l).length<=l.length:=by
 unfold kJ;rw [List.length_map];refine Nat.le_trans (List.length_filter_le ..) ?_;rw [List.length_zipIdx]; exact Nat.le_refl _
def red (r:List Act):List Int:=(r.filter λa=>decide (a.Kind=2)).map (·.N)
theorem H9 (r:List Act) (a:Act):red (r++[a])=red r++(if a.Kind=2 then [a.N] else []):=by
 unfold red;rw [List.filter_append,List.map_append];congr 1;by_cases h:a.Kind=2 <;> simp [h]
theorem DV (r:List Act):(red r).length<=r.length:=by
 unfold red;rw [List.length_map]; exact List.length_filter_le ..
def nb (a:Act):Int:=(nE a).getD 0
theorem J0 (a:Act):DN a=some (nb a)/\nE a=some (nb a):=by
 obtain ⟨c,ab,_⟩:=u16 a;have:nb a=c:=by unfold nb; rw [ab]; rfl
 rw [this,Qz];exact ⟨ab,ab⟩
def lx (d:Int) (a:Act):Bool:=!decide (a.Kind=0)&&(!decide (a.Kind=2)||!decide (a.N=d))
def uW (r:List Act):Row:=⟨nn (red r),kJ (lx (nn (red r))) nb r⟩
def mb (d v:Int):Bool:=decide (0<=v)&&!decide (v=d)
def pos (c:List Int):List Int:=c.filter λv=>decide (0<=v)
theorem M8 (r:List Int) (a:Int):pos (r++[a])=pos r++(if 0<=a then [a] else []):=by
 unfold pos;rw [List.filter_append];congr 1;by_cases h:0<=a <;> simp [h]
def uX (c:List Int):Row:=⟨nn (pos c),kJ (mb (nn (pos c))) id c⟩
def fU (d:jG) (a:Nat):List Int:=d.dh.map λr=>r.getD a 0
theorem Nb {g:bV}{n:Nat}(ba:gM g) {r:List Act}(ao:r.length=g.a6.length) (h:∀ a∈r,rD g n a):Es (red r):=by
 have aJ:=ba.kO;have aG:=ba.jB;have:=DV r;refine ⟨by omega,λx J=>?_⟩;unfold red at J;obtain ⟨a,bf,rfl⟩:=List.mem_map.1 J;rw [List.mem_filter] at bf;have hk:=(h a bf.1).qp (of_decide_eq_true bf.2);have h1:=hk.1;have al:=hk.2;omega
theorem M7 {c:List Int}(ao:c.length<=150) (h:∀ v∈c,v<150):Es (pos c):=by
 have:=List.length_filter_le (λv:Int=>decide (0<=v)) c;refine ⟨by unfold pos; omega,λx J=>?_⟩;unfold pos at J;rw [List.mem_filter] at J;have h1:=h x J.1;have al:=of_decide_eq_true J.2;omega
theorem Ch (g:bV) (n:Nat) (d:jG) (aU:u' g n d):Tot (MX d) λr=>r=d.dG.map uW:=by
 have ba:=aU.sN;have aJ:=ba.kO;have aP:=aU.hG;have bf:=aU.a;unfold MX;refine .aE (Ξ:=λr:List Row=>r=d.dG.map uW) ?_ λr aw=>.au aw;refine Tot.upto (λs=>s.2) d.dG.length (λk s=>s.1=(d.dG.take k).map uW) rfl (by omega) rfl λk s hk he bw=>?_;obtain ⟨R,i⟩:=s;simp only at he bw ⊢;subst he bw;rw [eE k (by omega)];refine Tot.bK (λa_=>?_) (λec=>.au ?_)
 ·have a_:k<d.dG.length:=by omega
  have gb:=j5 a_;obtain ⟨n0,x9⟩:=aU.EE _ (List.getElem_mem a_);simp only [ed a_,Option.bind_some];generalize d.dG[k]=r at *;have kF:=Nb ba n0 x9;obtain ⟨zt,zu,_⟩:=DI kF;refine .aE (Ξ:=λl:List Int=>l=red r) ?_ λl ao=>?_
  ·refine Tot.upto (λs=>s.2) r.length (λae s=>s.1=red (r.take ae)) rfl (by omega) rfl λae s aa he bw=>?_;obtain ⟨L,i⟩:=s;simp only at he bw ⊢;subst he bw;rw [eE ae (by omega)];refine Tot.bK (λdX=>?_) (λec=>.au ?_)
   ·have dX:ae<r.length:=by omega
    have l9:=j5 dX;have hlen:=DV (r.take ae);rw [List.length_take] at hlen;simp only [ed dX,Option.bind_some];generalize r[ae]=a at *;refine .aE (Ξ:=λL:List Int=>L=red (r.take (ae+1))) ?_ λr aw=>.au ⟨dX,rfl,aw⟩;rw [l9,H9];refine .aE (Ξ:=λL:List Int=>L=red (r.take ae)++(if a.Kind=2 then [a.N] else [])) (Tot.bK (λh=>?_) (λh=>.au ?_)) λr aw=>.au aw
    ·rw [if_pos h];exact .aE (Ξ:=λ_=>True) (Tot.ap (by simp [lim]; omega) trivial) λ_ _=>.au rfl
    ·rw [if_neg h,List.append_nil]
   ·have e:r.take ae=r:=List.take_of_length_le (by omega);rw [e]; rfl
  ·subst ao;rw [zt];refine Tot.ax (.aE (Ξ:=λl:List gk=>l=kJ (lx (nn (red r))) nb r) ?_ λl ao=>?_)
   ·generalize nn (red r)=D;refine Tot.upto (λs=>s.2) r.length (λae s=>s.1=kJ (lx D) nb (r.take ae)) rfl (by omega) rfl λae s aa he bw=>?_;obtain ⟨L,i⟩:=s;simp only at he bw ⊢;subst he bw;rw [eE ae (by omega)];refine Tot.bK (λdX=>?_) (λec=>.au ?_)
    ·have dX:ae<r.length:=by omega
     have l9:=j5 dX;have hlen:=DR (lx D) nb (r.take ae);have fj:(r.take ae).length=ae:=by rw [List.length_take]; omega
     rw [List.length_take] at hlen;simp only [ed dX,Option.bind_some];generalize r[ae]=a at *;rw [(J0 a).1];refine .aE (Ξ:=λL:List gk=>L=kJ (lx D) nb (r.take (ae+1))) ?_ λr aw=>.au ⟨dX,rfl,aw⟩;rw [l9,DS,fj];refine .aE (Ξ:=λc:Bool=>c=lx D a) (Tot.cg (λh=>?_) (λh=>.au ?_)) λc ab=>?_
     ·refine Tot.cg (λal=>.au ?_) (λal=>.au ?_)
      ·unfold lx; rw [h,al]; rfl
      ·unfold lx; rw [h,al]; rfl
     ·unfold lx; rw [h]; rfl
     subst ab;refine .aE (Ξ:=λL:List gk=>L=kJ (lx D) nb (r.take ae)++(if lx D a=true then [(⟨ae,nb a⟩:gk)] else [])) (Tot.cg (λh=>?_) (λh=>.au ?_)) λr aw=>.au aw
     ·rw [if_pos h];exact Tot.ax (.aE (Ξ:=λ_=>True) (Tot.ap (by simp [lim]; omega) trivial) λ_ _=>.au rfl)
     ·rw [if_neg (by rw [h]; decide),List.append_nil]
    ·have e:r.take ae=r:=List.take_of_length_le (by omega);rw [e]; rfl
   ·subst ao;refine .aE (Ξ:=λ_=>True) (Tot.ap (by simp [lim]; omega) trivial) λ_ _=>.au ⟨a_,rfl,?_⟩;show _=(d.dG.take (k+1)).map uW;rw [gb,List.map_append]; rfl
 ·have e:d.dG.take k=d.dG:=List.take_of_length_le (by omega);rw [e]; rfl
theorem xH (g:bV) (n:Nat) (d:jG) (aU:u' g n d):Tot (MY d) λr=>r=d.dG.map uW:=by
 have ba:=aU.sN;have aJ:=ba.kO;have aP:=aU.hG;have bf:=aU.a;unfold MY;refine .aE (Ξ:=λr:List Row=>r=d.dG.map uW) ?_ λr aw=>.au aw;refine Tot.upto (λs=>s.2) d.dG.length (λk s=>s.1=(d.dG.take k).map uW) rfl (by omega) rfl λk s hk he bw=>?_;obtain ⟨R,i⟩:=s;simp only at he bw ⊢;subst he bw;rw [eE k (by omega)];refine Tot.bK (λa_=>?_) (λec=>.au ?_)
 ·have a_:k<d.dG.length:=by omega
  have gb:=j5 a_;obtain ⟨n0,x9⟩:=aU.EE _ (List.getElem_mem a_);simp only [ed a_,Option.bind_some];generalize d.dG[k]=r at *;have kF:=Nb ba n0 x9;obtain ⟨zt,zu,_⟩:=DI kF;refine .aE (Ξ:=λl:List Int=>l=red r) ?_ λl ao=>?_
  ·refine Tot.upto (λs=>s.2) r.length (λae s=>s.1=red (r.take ae)) rfl (by omega) rfl λae s aa he bw=>?_;obtain ⟨L,i⟩:=s;simp only at he bw ⊢;subst he bw;rw [eE ae (by omega)];refine Tot.bK (λdX=>?_) (λec=>.au ?_)
   ·have dX:ae<r.length:=by omega
    have l9:=j5 dX;have hlen:=DV (r.take ae);rw [List.length_take] at hlen;simp only [ed dX,Option.bind_some];generalize r[ae]=a at *;refine .aE (Ξ:=λL:List Int=>L=red (r.take (ae+1))) ?_ λr aw=>.au ⟨dX,rfl,aw⟩;rw [l9,H9];refine .aE (Ξ:=λL:List Int=>L=red (r.take ae)++(if a.Kind=2 then [a.N] else [])) (Tot.bK (λh=>?_) (λh=>.au ?_)) λr aw=>.au aw
    ·rw [if_pos h];exact .aE (Ξ:=λ_=>True) (Tot.ap (by simp [lim]; omega) trivial) λ_ _=>.au rfl
    ·rw [if_neg h,List.append_nil]
   ·have e:r.take ae=r:=List.take_of_length_le (by omega);rw [e]; rfl
  ·subst ao;rw [zu];refine Tot.ax (.aE (Ξ:=λl:List gk=>l=kJ (lx (nn (red r))) nb r) ?_ λl ao=>?_)
   ·generalize nn (red r)=D;refine Tot.upto (λs=>s.2) r.length (λae s=>s.1=kJ (lx D) nb (r.take ae)) rfl (by omega) rfl λae s aa he bw=>?_;obtain ⟨L,i⟩:=s;simp only at he bw ⊢;subst he bw;rw [eE ae (by omega)];refine Tot.bK (λdX=>?_) (λec=>.au ?_)
    ·have dX:ae<r.length:=by omega
     have l9:=j5 dX;have hlen:=DR (lx D) nb (r.take ae);have fj:(r.take ae).length=ae:=by rw [List.length_take]; omega
     rw [List.length_take] at hlen;simp only [ed dX,Option.bind_some];generalize r[ae]=a at *;rw [(J0 a).2];refine .aE (Ξ:=λL:List gk=>L=kJ (lx D) nb (r.take (ae+1))) ?_ λr aw=>.au ⟨dX,rfl,aw⟩;rw [l9,DS,fj];refine .aE (Ξ:=λc:Bool=>c=lx D a) (Tot.cg (λh=>?_) (λh=>.au ?_)) λc ab=>?_
     ·refine Tot.cg (λal=>.au ?_) (λal=>.au ?_)
      ·unfold lx; rw [h,al]; rfl
      ·unfold lx; rw [h,al]; rfl
     ·unfold lx; rw [h]; rfl
     subst ab;refine .aE (Ξ:=λL:List gk=>L=kJ (lx D) nb (r.take ae)++(if lx D a=true then [(⟨ae,nb a⟩:gk)] else [])) (Tot.cg (λh=>?_) (λh=>.au ?_)) λr aw=>.au aw
     ·rw [if_pos h];exact Tot.ax (.aE (Ξ:=λ_=>True) (Tot.ap (by simp [lim]; omega) trivial) λ_ _=>.au rfl)
     ·rw [if_neg (by rw [h]; decide),List.append_nil]
    ·have e:r.take ae=r:=List.take_of_length_le (by omega);rw [e]; rfl
   ·subst ao;refine .aE (Ξ:=λ_=>True) (Tot.ap (by simp [lim]; omega) trivial) λ_ _=>.au ⟨a_,rfl,?_⟩;show _=(d.dG.take (k+1)).map uW;rw [gb,List.map_append]; rfl
 ·have e:d.dG.take k=d.dG:=List.take_of_length_le (by omega);rw [e]; rfl
theorem zp (d:jG) (a:Nat):(fU d a).length=d.dh.length:=by simp [fU]
theorem Cm {d:jG}{a q:Nat}(h:q<d.dh.length):(fU d a).take (q+1)=(fU d a).take q++[(d.dh[q]).getD a 0]:=by
 rw [j5 (by rw [zp]; exact h)];congr 2;simp [fU]
theorem J1 {g:bV}{n:Nat}{d:jG}(aU:u' g n d) {a:Nat}(bf:a<g.bx.length):∀ v∈fU d a,-1<=v/\v<n:=λv hv=>by
 unfold fU at hv;obtain ⟨r,aw,rfl⟩:=List.mem_map.1 hv;obtain ⟨h1,al⟩:=aU.uK r aw;refine al _ ?_;rw [List.getD_eq_getElem?_getD,List.getElem?_eq_getElem (by omega)];exact List.getElem_mem _
theorem Dr {r:List Int}{a:Nat}(h:a<r.length):idx r (a:Int)=some (r.getD a 0):=by
 rw [ed h,List.getD_eq_getElem?_getD,List.getElem?_eq_getElem h]; rfl
theorem M6 (c:List Int):(pos c).length<=c.length:=List.length_filter_le ..
theorem Ci (g:bV) (n:Nat) (d:jG) (aU:u' g n d):Tot (MZ d) λr=>r=(List.range g.bx.length).map λa=>uX (fU d a):=by
 have ba:=aU.sN;have aJ:=ba.h2;have aP:=aU.hG;have bf:=aU.o;have bd:0<d.dh.length:=by omega
 obtain ⟨S4,_⟩:=aU.uK _ (List.getElem_mem bd);have i0:idx d.dh 0=some d.dh[0]:=ed (k:=0) bd;unfold MZ;refine Tot.bK (λh=>absurd h (by omega)) (λ_=>?_);rw [i0];refine Tot.ax (.aE (Ξ:=λr:List Row=>r=(List.range g.bx.length).map λa=>uX (fU d a)) ?_ λr aw=>.au aw);refine Tot.upto (λs=>s.2) g.bx.length (λk s=>s.1=(List.range k).map λa=>uX (fU d a)) rfl (by omega) rfl λk s hk he bw=>?_;obtain ⟨R,i⟩:=s;simp only at he bw ⊢;subst he bw;rw [eE k (by omega)];refine Tot.bK (λa_=>?_) (λec=>.au ?_)
 ·have iy:k<g.bx.length:=by omega
  have kF:=M7 (c:=fU d k) (by rw [zp]; omega) λv hv=>by have:=(J1 aU iy v hv).2; omega
  obtain ⟨zt,zu,_⟩:=DI kF;have hr:=zp d k;refine .aE (Ξ:=λl:List Int=>l=pos (fU d k)) ?_ λl ao=>?_
  ·refine Tot.upto (λs=>s.2) d.dh.length (λae s=>s.1=pos ((fU d k).take ae)) rfl (by omega) rfl λae s aa he bw=>?_;obtain ⟨L,i⟩:=s;simp only at he bw ⊢;subst he bw;rw [eE ae (by omega)];refine Tot.bK (λdX=>?_) (λec=>.au ?_)
   ·have dX:ae<d.dh.length:=by omega
    have l9:=Cm (a:=k) dX;have hlen:=M6 ((fU d k).take ae);rw [List.length_take] at hlen;obtain ⟨n0,_⟩:=aU.uK _ (List.getElem_mem dX);simp only [ed dX,Option.bind_some,Dr (show k<(d.dh[ae]).length by omega)];generalize (d.dh[ae]).getD k 0=v at *;refine .aE (Ξ:=λL:List Int=>L=pos ((fU d k).take (ae+1))) ?_ λr aw=>.au ⟨dX,rfl,aw⟩;rw [l9,M8];refine .aE (Ξ:=λL:List Int=>L=pos ((fU d k).take ae)++(if 0<=v then [v] else [])) (Tot.bK (λh=>?_) (λh=>.au ?_)) λr aw=>.au aw
    ·rw [if_pos h];exact .aE (Ξ:=λ_=>True) (Tot.ap (by simp [lim]; omega) trivial) λ_ _=>.au rfl
    ·rw [if_neg h,List.append_nil]
   ·have e:(fU d k).take ae=fU d k:=List.take_of_length_le (by omega);rw [e]; rfl
  ·subst ao;rw [zt];refine Tot.ax (.aE (Ξ:=λl:List gk=>l=kJ (mb (nn (pos (fU d k)))) id (fU d k)) ?_ λl ao=>?_)
   ·generalize nn (pos (fU d k))=D;refine Tot.upto (λs=>s.2) d.dh.length (λae s=>s.1=kJ (mb D) id ((fU d k).take ae)) rfl (by omega) rfl λae s aa he bw=>?_;obtain ⟨L,i⟩:=s;simp only at he bw ⊢;subst he bw;rw [eE ae (by omega)];refine Tot.bK (λdX=>?_) (λec=>.au ?_)
    ·have dX:ae<d.dh.length:=by omega
     have l9:=Cm (a:=k) dX;have hlen:=DR (mb D) id ((fU d k).take ae);have fj:((fU d k).take ae).length=ae:=by rw [List.length_take]; omega
     rw [fj] at hlen;obtain ⟨n0,_⟩:=aU.uK _ (List.getElem_mem dX);simp only [ed dX,Option.bind_some,Dr (show k<(d.dh[ae]).length by omega)];generalize (d.dh[ae]).getD k 0=v at *;refine .aE (Ξ:=λL:List gk=>L=kJ (mb D) id ((fU d k).take (ae+1))) ?_ λr aw=>.au ⟨dX,rfl,aw⟩;rw [l9,DS,fj];refine .aE (Ξ:=λc:Bool=>c=mb D v) (Tot.cg (λh=>.au ?_) (λh=>.au ?_)) λc ab=>?_
     ·unfold mb; rw [h]; rfl
     ·unfold mb; rw [h]; rfl
     subst ab;refine .aE (Ξ:=λL:List gk=>L=kJ (mb D) id ((fU d k).take ae)++(if mb D v=true then [(⟨ae,id v⟩:gk)] else [])) (Tot.cg (λh=>?_) (λh=>.au ?_)) λr aw=>.au aw
     ·rw [if_pos h];exact .aE (Ξ:=λ_=>True) (Tot.ap (by simp [lim]; omega) trivial) λ_ _=>.au rfl
     ·rw [if_neg (by rw [h]; decide),List.append_nil]
    ·have e:(fU d k).take ae=fU d k:=List.take_of_length_le (by omega);rw [e]; rfl
   ·subst ao;refine .aE (Ξ:=λ_=>True) (Tot.ap (by simp [lim]; omega) trivial) λ_ _=>.au ⟨iy,rfl,?_⟩;show _=(List.range (k+1)).map λa=>uX (fU d a);rw [List.range_succ,List.map_append]; rfl
 ·have:k=g.bx.length:=by omega
  subst this; rfl
theorem Cj (g:bV) (n:Nat) (d:jG) (aU:u' g n d):Tot (M0 d) λr=>r=(List.range g.bx.length).map λa=>uX (fU d a):=by
 have ba:=aU.sN;have aJ:=ba.h2;have aP:=aU.hG;have bf:=aU.o;have bd:0<d.dh.length:=by omega
 obtain ⟨S4,_⟩:=aU.uK _ (List.getElem_mem bd);have i0:idx d.dh 0=some d.dh[0]:=ed (k:=0) bd;have g0:decide ((0:Int)<(d.dh.length:Int))=true:=decide_eq_true (by omega);unfold M0;refine .aE (Ξ:=λr:List Row=>r=(List.range g.bx.length).map λa=>uX (fU d a)) ?_ λr aw=>.au aw;refine Tot.upto (λs=>s.2) g.bx.length (λk s=>s.1=(List.range k).map λa=>uX (fU d a)) rfl (by omega) rfl λk s hk he bw=>?_;obtain ⟨R,i⟩:=s;simp only at he bw ⊢;subst he bw;rw [eE k (by omega),g0,i0];simp only [cond_true,Option.bind_some];refine Tot.bK (λa_=>?_) (λec=>.au ?_)
 ·have iy:k<g.bx.length:=by omega
  have kF:=M7 (c:=fU d k) (by rw [zp]; omega) λv hv=>by have:=(J1 aU iy v hv).2; omega
  obtain ⟨zt,zu,_⟩:=DI kF;have hr:=zp d k;refine .aE (Ξ:=λl:List Int=>l=pos (fU d k)) ?_ λl ao=>?_
  ·refine Tot.upto (λs=>s.2) d.dh.length (λae s=>s.1=pos ((fU d k).take ae)) rfl (by omega) rfl λae s aa he bw=>?_;obtain ⟨L,i⟩:=s;simp only at he bw ⊢;subst he bw;rw [eE ae (by omega)];refine Tot.bK (λdX=>?_) (λec=>.au ?_)
   ·have dX:ae<d.dh.length:=by omega
    have l9:=Cm (a:=k) dX;have hlen:=M6 ((fU d k).take ae);rw [List.length_take] at hlen;obtain ⟨n0,_⟩:=aU.uK _ (List.getElem_mem dX);simp only [ed dX,Option.bind_some,Dr (show k<(d.dh[ae]).length by omega)];generalize (d.dh[ae]).getD k 0=v at *;refine .aE (Ξ:=λL:List Int=>L=pos ((fU d k).take (ae+1))) ?_ λr aw=>.au ⟨dX,rfl,aw⟩;rw [l9,M8];refine .aE (Ξ:=λL:List Int=>L=pos ((fU d k).take ae)++(if 0<=v then [v] else [])) (Tot.bK (λh=>?_) (λh=>.au ?_)) λr aw=>.au aw
    ·rw [if_pos h];exact .aE (Ξ:=λ_=>True) (Tot.ap (by simp [lim]; omega) trivial) λ_ _=>.au rfl
    ·rw [if_neg h,List.append_nil]
   ·have e:(fU d k).take ae=fU d k:=List.take_of_length_le (by omega);rw [e]; rfl
  ·subst ao;rw [zu];refine Tot.ax (.aE (Ξ:=λl:List gk=>l=kJ (mb (nn (pos (fU d k)))) id (fU d k)) ?_ λl ao=>?_)
   ·generalize nn (pos (fU d k))=D;refine Tot.upto (λs=>s.2) d.dh.length (λae s=>s.1=kJ (mb D) id ((fU d k).take ae)) rfl (by omega) rfl λae s aa he bw=>?_;obtain ⟨L,i⟩:=s;simp only at he bw ⊢;subst he bw;rw [eE ae (by omega)];refine Tot.bK (λdX=>?_) (λec=>.au ?_)
    ·have dX:ae<d.dh.length:=by omega
     have l9:=Cm (a:=k) dX;have hlen:=DR (mb D) id ((fU d k).take ae);have fj:((fU d k).take ae).length=ae:=by rw [List.length_take]; omega
     rw [fj] at hlen;obtain ⟨n0,_⟩:=aU.uK _ (List.getElem_mem dX);simp only [ed dX,Option.bind_some,Dr (show k<(d.dh[ae]).length by omega)];generalize (d.dh[ae]).getD k 0=v at *;refine .aE (Ξ:=λL:List gk=>L=kJ (mb D) id ((fU d k).take (ae+1))) ?_ λr aw=>.au ⟨dX,rfl,aw⟩;rw [l9,DS,fj];refine .aE (Ξ:=λc:Bool=>c=mb D v) (Tot.cg (λh=>.au ?_) (λh=>.au ?_)) λc ab=>?_
     ·unfold mb; rw [h]; rfl
     ·unfold mb; rw [h]; rfl
     subst ab;refine .aE (Ξ:=λL:List gk=>L=kJ (mb D) id ((fU d k).take ae)++(if mb D v=true then [(⟨ae,id v⟩:gk)] else [])) (Tot.cg (λh=>?_) (λh=>.au ?_)) λr aw=>.au aw
     ·rw [if_pos h];exact .aE (Ξ:=λ_=>True) (Tot.ap (by simp [lim]; omega) trivial) λ_ _=>.au rfl
     ·rw [if_neg (by rw [h]; decide),List.append_nil]
    ·have e:(fU d k).take ae=fU d k:=List.take_of_length_le (by omega);rw [e]; rfl
   ·subst ao;refine .aE (Ξ:=λ_=>True) (Tot.ap (by simp [lim]; omega) trivial) λ_ _=>.au ⟨iy,rfl,?_⟩;show _=(List.range (k+1)).map λa=>uX (fU d a);rw [List.range_succ,List.map_append]; rfl
 ·have:k=g.bx.length:=by omega
  subst this; rfl
theorem Kp (g:bV) (t:Int):yF g t=some (match idx g.a6 t with | some k=>(k.Level,k.eC) | none=>(0,0)):=by
 unfold yF;by_cases bd:t<0
 ·rw [v' (.inl bd)]; simp [bd]
 ·by_cases h1:(g.a6.length:Int)<=t
  ·rw [v' (.inr h1)]; simp [h1]
  ·obtain ⟨k,hk,_⟩:=k6 (l:=g.a6) (i:=t) (by omega) (by omega);simp [bd,h1,hk]
theorem QC (g:bV) (p:Int):Bf g p=some (qo g p):=by
 unfold Bf qo;by_cases bd:p<0
 ·rw [v' (.inl bd)]; simp [bd]
 ·by_cases h1:(g.aX.length:Int)<=p
  ·rw [v' (.inr h1)]; simp [h1]
  ·obtain ⟨k,hk,_⟩:=k6 (l:=g.aX) (i:=p) (by omega) (by omega);simp only [bd,h1,hk,decide_false,cond_false,Option.bind_some,Kp]
   first | done | (cases idx g.a6 k.Prec <;> rfl)
theorem Qv (g:bV) (p t:Int):dec g p t=0\/dec g p t=1\/dec g p t=2\/dec g p t=3:=by
 unfold dec;split
 ·repeat' split
  all_goals simp
 ·exact .inl rfl
theorem Ko (g:bV) (p t:Int):yC g p t=some (dec g p t):=by
 unfold yC;rw [QC,Kp];unfold dec;generalize qo g p=x;cases hk:idx g.a6 t with
 | none =>
  simp only [Option.bind_some];by_cases h1:x.1=0 <;> simp [h1]
 | some k =>
  simp only [Option.bind_some];by_cases h1:x.1=0
  ·simp [h1]
  ·by_cases al:k.Level=0
   ·simp [h1,al]
   ·rw [if_neg (by omega)];simp only [h1,al,decide_false,cond_false,Option.bind_some];by_cases aQ:x.1<k.Level
    ·simp [aQ]
    ·by_cases bW:k.Level<x.1
     ·have:¬ k.Level=x.1:=by omega
      simp [aQ,bW,this]
     ·have:k.Level=x.1:=by omega
      rw [if_neg aQ,if_neg bW];by_cases da:k.eC=1
      ·simp [this,da]
      ·by_cases eb:k.eC=2
       ·simp [this,eb]
       ·simp [this,da,eb]
theorem Jy {p:Int}{r:List Int}(h:f_ ic (p::r)):∀ x∈r,p<x:=λx J=>HE.1 ((List.pairwise_cons.1 h).1 x J)
theorem JT (p:Int) (r:List Int) (ao:r.length<=1000) (h:f_ ic (p::r)):wK (p::r)=some p:=by
 suffices aL:Tot (wK (p::r)) λz=>z=p by
  obtain ⟨z,bA,e⟩:=aL; rw [bA,e]
 have a_:=Jy h;unfold wK;refine Tot.bK (λh=>by rw [List.length_cons] at h; omega) (λ_=>?_);have jN:idx (p::r) 0=some p:=rfl;rw [jN];refine Tot.ax (.aE (Ξ:=λz:Int=>z=p) ?_ λz bA=>.au bA);refine Tot.count (λs=>s.2) ((p::r).length:Int) (λs=>s.1=p/\1<=s.2) ⟨rfl,Int.le_refl _⟩ (by rw [List.length_cons]; show ((r.length+1:Nat):Int) - 1<_; omega) λs aL=>?_;obtain ⟨z,i⟩:=s;obtain ⟨h1,al⟩:=aL;simp only at h1 al ⊢;subst h1;have SN:(z::r).length=r.length+1:=rfl;refine Tot.bK (λSO=>?_) (λ_=>.au rfl);obtain ⟨y,az,hm⟩:=k6 (l:=z::r) (i:=i) (by omega) SO;rw [az];have TN:z<=y:=by
  rcases List.mem_cons.1 hm with rfl | hm
  ·exact Int.le_refl _
  ·have:=a_ y hm; omega
 refine Tot.ax (.au ⟨⟨Int.min_eq_left TN,?_⟩,?_,?_⟩)
 ·show 1<=aO (i+1);rw [c8]; omega
 ·show i<aO (i+1);rw [c8]; omega
 ·show aO (i+1)<=_;rw [c8]; omega
def E3 (g:bV) (c:Cell):Bool:=match c.aX with
 | []=>false
 | p::_=>decide (c.gi=true\/(0<=c.fh/\dec g p c.bC=0))
theorem QA (g:bV) (ba:gM g) {n:Nat}(c:Cell) (h:lB g n c):Be g c=some (jM g c,E3 g c):=by
 have ao:=h.len ba;have aG:=h.p;unfold Be jM E3;cases cT:c.aX with
 | nil =>
  simp only;cases h1:c.gi <;> simp
 | cons p r =>
  rw [cT,List.length_cons] at ao;rw [cT] at aG;have dl:decide (((p::r).length:Int)=0)=false:=decide_eq_false (by simp; omega);simp only [dl,cond_false,JT p r (by omega) aG,Option.bind_some,Ko];have aU:=Qv g p c.bC;generalize dec g p c.bC=v at *;cases h1:c.gi
  ·by_cases al:c.fh<0
   ·have aQ:¬ 0<=c.fh:=by omega
    simp [al,aQ]
   ·have aQ:0<=c.fh:=by omega
    rcases aU with rfl | rfl | rfl | rfl <;> simp [al,aQ]
  ·simp
theorem QD:∀ k:Fin 24,DQ [-1] ((k.val+1:Nat):Int)=some (List.replicate (k.val+1) (-1)):=by decide +kernel
theorem zl (g:bV) (ba:gM g) {m:List State}(hm:lD g m):Tot (Bd g m) λd=>d.dG=(List.range m.length).map (λ_=>List.replicate g.a6.length (⟨0,0⟩:Act))/\d.dh=(List.range m.length).map λq=>pe g m q:=by
 have aJ:=ba.kO;have aP:=ba.h2;have x6:=hm.lK;unfold Bd;refine .aE (Ξ:=λr:List (List Act) × List (List Int)=>r.1=(List.range m.length).map (λ_=>List.replicate g.a6.length (⟨0,0⟩:Act))/\r.2=(List.range m.length).map λq=>pe g m q) ?_ λr aw=>.au aw;refine Tot.upto (λs=>s.2.2) m.length (λk s=>s.1=(List.range k).map (λ_=>List.replicate g.a6.length (⟨0,0⟩:Act))/\s.2.1=(List.range k).map λq=>pe g m q) rfl (by omega) ⟨rfl,rfl⟩ λk s hk he bw=>?_;obtain ⟨A,G,i⟩:=s;obtain ⟨h1,al⟩:=bw;simp only at he h1 al ⊢;subst he h1 al;rw [eE k (by omega)];refine Tot.bK (λa_=>?_) (λec=>.au ?_)
 ·have a_:k<m.length:=by omega
  have cf:idx m (k:Int)=some m[k]:=ed a_;have kF:=List.getElem_mem a_;rw [cf];generalize m[k]=st at *;have ux:=hm.s_ st kF;have gg:=hm.nd st kF;have Kr:=QD ⟨g.bx.length - 1,by omega⟩;simp only [show g.bx.length - 1+1=g.bx.length by omega] at Kr;simp only [Option.bind_some,Kr];refine .aE (Ξ:=λL:List Int=>L=pe g m k) ?_ λL jO=>?_
  ·refine Tot.upto (λs=>s.2) st.dm.length (λae s=>s.1.length=g.bx.length/\∀ a:Nat,a<g.bx.length->(∃ v∈st.dm.take ae,v.Sym=1000+(a:Int)/\s.1[a]?=some v.hA)\/((∀ v∈st.dm.take ae,v.Sym≠1000+(a:Int))/\s.1[a]?=some (-1))) rfl (by omega) ⟨by simp,λa bf=>.inr ⟨by simp,by simp [bf]⟩⟩ λae s aa he bw=>?_;obtain ⟨L,i⟩:=s;obtain ⟨h1,al⟩:=bw;simp only at he h1 al ⊢;subst he;rw [eE ae (by omega)];refine Tot.bK (λdX=>?_) (λec=>.au ?_)
   ·have dX:ae<st.dm.length:=by omega
    have l9:=j5 dX;have yb:=hm.sym ba kF (List.getElem_mem dX);have Xb:∀ v∈st.dm.take ae,v.Sym≠(st.dm[ae]).Sym:=λv hv e=>by
     obtain ⟨i,hi,rfl⟩:=List.mem_iff_getElem.1 hv;rw [List.length_take] at hi;rw [List.getElem_take] at e;have:=List.pairwise_iff_getElem.1 gg i ae (by rw [List.length_map]; omega) (by rw [List.length_map]; omega) (by omega);rw [List.getElem_map,List.getElem_map] at this;exact this e
    simp only [ed dX,Option.bind_some];generalize st.dm[ae]=v at *;refine .aE (Ξ:=λL:List Int=>L.length=g.bx.length/\∀ a:Nat,a<g.bx.length->(∃ v∈st.dm.take (ae+1),v.Sym=1000+(a:Int)/\L[a]?=some v.hA)\/((∀ v∈st.dm.take (ae+1),v.Sym≠1000+(a:Int))/\L[a]?=some (-1))) ?_ λL jO=>.au ⟨dX,rfl,jO⟩;rw [l9];have mem:∀ w,w∈st.dm.take ae++[v]↔w∈st.dm.take ae\/w=v:=λw=>by simp
    refine .aE (Ξ:=λL:List Int=>L.length=g.bx.length/\∀ a:Nat,a<g.bx.length->(∃ w∈st.dm.take ae++[v],w.Sym=1000+(a:Int)/\L[a]?=some w.hA)\/((∀ w∈st.dm.take ae++[v],w.Sym≠1000+(a:Int))/\L[a]?=some (-1))) (Tot.bK (λh=>?_) (λh=>.au ⟨h1,λa bf=>?_⟩)) λL jO=>.au jO
    ·have aK:=yb.2.2 h;have hw:aO (v.Sym - 1000)=v.Sym - 1000:=by rw [c8]; omega
     rw [hw];obtain ⟨y,az,_⟩:=k6 (l:=L) (i:=v.Sym - 1000) (by omega) (by omega);rw [az];refine Tot.ax (.au ⟨by rw [List.length_set]; exact h1,λa bf=>?_⟩);rw [Bw (by omega)];by_cases e:a=(v.Sym - 1000).toNat
     ·rw [if_pos e];exact .inl ⟨v,(mem v).2 (.inr rfl),by omega,rfl⟩
     ·rw [if_neg e];rcases al a bf with ⟨w,s5,q_,GX⟩ | ⟨s5,q_⟩
      ·exact .inl ⟨w,(mem w).2 (.inl s5),q_,GX⟩
      ·refine .inr ⟨λw hw=>?_,q_⟩;rcases (mem w).1 hw with hw | rfl
       ·exact s5 w hw
       ·omega
    ·rcases al a bf with ⟨w,s5,q_,GX⟩ | ⟨s5,q_⟩
     ·exact .inl ⟨w,(mem w).2 (.inl s5),q_,GX⟩
     ·refine .inr ⟨λw hw=>?_,q_⟩;rcases (mem w).1 hw with hw | rfl
      ·exact s5 w hw
      ·omega
   ·have e:st.dm.take ae=st.dm:=List.take_of_length_le (by omega);rw [e] at al;show L=pe g m k;refine List.ext_getElem? λa=>?_;unfold pe;by_cases bf:a<g.bx.length
    ·rw [List.getElem?_map,List.getElem?_range bf];have C2:=(go_eq hm k (1000+(a:Int))).2;show _=some (go m k (1000+(a:Int)));rcases al a bf with ⟨v,oK,qh,Tf⟩ | ⟨oK,qh⟩
     ·rw [Tf];rcases C2 with ⟨_,bW⟩ | ⟨D9,w,bW,da,eb,kC⟩
      ·exact absurd qh (bW st cf v oK)
      ·rw [cf] at bW; cases bW;have:v=w:=by
        obtain ⟨i,hi,rfl⟩:=List.mem_iff_getElem.1 oK;obtain ⟨yd,WW,rfl⟩:=List.mem_iff_getElem.1 da;have key:i=yd:=by
         by_cases c1:i<yd
         ·have:=List.pairwise_iff_getElem.1 gg i yd (by rw [List.length_map]; omega) (by rw [List.length_map]; omega) c1;rw [List.getElem_map,List.getElem_map] at this;exact absurd (qh.trans eb.symm) this
         ·by_cases c2:yd<i
          ·have:=List.pairwise_iff_getElem.1 gg yd i (by rw [List.length_map]; omega) (by rw [List.length_map]; omega) c2;rw [List.getElem_map,List.getElem_map] at this;exact absurd (eb.trans qh.symm) this
          ·omega
        subst key; rfl
       rw [kC,this]
     ·rw [qh];rcases C2 with ⟨bW,_⟩ | ⟨D9,w,bW,da,eb,kC⟩
      ·rw [bW]
      ·rw [cf] at bW; cases bW;exact absurd eb (oK w da)
    ·rw [List.getElem?_eq_none (by omega),List.getElem?_eq_none (by simp; omega)]
  ·subst jO;refine .aE (Ξ:=λ_=>True) (Tot.ap (by simp [lim]; omega) trivial) λ_ _=>?_;refine .aE (Ξ:=λr=>r=List.replicate g.a6.length (⟨0,0⟩:Act)) (Tot.mk (by simp [lim]; omega) (by simp)) λpZ gK=>?_;subst gK;refine .aE (Ξ:=λ_=>True) (Tot.ap (by simp [lim]; omega) trivial) λ_ _=>.au ⟨a_,rfl,?_,?_⟩
   ·show _=(List.range (k+1)).map _;rw [List.range_succ,List.map_append]; rfl
   ·show _=(List.range (k+1)).map _;rw [List.range_succ,List.map_append]; rfl
 ·have:k=m.length:=by omega
  subst this;exact ⟨rfl,rfl⟩
theorem O2 {cs:List Cell}{k:Nat}(h:k<cs.length) (q:Nat):fv (cs.take (k+1)) q=fv (cs.take k) q++(if cs[k].State=(q:Int) then [cs[k]] else []):=by
 unfold fv;rw [BC h];by_cases e:cs[k].State=(q:Int) <;> simp [e]
theorem Pz (g:bV) (l:List Cell) (c:Cell):fo g (l++[c])=fo g l++kW g c:=by
 unfold fo;rw [List.flatMap_append]; simp
theorem rN (g:bV) (m:List State) (cs:List Cell) (dA:xb g m cs):Tot (uO g m cs) λr=>xh g m cs r.1/\r.2=fo g cs:=by
 obtain ⟨ba,hm,ab⟩:=dA;have aJ:=ba.kO;have x6:=hm.lK;have xY:=ab.n;unfold uO;refine .aE (zl g ba hm) λd aU=>?_;obtain ⟨C0,Ss⟩:=aU;refine .aE (Ξ:=λr:List (List Act) × List er=>r.1=(List.range m.length).map (λq=>rowOf g (fv cs q))/\r.2=fo g cs) ?_ λr aw=>.au ⟨⟨aw.1,Ss⟩,aw.2⟩;rw [C0];refine Tot.upto (λs=>s.2.2) cs.length (λk s=>s.1=(List.range m.length).map (λq=>rowOf g (fv (cs.take k) q))/\s.2.1=fo g (cs.take k)) rfl (by omega) ⟨by simp [fv,rowOf],by simp [fo]⟩ λk s hk he bw=>?_;obtain ⟨A,C,i⟩:=s;obtain ⟨h1,al⟩:=bw;simp only at he h1 al ⊢;subst he h1 al;rw [eE k (by omega)];refine Tot.bK (λa_=>?_) (λec=>.au ?_)
 ·have a_:k<cs.length:=by omega
  have gb:=j5 a_;have fW:=O2 a_;have eo:=ab.ok _ (List.getElem_mem a_);have hr:(fo g (cs.take k)).length<=360000:=by
   have h1:=zo ba (l:=cs.take k) λc ja=>ab.ok c (List.mem_of_mem_take ja);rw [List.length_take] at h1;omega
  rw [ed a_];generalize cs[k]=c at *;have cf:=eo.s;have n0:=DZ g (fv (cs.take k) c.State.toNat);have QH:idx ((List.range m.length).map λq=>rowOf g (fv (cs.take k) q)) c.State=some (rowOf g (fv (cs.take k) c.State.toNat)):=by
   unfold idx;rw [if_pos cf.1,List.getElem?_map,List.getElem?_range (by omega)]; rfl
  obtain ⟨a0,gN,_⟩:=k6 (l:=rowOf g (fv (cs.take k) c.State.toNat)) (i:=c.bC) eo.t.1 (by rw [n0]; exact eo.t.2);have Kz:((List.range m.length).map λq=>rowOf g (fv (cs.take k) q)).set c.State.toNat ((rowOf g (fv (cs.take k) c.State.toNat)).set c.bC.toNat (jM g c))=(List.range m.length).map λq=>rowOf g (fv (cs.take (k+1)) q):=by
   refine List.ext_getElem? λq=>?_;rw [Bw (by simp; omega),List.getElem?_map,List.getElem?_map];by_cases e:q=c.State.toNat
   ·rw [if_pos e,e,List.getElem?_range (by omega)];show _=some (rowOf g (fv (cs.take (k+1)) c.State.toNat));rw [fW,if_pos (by omega),Nf]
   ·rw [if_neg e];by_cases bR:q<m.length
    ·rw [List.getElem?_range bR];show some (rowOf g (fv (cs.take k) q))=some (rowOf g (fv (cs.take (k+1)) q));rw [fW,if_neg (by omega),List.append_nil]
    ·rw [List.getElem?_eq_none (by simp; omega)]; rfl
  have CU:=eo.len ba;simp only [Option.bind_some,QA g ba c eo,QH,gN];refine .aE (Ξ:=λr:List (List Act) × List er=>r.1=(List.range m.length).map (λq=>rowOf g (fv (cs.take (k+1)) q))/\r.2=fo g (cs.take (k+1))) ?_ λr aw=>.au ⟨a_,rfl,aw⟩;rw [gb,Pz,<- gb];cases cT:c.aX with
  | nil =>
   refine Tot.bK (λ_=>.au ⟨Kz,?_⟩) (λh=>absurd rfl h);show fo g (cs.take k)=_;unfold kW;rw [cT,List.append_nil]
  | cons p r =>
   have F6:=eo.p;rw [cT] at F6 CU;rw [List.length_cons] at CU;have x3:=Jy F6;refine Tot.bK (λh=>by rw [List.length_cons] at h; omega) (λ_=>?_);rw [JT p r (by omega) F6];refine Tot.ax (.aE (Ξ:=λl:List er=>l=fo g (cs.take k)++r.map (λx=>(⟨c.State,c.bC,p,x⟩:er))) ?_ λl ao=>?_)
   ·refine Tot.upto (λs=>s.2) (p::r).length (λae s=>s.1=fo g (cs.take k)++(r.take (ae - 1)).map (λx=>(⟨c.State,c.bC,p,x⟩:er))) rfl (by rw [List.length_cons]; omega) (by simp) λae s aa he bw=>?_;obtain ⟨L,i⟩:=s;simp only at he bw ⊢;subst he bw;rw [eE ae (by rw [List.length_cons] at aa; omega)];refine Tot.bK (λdX=>?_) (λec=>.au ?_)
    ·have dX:ae<(p::r).length:=by omega
     rw [ed dX];simp only [Option.bind_some];refine .aE (Ξ:=λl:List er=>l=fo g (cs.take k)++(r.take (ae+1 - 1)).map (λx=>(⟨c.State,c.bC,p,x⟩:er))) ?_ λl ao=>.au ⟨dX,rfl,ao⟩;cases ae with
     | zero =>
      refine .aE (Ξ:=λl:List er=>l=fo g (cs.take k)++(r.take (0+1 - 1)).map (λx=>(⟨c.State,c.bC,p,x⟩:er))) (Tot.nv (λh=>absurd rfl h) (λ_=>.au ?_)) λl ao=>.au ao;simp
     | succ ae =>
      rw [List.length_cons] at dX;have LM:ae<r.length:=by omega
      have ek:=x3 _ (List.getElem_mem LM);rw [List.getElem_cons_succ];have h':=j5 LM;refine .aE (Ξ:=λl:List er=>l=fo g (cs.take k)++(r.take (ae+1+1 - 1)).map (λx=>(⟨c.State,c.bC,p,x⟩:er))) (Tot.nv (λ_=>?_) (λh=>by omega)) λl ao=>.au ao;refine .aE (Ξ:=λ_=>True) (Tot.ap (by simp [lim]; omega) trivial) λ_ _=>.au ?_;rw [Nat.add_sub_cancel,Nat.add_sub_cancel,h',List.map_append,List.append_assoc]; rfl
    ·rw [List.length_cons] at ec aa;have e:r.take (ae - 1)=r:=List.take_of_length_le (by omega);rw [e]; rfl
   ·subst ao;refine .aE (Ξ:=λl:List er=>l=fo g (cs.take k)++kW g c) ?_ λl ao=>.au ⟨Kz,ao⟩;unfold kW E3;rw [cT];simp only;refine Tot.bK (λh=>?_) (λh=>.au ?_)
    ·rw [if_pos h];refine .aE (Ξ:=λ_=>True) (Tot.ap (by simp [lim]; omega) trivial) λ_ _=>.au (by rw [List.append_assoc])
    ·rw [if_neg h,List.append_nil]
 ·have e:cs.take k=cs:=List.take_of_length_le (by omega);rw [e];exact ⟨rfl,rfl⟩
theorem MR (n:Int):∀ l:List Cell,l.Pairwise (λa b=>a.State<=b.State)->(∀ c∈l,c.State<=n)->l=l.filter (λc=>decide (c.State<n))++l.filter (λc=>decide (c.State=n))
 | [],_,_=>rfl
 | c::l,h,aK=>by
  obtain ⟨h1,al⟩:=List.pairwise_cons.1 h;have aS:=MR n l al λd aU=>aK d (by simp [aU]);have ab:=aK c (by simp);by_cases e:c.State<n
  ·rw [List.filter_cons,if_pos (by simpa using e),List.filter_cons,if_neg (by simp; omega),List.cons_append,<- aS]
  ·have aP:l.filter (λc=>decide (c.State<n))=[]:=List.filter_eq_nil_iff.2 λd aU=>by
    have:=h1 d aU;simp; omega
   have bf:l.filter (λc=>decide (c.State=n))=l:=List.filter_eq_self.2 λd aU=>by
    have:=h1 d aU;have:=aK d (by simp [aU]);simp; omega
   rw [List.filter_cons,if_neg (by simpa using e),aP,List.filter_cons,if_pos (by simp; omega),bf]; rfl
theorem JK:∀ (n:Nat) (l:List Cell),l.Pairwise (λa b=>a.State<=b.State)->(∀ c∈l,0<=c.State/\c.State<n)->l=(List.range n).flatMap λq=>fv l q
 | 0,l,_,aK=>by
  have:l=[]:=List.eq_nil_iff_forall_not_mem.2 λc ab=>by have:=aK c ab; omega
  subst this; rfl
 | n+1,l,h,aK=>by
  have aG:=MR n l h λc ab=>by have:=(aK c ab).2; omega
  have aS:=JK n (l.filter λc=>decide (c.State<(n:Int))) (List.Pairwise.sublist List.filter_sublist h) λc ab=>by
   rw [List.mem_filter] at ab;exact ⟨(aK c ab.1).1,of_decide_eq_true ab.2⟩
  rw [List.range_succ,List.flatMap_append];have dg:(List.range n).flatMap (λq=>fv l q)=(List.range n).flatMap λq=>fv (l.filter λc=>decide (c.State<(n:Int))) q:=by
   refine congrArg List.flatten (List.map_congr_left λq bR=>?_);rw [List.mem_range] at bR;unfold fv;rw [List.filter_filter];refine List.filter_congr λc ab=>?_;by_cases e:c.State=(q:Int)
   ·simp [e]; omega
   ·simp [e]
  rw [dg,<- aS];simp only [List.flatMap_cons,List.flatMap_nil,List.append_nil];exact aG
theorem tP (P:List gk) (i:Int) (h:P.length<=1000000):Tot (M1 P i) λr=>(∃ v,(⟨i,v⟩:gk)∈P/\r=(v,true))\/((∀ v,(⟨i,v⟩:gk)∉P)/\r=(0,false)):=by
 unfold M1;refine .aE (Ξ:=hX (λ_=>∀ v,(⟨i,v⟩:gk)∉P) (λr:Int × Bool=>∃ v,(⟨i,v⟩:gk)∈P/\r=(v,true))) ?_ λx J=>?_
 ·refine Tot.upto (λs=>s) P.length (λk _=>∀ v,(⟨i,v⟩:gk)∉P.take k) rfl (by omega) (by simp) λk s hk he bw=>?_;subst he;rw [eE k (by omega)];refine Tot.bK (λa_=>?_) (λ_=>.au ?_)
  ·have a_:k<P.length:=by omega
   have gb:=j5 a_;have hm:=List.getElem_mem a_;simp only [ed a_,Option.bind_some];generalize P[k]=p at *;refine Tot.bK (λe=>.au ⟨p.xz,by rw [<- e]; exact hm,rfl⟩) (λe=>.au ⟨a_,rfl,λv hv=>?_⟩);rw [gb,List.mem_append,List.mem_singleton] at hv;rcases hv with hv | hv
   ·exact bw v hv
   ·exact e (by rw [<- hv])
  ·have e:P.take k=P:=List.take_of_length_le (by omega);rw [e] at bw;exact bw
 ·rcases x with x | x
  ·exact .au (.inr ⟨J,rfl⟩)
  ·exact .au (.inl J)
theorem xI (r:List Act) (n:Int) (h:r.length<=100000):HU r n=some ((red r).count n:Int):=by
 suffices aL:Tot (HU r n) λz=>z=((red r).count n:Int) by
  obtain ⟨z,bA,e⟩:=aL; rw [bA,e]
 unfold HU;refine .aE (Ξ:=λz:Int=>z=((red r).count n:Int)) ?_ λz bA=>.au bA;refine Tot.upto (λs=>s.2) r.length (λk s=>s.1=((red (r.take k)).count n:Int)) rfl (by omega) (by simp [red]) λk s hk he bw=>?_;obtain ⟨z,i⟩:=s;simp only at he bw ⊢;subst he bw;rw [eE k (by omega)];refine Tot.bK (λa_=>?_) (λec=>.au ?_)
 ·have a_:k<r.length:=by omega
  have gb:=j5 a_;have h1:=List.count_le_length (a:=n) (l:=red (r.take k));have al:=DV (r.take k);rw [List.length_take] at al;simp only [ed a_,Option.bind_some];generalize r[k]=a at *;refine .aE (Ξ:=λz:Int=>z=((red (r.take (k+1))).count n:Int)) ?_ λz bA=>.au ⟨a_,rfl,bA⟩;rw [gb,H9];refine .aE (Ξ:=λc:Bool=>c=decide (a.Kind=2/\a.N=n)) (Tot.bK (λh=>.au ?_) (λh=>.au ?_)) λc ab=>?_
  ·exact decide_eq_decide.2 ⟨λaR=>⟨h,aR⟩,λaR=>aR.2⟩
  ·exact (decide_eq_false λaR=>h aR.1).symm
  subst ab;refine .aE (Ξ:=λz:Int=>z=((red (r.take k)++if a.Kind=2 then [a.N] else []).count n:Int)) (Tot.bK (λh=>.au ?_) (λh=>.au ?_)) λz bA=>.au bA
  ·rw [if_pos h.1,sF,if_pos h.2,eE _ (by omega)]
  ·by_cases aQ:a.Kind=2
   ·rw [if_pos aQ,sF,if_neg λaR=>h ⟨aQ,aR⟩]; rfl
   ·rw [if_neg aQ,List.append_nil]
 ·have e:r.take k=r:=List.take_of_length_le (by omega);rw [e]; rfl
def hF (l:List er):Nat:=(l.filter λc=>decide (c.fu=-1)).length
theorem Pj (l:List er) (ao:l.length<=1000000):wH l=some ((hF l:Int),((l.length - hF l:Nat):Int)):=by
 suffices aL:Tot (wH l) λr=>r=((hF l:Int),((l.length - hF l:Nat):Int)) by
  obtain ⟨r,aw,e⟩:=aL; rw [aw,e]
 have hk:hF l<=l.length:=List.length_filter_le ..;unfold wH;refine .aE (Ξ:=λz:Int=>z=(hF l:Int)) ?_ λz bA=>?_
 ·refine Tot.upto (λs=>s.2) l.length (λk s=>s.1=(hF (l.take k):Int)) rfl (by omega) rfl λk s hk he bw=>?_;obtain ⟨z,i⟩:=s;simp only at he bw ⊢;subst he bw;rw [eE k (by omega)];refine Tot.bK (λa_=>?_) (λec=>.au ?_)
  ·have a_:k<l.length:=by omega
   have qZ:=BC a_ (λc:er=>decide (c.fu=-1));have uk:hF (l.take k)<=k:=by
    have:=List.length_filter_le (λc:er=>decide (c.fu=-1)) (l.take k);rw [List.length_take] at this;unfold hF; omega
   rw [ed a_];generalize l[k]=c at *;simp only [Option.bind_some];refine .aE (Ξ:=λz:Int=>z=(hF (l.take (k+1)):Int)) ?_ λr aw=>.au ⟨a_,rfl,aw⟩;have e:hF (l.take (k+1))=hF (l.take k)+(if c.fu=-1 then 1 else 0):=by
    unfold hF;rw [qZ];by_cases h:c.fu=-1 <;> simp [h]
   rw [e];refine .aE (Ξ:=λz:Int=>z=((hF (l.take k)+(if c.fu=-1 then 1 else 0):Nat):Int)) (Tot.bK (λh=>.au ?_) (λh=>.au ?_)) λr aw=>.au aw
   ·rw [if_pos h,eE _ (by omega)]
   ·rw [if_neg h]; rfl
  ·have e:l.take k=l:=List.take_of_length_le (by omega);rw [e]; rfl
 ·subst bA;refine .au ?_;have:aO ((l.length:Int) - (hF l:Int))=((l.length - hF l:Nat):Int):=by rw [c8]; omega
  rw [this]
theorem KW (g:bV) {i:Nat}:∀ (l:List Cell) (r:List Act),(∀ c∈l,c.bC.toNat≠i)->(l.foldl (λrow c=>row.set c.bC.toNat (jM g c)) r)[i]?=r[i]?
 | [],_,_=>rfl
 | c::l,r,h=>by
  rw [List.foldl_cons,KW g l _ λd aU=>h d (by simp [aU]),List.getElem?_set];rw [if_neg (h c (by simp))]
theorem KV (g:bV) {c:Cell}:∀ (l:List Cell) (r:List Act),c∈l->l.Pairwise (λa b=>a.bC.toNat≠b.bC.toNat)->c.bC.toNat<r.length->(l.foldl (λrow c=>row.set c.bC.toNat (jM g c)) r)[c.bC.toNat]?=some (jM g c)
 | [],_,h,_,_=>by cases h
 | d::l,r,h,aG,ao=>by
  obtain ⟨h1,al⟩:=List.pairwise_cons.1 aG;rw [List.foldl_cons];rcases List.mem_cons.1 h with rfl | h
  ·rw [KW g l _ λe he=>(h1 e he).symm,List.getElem?_set,if_pos rfl,if_pos ao]
  ·exact KV g l _ h al (by rw [List.length_set]; exact ao)
theorem JD {g:bV}{n:Nat}{cs:List Cell}(ab:qE g n cs) (q:Nat):(fv cs q).Pairwise λa b=>a.bC.toNat≠b.bC.toNat:=by
 unfold fv;refine List.Pairwise.imp_of_mem (λ{a b} bf aK h=>?_) (List.Pairwise.sublist List.filter_sublist ab.HM);rw [List.mem_filter] at bf aK;have h1:=of_decide_eq_true bf.2;have al:=of_decide_eq_true aK.2;have aQ:=(ab.ok a bf.1).t;have bW:=(ab.ok b aK.1).t;rcases h with h | h <;> omega
theorem Oz {g:bV}{m:List State}{cs:List Cell}{d:jG}(dA:xb g m cs) (h:xh g m cs d) {c:Cell}(ja:c∈cs):∃ row,idx d.dG c.State=some row/\row.length=g.a6.length/\idx row c.bC=some (jM g c):=by
 have eo:=dA.ce.ok c ja;have aL:=eo.s;have aJ:=eo.t;refine ⟨rowOf g (fv cs c.State.toNat),?_,DZ g _,?_⟩
 ·rw [h.a];unfold idx;rw [if_pos aL.1,List.getElem?_map,List.getElem?_range (by omega)]; rfl
 ·unfold idx;rw [if_pos aJ.1];unfold rowOf;refine KV g _ _ ?_ (JD dA.ce _) (by simp; omega);unfold fv;rw [List.mem_filter];exact ⟨ja,decide_eq_true (by omega)⟩
theorem Kn (c:Cell) (ao:c.aX.length<=1000):yB c=some (k' c:Int):=NU ao (by unfold yB; rfl)
theorem Ck {g:bV}(ba:gM g) {n:Nat}{cs:List Cell}(ab:qE g n cs):Tot (M3 cs) λr=>r=((cs.filter λc=>decide (1<k' c)).length:Int):=by
 unfold M3;exact .aE (M' ba ab Kn) λr aw=>.au aw
def o6 (T:List bC):Prop:=∀ t∈T,t.Level≠0->1<=t.eC/\t.eC<=3
def B3 (P:List Prod):Prop:=∀ p∈P,∀ s∈p.fm,s≠0
theorem o6.set {T:List bC}(h:o6 T) (k:Nat) {t:bC}(aJ:t.Level≠0->1<=t.eC/\t.eC<=3):o6 (T.set k t):=λs aL=>by
 rcases List.mem_or_eq_of_mem_set aL with aR | aR
 ·exact h s aR
 ·rw [aR]; exact aJ
theorem o6.Io {T:List bC}(h:o6 T) {i:Int}{t t':bC}(e:idx T i=some t) (h1:t'.Level=t.Level) (al:t'.eC=t.eC):o6 (T.set i.toNat t'):=h.set _ (by
 rw [h1,al];unfold idx at e
 split at e
 ·exact h t (List.mem_of_getElem? e)
 ·cases e)
structure fD (N:Nat) (m:fQ):Prop where
 ri:N<=lim
 gQ:o6 m.aq.a6
 lo:3<=m.aq.a6.length
 hi:m.aq.a6.length<=lim
 fX:m.bG.length<=lim
 i0:0<=m.bD
 i1:m.bD<=((N+m.aq.aX.length:Nat):Int)
 jB:m.aq.aX.length<=lim
 sd:m.b7=0->B3 m.aq.aX
theorem B9 {α:Type}{l m:List α}(h:l.length+m.length<=lim):(l++m).length<=lim:=by rw [List.length_append]; exact h
theorem yi:lim<=1000000000000000:=by unfold lim; omega
theorem sb (m:fQ) (a:Int) (n:ByteArray):Par (np m a n) λbS=>qJ m bS/\bS.b7≠0:=.of (t94 m a n)
theorem fD.fail {N:Nat}{m bS:fQ}(h:fD N m) (aL:qJ m bS/\bS.b7≠0):fD N bS:=by
 obtain ⟨h1,al⟩:=aL;exact ⟨h.ri,by rw [h1.g]; exact h.gQ,by rw [h1.g]; exact h.lo,by rw [h1.g]; exact h.hi,by rw [h1.fX]; exact h.fX,by rw [h1.hx]; exact h.i0,by rw [h1.g,h1.hx]; exact h.i1,by rw [h1.g]; exact h.jB,λe=>absurd e al⟩
theorem MM {N:Nat}(m:fQ) (x:Sym) (hm:fD N m):Par (tc m x) λr=>r=-1\/1<=r:=by
 have ao:=yi;have h:=hm.hi;have aQ:=hm.lo;unfold tc;refine .aE (Ξ:=hX (λ_=>True) (λr:Int=>1<=r)) ?_ λr aw=>?_
 ·refine Par.loop (λs=>1<=s/\s<=m.aq.a6.length) ⟨by decide,by omega⟩ λs aL=>?_;refine Par.bK (λa_=>?_) (λ_=>.au trivial);exact .aE (Ξ:=λ_=>True) (λ_ _=>trivial) λc _=>Par.cg (λaR=>.au aL.1) (λ_=>.au ⟨by rw [c8]; omega,by rw [c8]; omega⟩)
 ·rcases r with _ | r
  ·exact .au (.inl rfl)
  ·exact .au (.inr aw)
theorem MN (m:fQ) (x:ByteArray) (hm:m.bG.length<=lim):Par (qs m x) λr=>r=-1\/(0<=r/\r<m.bG.length):=by
 have ao:=yi;unfold qs;refine .aE (Ξ:=hX (λ_=>True) (λr:Int=>0<=r/\r<m.bG.length)) ?_ λr aw=>?_
 ·refine Par.loop (λs=>0<=s/\s<=m.bG.length) ⟨by decide,by omega⟩ λs aL=>?_;refine Par.bK (λa_=>?_) (λ_=>.au trivial);exact .go λ_ _=>Par.cg (λaR=>.au ⟨aL.1,a_⟩) (λ_=>.au ⟨by rw [c8]; omega,by rw [c8]; omega⟩)
 ·rcases r with _ | r
  ·exact .au (.inl rfl)
  ·exact .au (.inr aw)
theorem MK {N:Nat}(m:fQ) (x:Sym) (hm:fD N m):Par (uN m x) λr=>fD N r.2/\1<=r.1/\(r.2.b7=0->m.b7=0):=by
 unfold uN;have ao:=yi;refine .aE (MM m x hm) λr aw=>Par.bK (λh=>.au ⟨hm,?_,id⟩) (λ_=>?_)
 ·show 1<=r;omega
 refine .aE (Ξ:=λae:fQ × Int=>fD N ae.1/\(ae.1.b7=0->m.b7=0)) ?_ λae aa=>?_
 ·refine Par.cg (λ_=>.go λ_ _=>.aE (Ξ:=λ_=>True) (λ_ _=>trivial) λo _=>?_) (λ_=>.au ⟨hm,id⟩);exact .aE (Ξ:=λae:fQ=>fD N ae/\(ae.b7=0->m.b7=0)) (Par.bK (λ_=>.aE (sb m x.At x.Name) λbS aR=>.au ⟨hm.fail aR,λe=>absurd e aR.2⟩) (λ_=>.au ⟨hm,id⟩)) λae aa=>.au aa
 ·obtain ⟨h,he⟩:=aa;refine Par.ap λuw=>Par.ap λ_=>.au ⟨⟨h.ri,λt aJ=>?_,?_,B9 uw,h.fX,h.i0,h.i1,h.jB,h.sd⟩,?_,he⟩
  ·rcases List.mem_append.1 aJ with aJ | aJ
   ·exact h.gQ t aJ
   ·rw [List.mem_singleton.1 aJ]; exact λh=>absurd rfl h
  ·have:=h.lo;show 3<=(ae.1.aq.a6++[_]).length;simp; omega
  ·have:=h.lo;show 1<=aO _;simp only [List.length_append,List.length_cons,List.length_nil] at uw ⊢;rw [c8]; omega
theorem fD.D4 {N:Nat}{m:fQ}(h:fD N m) {T:List bC}(fG:o6 T) (aP:T.length=m.aq.a6.length) {G:List Bool}:fD N (⟨(⟨T,m.aq.bx,m.aq.aX,m.aq.bB,m.aq.bE⟩:bV),G,m.b2,m.bG,m.b7,m.cd,m.cb,m.b0,m.bD⟩:fQ) :=
 ⟨h.ri,fG,by show 3<=T.length; rw [aP]; exact h.lo,by show T.length<=_; rw [aP]; exact h.hi,h.fX,h.i0,h.i1,h.jB,h.sd⟩
theorem fD.Fl {N:Nat}{m bS:fQ}(h:fD N m) (aL:qJ m bS/\bS.b7≠0):fD N (⟨(⟨m.aq.a6,bS.aq.bx,bS.aq.aX,bS.aq.bB,bS.aq.bE⟩:bV),bS.b4,bS.b2,bS.bG,bS.b7,bS.cd,bS.cb,bS.b0,bS.bD⟩:fQ) :=
 (h.fail aL).D4 h.gQ (by rw [aL.1.g])
theorem UN {N:Nat}(m:fQ) (d:Decl) (x:Sym) (hm:fD N m) (hk:1<=d.Kind/\d.Kind<=6) (eb:d.Kind≠6):Par (wQ m d x) (fD N):=by
 unfold wQ;refine Par.cg (λ_=>?_) (λda=>?_)
 ·refine .aE (Ξ:=λ_=>True) (λ_ _=>trivial) λk _=>.aE (Ξ:=fD N) ?_ λbS hm=>.au hm;refine Par.bK (λ_=>Par.ap λ_=>.au ⟨hm.ri,hm.gQ,hm.lo,hm.hi,hm.fX,hm.i0,hm.i1,hm.jB,hm.sd⟩) (λ_=>?_);exact .go λy _=>.aE (Ξ:=fD N) (Par.cg (λ_=>.aE (sb m _ _) λbS h=>.au (hm.fail h)) (λ_=>.au hm)) λbS hm=>.au hm
 ·refine .aE (MK m x hm) λr aw=>?_;have aw:=aw.1;refine .go λy az=>?_;refine .aE (Ξ:=fD N) ?_ λfa r0=>?_
  ·refine Par.nv (λh1=>?_) (λ_=>.au aw);refine .aE (Ξ:=fD N) (Par.cg (λ_=>.aE (sb r.2 _ _) λbS h=>.au (aw.Fl h)) (λ_=>.au aw)) λdn ua=>?_;refine .go λz bA=>?_;rw [List.set_set];refine .au (ua.D4 (ua.gQ.set _ λ_=>?_) (List.length_set ..));have:=of_decide_eq_false da;have hw:aO (d.Kind - 1)=d.Kind - 1:=by rw [c8]; omega
   show 1<=aO (d.Kind - 1)/\aO (d.Kind - 1)<=3;rw [hw]; omega
  refine .go λy _=>?_;refine .aE (Ξ:=fD N) ?_ λfH ub=>?_
  ·refine Par.bK (λsZ=>?_) (λ_=>.au r0);refine .aE (Ξ:=λ_=>True) (λ_ _=>trivial) λc _=>?_;refine .aE (Ξ:=fD N) (Par.cg (λ_=>.aE (sb fa _ _) λbS h=>.au (r0.Fl h)) (λh=>.au r0)) λej xT=>?_;exact .go λz bA=>.go λh7 LC=>.au (xT.D4 (xT.gQ.Io (t':=(⟨z.Name,z.Lit,x.c9,z.Level,z.eC,z.Tag⟩:bC)) bA rfl rfl) (List.length_set ..))
  refine .go λy _=>.aE (Ξ:=fD N) ?_ λae aa=>.au aa;refine Par.cg (λ_=>?_) (λ_=>.au ub);refine .aE (Ξ:=λ_=>True) (λ_ _=>trivial) λc _=>?_;refine .aE (Ξ:=fD N) (Par.cg (λ_=>.aE (sb fH _ _) λbS h=>.au (ub.Fl h)) (λ_=>.au ub)) λgy zT=>?_;exact .go λz bA=>.au (zT.D4 (zT.gQ.Io (t':=(⟨z.Name,z.Lit,z.c9,z.Level,z.eC,d.Tag⟩:bC)) bA rfl rfl) (List.length_set ..))
theorem ML {N:Nat}(m:fQ) (x:Sym) (hm:fD N m):Par (sc m x) λr=>fD N r.2/\(r.2.b7=0->m.b7=0/\r.1≠0):=by
 have ao:=yi;have uv:=hm.fX;unfold sc;refine Par.cg (λ_=>.aE (MK m x hm) λr aw=>.au ⟨aw.1,λe=>⟨aw.2.2 e,by have:=aw.2.1; show r.1≠0; omega⟩⟩) (λ_=>.aE (MN m x.Name uv) λk hk=>Par.bK (λh=>.au ⟨hm,λe=>⟨e,?_⟩⟩) (λ_=>.aE (MM m x hm) λt aJ=>Par.bK (λ_=>.aE (sb m _ _) λbS h=>.au ⟨hm.fail h,λe=>absurd e h.2⟩) (λh=>.au ⟨hm,λe=>⟨e,?_⟩⟩)))
 ·show aO (1001+k)≠0;rw [c8]; omega
 ·show t≠0;omega
theorem UO {N:Nat}(m:fQ) (left:ByteArray) (a:Alt) (hm:fD N m):Par (wR m left a) (fD N):=by
 have ao:=yi;unfold wR;refine .aE (Ξ:=λ_=>True) (λ_ _=>trivial) λaI _=>?_;refine .aE (Ξ:=λr:fQ × List Int × ByteArray × Int=>fD N r.1/\(r.1.b7=0->∀ s∈r.2.1,s≠0)) ?_ λaZ aQ=>?_
 ·refine Par.loop (λs=>fD N s.1/\(s.1.b7=0->∀ y∈s.2.1,y≠0)) ⟨hm,λ_ y az=>by cases az⟩ λs aL=>?_;obtain ⟨m1,rt,cg,at_,i⟩:=s;obtain ⟨aL,bA⟩:=aL;simp only at aL bA ⊢;refine Par.bK (λa_=>?_) (λ_=>.au ⟨aL,bA⟩);refine .aE (Ξ:=λae:fQ × List Int × ByteArray × Int=>fD N ae.1/\(ae.1.b7=0->∀ s∈ae.2.1,s≠0)) ?_ λae aa=>.au aa;refine .go λy az=>.aE (Ξ:=λae:fQ × List Int × ByteArray × Int=>fD N ae.1/\(ae.1.b7=0->∀ s∈ae.2.1,s≠0)) ?_ λae aa=>.au aa;refine .aE (Ξ:=λae:fQ × List Int × ByteArray × Int=>fD N ae.1/\(ae.1.b7=0->∀ s∈ae.2.1,s≠0)) ?_ λae aa=>.au aa;refine Par.cg (λ_=>?_) (λ_=>?_)
  ·refine .aE (ML m1 y.Sym aL) λr aw=>Par.ap λ_=>.au ⟨aw.1,λe s aL=>?_⟩;obtain ⟨h1,al⟩:=aw.2 e;rcases List.mem_append.1 aL with aL | aL
   ·exact bA h1 s aL
   ·rw [List.mem_singleton.1 aL]; exact al
  ·refine .aE (Ξ:=λae:List Prod × Int × List Int × ByteArray × Int=>fD N (⟨(⟨m1.aq.a6,m1.aq.bx,ae.1,m1.aq.bB,m1.aq.bE⟩:bV),m1.b4,m1.b2,m1.bG,m1.b7,m1.cd,m1.cb,m1.b0,ae.2.1⟩:fQ)/\(m1.b7=0->∀ s∈ae.2.2.1,s≠0)) ?_ λae aa=>.au aa;refine Par.cg (λ_=>.au ⟨aL,bA⟩) (λ_=>Par.ap λ_=>Par.ap λuw=>Par.ap λ_=>.au ⟨⟨aL.ri,aL.gQ,aL.lo,aL.hi,aL.fX,?_,?_,B9 uw,λe p aG=>?_⟩,λe s h=>?_⟩)
   ·have:=aL.i0; have:=aL.i1; have:=aL.jB; have:=aL.ri;show 0<=aO (m1.bD+1);rw [c8]; omega
   ·have:=aL.i0; have:=aL.i1; have:=aL.jB; have:=aL.ri;show aO (m1.bD+1)<=((N+(m1.aq.aX++[_]).length:Nat):Int);rw [List.length_append,c8];simp only [List.length_cons,List.length_nil];omega
   ·rcases List.mem_append.1 aG with aG | aG
    ·exact aL.sd e p aG
    ·rw [List.mem_singleton.1 aG]; exact λs h=>by cases h
   ·rcases List.mem_append.1 h with h | h
    ·exact bA e s h
    ·rw [List.mem_singleton.1 h];have:=aL.i0; have:=aL.i1; have:=aL.jB; have:=aL.ri; have:=aL.fX;have hw:aO (m1.bD+1)=m1.bD+1:=by rw [c8]; omega
     have q_:aO (1000+(m1.bG.length:Int))=1000+(m1.bG.length:Int):=by rw [c8]; omega
     rw [hw,q_,c8]; omega
 ·obtain ⟨aQ,bA⟩:=aQ;refine .aE (Ξ:=λ_=>True) (λ_ _=>trivial) λhy _=>?_;refine .aE (Ξ:=λae:fQ × Int=>fD N ae.1/\(ae.1.b7=0->aZ.1.b7=0)) ?_ λae aa=>Par.ap λ_=>Par.ap λuw=>.au ?_
  ·refine Par.cg (λ_=>?_) (λ_=>.au ⟨aQ,id⟩);refine .aE (Ξ:=λ_=>True) (λ_ _=>trivial) λc _=>.aE (Ξ:=λae:fQ × Int=>fD N ae.1/\(ae.1.b7=0->aZ.1.b7=0)) ?_ λae aa=>.au aa;exact Par.cg (λ_=>.aE (ML aZ.1 a.Prec aQ) λr aw=>.au ⟨aw.1,λe=>(aw.2 e).1⟩) (λ_=>.aE (sb aZ.1 _ _) λbS h=>.au ⟨aQ.fail h,λe=>absurd e h.2⟩)
  ·obtain ⟨aa,he⟩:=aa;refine ⟨aa.ri,aa.gQ,aa.lo,aa.hi,aa.fX,aa.i0,by have:=aa.i1; show ae.1.bD<=((N+(ae.1.aq.aX++[_]).length:Nat):Int); simp; omega,B9 uw,λe p aG=>?_⟩;rcases List.mem_append.1 aG with aG | aG
   ·exact aa.sd e p aG
   ·rw [List.mem_singleton.1 aG]; exact bA (he e)
theorem UD (d:Decl):Par (wC d) λr=>r=true->1<=d.Kind/\d.Kind<=6:=by
 unfold wC;refine .aE (Ξ:=λc=>c=false->1<=d.Kind/\d.Kind<=6) ?_ λc ab=>Par.cg (λ_=>.au λh=>by cases h) (λh=>?_)
 ·exact Par.bK (λ_=>.au λh=>by cases h) (λh1=>Par.bK (λ_=>.au λh=>by cases h) (λal=>λ_ _ _=>⟨by omega,by omega⟩))
 ·exact λ_ _ _=>ab h
theorem UM (s:Source) (aK:s.Decls.length<=1000000):Par (wP s) λr=>r=true->∀ d∈s.Decls,1<=d.Kind/\d.Kind<=6:=by
 unfold wP;refine .aE (Ξ:=hX (λ_=>True) (λr=>r=false)) ?_ λx J=>?_
 ·refine Par.loop (λ_=>True) trivial λae _=>?_;refine Par.bK (λ_=>.aE (Ξ:=λ_=>True) (λ_ _=>trivial) λ_ _=>Par.cg (λ_=>.au rfl) (λ_=>.au trivial)) (λ_=>.au trivial)
 ·rcases x with _ | r
  ·refine .aE (Par.scan s.Decls (by omega) (λd=>1<=d.Kind/\d.Kind<=6) (λr=>r=false) (λi y bd h1 hi hm=>?_) (λs aL=>by simp [aL])) λx J=>?_
   ·refine Par.bK (λ_=>?_) (λh=>absurd h1 h);rw [hi];have hw:aO (i+1)=i+1:=by rw [c8]; omega
    rw [hw];refine .aE (Ξ:=λz=>z=y) (.au rfl) λz bA=>?_;subst bA;exact .aE (UD z) λc ab=>Par.cg (λ_=>.au rfl) (λal=>.au ⟨rfl,ab (by simpa using al)⟩)
   ·rcases x with _ | r
    ·exact λ_ _ _=>J
    ·exact .au λh=>by have:r=false:=J; rw [this] at h; cases h
  ·exact .au λh=>by have:r=false:=J; rw [this] at h; cases h
theorem ye {α:Type}{l:List α}{i:Int}{y:α}(h:idx l i=some y):y∈l:=by
 unfold idx at h
 split at h
 ·exact List.mem_of_getElem? h
 ·cases h
structure xm (g:bV):Prop where
 gQ:o6 g.a6
 sd:B3 g.aX
theorem UK (s:Source) (aK:qK s):Par (wN s) λr=>r.2.1=0->xm r.1:=by
 have Sr:=aK.Cx;have ao:=yi;unfold wN;refine .aE (UM s (by omega)) λc ab=>Par.cg (λ_=>.au λh=>absurd h (by decide)) (λk1=>?_);have ok:=ab (by simpa using k1);refine .aE (Ξ:=λ_=>True) (λ_ _=>trivial) λaZ _=>?_;refine .aE (Ξ:=λr:fQ × ByteArray=>fD 0 r.1) ?_ λcn da=>?_
 ·refine Par.loop (λz=>fD 0 z.1) ⟨Nat.zero_le _,λt aJ=>?_,by show 3<=3; omega,by show 3<=lim; unfold lim; omega,by show 0<=lim; omega,by show (0:Int)<=0; omega,by show (0:Int)<=((0+0:Nat):Int); omega,by show 0<=lim; omega,λ_ p aG=>by cases aG⟩ λz hm=>?_
  ·have aJ:t∈[_,_,_]:=aJ;simp only [List.mem_cons,List.not_mem_nil,or_false] at aJ;rcases aJ with rfl | rfl | rfl <;> exact λh=>absurd rfl h
  ·obtain ⟨m,st,i⟩:=z;simp only at hm ⊢;refine Par.bK (λa_=>?_) (λ_=>.au hm);refine .go λd aU=>?_;have kn:=ye aU;refine .aE (Ξ:=λ_=>True) (λ_ _=>trivial) λ_ _=>.aE (Ξ:=λ_=>True) (λ_ _=>trivial) λgP _=>?_;refine .aE (Ξ:=λr:fQ × ByteArray=>fD 0 r.1) ?_ λr aw=>.au aw;refine Par.loop (λz=>fD 0 z.1) ⟨hm.ri,hm.gQ,hm.lo,hm.hi,hm.fX,hm.i0,hm.i1,hm.jB,hm.sd⟩ λz hm=>?_;obtain ⟨m,st,k⟩:=z;simp only at hm ⊢;refine Par.bK (λvP=>?_) (λ_=>.au hm);refine .aE (Ξ:=λr:fQ × ByteArray=>fD 0 r.1) ?_ λr aw=>.au aw;refine Par.nv (λeb=>.go λx J=>?_) (λ_=>?_)
   ·exact .aE (UN m d x hm (ok d kn) eb) λbS iz=>.au iz
   ·refine .aE (Ξ:=fD 0) (Par.cg (λ_=>.go λ_ _=>.go λ_ _=>.aE (sb m _ _) λbS h=>.au (hm.fail h)) (λ_=>.au hm)) λbS iz=>.go λ_ _=>.au iz
 refine .aE (Ξ:=fD 0) ?_ λc3 FA=>?_
 ·refine Par.loop (λz=>fD 0 z.1) da λz hm=>?_;obtain ⟨m,i⟩:=z;simp only at hm ⊢;refine Par.bK (λa_=>?_) (λ_=>.au hm);refine .aE (Ξ:=fD 0) ?_ λr aw=>.au aw;refine .go λr aw=>.aE (Ξ:=λ_=>True) (λ_ _=>trivial) λ_ _=>?_;refine .aE (Ξ:=fD 0) (Par.cg (λ_=>.aE (sb m _ _) λbS h=>.au (hm.fail h)) (λ_=>.au hm)) λfA lY=>?_;refine .aE (Ξ:=λ_=>True) (λ_ _=>trivial) λ_ _=>?_;exact .aE (Ξ:=λl:List ByteArray=>l.length<=lim) (Par.cg (λ_=>Par.ap λh=>.au (B9 h)) (λ_=>.au lY.fX)) λl ao=>.au ⟨lY.ri,lY.gQ,lY.lo,lY.hi,ao,lY.i0,lY.i1,lY.jB,lY.sd⟩
 refine .aE (Ξ:=fD 0) ?_ λbY nV=>?_
 ·refine Par.loop (λz=>fD 0 z.1) FA λz hm=>?_;obtain ⟨m,i⟩:=z;simp only at hm ⊢;refine Par.bK (λa_=>?_) (λ_=>.au hm);refine .aE (Ξ:=fD 0) ?_ λr aw=>.au aw;refine Par.loop (λz=>fD 0 z.1) hm λz hm=>?_;obtain ⟨m,k⟩:=z;simp only at hm ⊢;refine .go λd _=>Par.bK (λa_=>?_) (λ_=>.au hm);refine .aE (Ξ:=fD 0) ?_ λr aw=>.au aw;refine .go λ_ _=>.go λ_ _=>.aE (Ξ:=λ_=>True) (λ_ _=>trivial) λ_ _=>?_;exact .aE (Ξ:=fD 0) (Par.cg (λ_=>.aE (sb m _ _) λbS h=>.au (hm.fail h)) (λ_=>.au hm)) λbS iz=>.au iz
 refine .aE (Ξ:=λ_=>True) (λ_ _=>trivial) λs8 _=>.aE (MN bY s8 nV.fX) λh6 pf=>?_;refine .aE (Ξ:=fD lim) ?_ λbc pg=>?_
 ·refine Par.loop (λz=>fD lim z.1) ?_ λz hm=>?_
  ·refine ⟨Nat.le_refl _,nV.gQ,nV.lo,nV.hi,nV.fX,nV.i0,by have:=nV.i1; have:=nV.jB; show bY.bD<=((lim+1:Nat):Int); omega,by show 1<=lim; unfold lim; omega,λ_ p aG s aL=>?_⟩;have aG:p∈[_]:=aG;rw [List.mem_singleton.1 aG] at aL;have aL:s∈[_]:=aL;rw [List.mem_singleton.1 aL];have:=nV.fX;rw [c8]; omega
  obtain ⟨m,i⟩:=z;simp only at hm ⊢;refine Par.bK (λa_=>?_) (λ_=>.au hm);refine .aE (Ξ:=fD lim) ?_ λr aw=>.au aw;refine Par.loop (λz=>fD lim z.1) hm λz hm=>?_;obtain ⟨m,k⟩:=z;simp only at hm ⊢;refine .go λd aU=>Par.bK (λvP=>?_) (λ_=>.au hm);refine .go λd1 WT=>.go λd2 CZ=>.go λa bf=>?_;exact .aE (UO m _ a hm) λbS iz=>.au iz
 refine Par.nv (λh=>.au λaR=>absurd aR h) (λhe=>?_);have S0:=pg.sd he;refine .aE (Ξ:=λ_=>True) (λ_ _=>trivial) λu6 _=>.aE (Ξ:=λ_=>True) (λ_ _=>trivial) λiT _=>?_;refine .aE (Ξ:=λl:List bC=>o6 l) ?_ λkt K5=>?_
 ·refine Par.loop (λz=>o6 z.1) pg.gQ λz bA=>?_;obtain ⟨l,next,i⟩:=z;simp only at bA ⊢;refine Par.bK (λa_=>?_) (λ_=>.au bA);refine .aE (Ξ:=λae:List bC × Int=>o6 ae.1) ?_ λae aa=>.au aa;refine .go λh7 _=>.aE (Ξ:=λae:List bC × Int=>o6 ae.1) ?_ λae aa=>.au aa;exact Par.cg (λ_=>.go λy az=>.au (bA.Io (t':=(⟨y.Name,y.Lit,next,y.Level,y.eC,y.Tag⟩:bC)) az rfl rfl)) (λ_=>.au bA)
 refine .aE (Ξ:=λ_=>True) (λ_ _=>trivial) λqM _=>.aE (Ξ:=λ_=>True) (λ_ _=>trivial) λyR _=>?_;exact Par.cg (λ_=>.au λh=>absurd h (by decide)) (λ_=>.au λ_=>⟨K5,S0⟩)
def o0 (m:List State):Prop:=∀ st∈m,∀ v∈st.dm,v.Sym≠0
theorem UJ (l:List Int) (x:Int):Par (uQ l x) λc=>c=true->x∈l:=by
 unfold uQ;refine .aE (Ξ:=hX (λ_=>True) (λ_=>x∈l)) ?_ λr aw=>?_
 ·refine Par.loop (λ_=>True) trivial λk _=>?_;refine Par.bK (λ_=>.go λy az=>Par.bK (λe=>.au ?_) (λ_=>.au trivial)) (λ_=>.au trivial);rw [<- e]; exact ye az
 ·rcases r with r | r
  ·exact .au λh=>by cases h
  ·exact .au λ_=>aw
theorem NK {α:Type}{l r:List α}{a b:Int}(h:oT l a b=some r):∀ x∈r,x∈l:=by
 unfold oT at h
 split at h
 ·cases h;intro x J
  first
   | exact List.mem_of_mem_drop (List.mem_of_mem_take J)
   | exact List.mem_of_mem_take (List.mem_of_mem_drop J)
   | (simp at J; exact List.mem_of_mem_take (List.mem_of_mem_drop J))
 ·cases h
theorem UG (l:List Int) (x:Int):Par (oc l x) λr=>∀ y∈r,y∈l\/y=x:=by
 unfold oc;refine .aE (Ξ:=λ_=>True) (λ_ _=>trivial) λk _=>.aE (Ξ:=λ_=>True) (λ_ _=>trivial) λc _=>?_;refine Par.cg (λ_=>.au λy az=>.inl az) (λ_=>.go λa bf=>Par.ap λ_=>Par.ap λ_=>.go λb aK=>Par.ap λ_=>.au λy az=>?_);simp only [List.nil_append,List.mem_append,List.mem_singleton] at az;rcases az with (az | az) | az
 ·exact .inl (NK bf y az)
 ·exact .inr az
 ·exact .inl (NK aK y az)
theorem UL (g:bV) (bA:B3 g.aX) (x:Item):Par (tb g x) λr=>r≠0:=by
 unfold tb;refine .aE (Ξ:=λ_=>True) (λ_ _=>trivial) λc _=>Par.cg (λ_=>.au (by decide)) (λ_=>.go λq bR=>.go λs aL=>.au (bA q (ye bR) s (ye aL)))
theorem o0.put {m:List State}(h:o0 m) {i:Int}{st:State}(aL:idx m i=some st) {v:Move}(hv:v.Sym≠0) {k:Nat}:o0 (m.set k ⟨st.Kernel,st.dm++[v]⟩):=λs kF w hw=>by
 rcases List.mem_or_eq_of_mem_set kF with aR | aR
 ·exact h s aR w hw
 ·rw [aR] at hw;rcases List.mem_append.1 hw with hw | hw
  ·exact h st (ye aL) w hw
  ·rw [List.mem_singleton.1 hw]; exact hv
theorem UI (g:bV) (bA:B3 g.aX):Par (wM g) λr=>o0 r.1:=by
 unfold wM;refine .aE (Ξ:=λ_=>True) (λ_ _=>trivial) λXw _=>?_;refine .aE (Ξ:=hX o0 (λr:List State × Int=>o0 r.1)) ?_ λx J=>by
  rcases x with x | x
  ·exact .au J
  ·exact .au J
 refine Par.loop (λs=>o0 s.1) (λst aL v hv=>?_) λs hm=>?_
 ·have aL:st∈[_]:=aL;rw [List.mem_singleton.1 aL] at hv; cases hv
 obtain ⟨m,q⟩:=s;simp only at hm ⊢;refine Par.bK (λ_=>.go λst cf=>.aE (Ξ:=λ_=>True) (λ_ _=>trivial) λcl _=>?_) (λ_=>.au hm);refine .aE (Ξ:=λl:List Int=>∀ y∈l,y≠0) ?_ λEx bf=>?_
 ·refine Par.loop (λs=>∀ y∈s.1,y≠0) (λy az=>by cases az) λs aL=>?_;refine Par.bK (λ_=>?_) (λ_=>.au aL);refine .aE (Ξ:=λl:List Int=>∀ y∈l,y≠0) ?_ λl ao=>.au ao;refine .go λit _=>.aE (UL g bA it) λo bh=>.aE (Ξ:=λl:List Int=>∀ y∈l,y≠0) ?_ λl ao=>.au ao;refine Par.cg (λ_=>.aE (UG s.1 o) λr aw=>.au λy az=>?_) (λ_=>.au aL);rcases aw y az with h | h
  ·exact aL y h
  ·rw [h]; exact bh
 refine .aE (Ξ:=hX o0 (λr:List State × Int=>o0 r.1)) ?_ λx J=>by
  rcases x with x | x
  ·exact .au J
  ·exact .au J
 refine Par.loop (λs=>o0 s.1) hm λs hm=>?_;obtain ⟨m,ae⟩:=s;simp only at hm ⊢;refine Par.bK (λ_=>.go λs aL=>.aE (UJ Ex s) λc ab=>?_) (λ_=>.au hm);rw [aL];refine Par.cg (λ_=>.au hm) (λh=>?_);have ek:=bf s (ab (by simpa using h));refine .go λst cf=>.go λeV Ar=>?_;cases Ar;refine .aE (Ξ:=λ_=>True) (λ_ _=>trivial) λK _=>.aE (Ξ:=λ_=>True) (λ_ _=>trivial) λz _=>?_;refine Par.bK (λ_=>Par.bK (λ_=>.au λst h=>by cases h) (λ_=>Par.ap λ_=>.go λst cf=>.go λeV Ar=>Par.ap λ_=>?_)) (λ_=>.go λst cf=>.go λeV Ar=>Par.ap λ_=>?_)
 ·cases Ar;have C7:o0 (m++[(⟨K,[]⟩:State)]):=λs h v hv=>by
   rcases List.mem_append.1 h with h | h
   ·exact hm s h v hv
   ·rw [List.mem_singleton.1 h] at hv; cases hv
  exact .au (C7.put cf ek)
 ·cases Ar;exact .au (hm.put cf ek)
structure sm (cs:List Cell):Prop where
 a:∀ c∈cs,c.gi=true->c.bC=0
 s:∀ c∈cs,c.bC=0->c.fh<0
theorem UF (g:bV) {m:List State}(hm:lD g m) (bA:o0 m) (qn:List jV):Par (wJ g m qn) sm:=by
 unfold wJ;refine .aE (Ξ:=sm) ?_ λr aw=>.au aw;refine Par.loop (λs=>sm s.1) ⟨λc h=>(by cases h),λc h=>by cases h⟩ λs aL=>?_;refine Par.bK (λ_=>?_) (λ_=>.au aL);refine .aE (Ξ:=sm) ?_ λr aw=>.au aw;refine Par.loop (λs=>sm s.1) aL λz uF=>?_;obtain ⟨l,ae⟩:=z;simp only at uF ⊢;refine Par.bK (λ_=>?_) (λ_=>.au uF);refine .aE (Ξ:=sm) ?_ λr aw=>.au aw;refine .aE (.of (zm m s.2 ae hm.s_)) λfx GO=>?_;refine .aE (Ξ:=λb:Bool=>b=true->ae=0) ?_ λac RU=>?_
 ·refine Par.loop (λs=>s.1=true->ae=0) (λh=>by cases h) λs aL=>?_;refine .go λst _=>Par.bK (λ_=>.go λst _=>.go λit _=>?_) (λ_=>.au aL);refine .aE (Ξ:=λb:Bool=>b=true->ae=0) ?_ λr aw=>.au aw;exact Par.cg (λh=>.au λ_=>aL h) (λ_=>Par.bK (λh=>λ_ _ _=>h) (λ_=>.au λh=>by cases h))
 refine .aE (Ξ:=λ_=>True) (λ_ _=>trivial) λP _=>.aE (Ξ:=λ_=>True) (λ_ _=>trivial) λn _=>?_;refine .aE (Ξ:=sm) (Par.cg (λ_=>Par.ap λ_=>.au ⟨λc ab=>?_,λc ab=>?_⟩) (λ_=>.au uF)) λr aw=>.au aw
 ·rcases List.mem_append.1 ab with ab | ab
  ·exact uF.a c ab
  ·rw [List.mem_singleton.1 ab]; exact RU
 ·rcases List.mem_append.1 ab with ab | ab
  ·exact uF.s c ab
  ·rw [List.mem_singleton.1 ab];intro bd;have bd:ae=0:=bd;show fx<0;rcases GO with ⟨h,_⟩ | ⟨st,v,h1,al,aQ,_⟩
   ·omega
   ·exact absurd (aQ.trans bd) (bA st (ye h1) v al)
theorem UH (s:Source) (aK:qK s):Par (wL s) λr=>r.2=true->xm r.1:=by
 unfold wL;exact .aE (UK s aK) λr aw=>.au λh=>aw (of_decide_eq_true h)
theorem UE (s:Source) (aK:qK s):Par (wI s) λr=>r.2.2=true->xm r.1/\o0 r.2.1:=by
 unfold wI;refine .aE (UH s aK) λr aw=>Par.cg (λ_=>.au λh=>by cases h) (λh=>?_);have ba:=aw (by simpa using h);exact .aE (UI r.1 ba.sd) λm hm=>.au λ_=>⟨ba,hm⟩
theorem JR (s:Source) (aK:qK s):Tot (rm s) λr=>r.2.2.2=true->xb r.1 r.2.1 r.2.2.1/\xm r.1/\sm r.2.2.1:=by
 refine (Par.jC (JQ s aK) (Ψ:=λr=>r.2.2.2=true->xm r.1/\sm r.2.2.1) ?_).use λr aw h=>⟨aw.1 h,aw.2 h⟩;unfold rm;refine .aE (.of (Par.jC (JS s aK) (UE s aK))) λr aw=>Par.cg (λ_=>.au λh=>by cases h) (λh=>?_);have h:r.2.2=true:=by simpa using h
 exact .aE (Ξ:=λ_=>True) (λ_ _=>trivial) λqn _=>.aE (UF r.1 (aw.1 h).2 (aw.2 h).2 qn) λcs hs=>.au λ_=>⟨(aw.2 h).1,hs⟩
def nD (r:List Act):Nat:=(r.filter λa=>decide (a.Kind≠0)).length
theorem Mz:∀ (r:List Act) (k:Nat) (a:Act),a.Kind≠0->(∃ b,r[k]?=some b/\b.Kind=0)->nD (r.set k a)=nD r+1
 | [],k,a,_,h=>by obtain ⟨b,aK,_⟩:=h; simp at aK
 | x::r,0,a,bf,h=>by
  obtain ⟨b,aK,bd⟩:=h;simp at aK; subst aK;simp [nD,bf,bd]
 | x::r,k+1,a,bf,h=>by
  obtain ⟨b,aK,bd⟩:=h;have aS:=Mz r k a bf ⟨b,by simpa using aK,bd⟩;unfold nD at aS ⊢;rw [List.set_cons_succ,List.filter_cons,List.filter_cons];split
  ·simp only [List.length_cons,aS]
  ·exact aS
theorem Mx {g:bV}{n:Nat}:∀ (l:List Cell) (r:List Act),(∀ c∈l,lB g n c)->l.Pairwise (λa b=>a.bC.toNat≠b.bC.toNat)->(∀ c∈l,∃ b,r[c.bC.toNat]?=some b/\b.Kind=0)->nD (l.foldl (λrow c=>row.set c.bC.toNat (jM g c)) r)=nD r+l.length
 | [],_,_,_,_=>rfl
 | c::l,r,hk,aG,bd=>by
  obtain ⟨h1,al⟩:=List.pairwise_cons.1 aG;rw [List.foldl_cons,Mx l _ (λd aU=>hk d (by simp [aU])) al (λd aU=>?_),Mz _ _ _ (Ew (hk c (by simp))).2 (bd c (by simp)),List.length_cons]
  ·omega
  ·obtain ⟨b,aK,bA⟩:=bd d (by simp [aU]);refine ⟨b,?_,bA⟩;rw [List.getElem?_set,if_neg (h1 d aU)];exact aK
theorem Uq (k:Nat):nD (List.replicate k ⟨0,0⟩)=0:=by
 unfold nD;rw [List.length_eq_zero_iff,List.filter_eq_nil_iff];intro a bf;rw [List.eq_of_mem_replicate bf];decide
theorem Ur {g:bV}{n:Nat}{cs:List Cell}(ab:qE g n cs) (q:Nat):nD (rowOf g (fv cs q))=(fv cs q).length:=by
 have hm:∀ c∈fv cs q,lB g n c:=λc h=>ab.ok c (List.mem_filter.1 h).1;unfold rowOf;rw [Mx (n:=n) _ _ hm (JD ab q) (λc h=>?_),Uq,Nat.zero_add];have aJ:=(hm c h).t;exact ⟨⟨0,0⟩,by rw [List.getElem?_replicate,if_pos (by omega)],rfl⟩
def wx (A:List (List Act)):Nat:=(A.map nD).sum
theorem Us {g:bV}{m:List State}{cs:List Cell}{d:jG}(ab:qE g m.length cs) (h:xh g m cs d):wx d.dG=cs.length:=by
 have aK:=JK m.length cs (ab.HM.imp λ{a b} h=>by rcases h with h | h <;> omega) λc ja=>(ab.ok c ja).s
 conv=>rhs; rw [aK]
 rw [h.a,wx,List.length_flatMap,List.map_map];exact congrArg List.sum (List.map_congr_left λq _=>Ur ab q)
theorem My (r:List Act):nD r<=r.length:=List.length_filter_le ..
theorem OA {g:bV}(bA:xm g) {n:Nat}{c:Cell}(h:lB g n c) :
  ((jM g c).Kind=1/\(jM g c).N=c.fh)\/(∃ p r,c.aX=p::r/\(jM g c).Kind=2/\(jM g c).N=p/\c.gi=false)\/((jM g c).Kind=3/\(jM g c).N=0/\c.gi=true)\/((jM g c).Kind=4/\(jM g c).N=0/\0<=c.fh/\c.aX≠[]/\∃ t,idx g.a6 c.bC=some t/\t.eC=3):=by
 obtain ⟨t,aJ,qf⟩:=k6 (l:=g.a6) (i:=c.bC) h.t.1 h.t.2;have ao:=bA.gQ t qf;unfold jM;cases cT:c.aX with
 | nil =>
  simp only;by_cases h1:c.gi=true
  ·rw [if_pos h1]; exact .inr (.inr (.inl ⟨rfl,rfl,h1⟩))
  ·rw [if_neg h1]; exact .inl ⟨rfl,rfl⟩
 | cons p r =>
  simp only;by_cases h1:c.gi=true
  ·rw [if_pos h1]; exact .inr (.inr (.inl ⟨rfl,rfl,h1⟩))
  ·have lX:c.gi=false:=by simpa using h1
   rw [if_neg h1];by_cases al:c.fh<0
   ·rw [if_pos al]; exact .inr (.inl ⟨p,r,rfl,rfl,rfl,lX⟩)
   ·rw [if_neg al];by_cases aQ:dec g p c.bC=2
    ·rw [if_pos aQ]; exact .inr (.inl ⟨p,r,rfl,rfl,rfl,lX⟩)
    ·rw [if_neg aQ];by_cases bW:dec g p c.bC=3
     ·rw [if_pos bW];refine .inr (.inr (.inr ⟨rfl,rfl,by omega,by simp,t,aJ,?_⟩));unfold dec at bW;rw [aJ] at bW;simp only at bW;by_cases dg:(qo g p).1=0\/t.Level=0
      ·rw [if_pos dg] at bW; omega
      ·rw [if_neg dg] at bW;have ao:=ao (by omega);by_cases c5:(qo g p).1<t.Level
       ·rw [if_pos c5] at bW; omega
       ·rw [if_neg c5] at bW;by_cases jo:t.Level<(qo g p).1
        ·rw [if_pos jo] at bW; omega
        ·rw [if_neg jo] at bW;by_cases pa:t.eC=1
         ·rw [if_pos pa] at bW; omega
         ·rw [if_neg pa] at bW;by_cases pb:t.eC=2
          ·rw [if_pos pb] at bW; omega
          ·omega
     ·rw [if_neg bW]; exact .inl ⟨rfl,rfl⟩
theorem t9 (x:oW):Bp x=some true:=by
 suffices h:Tot (Bp x) λr=>r=true by
  obtain ⟨r,aw,e⟩:=h; rw [aw,e]
 unfold Bp;rw [N3];refine Tot.ax (.aE (t20 x) λy aK=>.aE (JR y aK) λd aU=>Tot.cg (λ_=>.au rfl) (λh=>?_));obtain ⟨dA,K9,FD⟩:=aU (by simpa using h);generalize d.1=g at *;generalize d.2.1=m at *;generalize d.2.2.1=cs at *;have x6:=dA.Ud.lK;have aJ:=dA.sN.kO;have xY:=dA.ce.n;refine .aE (rN g m cs dA) λr aw=>?_;obtain ⟨oB,vH⟩:=aw;have z':=oB.xD dA;have gV:=Us dA.ce oB;generalize r.1=D at *;have sT:=z'.a;have C9:=z'.o;refine .aE (Ξ:=λc=>c=false) (Tot.nv (λh=>absurd (by rw [sT]) h) (λ_=>.au (by rw [C9]; simp))) λc ab=>?_;subst ab;refine Tot.ax (.aE (Ξ:=hX (λs:Int=>s=(wx D.dG:Int)) (λ_:Bool=>False)) ?_ λx J=>?_)
 ·refine Tot.upto (λs=>s.2) D.dG.length (λk s=>s.1=(wx (D.dG.take k):Int)/\s.1<=40 * (k:Int)) rfl (by omega) ⟨rfl,by show (0:Int)<=40 * 0; omega⟩ λk s hk he bw=>?_;obtain ⟨z,i⟩:=s;obtain ⟨bw,TO⟩:=bw;simp only at he bw TO ⊢;subst he;rw [eE k (by omega)];refine Tot.bK (λa_=>?_) (λec=>.au ?_)
  ·have a_:k<D.dG.length:=by omega
   have x3:k<D.dh.length:=by omega
   have h1:=(z'.EE _ (List.getElem_mem a_)).1;have al:=(z'.uK _ (List.getElem_mem x3)).1;have Df:=j5 a_;rw [ed a_,ed x3];generalize D.dG[k]=row at *;generalize D.dh[k]=grow at *;simp only [Option.bind_some];refine .aE (Ξ:=λc=>c=false) (Tot.nv (λh=>absurd (by rw [h1]) h) (λ_=>.au (by rw [al]; simp))) λc ab=>?_;subst ab;refine Tot.ax (.aE (Ξ:=λs:Int=>s=z+(nD row:Int)) ?_ λs aL=>.au ⟨a_,rfl,?_,?_⟩)
   ·refine Tot.upto (λs=>s.2) row.length (λae s=>s.1=z+(nD (row.take ae):Int)) rfl (by omega) (by show z=z+((0:Nat):Int); omega) λae s aa he xW=>?_;obtain ⟨y,i⟩:=s;simp only at he xW ⊢;subst he;rw [eE ae (by omega)];refine Tot.bK (λdX=>?_) (λec=>.au ?_)
    ·have dX:ae<row.length:=by omega
     have qZ:=BC dX (λa:Act=>decide (a.Kind≠0));have hle:=My (row.take ae);rw [List.length_take] at hle;rw [ed dX];generalize row[ae]=a at *;simp only [Option.bind_some];have Dl:0<=z:=by omega
     refine .aE (Ξ:=λy':Int=>y'=z+(nD (row.take (ae+1)):Int)) ?_ λr aw=>.au ⟨dX,rfl,aw⟩;refine .aE (Ξ:=λy':Int=>y'=z+(nD (row.take (ae+1)):Int)) ?_ λr aw=>.au aw;unfold nD at xW hle ⊢;rw [qZ];refine Tot.nv (λh=>.au ?_) (λh=>.au ?_)
     ·rw [xW,c8];have:(if decide (a.Kind≠0)=true then [a] else [])=[a]:=by simp [h]
      rw [this,List.length_append,List.length_singleton]; omega
     ·have:(if decide (a.Kind≠0)=true then [a] else [])=[]:=by simp [h]
      rw [this,List.append_nil]; exact xW
    ·have e:row.take ae=row:=List.take_of_length_le (by omega);rw [e] at xW; exact xW
   ·show s=(wx (D.dG.take (k+1)):Int);rw [Df,aL,bw];simp [wx]
   ·have:=My row;show s<=40 * ((k+1:Nat):Int);rw [aL]; omega
  ·have e:D.dG.take k=D.dG:=List.take_of_length_le (by omega);rw [e] at bw; exact bw
 ·rcases x with x | x
  ·have J:x=(wx D.dG:Int):=J;subst J;refine .aE (Ξ:=hX (λ_=>True) (λ_:Bool=>False)) ?_ λx J=>?_
   ·refine Tot.upto (λs=>s) cs.length (λ_ _=>True) rfl (by omega) trivial λk i hk he _=>?_;subst he;rw [eE k (by omega)];refine Tot.bK (λa_=>?_) (λ_=>.au trivial);have a_:k<cs.length:=by omega
    have ja:=List.getElem_mem a_;simp only [ed a_,Option.bind_some];generalize cs[k]=c at *;have eo:=dA.ce.ok c ja;obtain ⟨row,QO,n0,gN⟩:=Oz dA oB ja;have ek:=(Ew eo).2;rw [QO];simp only [Option.bind_some];rw [gN];simp only [Option.bind_some];rcases OA K9 eo with ⟨h1,al⟩ | ⟨p,r,cT,h1,al,aQ⟩ | ⟨h1,al,aQ⟩ | ⟨h1,al,aQ,bW,t,da,eb⟩
    ·rw [h1,al];exact ⟨.inl ((k+1:Nat):Int),by simp,a_,rfl,trivial⟩
    ·rw [h1,al,cT,aQ];have jN:¬ ((r.length:Int)+1=0):=by omega
     exact ⟨.inl ((k+1:Nat):Int),by simp [idx,jN],a_,rfl,trivial⟩
    ·rw [h1,al,aQ];exact ⟨.inl ((k+1:Nat):Int),by simp,a_,rfl,trivial⟩
    ·rw [h1,al,da];have dg:decide (c.fh<0)=false:=decide_eq_false (by omega);have c5:decide ((c.aX.length:Int)=0)=false:=decide_eq_false λh=>bW (List.eq_nil_of_length_eq_zero (by omega));rw [dg,c5];exact ⟨.inl ((k+1:Nat):Int),by simp [eb],a_,rfl,trivial⟩
   ·rcases x with x | x
    ·refine .au ?_;rw [gV]; simp
    ·exact J.elim
  ·exact J.elim
theorem Mp (a b:List er):hF (a++b)=hF a+hF b:=by simp [hF]
theorem Mq (l:List er):hF l<=l.length:=List.length_filter_le ..
theorem OT {p:Int}{r:List Int}(h:f_ ic (p::r)):∀ x∈r,p<x:=λx J=>by
 have:=(List.pairwise_cons.1 h).1 x J;simpa [ic] using this
theorem Ua {g:bV}{n:Nat}{c:Cell}(h:lB g n c) {p:Int}{r:List Int}(cT:c.aX=p::r):hF (kW g c)=(if c.gi=true\/(0<=c.fh/\dec g p c.bC=0) then 1 else 0)/\(kW g c).length=r.length+hF (kW g c):=by
 have aG:=(h.q p (by rw [cT]; simp)).1;have oN:hF (r.map (λx=>(⟨c.State,c.bC,p,x⟩:er)))=0:=by
  unfold hF;rw [List.length_eq_zero_iff,List.filter_eq_nil_iff];intro a bf;obtain ⟨x,_,rfl⟩:=List.mem_map.1 bf;simp; omega
 unfold kW;rw [cT];simp only [Mp,oN,List.length_append,List.length_map,Nat.zero_add];by_cases e:c.gi=true\/(0<=c.fh/\dec g p c.bC=0)
 ·rw [if_pos e,if_pos e]; exact ⟨rfl,rfl⟩
 ·rw [if_neg e,if_neg e]; exact ⟨rfl,rfl⟩
theorem zn {g:bV}{n:Nat}{c:Cell}(h:lB g n c) {x:er}(J:x∈kW g c):x.State=c.State/\x.bC=c.bC/\x.fu<x.Drop/\x.fu≠0/\-1<=x.fu:=by
 unfold kW at J;cases cT:c.aX with
 | nil=>rw [cT] at J; cases J
 | cons p r =>
  have aG:=(h.q p (by rw [cT]; simp)).1;have bf:=h.p;rw [cT] at J bf;simp only at J;rcases List.mem_append.1 J with J | J
  ·obtain ⟨y,az,rfl⟩:=List.mem_map.1 J;exact ⟨rfl,rfl,OT bf y az,by show p≠0; omega,by show -1<=p; omega⟩
  ·split at J
   ·rw [List.mem_singleton.1 J];exact ⟨rfl,rfl,by show -1<p; omega,by show (-1:Int)≠0; decide,by show (-1:Int)<=-1; decide⟩
   ·cases J
theorem Px {g:bV}{n:Nat}{cs:List Cell}(ab:qE g n cs) {x:er}(J:x∈fo g cs):x.fu<x.Drop/\x.fu≠0/\-1<=x.fu:=by
 obtain ⟨c,ja,J⟩:=List.mem_flatMap.1 J;exact (zn (ab.ok c ja) J).2.2
theorem Py {g:bV}{n:Nat}{cs:List Cell}(ab:qE g n cs):(fo g cs).Pairwise λa b=>a.State<b.State\/(a.State=b.State/\a.bC<=b.bC):=by
 unfold fo;rw [List.pairwise_flatMap];refine ⟨λc ja=>?_,?_⟩
 ·refine List.pairwise_of_forall_mem_list λa bf b aK=>?_;have h1:=zn (ab.ok c ja) bf;have al:=zn (ab.ok c ja) aK;exact .inr ⟨by omega,by omega⟩
 ·refine List.Pairwise.imp_of_mem (λ{c d} ja kn h x J y az=>?_) ab.HM;have h1:=zn (ab.ok c ja) J;have al:=zn (ab.ok d kn) az;rcases h with h | h
  ·exact .inl (by omega)
  ·exact .inr ⟨by omega,by omega⟩
theorem PA (g:bV) {cs:List Cell}{k:Nat}(h:k<cs.length):fo g (cs.take (k+1))=fo g (cs.take k)++kW g cs[k]:=by
 unfold fo;rw [j5 h,List.flatMap_append]; simp
theorem t10 (x:oW):A0 x=some true:=by
 suffices h:Tot (A0 x) λr=>r=true by
  obtain ⟨r,aw,e⟩:=h; rw [aw,e]
 unfold A0;rw [N3];refine Tot.ax (.aE (t20 x) λy aK=>.aE (JR y aK) λd aU=>Tot.cg (λ_=>.au rfl) (λh=>?_));obtain ⟨dA,K9,FD⟩:=aU (by simpa using h);generalize d.1=g at *;generalize d.2.1=m at *;generalize d.2.2.1=cs at *;have xY:=dA.ce.n;refine .aE (rN g m cs dA) λr aw=>?_;obtain ⟨oB,vH⟩:=aw;rw [vH];have hr:∀ k,(fo g (cs.take k)).length<=360000:=λk=>by
  have h1:=zo dA.sN (l:=cs.take k) λc ab=>dA.ce.ok c (List.mem_of_mem_take ab);rw [List.length_take] at h1; omega
 have WQ:(fo g cs).length<=360000:=by
  have:=hr cs.length
  rwa [List.take_length] at this
 rw [Pj _ (by omega)];refine Tot.ax (.aE (Ξ:=λs:Int × Int=>s=((hF (fo g cs):Int),(((fo g cs).length - hF (fo g cs):Nat):Int))) ?_ λcp r1=>?_)
 ·refine Tot.upto (λs=>s.2.2) cs.length (λk s=>s.1=(hF (fo g (cs.take k)):Int)/\s.2.1=(((fo g (cs.take k)).length - hF (fo g (cs.take k)):Nat):Int)) rfl (by omega) ⟨rfl,rfl⟩ λk s hk he bw=>?_;obtain ⟨a,b,i⟩:=s;obtain ⟨h1,al⟩:=bw;simp only at he h1 al ⊢;subst he h1 al;rw [eE k (by omega)];refine Tot.bK (λa_=>?_) (λec=>.au ?_)
  ·have a_:k<cs.length:=by omega
   have ja:=List.getElem_mem a_;have Au:=PA g a_;have aK:=hr k;have dW:=Mq (fo g (cs.take k));simp only [ed a_,Option.bind_some];generalize cs[k]=c at *;have eo:=dA.ce.ok c ja;have ao:=eo.len dA.sN;have bn:=eo.f;rw [Kn c (by omega)];refine .aE (Ξ:=λae:Int × Int=>ae.1=(hF (fo g (cs.take (k+1))):Int)/\ae.2=(((fo g (cs.take (k+1))).length - hF (fo g (cs.take (k+1))):Nat):Int)) ?_ λae aa=>.au ⟨a_,rfl,aa⟩;rw [Au,Mp,List.length_append];refine Tot.ax ?_;cases cT:c.aX with
   | nil =>
    have jN:kW g c=[]:=by unfold kW; rw [cT]
    have py:k' c<2:=by
     unfold k';rw [cT];by_cases bf:c.gi=true
     ·have:=FD.s c ja (FD.a c ja bf);rw [if_pos bf,if_neg (by omega)]; decide
     ·rw [if_neg bf]
      split <;> decide
    rw [jN];exact Tot.bK (λ_=>.au ⟨rfl,rfl⟩) (λh=>absurd (by omega) h)
   | cons p q =>
    obtain ⟨oN,pE⟩:=Ua (g:=g) eo cT;have nx:hF (kW g c)<=1:=by rw [oN]; split <;> omega
    have W9:q.length<=60:=by rw [cT,List.length_cons] at ao; omega
    refine Tot.bK (λpy=>?_) (λpy=>?_)
    ·have py:k' c<2:=by omega
     unfold k' at py;rw [cT,List.length_cons] at py;have bf:c.gi≠true:=λe=>by rw [if_pos e] at py; omega
     have aL:¬ 0<=c.fh:=λe=>by rw [if_pos e] at py; omega
     have bR:q.length=0:=by omega
     have T7:hF (kW g c)=0:=by rw [oN,if_neg λh=>h.elim bf λh=>aL h.1]
     rw [T7] at pE ⊢;rw [pE,bR];exact .au ⟨rfl,rfl⟩
    ·refine .aE (Ξ:=λz:Int=>z=(((fo g (cs.take k)).length - hF (fo g (cs.take k))+q.length:Nat):Int)) ?_ λz bA=>?_
     ·refine Tot.bK (λh=>.au ?_) (λh=>.au ?_)
      ·rw [c8,c8,List.length_cons]; omega
      ·have:q.length=0:=by simp only [List.length_cons] at h; omega
       rw [this]; rfl
     ·refine .aE (Ξ:=λb:Bool=>b=decide (c.gi=true\/(0<=c.fh/\dec g p c.bC=0))) ?_ λb aK=>?_
      ·cases bf:c.gi
       ·simp only [cond_false];refine Tot.bK (λbd=>?_) (λbd=>.au ?_)
        ·have:idx (p::q) 0=some p:=rfl;rw [this];simp only [Option.bind_some,Ko];exact .au (by simp [bd])
        ·simp [bd]
       ·exact .au (by simp)
      ·subst aK;refine .aE (Ξ:=λz:Int=>z=((hF (fo g (cs.take k))+hF (kW g c):Nat):Int)) (Tot.bK (λh=>.au ?_) (λh=>.au ?_)) λy az=>.au ⟨az,?_⟩
       ·rw [oN,if_pos h,c8]; omega
       ·rw [oN,if_neg h]; rfl
       ·show z=_;rw [bA,pE];omega
  ·have e:cs.take k=cs:=List.take_of_length_le (by omega);rw [e]; rfl
 ·subst r1;have lG:=λx (J:x∈fo g cs)=>Px dA.ce J;have x7:=List.pairwise_iff_getElem.1 (Py dA.ce);have dW:=Mq (fo g cs);generalize fo g cs=L at *;refine .aE (Ξ:=hX (λ_=>True) (λ_:Bool=>False)) ?_ λx J=>?_
  ·refine Tot.upto (λs=>s) L.length (λ_ _=>True) rfl (by omega) trivial λk i hk he _=>?_;subst he;rw [eE k (by omega)];refine Tot.bK (λa_=>?_) (λ_=>.au trivial);have a_:k<L.length:=by omega
   obtain ⟨h1,al,aQ⟩:=lG _ (List.getElem_mem a_);have hd:0<k->aO ((k:Int) - 1)=((k - 1:Nat):Int):=λh=>by rw [c8]; omega
   simp only [ed a_,Option.bind_some];refine .aE (Ξ:=λc=>c=false) ?_ λc ab=>by subst ab; exact .au ⟨a_,rfl,trivial⟩
   refine Tot.bK (λh=>by omega) (λ_=>Tot.bK (λh=>absurd h al) (λ_=>Tot.bK (λh=>by omega) (λ_=>Tot.bK (λbd=>?_) (λ_=>.au rfl))));have bd:0<k:=by omega
   have mD:k - 1<L.length:=by omega
   have bh:=x7 (k - 1) k mD a_ (by omega);rw [hd bd];simp only [ed mD,Option.bind_some];generalize L[k]=a at *;generalize L[k - 1]=b at *;refine Tot.bK (λh=>by rcases bh with bh | bh <;> omega) (λ_=>Tot.bK (λh=>.au ?_) (λ_=>.au rfl));rcases bh with bh | bh
   ·omega
   ·exact decide_eq_false (by omega)
  ·rcases x with x | x
   ·have hw:aO ((hF L:Int)+((L.length - hF L:Nat):Int))=(L.length:Int):=by rw [c8]; omega
    simp only [hw];exact ⟨true,by simp,rfl⟩
   ·exact J.elim
end Go.Proofs
namespace Go.Own
open Go
section
variable {P:Program}{N:dK}{ops:Array Oper}{ch:List (List Nat)}{g g0:aW}{K:aW->Prop}{l:List Oper}{acc:Acc}{d i ae t':Nat}{op:Op}{ty:TypeId}{pos:String}{after:Array Edge}{x:ag}{b c:Bool}
theorem cL (aK:c=!b) (hk:av P N ops l (e5 g d (.cC [])) K) (h:(ops[ae]?).bind (·.dst)=some t':=by rfl) (ba:g t'=some (.lit (.bool c)):=by rfl) (b5:N.ok d=true:=by rfl) (bn:g d=none:=by rfl):av P N ops (⟨some d,op,ty,pos,after,some (ae,b)⟩::l) g K:=.ps h ba aK b5 bn hk
theorem hl (hk:av P N ops l (e5 g d (.cC [])) K) (h:(ops[ae]?).bind (·.dst)=some t':=by rfl) (ba:g t'=some (.cC []):=by rfl) (b5:N.ok d=true:=by rfl) (bn:g d=none:=by rfl):av P N ops (⟨some d,op,ty,pos,after,some (ae,b)⟩::l) g K:=.pu h ba b5 bn hk
theorem a7 (aK:c=b) (aG:dv P g op ty x) (hk:av P N ops l (e5 g d x) K) (h:(ops[ae]?).bind (·.dst)=some t':=by rfl) (ba:g t'=some (.lit (.bool c)):=by rfl) (b5:N.ok d=true:=by rfl) (bn:g d=none:=by rfl):av P N ops (⟨some d,op,ty,pos,after,some (ae,b)⟩::l) g K:=.v aG b5 bn (.jT h ba aK) hk
theorem Oq (hk:av P N ops l (e5 g d (.cC [])) K) (h:(ops[ae]?).bind (·.dst)=some t':=by rfl) (ba:g t'=some (.lit (.bool c)):=by rfl) (aK:c=!b:=by assumption) (b5:N.ok d=true:=by rfl) (bn:g d=none:=by rfl):av P N ops (⟨some d,op,ty,pos,after,some (ae,b)⟩::l) g K:=.ps h ba aK b5 bn hk
theorem fE (aG:dv P g op ty x) (hk:av P N ops l (e5 g d x) K) (h:(ops[ae]?).bind (·.dst)=some t':=by rfl) (ba:g t'=some (.lit (.bool c)):=by rfl) (aK:c=b:=by assumption) (b5:N.ok d=true:=by rfl) (bn:g d=none:=by rfl):av P N ops (⟨some d,op,ty,pos,after,some (ae,b)⟩::l) g K:=.v aG b5 bn (.jT h ba aK) hk
theorem aD (ds:Nat) (aK:c=!b) (hk:bN P N ops ch g0 i ((ds,d,some (.cC []))::acc) l K) (h:(ops[ae]?).bind (·.dst)=some t':=by rfl) (ba:oi ch g0 ds acc t'=some (a' c):=by rfl) (aa:Nat.beq ops.size (ds+l.length+1)=true:=by rfl) (bn:g0 d=none:=by rfl) (aP:acc.all (λe=>!Nat.beq e.2.1 d)=true:=by rfl) (b5:N.ok d=true:=by rfl):bN P N ops ch g0 i acc (⟨some d,op,ty,pos,after,some (ae,b)⟩::l) K:=.ps ds h ba aK aa bn aP b5 hk
theorem bQ (ds:Nat) (hk:bN P N ops ch g0 i ((ds,d,some (.cC []))::acc) l K) (h:(ops[ae]?).bind (·.dst)=some t':=by rfl) (ba:oi ch g0 ds acc t'=some (.cC []):=by rfl) (aa:Nat.beq ops.size (ds+l.length+1)=true:=by rfl) (bn:g0 d=none:=by rfl) (aP:acc.all (λe=>!Nat.beq e.2.1 d)=true:=by rfl) (b5:N.ok d=true:=by rfl):bN P N ops ch g0 i acc (⟨some d,op,ty,pos,after,some (ae,b)⟩::l) K:=.pu ds h ba aa bn aP b5 hk
theorem bg (ds:Nat) (aK:c=b) (aG:dv P (oi ch g0 ds acc) op ty x) (hk:bN P N ops ch g0 i ((ds,d,some x)::acc) l K) (h:(ops[ae]?).bind (·.dst)=some t':=by rfl) (ba:oi ch g0 ds acc t'=some (.lit (.bool c)):=by rfl) (aa:Nat.beq ops.size (ds+l.length+1)=true:=by rfl) (bn:g0 d=none:=by rfl) (aP:acc.all (λe=>!Nat.beq e.2.1 d)=true:=by rfl) (b5:N.ok d=true:=by rfl):bN P N ops ch g0 i acc (⟨some d,op,ty,pos,after,some (ae,b)⟩::l) K:=.v ds aG aa bn aP b5 (.jT h ba aK) hk
end
section
variable {P:Program}{N:dK}{ops:Array Oper}{g:aW}{K:aW->Prop}{l:List Oper}{A B:Code}{G G1:List (Nat × ag)}{Φ:Exit->aW->Prop}{t id:Nat}{b:Bool}{α:Type}{X Y o:α}
theorem W.bF (h:(bif b then X else Y)=o) (ab:get G t=some (a' b)) (fG:b=true->X=o->W P N A (get G) Φ) (aT:b=false->Y=o->W P N B (get G) Φ):W P N (.cond (.tmp t) A B) (get G) Φ:=W.cB ab (λe=>fG e (PD e h)) (λe=>aT e (PC e h))
def pick (g:aW):List Nat->Option (List (Nat × ag))
 | []=>some []
 | k::ks=>match g k with
  | some x=>match pick g ks with
   | some l=>some ((k,x)::l)
   | none=>none
  | none=>none
class y6 (l:List (Nat × ag)):Prop where p:∀ e∈l,dc e.2
instance:y6 []:=⟨λ_ h=>by cases h⟩
instance {k:Nat}{x:ag}{l:List (Nat × ag)} [h:cS x] [ao:y6 l]:y6 ((k,x)::l):=⟨λe he=>by
 rcases List.mem_cons.1 he with rfl | he
 ·exact h.bL
 ·exact ao.p e he⟩
theorem H6 {c:Bool}{g g2:aW}:∀ {ks:List Nat}{G1:List (Nat × ag)},pick g ks=some G1->(∀ e∈G1,dc e.2)->Trim c g g2 G1
 | [],_,h,_=>by cases h; exact .nil
 | k::ks,G1,h,aP=>by
  unfold pick at h
  split at h
  ·rename_i x J
   split at h
   ·rename_i l ao;cases h;have:cS x:=⟨aP (k,x) (by simp)⟩;exact .n J (H6 ao λe he=>aP e (by simp [he]))
   ·cases h
  ·cases h
structure xq (ks:List Nat) (G1:List (Nat × ag)) (g':aW):Prop where p:kS g' (get G1)
theorem b3 {ks:List Nat}(h:pick g ks=some G1) [aP:y6 G1]:av P N ops [] g (xq ks G1):=.nil ⟨(H6 (c:=true) (g2:=get G1) h aP.p).gd⟩
theorem Mo {l:List Oper}{ks:List Nat}(h:av P N l.toArray l g (xq ks G1)):av P N l.toArray l g λg'=>kS g' (get G1):=λi hi=>by
 obtain ⟨g',h1,al⟩:=h i hi;exact ⟨g',h1,al.p⟩
theorem av.bq (ks:List Nat) (h:pick g ks=some G1) [aP:y6 G1] (hk:av P N ops l (get G1) K):av P N ops l g K:=.U0 (H6 h aP.p) hk
theorem W.bq {l:List Oper}(ks:List Nat) (h:av P N l.toArray l (get G) (xq ks G1)) (hk:ah .normal Φ G1):W P N (.region id l.toArray false) (get G) Φ:=W.rx G1 (Mo h) hk
theorem W.rs {l:List Oper}(G1:List (Nat × ag)) (h:av P N l.toArray l (get G) λg'=>kS g' (get G1)) (hk:W P N B (get G1) Φ):W P N (.seq (.region id l.toArray false) B) (get G) Φ:=W.a8 (W.rx G1 h (ah.a1 hk))
theorem W.bP {l:List Oper}(ks:List Nat) (h:av P N l.toArray l (get G) (xq ks G1)) (hk:W P N B (get G1) Φ):W P N (.seq (.region id l.toArray false) B) (get G) Φ:=W.rs G1 (Mo h) hk
end
end Go.Own
namespace Go.Own
open Go
class gS (P:Program) (t:TypeId):Prop where p:hI P t=true
class so (P:Program) (t:TypeId):Prop where p:qz P t=true
class hc (P:Program) (t:TypeId) (e:outParam TypeId) (z:outParam Nat):Prop where p:ft P t e z=true
class dD (P:Program) (s:TypeId) (f:Nat) (off:outParam Nat) (t:outParam TypeId):Prop where p:dy P s f off t=true
section
variable {P:Program}{N:dK}{ops:Array Oper}{g:aW}{K:aW->Prop}{l:List Oper}{ty t:TypeId}{a:Operand}{k r z n:Nat}{cs iZ:List ag}
theorem O.cG {v:Value}(aL:g r=some (.obj cs)) (J:Rd g a (.ptr ⟨r,[]⟩ k)) (aJ:hI P t=true) (ab:cs[k]?=some (.lit v)):dv P g (.load t a) ty (.lit v):=O.c' aL J aJ ab rfl
theorem O.yg (aL:g r=some (.obj cs)) (J:Rd g a (.ptr ⟨r,[]⟩ k)) (aJ:hI P t=true) (ab:cs[k]?=some (.aF z n iZ)):dv P g (.load t a) ty (.aF z n iZ):=O.c' aL J aJ ab rfl
theorem O.yh (aL:g r=some (.obj cs)) (J:Rd g a (.ptr ⟨r,[]⟩ k)) (aJ:hI P t=true) (ab:cs[k]?=some (.own z n iZ)):dv P g (.load t a) ty (.bo z ⟨r,[k]⟩ n):=O.c' aL J aJ ab rfl
end
section
variable {P:Program}{N:dK}{ops:Array Oper}{g:aW}{K:aW->Prop}{l:List Oper}{t0 d:Nat}{t1 t2 ty:TypeId}{ay a2 a3:Operand}{lK:Nat}{v0:Value}{pos:String}{after:Array Edge}{op:Op}{Wt:Nat × Bool}
theorem av.hM (op:Op) (u:Option (Nat × Bool)) (h:av P N ops (⟨some d,op,ty,pos,after,u⟩::l) g K):av P N ops (⟨some d,op,ty,pos,after,u⟩::l) g K:=h
theorem av.nl (h:av P N ops [] g K):av P N ops [] g K:=h
theorem av.aV (h:av P N ops l g K:=by
(repeat' (first
 | exact nK .nil
 | exact .nil
 | refine .n rfl ?_
 | (first
  | ((with_reducible apply av.hM (.move (.tmp _)) none); (first | refine bu rfl ?_ | refine ai (O.aA (.aF rfl)) ?_ | refine ai (O.aA (.own rfl)) ?_ | refine ai (O.aA (.obj rfl)) ?_ | refine ai (O.aA (.bk rfl)) ?_ | refine ai (O.aA (.ptr rfl)) ?_ | refine ai (O.aA (.bo rfl)) ?_))
  | ((with_reducible apply av.hM (.load _ _) none); (first | refine ai (O.cG rfl (.ptr rfl) gS.p rfl) ?_ | refine ai (O.cQ (.bk rfl) gS.p rfl) ?_ | refine ai (O.yg rfl (.ptr rfl) gS.p rfl) ?_ | refine ai (O.cG rfl (.obj rfl) gS.p rfl) ?_ | refine ai (O.yg rfl (.obj rfl) gS.p rfl) ?_ | refine ai (O.yh rfl (.ptr rfl) gS.p rfl) ?_ | refine ai (O.yh rfl (.obj rfl) gS.p rfl) ?_))
  | ((with_reducible apply av.hM (.fieldAddr _ _ _) none); (first | refine ai (O.bm rfl (.obj rfl) dD.p rfl) ?_ | refine ai (O.dP (.bk rfl) dD.p) ?_ | refine ai (O.bm rfl (.ptr rfl) dD.p rfl) ?_))
  | ((with_reducible apply av.hM (.assign (.tmp _)) none); (first | refine Ou rfl ?_ | refine ai (O.dz (.aF rfl)) ?_ | refine ai (O.dz (.own rfl)) ?_ | refine ai (O.dz (.obj rfl)) ?_ | refine ai (O.dz (.bk rfl)) ?_ | refine ai (O.dz (.ptr rfl)) ?_ | refine ai (O.dz (.bo rfl)) ?_))
  | ((with_reducible apply av.hM (.assign (.const _)) none); (first | refine Ov rfl ?_ | refine ai (O.dz .Dy) ?_))
  | ((with_reducible apply av.hM (.indexAddr _ _ _) none); (first | refine ai (O.cx (.aF rfl) (.lit rfl) hc.p (by assumption)) ?_ | refine ai (O.cx (.aF rfl) (.k rfl) hc.p (by assumption)) ?_))
  | ((with_reducible apply av.hM (.binOp .add _ _ _ _) none); (first | refine ai (O.add (.lit rfl) (.k rfl)) ?_ | refine ai (O.add (.lit rfl) (.lit rfl)) ?_ | refine ai (O.add (.k rfl) (.lit rfl)) ?_))
  | ((with_reducible apply av.hM (.binOp .lss _ _ _ _) none); (first | refine ai (O.lss (.lit rfl) (.k rfl)) ?_ | refine ai (O.lss (.lit rfl) (.lit rfl)) ?_ | refine ai (O.lss (.k rfl) (.lit rfl)) ?_))
  | ((with_reducible apply av.hM (.binOp .eql _ _ _ _) none); (first | refine ai (O.eql (.lit rfl) (.k rfl)) ?_ | refine ai (O.eql (.lit rfl) (.lit rfl)) ?_ | refine ai (O.eql (.k rfl) (.lit rfl)) ?_ | refine ai (O.oy (.lit rfl) (.lit rfl)) ?_ | refine ai (O.oy (.lit rfl) (.k rfl)) ?_))
  | ((with_reducible apply av.hM (.binOp .neq _ _ _ _) none); (first | refine ai (O.neq (.lit rfl) (.k rfl)) ?_ | refine ai (O.neq (.lit rfl) (.lit rfl)) ?_ | refine ai (O.neq (.k rfl) (.lit rfl)) ?_ | refine ai (O.mc (.lit rfl) (.lit rfl)) ?_ | refine ai (O.mc (.lit rfl) (.k rfl)) ?_))
  | ((with_reducible apply av.hM (.binOp .geq _ _ _ _) none); (first | refine ai (O.geq (.lit rfl) (.k rfl)) ?_ | refine ai (O.geq (.lit rfl) (.lit rfl)) ?_ | refine ai (O.geq (.k rfl) (.lit rfl)) ?_))
  | ((with_reducible apply av.hM (.binOp .gtr _ _ _ _) none); (first | refine ai (O.gtr (.lit rfl) (.k rfl)) ?_ | refine ai (O.gtr (.lit rfl) (.lit rfl)) ?_ | refine ai (O.gtr (.k rfl) (.lit rfl)) ?_))
  | ((with_reducible apply av.hM (.binOp .sub _ _ _ _) none); (first | refine ai (O.sub (.lit rfl) (.k rfl)) ?_ | refine ai (O.sub (.lit rfl) (.lit rfl)) ?_ | refine ai (O.sub (.k rfl) (.lit rfl)) ?_))
  | ((with_reducible apply av.hM (.binOp .leq _ _ _ _) none); (first | refine ai (O.leq (.lit rfl) (.k rfl)) ?_ | refine ai (O.leq (.lit rfl) (.lit rfl)) ?_ | refine ai (O.leq (.k rfl) (.lit rfl)) ?_))
  | ((with_reducible apply av.hM (.pick _ _ _) none); (first | refine ai (O.dx (.lit rfl) rfl (.lit rfl)) ?_ | refine ai (O.cy (.lit rfl) rfl (.lit rfl)) ?_ | refine ai (O.dx (.lit rfl) rfl (.k rfl)) ?_ | refine ai (O.cy (.lit rfl) rfl (.k rfl)) ?_ | refine ai (O.dx (.lit rfl) (by assumption) (.lit rfl)) ?_ | refine ai (O.cy (.lit rfl) (by assumption) (.lit rfl)) ?_ | refine ai (O.dx (.lit rfl) (by assumption) (.k rfl)) ?_ | refine ai (O.cy (.lit rfl) (by assumption) (.k rfl)) ?_))
  | ((with_reducible apply av.hM (.call { callee:=.builtin .len,args:=#[_],argTypes:=#[_] }) none); (first | refine ai (O.gh (.aF rfl) hc.p) ?_ | refine ai (O.pH (.bo rfl) hc.p) ?_ | refine ai (O.pH (.own rfl) hc.p) ?_ | refine ai (O.mR (.lit rfl) so.p) ?_))
  | ((with_reducible apply av.hM (.unOp .not _ _) none); (first | refine ai (O.not (.lit rfl)) ?_))
  | ((with_reducible apply av.hM (.nilCheck _) none); (first | refine ai (O.e0 (.ptr rfl)) ?_ | refine ai (O.AS (.bk rfl)) ?_ | refine ai (O.e0 (.obj rfl)) ?_))
  | ((with_reducible apply av.hM (.index _ _ _) none); (first | refine ai (O.qL (.lit rfl) (.lit rfl) so.p (by assumption)) ?_))
  | ((with_reducible apply av.hM (.move (.const _)) none); (first | refine ai (O.aA (.k rfl)) ?_ | refine ai (O.aA .Dy) ?_)))
 | ((with_reducible apply av.nl); first | exact b3 rfl | refine nK ?_)
 | ((with_reducible apply av.hM _ (some _)); first
  | (first | refine cL rfl ?_ | refine Oq ?_ | refine hl ?_)
  | ((with_reducible apply av.hM (.move (.tmp _)) (some _)); (first | refine a7 rfl (O.aA (.lit rfl)) ?_ | refine fE (O.aA (.lit rfl)) ?_ | refine a7 rfl (O.aA (.aF rfl)) ?_ | refine fE (O.aA (.aF rfl)) ?_ | refine a7 rfl (O.aA (.own rfl)) ?_ | refine fE (O.aA (.own rfl)) ?_ | refine a7 rfl (O.aA (.obj rfl)) ?_ | refine fE (O.aA (.obj rfl)) ?_ | refine a7 rfl (O.aA (.bk rfl)) ?_ | refine fE (O.aA (.bk rfl)) ?_ | refine a7 rfl (O.aA (.ptr rfl)) ?_ | refine fE (O.aA (.ptr rfl)) ?_ | refine a7 rfl (O.aA (.bo rfl)) ?_ | refine fE (O.aA (.bo rfl)) ?_))
  | ((with_reducible apply av.hM (.load _ _) (some _)); (first | refine a7 rfl (O.cG rfl (.ptr rfl) gS.p rfl) ?_ | refine fE (O.cG rfl (.ptr rfl) gS.p rfl) ?_ | refine a7 rfl (O.cQ (.bk rfl) gS.p rfl) ?_ | refine fE (O.cQ (.bk rfl) gS.p rfl) ?_ | refine a7 rfl (O.yg rfl (.ptr rfl) gS.p rfl) ?_ | refine fE (O.yg rfl (.ptr rfl) gS.p rfl) ?_ | refine a7 rfl (O.cG rfl (.obj rfl) gS.p rfl) ?_ | refine fE (O.cG rfl (.obj rfl) gS.p rfl) ?_ | refine a7 rfl (O.yg rfl (.obj rfl) gS.p rfl) ?_ | refine fE (O.yg rfl (.obj rfl) gS.p rfl) ?_ | refine a7 rfl (O.yh rfl (.ptr rfl) gS.p rfl) ?_ | refine fE (O.yh rfl (.ptr rfl) gS.p rfl) ?_ | refine a7 rfl (O.yh rfl (.obj rfl) gS.p rfl) ?_ | refine fE (O.yh rfl (.obj rfl) gS.p rfl) ?_))
  | ((with_reducible apply av.hM (.fieldAddr _ _ _) (some _)); (first | refine a7 rfl (O.bm rfl (.obj rfl) dD.p rfl) ?_ | refine fE (O.bm rfl (.obj rfl) dD.p rfl) ?_ | refine a7 rfl (O.dP (.bk rfl) dD.p) ?_ | refine fE (O.dP (.bk rfl) dD.p) ?_ | refine a7 rfl (O.bm rfl (.ptr rfl) dD.p rfl) ?_ | refine fE (O.bm rfl (.ptr rfl) dD.p rfl) ?_))
  | ((with_reducible apply av.hM (.indexAddr _ _ _) (some _)); (first | refine a7 rfl (O.cx (.aF rfl) (.lit rfl) hc.p (by assumption)) ?_ | refine fE (O.cx (.aF rfl) (.lit rfl) hc.p (by assumption)) ?_ | refine a7 rfl (O.cx (.aF rfl) (.k rfl) hc.p (by assumption)) ?_ | refine fE (O.cx (.aF rfl) (.k rfl) hc.p (by assumption)) ?_))
  | ((with_reducible apply av.hM (.binOp .add _ _ _ _) (some _)); (first | refine a7 rfl (O.add (.lit rfl) (.k rfl)) ?_ | refine fE (O.add (.lit rfl) (.k rfl)) ?_ | refine a7 rfl (O.add (.lit rfl) (.lit rfl)) ?_ | refine fE (O.add (.lit rfl) (.lit rfl)) ?_ | refine a7 rfl (O.add (.k rfl) (.lit rfl)) ?_ | refine fE (O.add (.k rfl) (.lit rfl)) ?_))
  | ((with_reducible apply av.hM (.binOp .lss _ _ _ _) (some _)); (first | refine a7 rfl (O.lss (.lit rfl) (.k rfl)) ?_ | refine fE (O.lss (.lit rfl) (.k rfl)) ?_ | refine a7 rfl (O.lss (.lit rfl) (.lit rfl)) ?_ | refine fE (O.lss (.lit rfl) (.lit rfl)) ?_ | refine a7 rfl (O.lss (.k rfl) (.lit rfl)) ?_ | refine fE (O.lss (.k rfl) (.lit rfl)) ?_))
  | ((with_reducible apply av.hM (.binOp .eql _ _ _ _) (some _)); (first | refine a7 rfl (O.eql (.lit rfl) (.k rfl)) ?_ | refine fE (O.eql (.lit rfl) (.k rfl)) ?_ | refine a7 rfl (O.eql (.lit rfl) (.lit rfl)) ?_ | refine fE (O.eql (.lit rfl) (.lit rfl)) ?_ | refine a7 rfl (O.eql (.k rfl) (.lit rfl)) ?_ | refine fE (O.eql (.k rfl) (.lit rfl)) ?_ | refine a7 rfl (O.oy (.lit rfl) (.lit rfl)) ?_ | refine fE (O.oy (.lit rfl) (.lit rfl)) ?_ | refine a7 rfl (O.oy (.lit rfl) (.k rfl)) ?_ | refine fE (O.oy (.lit rfl) (.k rfl)) ?_))
  | ((with_reducible apply av.hM (.binOp .neq _ _ _ _) (some _)); (first | refine a7 rfl (O.neq (.lit rfl) (.k rfl)) ?_ | refine fE (O.neq (.lit rfl) (.k rfl)) ?_ | refine a7 rfl (O.neq (.lit rfl) (.lit rfl)) ?_ | refine fE (O.neq (.lit rfl) (.lit rfl)) ?_ | refine a7 rfl (O.neq (.k rfl) (.lit rfl)) ?_ | refine fE (O.neq (.k rfl) (.lit rfl)) ?_ | refine a7 rfl (O.mc (.lit rfl) (.lit rfl)) ?_ | refine fE (O.mc (.lit rfl) (.lit rfl)) ?_ | refine a7 rfl (O.mc (.lit rfl) (.k rfl)) ?_ | refine fE (O.mc (.lit rfl) (.k rfl)) ?_))
  | ((with_reducible apply av.hM (.binOp .geq _ _ _ _) (some _)); (first | refine a7 rfl (O.geq (.lit rfl) (.k rfl)) ?_ | refine fE (O.geq (.lit rfl) (.k rfl)) ?_ | refine a7 rfl (O.geq (.lit rfl) (.lit rfl)) ?_ | refine fE (O.geq (.lit rfl) (.lit rfl)) ?_ | refine a7 rfl (O.geq (.k rfl) (.lit rfl)) ?_ | refine fE (O.geq (.k rfl) (.lit rfl)) ?_))
  | ((with_reducible apply av.hM (.binOp .gtr _ _ _ _) (some _)); (first | refine a7 rfl (O.gtr (.lit rfl) (.k rfl)) ?_ | refine fE (O.gtr (.lit rfl) (.k rfl)) ?_ | refine a7 rfl (O.gtr (.lit rfl) (.lit rfl)) ?_ | refine fE (O.gtr (.lit rfl) (.lit rfl)) ?_ | refine a7 rfl (O.gtr (.k rfl) (.lit rfl)) ?_ | refine fE (O.gtr (.k rfl) (.lit rfl)) ?_))
  | ((with_reducible apply av.hM (.binOp .sub _ _ _ _) (some _)); (first | refine a7 rfl (O.sub (.lit rfl) (.k rfl)) ?_ | refine fE (O.sub (.lit rfl) (.k rfl)) ?_ | refine a7 rfl (O.sub (.lit rfl) (.lit rfl)) ?_ | refine fE (O.sub (.lit rfl) (.lit rfl)) ?_ | refine a7 rfl (O.sub (.k rfl) (.lit rfl)) ?_ | refine fE (O.sub (.k rfl) (.lit rfl)) ?_))
  | ((with_reducible apply av.hM (.binOp .leq _ _ _ _) (some _)); (first | refine a7 rfl (O.leq (.lit rfl) (.k rfl)) ?_ | refine fE (O.leq (.lit rfl) (.k rfl)) ?_ | refine a7 rfl (O.leq (.lit rfl) (.lit rfl)) ?_ | refine fE (O.leq (.lit rfl) (.lit rfl)) ?_ | refine a7 rfl (O.leq (.k rfl) (.lit rfl)) ?_ | refine fE (O.leq (.k rfl) (.lit rfl)) ?_))
  | ((with_reducible apply av.hM (.call { callee:=.builtin .len,args:=#[_],argTypes:=#[_] }) (some _)); (first | refine a7 rfl (O.gh (.aF rfl) hc.p) ?_ | refine fE (O.gh (.aF rfl) hc.p) ?_ | refine a7 rfl (O.pH (.bo rfl) hc.p) ?_ | refine fE (O.pH (.bo rfl) hc.p) ?_ | refine a7 rfl (O.pH (.own rfl) hc.p) ?_ | refine fE (O.pH (.own rfl) hc.p) ?_ | refine a7 rfl (O.mR (.lit rfl) so.p) ?_ | refine fE (O.mR (.lit rfl) so.p) ?_))
  | ((with_reducible apply av.hM (.unOp .not _ _) (some _)); (first | refine a7 rfl (O.not (.lit rfl)) ?_ | refine fE (O.not (.lit rfl)) ?_))
  | ((with_reducible apply av.hM (.nilCheck _) (some _)); (first | refine a7 rfl (O.e0 (.ptr rfl)) ?_ | refine fE (O.e0 (.ptr rfl)) ?_ | refine a7 rfl (O.AS (.bk rfl)) ?_ | refine fE (O.AS (.bk rfl)) ?_ | refine a7 rfl (O.e0 (.obj rfl)) ?_ | refine fE (O.e0 (.obj rfl)) ?_))
  | ((with_reducible apply av.hM (.index _ _ _) (some _)); (first | refine a7 rfl (O.qL (.lit rfl) (.lit rfl) so.p (by assumption)) ?_ | refine fE (O.qL (.lit rfl) (.lit rfl) so.p (by assumption)) ?_)))))):av P N ops l g K:=h
theorem W.Jl {id:Nat}{l:List Oper}{G G1:List (Nat × ag)}{Φ:Exit->aW->Prop}(ks:List Nat) (hk:ah .normal Φ G1) (h:av P N l.toArray l (get G) (xq ks G1):=by exact av.aV):W P N (.region id l.toArray false) (get G) Φ:=W.bq ks h hk
theorem W.dz {id:Nat}{l:List Oper}{B:Code}{G:List (Nat × ag)}{Φ:Exit->aW->Prop}(G1:List (Nat × ag)) (hk:W P N B (get G1) Φ) (h:av P N l.toArray l (get G) (λg'=>kS g' (get G1)):=by exact av.aV):W P N (.seq (.region id l.toArray false) B) (get G) Φ:=W.rs G1 h hk
theorem W.aY {id:Nat}{l:List Oper}{B:Code}{G G1:List (Nat × ag)}{Φ:Exit->aW->Prop}(ks:List Nat) (hk:W P N B (get G1) Φ) (h:av P N l.toArray l (get G) (xq ks G1):=by exact av.aV):W P N (.seq (.region id l.toArray false) B) (get G) Φ:=W.bP ks h hk
end
end Go.Own
namespace Go.Own
open Go
section
variable {P:Program}{N:dK}{G:List (Nat × ag)}{g':aW}
theorem cE {rs:List ResultVar}{ys xs:List ag}{res:ag}{outs:List (Option ag)}{n:Nat}(h:o3 P (get G) rs ys xs g') (he:qv xs=res:=by rfl) (bh:sv g' N.pins 0 outs:=by (repeat' first | exact .nil | refine .no ?_)) (gg:(rs.filterMap fun | .cell t _=>some t | _=>none).Nodup:=by exact of_decide_eq_true (by kernel_rfl)) (ao:outs.length=n:=by rfl):ah .ret (BS P N rs n outs res) G:=ah.fin (Fin.ro h he gg bh ao (.inr rfl))
end
end Go.Own
