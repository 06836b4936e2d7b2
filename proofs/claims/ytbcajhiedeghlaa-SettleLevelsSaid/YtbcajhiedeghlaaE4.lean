/-
  What is proved here: parts of the proof that the last text states: rules for walks through code, and of this program's functions what they answer. No condition of their own.
-/
import Derived.KernelRfl
import Derived.Test.YtbcajhiedeghlaaE3
namespace Go.Proofs
open Go Go.Own Go.Sort
set_option maxRecDepth 100000
set_option linter.unusedVariables false
theorem SK {α:Type}{m:List α}{q:Nat}{x:α}(h:m[q]?=some x):idx m (q:Int)=some x:=by simp [idx,h]
def GoTo (m:List State) (a s r:Int):Prop:=(r=-1/\∀ st,idx m a=some st->∀ v∈st.c9,v.Sym≠s)\/∃ st v,idx m a=some st/\v∈st.c9/\v.Sym=s/\r=v.g_
theorem Bf (m:List State) (a s:Int) (hm:∀ st∈m,st.c9.length<=64):Tot (pC m a s) (GoTo m a s):=by
 unfold pC;by_cases ba:0<=a/\a<(m.length:Int)
 ·obtain ⟨st,cd,l2⟩:=kY ba.1 ba.2;have ao:=hm st l2;have d1:decide (0<=a)=true:=decide_eq_true ba.1;have d2:decide (a<(m.length:Int))=true:=decide_eq_true ba.2;rw [d1,d2];simp only [cond_true,cd,Option.bind_some];refine .aK (Ξ:=iJ (λ_=>∀ v∈st.c9,v.Sym≠s) (λr:Int=>∃ v,v∈st.c9/\v.Sym=s/\r=v.g_)) ?_ λx J=>?_
  ·refine Tot.upto (λs=>s) st.c9.length (λk _=>∀ v∈st.c9.take k,v.Sym≠s) rfl (by omega) (by simp) λk i hk he bp=>?_;subst he;rw [ei k (by omega)];refine Tot.b8 (λa8=>?_) (λdM=>.az (by
    show ∀ v∈st.c9,v.Sym≠s;rw [List.take_of_length_le (by omega)] at bp; exact bp))
   have a8:k<st.c9.length:=by omega
   rw [ev a8];simp only [Option.bind_some];refine Tot.b8 (λe=>.az ⟨_,List.getElem_mem a8,e,rfl⟩) (λe=>.az ⟨a8,rfl,λv hv=>?_⟩);rw [ko a8,List.mem_append,List.mem_singleton] at hv;rcases hv with hv | rfl
   ·exact bp v hv
   ·exact e
  ·rcases x with x | x
   ·exact .az (.inl ⟨rfl,λC2 aR=>by rw [cd] at aR; cases aR; exact J⟩)
   ·obtain ⟨v,h1,ak,aN⟩:=J;exact .az (.inr ⟨st,v,cd,h1,ak,aN⟩)
 ·refine .aK (Ξ:=iJ (λ_=>True) (λ_:Int=>False)) (Tot.loop (λ_=>True) (λ_=>0) trivial (by show 0<1000000000000000000; omega) λi _=>?_) λx J=>?_
  ·refine .aK (Ξ:=λc=>c=false) ?_ λc aa=>by subst aa; exact .az trivial
   refine Tot.b8 (λh1=>Tot.b8 (λak=>absurd ⟨h1,ak⟩ ba) (λ_=>.az rfl)) (λ_=>.az rfl)
  ·rcases x with x | x
   ·refine .az (.inl ⟨rfl,λst aR=>absurd ⟨(mN aR).1,(mN aR).2.1⟩ ba⟩)
   ·exact J.elim
theorem GoTo.we {g:bR}{m:List State}(hm:lj g m) {a s r:Int}(h:GoTo m a s r):-1<=r/\r<m.length:=by
 rcases h with ⟨rfl,_⟩ | ⟨st,v,h1,ak,_,rfl⟩
 ·have:=hm.hf; exact ⟨by omega,by omega⟩
 ·have:=hm.aA st (mN h1).2.2 v ak;exact ⟨by have:=this.t0; omega,this.t1⟩
theorem GoTo.yes {g:bR}{m:List State}(hm:lj g m) {a s r:Int}(h:GoTo m a s r) {st:State}{v:Move}(aL:idx m a=some st) (hv:v∈st.c9) (e:v.Sym=s):0<=r/\r<m.length:=by
 rcases h with ⟨rfl,h⟩ | ⟨st,v,h1,ak,_,rfl⟩
 ·exact absurd e (h st aL v hv)
 ·have:=hm.aA st (mN h1).2.2 v ak;exact ⟨this.t0,this.t1⟩
theorem Im {g:bR}{m:List State}(hm:lj g m) (a:Int) (l:List Int) (bf:-1<=a/\a<m.length) (ao:l.length<=1000):Tot (xu m a l) λr=>-1<=r/\r<m.length:=by
 unfold xu;refine .aK (Ξ:=λr:Int=>-1<=r/\r<m.length) ?_ λr av=>.az av;refine Tot.upto (λs=>s.2) l.length (λ_ s=>-1<=s.1/\s.1<m.length) rfl (by omega) bf λk s hk he bp=>?_;obtain ⟨r,i⟩:=s;simp only at he bp ⊢;subst he;rw [ei k (by omega)];refine .aK (Ξ:=λc=>c=true->k<l.length) (Tot.b8 (λh=>.az λ_=>by omega) (λ_=>.az λh=>by cases h)) λc aa=>Tot.cE (λh=>?_) (λ_=>.az bp);have a8:=aa h;rw [ev a8];exact Tot.ax (.aK (Bf m r _ hm.tn) λz bB=>.az ⟨a8,rfl,bB.we hm⟩)
def sE (m:List State) (t:Trans):Prop:=∃ st v,idx m t.State=some st/\v∈st.c9/\v.Sym=t.eH/\1000<=t.eH
structure tT (m:List State) (l:List Trans):Prop where
 n:l.length<=9600
 ok:∀ t∈l,sE m t
 e8:∀ (q:Nat) (st:State) (v:Move),m[q]?=some st->v∈st.c9->1000<=v.Sym->(⟨q,v.Sym⟩:Trans)∈l
theorem N8 {g:bR}{m:List State}(hm:lj g m):Tot (oX m) (tT m):=by
 have aJ:=hm.lG;unfold oX;refine .aK (Ξ:=tT m) ?_ λr av=>.az av;refine Tot.upto (λs=>s.2) m.length (λk s=>s.1.length<=64 * k/\(∀ t∈s.1,sE m t)/\∀ (q:Nat) (st:State) (v:Move),q<k->m[q]?=some st->v∈st.c9->1000<=v.Sym->(⟨q,v.Sym⟩:Trans)∈s.1) rfl (by omega) ⟨Nat.le_refl 0,λt h=>(by cases h),λq _ _ h=>absurd h (Nat.not_lt_zero _)⟩ λk s hk he bp=>?_;obtain ⟨l,i⟩:=s;obtain ⟨h1,ak,aN⟩:=bp;simp only at he h1 ak aN ⊢;subst he;rw [ei k (by omega)];refine Tot.b8 (λa8=>?_) (λdM=>.az ⟨?_,ak,λq st v bK=>aN q st v ?_ bK⟩)
 ·have a8:k<m.length:=by omega
  have oC:m[k]?=some m[k]:=List.getElem?_eq_getElem a8;have l2:=List.getElem_mem a8;rw [ev a8];generalize m[k]=st at *;have s9:=hm.tn st l2;simp only [Option.bind_some];refine .aK (Ξ:=λzs:List Trans=>zs.length<=64 * (k+1)/\(∀ t∈zs,sE m t)/\(∀ t∈l,t∈zs)/\∀ v∈st.c9,1000<=v.Sym->(⟨k,v.Sym⟩:Trans)∈zs) ?_ λzs hK=>.az ⟨a8,rfl,hK.1,hK.2.1,λq C2 v bK bP cZ dv=>?_⟩
  ·refine Tot.upto (λs=>s.2) st.c9.length (λae s=>s.1.length<=64 * k+ae/\(∀ t∈s.1,sE m t)/\(∀ t∈l,t∈s.1)/\∀ v∈st.c9.take ae,1000<=v.Sym->(⟨k,v.Sym⟩:Trans)∈s.1) rfl (by omega) ⟨h1,ak,λ_ h=>h,λv hv=>by simp at hv⟩ λae s ab he bp=>?_;obtain ⟨o,i⟩:=s;obtain ⟨g1,g2,g3,g4⟩:=bp;simp only at he g1 g2 g3 g4 ⊢;subst he;rw [ei ae (by omega)];refine Tot.b8 (λa8=>?_) (λdM=>.az ⟨by show o.length<=_; omega,g2,g3,by
    rw [List.take_of_length_le (by omega)] at g4; exact g4⟩)
   have a8:ae<st.c9.length:=by omega
   have fV:=ko a8;have Ce:=List.getElem_mem a8;rw [ev a8];generalize st.c9[ae]=v at *;simp only [Option.bind_some];refine .aK (Ξ:=λo:List Trans=>o.length<=64 * k+(ae+1)/\(∀ t∈o,sE m t)/\(∀ t∈l,t∈o)/\∀ v∈st.c9.take (ae+1),1000<=v.Sym->(⟨k,v.Sym⟩:Trans)∈o) ?_ λo bd=>.az ⟨a8,rfl,bd⟩;refine .aK (Ξ:=λo:List Trans=>o.length<=64 * k+(ae+1)/\(∀ t∈o,sE m t)/\(∀ t∈l,t∈o)/\∀ v∈st.c9.take (ae+1),1000<=v.Sym->(⟨k,v.Sym⟩:Trans)∈o) (Tot.b8 (λh=>?_) (λh=>.az ⟨by omega,g2,g3,λw hw aL=>?_⟩)) λo bd=>.az bd
   ·refine .aK (Ξ:=λ_=>True) (Tot.ap (by simp [lim]; omega) trivial) λ_ _=>.az ⟨by simp; omega,λt aC=>?_,λt aC=>List.mem_append_left _ (g3 t aC),λw hw aL=>?_⟩
    ·rcases List.mem_append.1 aC with aC | aC
     ·exact g2 t aC
     ·rw [List.mem_singleton.1 aC];exact ⟨st,v,SK oC,Ce,rfl,h⟩
    ·rw [fV,List.mem_append,List.mem_singleton] at hw;rcases hw with hw | rfl
     ·exact List.mem_append_left _ (g4 w hw aL)
     ·simp
   ·rw [fV,List.mem_append,List.mem_singleton] at hw;rcases hw with hw | rfl
    ·exact g4 w hw aL
    ·exact absurd aL h
  ·by_cases e:q=k
   ·subst e;rw [oC] at bP; cases bP;exact hK.2.2.2 v cZ dv
   ·exact hK.2.2.1 _ (aN q C2 v (by omega) bP cZ dv)
 ·show l.length<=9600;omega
 ·have:=(List.getElem?_eq_some_iff.1 bK).1;omega
theorem qI (l:List Trans) (a n:Int) (ao:l.length<=9600):Tot (xg l a n) λr=>-1<=r/\r<l.length/\((⟨a,n⟩:Trans)∈l->0<=r):=by
 unfold xg;refine .aK (Ξ:=iJ (λ_=>(⟨a,n⟩:Trans)∉l) (λr:Int=>0<=r/\r<l.length)) ?_ λx J=>?_
 ·refine Tot.upto (λs=>s) l.length (λk _=>(⟨a,n⟩:Trans)∉l.take k) rfl (by omega) (by simp) λk i hk he bp=>?_;subst he;rw [ei k (by omega)];refine Tot.b8 (λa8=>?_) (λdM=>.az (by
   show (⟨a,n⟩:Trans)∉l;rw [List.take_of_length_le (by omega)] at bp; exact bp))
  have a8:k<l.length:=by omega
  have fV:=ko a8;rw [ev a8];generalize l[k]=y at *;simp only [Option.bind_some];refine .aK (Ξ:=λc:Bool=>c=false->y≠⟨a,n⟩) (Tot.b8 (λh=>.az λaR e=>?_) (λh=>.az λ_ e=>h (by rw [e]))) λc aa=>Tot.cE (λh=>.az ⟨by show (0:Int)<=k; omega,by show (k:Int)<_; omega⟩) (λh=>.az ⟨a8,rfl,?_⟩)
  ·have:=of_decide_eq_false aR;exact this (by rw [e])
  ·rw [fV,List.mem_append,List.mem_singleton];exact λaR=>aR.elim bp λe=>aa h e.symm
 ·rcases x with x | x
  ·refine .az ⟨by omega,by omega,λh=>absurd h J⟩
  ·have J:0<=x/\x<l.length:=J;exact .az ⟨by omega,J.2,λ_=>J.1⟩
theorem NP (l:List Item) (ao:l.length<=1000000):Tot (zQ l) λ_=>True:=by
 unfold zQ;refine .aK (Ξ:=λ_=>True) ?_ λx J=>by
  rcases x with x | x
  ·exact .az trivial
  ·exact .az trivial
 refine Tot.upto (λs=>s) l.length (λ_ _=>True) rfl (by omega) trivial λk i hk he _=>?_;subst he;rw [ei k (by omega)];refine Tot.b8 (λa8=>?_) (λ_=>.az trivial);have a8:k<l.length:=by omega
 rw [ev a8];simp only [Option.bind_some];refine .aK (Ξ:=λ_=>True) (Tot.b8 (λ_=>.az trivial) (λ_=>.az trivial)) λc _=>Tot.cE (λ_=>.az trivial) (λ_=>.az ⟨a8,rfl,trivial⟩)
theorem Ig (B:List Bool) (l:List Int) (ao:l.length<=1000) (h:∀ s∈l,s<1000\/(1000<=s/\s - 1000<B.length)) (jb:B.length<=1000):Tot (xh B l) λ_=>True:=by
 unfold xh;refine .aK (Ξ:=λ_=>True) ?_ λx J=>by
  rcases x with x | x
  ·exact .az trivial
  ·exact .az trivial
 refine Tot.upto (λs=>s) l.length (λ_ _=>True) rfl (by omega) trivial λk i hk he _=>?_;subst he;rw [ei k (by omega)];refine Tot.b8 (λa8=>?_) (λ_=>.az trivial);have a8:k<l.length:=by omega
 have ay:=h _ (List.getElem_mem a8);rw [ev a8];generalize l[k]=y at *;simp only [Option.bind_some];refine .aK (Ξ:=λ_=>True) (Tot.b8 (λ_=>.az trivial) (λh1=>?_)) λc _=>Tot.cE (λ_=>.az trivial) (λ_=>.az ⟨a8,rfl,trivial⟩);have hw:aM (y - 1000)=y - 1000:=by rw [dC]; omega
 rw [hw];obtain ⟨b,aF,_⟩:=kY (l:=B) (i:=y - 1000) (by omega) (by omega);rw [aF];exact .az trivial
theorem Lu {g:bR}(aY:gq g) {q:Prod}(bK:q∈g.aW) {B:List Bool}(jb:B.length=g.bt.length):∀ s∈q.e7,s<1000\/(1000<=s/\s - 1000<B.length):=λs aL=>by
 have aC:=aY.ir;have aJ:=aY.hF;rcases (aY.gu q bK).right s aL with h | h <;> omega
theorem Ie (g:bR) (aY:gq g):Tot (xf g) λB=>B.length=g.bt.length:=by
 have aC:=aY.ir;have aJ:=aY.hF;have aE:=aY.lI;unfold xf;refine .aK (Ξ:=λB=>B=List.replicate g.bt.length false) (Tot.mk (by simp [lim]; omega) (by simp)) λU' Qg=>?_;subst Qg;refine .aK (Ξ:=λB:List Bool=>B.length=g.bt.length) ?_ λB jb=>.az jb;refine Tot.loop (λs=>s.1.length=g.bt.length) (λs=>2 * (g.bt.length - hr s.1)+s.2.toNat) (by simp) (by
  show 2 * (g.bt.length - hr _)+1<1000000000000000000; omega) λs aL=>?_
 obtain ⟨B,f⟩:=s;simp only at aL ⊢;refine Tot.cE (λbh=>?_) (λ_=>.az aL);subst bh;refine .aK (Ξ:=λr:List Bool × Bool=>r.1.length=g.bt.length/\hr B<=hr r.1/\(r.2=true->hr B<hr r.1)) ?_ λr av=>?_
 ·refine Tot.upto (λs=>s.2.2) g.aW.length (λ_ s=>s.1.length=g.bt.length/\hr B<=hr s.1/\(s.2.1=true->hr B<hr s.1)) rfl (by omega) ⟨aL,Nat.le_refl _,λh=>by cases h⟩ λk s hk he bp=>?_;obtain ⟨C,f,i⟩:=s;obtain ⟨h1,ak,aN⟩:=bp;simp only at he h1 ak aN ⊢;subst he;rw [ei k (by omega)];refine Tot.b8 (λa8=>?_) (λdM=>.az ⟨h1,ak,aN⟩);have a8:k<g.aW.length:=by omega
  have l6:=List.getElem_mem a8;rw [ev a8];generalize g.aW[k]=q at *;have bK:=aY.gu q l6;have Kp:=bK.left;obtain ⟨b,aF,_⟩:=kY (l:=C) (i:=q.Left) Kp.1 (by omega);simp only [Option.bind_some,aF];refine .aK (Ξ:=λr:List Bool × Bool=>r.1.length=g.bt.length/\hr B<=hr r.1/\(r.2=true->hr B<hr r.1)) ?_ λr av=>.az ⟨a8,rfl,av⟩;refine .aK (Ξ:=λc:Bool=>c=true->b=false) ?_ λc aa=>?_
  ·cases b with
   | true=>exact .az λh=>by cases h
   | false =>
    refine .aK (Ig C q.e7 (by have:=aY.aT q l6; omega) (Lu aY l6 h1) (by omega)) λ_ _=>.az λ_=>rfl
  ·refine .aK (Ξ:=λr:List Bool × Bool=>r.1.length=g.bt.length/\hr B<=hr r.1/\(r.2=true->hr B<hr r.1)) (Tot.cE (λh=>.az ?_) (λh=>.az ⟨h1,ak,aN⟩)) λr av=>.az av;have Q_:=aa h;subst Q_;have Fg:q.Left.toNat<C.length:=by omega
   have oC:C.getD q.Left.toNat false=false:=by
    unfold idx at aF;rw [if_pos Kp.1] at aF;rw [List.getD_eq_getElem?_getD,aF]; rfl
   have:=uc C q.Left.toNat Fg oC;exact ⟨by rw [List.length_set]; exact h1,by show hr B<=hr (C.set _ _); omega,λ_=>by show hr B<hr (C.set _ _); omega⟩
 ·obtain ⟨h1,ak,aN⟩:=av;refine .az ⟨h1,?_⟩;have aa:=Od r.1;show 2 * (g.bt.length - hr r.1)+r.2.toNat<2 * (g.bt.length - hr B)+true.toNat;cases ik:r.2 with
  | false=>simp only [Bool.toNat_false,Bool.toNat_true]; omega
  | true =>
   have:=aN ik;simp only [Bool.toNat_true]; omega
structure i_ (T:Nat) (r:List Int):Prop where
 a:fO h' r
 i:∀ x∈r,0<=x/\x<T
theorem i_.len {T:Nat}{r:List Int}(h:i_ T r):r.length<=T:=by
 have:=w6 (m:=(List.range T).map λk:Nat=>(k:Int)) (h.a.nd zN) λx J=>by
  have:=h.i x J;exact List.mem_map.2 ⟨x.toNat,by rw [List.mem_range]; omega,by omega⟩
 simpa using this
theorem i_.nil {T:Nat}:i_ T []:=⟨.nil,λx h=>by cases h⟩
theorem i_.put {T:Nat}(fv:T<=100000) {r:List Int}(h:i_ T r) {x:Int}(J:0<=x/\x<T):Tot (oW r x) λeR=>i_ T eR/\r.length<=eR.length:=by
 have ao:=h.len;refine (Bg r x h.a (by omega)).use λeR eC=>⟨⟨eC.1,λy ay=>?_⟩,w6 (h.a.nd zN) λy ay=>(eC.2.2 y).2 (.inl ay)⟩;rcases (eC.2.2 y).1 ay with aR | rfl
 ·exact h.i y aR
 ·exact J
def lO (L:List (List Int)) (i:Nat):Nat:=(L.getD i []).length
def jO (L:List (List Int)):Nat:=(L.map List.length).sum
theorem Mi:∀ (L L':List (List Int)),L.length=L'.length->(∀ i,lO L i<=lO L' i)->jO L<=jO L'/\((∃ i,lO L i<lO L' i)->jO L<jO L')
 | [],[],_,_=>⟨Nat.le_refl _,λ⟨i,h⟩=>absurd h (Nat.lt_irrefl _)⟩
 | a::L,b::L',ao,h=>by
  obtain ⟨h1,ak⟩:=Mi L L' (by simpa using ao) λi=>by simpa [lO] using h (i+1)
  have ba:a.length<=b.length:=by simpa [lO] using h 0
  have de:jO (a::L)=a.length+jO L:=by simp [jO]
  have cX:jO (b::L')=b.length+jO L':=by simp [jO]
  rw [de,cX];refine ⟨by omega,λ⟨i,hi⟩=>?_⟩;cases i with
  | zero =>
   have:a.length<b.length:=by simpa [lO] using hi
   omega
  | succ i =>
   have:=ak ⟨i,by simpa [lO] using hi⟩;omega
def Sets (T:Nat) (L:List (List Int)):Prop:=∀ r∈L,i_ T r
theorem Mh {T:Nat}:∀ {L:List (List Int)},Sets T L->jO L<=L.length * T
 | [],_=>by simp [jO]
 | a::L,h=>by
  have h1:=(h a (by simp)).len;have ak:=Mh (L:=L) λr av=>h r (by simp [av]);have de:jO (a::L)=a.length+jO L:=by simp [jO]
  rw [de,List.length_cons,Nat.succ_mul]; omega
structure nG (T:Nat) (L L':List (List Int)):Prop where
 n:L'.length=L.length
 s:Sets T L'
 u:∀ i,lO L i<=lO L' i
theorem nG.refl {T:Nat}{L:List (List Int)}(h:Sets T L):nG T L L:=⟨rfl,h,λ_=>Nat.le_refl _⟩
theorem nG.trans {T:Nat}{A B C:List (List Int)}(h:nG T A B) (aR:nG T B C):nG T A C:=⟨aR.n.trans h.n,aR.s,λi=>Nat.le_trans (h.u i) (aR.u i)⟩
theorem nG.set {T:Nat}{L:List (List Int)}{k:Nat}{r eR:List Int}(aL:Sets T L) (hk:L[k]?=some r) (h:i_ T eR) (ao:r.length<=eR.length):nG T L (L.set k eR):=by
 have dO:=(List.getElem?_eq_some_iff.1 hk).1;refine ⟨List.length_set ..,λx J=>?_,λi=>?_⟩
 ·rcases List.mem_or_eq_of_mem_set J with aR | aR
  ·exact aL x aR
  ·rw [aR]; exact h
 ·unfold lO;rw [List.getD_eq_getElem?_getD,List.getD_eq_getElem?_getD,Ao dO];by_cases e:i=k
  ·subst e; rw [if_pos rfl,hk]; exact ao
  ·rw [if_neg e]; exact Nat.le_refl _
theorem Cm {L:List (List Int)}{k:Nat}{r:List Int}(h:L[k]?=some r):lO L k=r.length:=by unfold lO; rw [List.getD_eq_getElem?_getD,h]; rfl
theorem SJ {α:Type}{l:List α}{i:Int}{y:α}(h:idx l i=some y):l[i.toNat]?=some y:=by
 unfold idx at h
 split at h
 ·exact h
 ·cases h
theorem Il (T:Nat) (fv:T<=1000) (a0 ar:List (List Int)) (aJ:a0.length<=9600) (he:ar.length=a0.length) (ba:Sets T a0) (h1:Sets a0.length ar):Tot (xt a0 ar) λr=>r.length=a0.length/\Sets T r:=by
 unfold xt;refine .aK (Ξ:=λr:List (List Int)=>r.length=a0.length/\Sets T r) ?_ λr av=>.az av;have aF:a0.length * T<=9600 * 1000:=Nat.mul_le_mul aJ fv;refine Tot.loop (λs=>s.1.length=a0.length/\Sets T s.1) (λs=>2 * (a0.length * T - jO s.1)+s.2.toNat) ⟨rfl,ba⟩ (by
  show 2 * (a0.length * T - jO _)+1<1000000000000000000; omega) λs aL=>?_
 obtain ⟨L,f⟩:=s;obtain ⟨ao,aL⟩:=aL;simp only at ao aL ⊢;refine Tot.cE (λbh=>?_) (λ_=>.az ⟨ao,aL⟩);subst bh;refine .aK (Ξ:=λr:List (List Int) × Bool=>nG T L r.1/\(r.2=true->∃ i,lO L i<lO r.1 i)) ?_ λr av=>?_
 ·refine Tot.upto (λs=>s.2.2) L.length (λ_ s=>nG T L s.1/\(s.2.1=true->∃ i,lO L i<lO s.1 i)) rfl (by omega) ⟨.refl aL,λh=>by cases h⟩ λk s hk hI bp=>?_;obtain ⟨C,f,i⟩:=s;obtain ⟨hu,uG⟩:=bp;simp only at hI hu uG ⊢;subst hI;rw [ei k (by omega)];have Ky:=hu.n;refine Tot.b8 (λa8=>?_) (λdM=>.az ⟨hu,uG⟩);have J9:k<C.length:=by omega
  have hc:k<ar.length:=by omega
  have J4:C[k]?=some C[k]:=List.getElem?_eq_getElem J9;have nQ:=h1 _ (List.getElem_mem hc);rw [ev hc,ev J9];generalize ar[k]=row at *;generalize C[k]=lb at *;simp only [Option.bind_some];have mx:=nQ.len;refine .aK (Ξ:=λD:List (List Int)=>nG T C D) ?_ λD oy=>?_
  ·refine Tot.upto (λs=>s.2) row.length (λ_ s=>nG T C s.1) rfl (by omega) (.refl hu.s) λae s ab hI bp=>?_;obtain ⟨D,i⟩:=s;simp only at hI bp ⊢;subst hI;rw [ei ae (by omega)];have Qk:=bp.n;refine Tot.b8 (λa8=>?_) (λ_=>.az bp);have a8:ae<row.length:=by omega
   have ay:=nQ.i _ (List.getElem_mem a8);rw [ev a8];generalize row[ae]=y at *;simp only [Option.bind_some];refine .aK (Ξ:=λE:List (List Int)=>nG T C E) ?_ λE kA=>.az ⟨a8,rfl,kA⟩;refine Tot.count (λs=>s.2) T (λs=>∃ n:Nat,s.2=(n:Int)/\nG T C s.1) ⟨0,rfl,bp⟩ (by show (T:Int) - 0<_; omega) λs aL=>?_;obtain ⟨E,i⟩:=s;obtain ⟨n,B6,kA⟩:=aL;simp only at B6 kA ⊢;subst B6;have VA:=kA.n;obtain ⟨z,bB,SF⟩:=kY (l:=E) (i:=y) ay.1 (by omega);have nm:=kA.s z SF;have r2:=nm.len;have E_:k<E.length:=by omega
   have Rq:E[k]?=some E[k]:=List.getElem?_eq_getElem E_;rw [bB];simp only [Option.bind_some];refine Tot.b8 (λa8=>?_) (λ_=>.az kA);have a8:n<z.length:=by omega
   rw [ei n (by omega),ev E_,ev a8];simp only [Option.bind_some];refine .aK ((kA.s _ (List.getElem_mem E_)).put (by omega) (nm.i _ (List.getElem_mem a8))) λeR eC=>.az ⟨⟨n+1,rfl,?_⟩,by show (n:Int)<((n+1:Nat):Int); omega,by show ((n+1:Nat):Int)<=T; omega⟩;exact kA.trans (.set kA.s Rq eC.1 eC.2)
  ·have Qk:=oy.n;have J_:k<D.length:=by omega
   have J5:D[k]?=some D[k]:=List.getElem?_eq_getElem J_;have td:=hu.trans oy;refine .aK (Ξ:=λc:Bool=>c=true->∃ i,lO L i<lO D i) ?_ λc aa=>.az ⟨by omega,rfl,td,aa⟩;refine Tot.cE (λbh=>.az λ_=>?_) (λ_=>?_)
   ·obtain ⟨i,hi⟩:=uG bh;exact ⟨i,Nat.lt_of_lt_of_le hi (oy.u i)⟩
   ·rw [ev J_];refine Tot.ax (.az λh=>⟨k,?_⟩);have aN:=oy.u k;have bP:=hu.u k;rw [Cm J4,Cm J5] at aN;rw [Cm J4] at bP;rw [Cm J5];have:¬ ((D[k].length:Int)=(lb.length:Int)):=λe=>by rw [decide_eq_true e] at h; cases h
    omega
 ·obtain ⟨hu,bh⟩:=av;have Ca:=hu.n;obtain ⟨aN,bP⟩:=Mi L r.1 Ca.symm hu.u;have cZ:=Mh hu.s;rw [show r.1.length=a0.length by omega] at cZ;refine .az ⟨⟨by show r.1.length=_; omega,hu.s⟩,?_⟩;show 2 * (a0.length * T - jO r.1)+r.2.toNat<2 * (a0.length * T - jO L)+true.toNat;cases ik:r.2 with
  | false=>simp only [Bool.toNat_false,Bool.toNat_true]; omega
  | true =>
   have:=bP (bh ik);simp only [Bool.toNat_true]; omega
theorem lj.sym {g:bR}(aY:gq g) {m:List State}(hm:lj g m) {st:State}(cd:st∈m) {v:Move}(hv:v∈st.c9):0<=v.Sym/\(v.Sym<1000->v.Sym<g.aX.length)/\(1000<=v.Sym->v.Sym - 1000<g.bt.length):=by
 have aC:=aY.ir;rcases S8.1 (hm.aA st cd v hv).s with h | h
 ·exact ⟨h.1,λ_=>h.2,λaR=>by omega⟩
 ·exact ⟨by omega,λaR=>by omega,λ_=>by omega⟩
theorem sE.go {g:bR}{m:List State}(hm:lj g m) {t:Trans}(h:sE m t):Tot (pC m t.State t.eH) λr=>0<=r/\r<m.length:=by
 obtain ⟨st,v,h1,ak,aN,_⟩:=h;exact (Bf m t.State t.eH hm.tn).use λr av=>av.yes hm h1 ak aN
theorem LW {T:Nat}{L:List (List Int)}{r:List Int}(h:Sets T L) (av:i_ T r):Sets T (L++[r]):=λx J=>by
 rcases List.mem_append.1 J with J | J
 ·exact h x J
 ·rw [List.mem_singleton.1 J]; exact av
theorem N5 (g:bR) (aY:gq g) {m:List State}(hm:lj g m):Tot (Ae m) λr=>∃ cj,oX m=some cj/\tT m cj/\r.length=cj.length/\Sets g.aX.length r:=by
 have aC:=aY.ir;obtain ⟨cj,ov,hL⟩:=N8 hm;have uM:=hL.n;unfold Ae;rw [ov];refine Tot.ax (.aK (Ξ:=λr:List (List Int)=>r.length=cj.length/\Sets g.aX.length r) ?_ λr av=>.az ⟨cj,rfl,hL,av⟩);refine Tot.upto (λs=>s.2) cj.length (λk s=>s.1.length=k/\Sets g.aX.length s.1) rfl (by omega) ⟨rfl,λr h=>by cases h⟩ λk s hk he bp=>?_;obtain ⟨L,i⟩:=s;obtain ⟨h1,ak⟩:=bp;simp only at he h1 ak ⊢;subst he;rw [ei k (by omega)];refine Tot.b8 (λa8=>?_) (λdM=>.az ⟨by show L.length=_; omega,ak⟩);have a8:k<cj.length:=by omega
 have fV:=hL.ok _ (List.getElem_mem a8);rw [ev a8];generalize cj[k]=t at *;simp only [Option.bind_some];refine .aK (fV.go hm) λto zh=>?_;obtain ⟨st,cd,kg⟩:=kY zh.1 zh.2;have ep:=hm.oQ st kg;have s9:=hm.tn st kg;rw [cd];simp only [Option.bind_some];refine .aK (NP _ (by have:=ep.len aY; omega)) λc _=>?_;refine .aK (Ξ:=i_ g.aX.length) (Tot.cE (λ_=>?_) (λ_=>.az .nil)) λxx wS=>?_
 ·refine .aK (Ξ:=λ_=>True) (Tot.ap (by simp [lim]) trivial) λ_ _=>.az ⟨List.pairwise_singleton ..,λx J=>?_⟩;rw [List.mem_singleton.1 J]; omega
 refine .aK (Ξ:=i_ g.aX.length) ?_ λr av=>?_
 ·refine Tot.upto (λs=>s.2) st.c9.length (λk s=>i_ g.aX.length s.1) rfl (by omega) wS λae s ab he bp=>?_;obtain ⟨r,i⟩:=s;simp only at he bp ⊢;subst he;rw [ei ae (by omega)];refine Tot.b8 (λa8=>?_) (λ_=>.az bp);have a8:ae<st.c9.length:=by omega
  have hv:=hm.sym aY kg (List.getElem_mem a8);rw [ev a8];generalize st.c9[ae]=v at *;simp only [Option.bind_some];refine .aK (Ξ:=i_ g.aX.length) ?_ λr av=>.az ⟨a8,rfl,av⟩;refine .aK (Ξ:=i_ g.aX.length) (Tot.b8 (λh=>?_) (λ_=>.az bp)) λr av=>.az av;exact .aK (bp.put (by omega) ⟨hv.1,hv.2.1 h⟩) λr av=>.az av.1
 ·refine .aK (Ξ:=λ_=>True) (Tot.ap (by simp [lim]; omega) trivial) λ_ _=>.az ⟨a8,rfl,by simp; omega,LW ak av⟩
theorem N6 (g:bR) (aY:gq g) {m:List State}(hm:lj g m) {cj:List Trans}(ov:oX m=some cj) (hL:tT m cj):Tot (Af g m) λr=>r.length=cj.length/\Sets cj.length r:=by
 have aC:=aY.ir;have Fo:=aY.hF;have uM:=hL.n;unfold Af;rw [ov];refine Tot.ax (.aK (Ie g aY) λB jb=>.aK (Ξ:=λr:List (List Int)=>r.length=cj.length/\Sets cj.length r) ?_ λr av=>.az av);refine Tot.upto (λs=>s.2) cj.length (λk s=>s.1.length=k/\Sets cj.length s.1) rfl (by omega) ⟨rfl,λr h=>by cases h⟩ λk s hk he bp=>?_;obtain ⟨L,i⟩:=s;obtain ⟨h1,ak⟩:=bp;simp only at he h1 ak ⊢;subst he;rw [ei k (by omega)];refine Tot.b8 (λa8=>?_) (λdM=>.az ⟨by show L.length=_; omega,ak⟩);have a8:k<cj.length:=by omega
 have fV:=hL.ok _ (List.getElem_mem a8);rw [ev a8];generalize cj[k]=t at *;simp only [Option.bind_some];refine .aK (fV.go hm) λto zh=>?_;obtain ⟨st,cd,kg⟩:=kY zh.1 zh.2;have mK:=SJ cd;have s9:=hm.tn st kg;rw [cd];simp only [Option.bind_some];refine .aK (Ξ:=i_ cj.length) ?_ λr av=>?_
 ·refine Tot.upto (λs=>s.2) st.c9.length (λk s=>i_ cj.length s.1) rfl (by omega) .nil λae s ab he bp=>?_;obtain ⟨r,i⟩:=s;simp only at he bp ⊢;subst he;rw [ei ae (by omega)];refine Tot.b8 (λa8=>?_) (λ_=>.az bp);have a8:ae<st.c9.length:=by omega
  have Ce:=List.getElem_mem a8;have hv:=hm.sym aY kg Ce;rw [ev a8];generalize st.c9[ae]=v at *;simp only [Option.bind_some];refine .aK (Ξ:=i_ cj.length) ?_ λr av=>.az ⟨a8,rfl,av⟩;refine .aK (Ξ:=λc:Bool=>c=true->1000<=v.Sym) (Tot.b8 (λh=>?_) (λ_=>.az λh=>by cases h)) λc aa=>?_
  ·have hw:aM (v.Sym - 1000)=v.Sym - 1000:=by
    have:=hv.2.2 h;rw [dC]; omega
   rw [hw];obtain ⟨b,aF,_⟩:=kY (l:=B) (i:=v.Sym - 1000) (by omega) (by have:=hv.2.2 h; omega);rw [aF];exact Tot.ax (.az λ_=>h)
  ·refine .aK (Ξ:=i_ cj.length) (Tot.cE (λh=>?_) (λ_=>.az bp)) λr av=>.az av;have B1:=hL.e8 to.toNat st v mK Ce (aa h);rw [show ((to.toNat:Nat):Int)=to by omega] at B1;refine .aK (qI cj to v.Sym uM) λz bB=>?_;exact .aK (bp.put (by omega) ⟨bB.2.2 B1,bB.2.1⟩) λr av=>.az av.1
 ·refine .aK (Ξ:=λ_=>True) (Tot.ap (by simp [lim]; omega) trivial) λ_ _=>.az ⟨a8,rfl,by simp; omega,LW ak av⟩
theorem N7 (g:bR) (aY:gq g) {m:List State}(hm:lj g m) {cj:List Trans}(ov:oX m=some cj) (hL:tT m cj):Tot (Ag g m) λr=>r.length=cj.length/\Sets cj.length r:=by
 have aC:=aY.ir;have Fo:=aY.hF;have y8:=aY.lI;have uM:=hL.n;unfold Ag;rw [ov];refine Tot.ax (.aK (Ie g aY) λB jb=>.aK (Ξ:=λr=>r=List.replicate cj.length ([]:List Int)) (Tot.mk (by simp [lim]; omega) (by simp)) λVf Qt=>.aK (Ξ:=λr:List (List Int)=>r.length=cj.length/\Sets cj.length r) ?_ λr av=>.az av);subst Qt;have U_:∀ {L:List (List Int)},(L.length=cj.length/\Sets cj.length L)->∀ {z:Int}{r eR:List Int},idx L z=some r->i_ cj.length eR->(L.set z.toNat eR).length=cj.length/\Sets cj.length (L.set z.toNat eR):=λ{L} jw {z r eR} _ eC=>⟨by rw [List.length_set]; exact jw.1,λx J=>by
  rcases List.mem_or_eq_of_mem_set J with aR | aR
  ·exact jw.2 x aR
  ·rw [aR]; exact eC⟩
 refine Tot.upto (λs=>s.2) cj.length (λk s=>s.1.length=cj.length/\Sets cj.length s.1) rfl (by omega) ⟨by simp,λr h=>by rw [List.eq_of_mem_replicate h]; exact .nil⟩ λk s hk he bp=>?_;obtain ⟨L,i⟩:=s;simp only at he bp ⊢;subst he;rw [ei k (by omega)];refine Tot.b8 (λa8=>?_) (λdM=>.az bp);have a8:k<cj.length:=by omega
 have fV:=hL.ok _ (List.getElem_mem a8);rw [ev a8];generalize cj[k]=t at *;simp only [Option.bind_some];refine .aK (Ξ:=λr:List (List Int)=>r.length=cj.length/\Sets cj.length r) ?_ λr av=>.az ⟨a8,rfl,av⟩;refine Tot.upto (λs=>s.2) g.aW.length (λk s=>s.1.length=cj.length/\Sets cj.length s.1) rfl (by omega) bp λp s aE he bp=>?_;obtain ⟨L,i⟩:=s;simp only at he bp ⊢;subst he;rw [ei p (by omega)];refine Tot.b8 (λB5=>?_) (λdM=>.az bp);have B5:p<g.aW.length:=by omega
 have l6:=List.getElem_mem B5;rw [ev B5];generalize g.aW[p]=q at *;have bK:=aY.gu q l6;have Ca:=aY.aT q l6;have uL:=Lu aY l6 jb;simp only [Option.bind_some];refine .aK (Ξ:=λr:List (List Int)=>r.length=cj.length/\Sets cj.length r) ?_ λr av=>.az ⟨B5,rfl,av⟩;refine Tot.cE (λ_=>.az bp) (λ_=>.aK (Ξ:=λr:List (List Int)=>r.length=cj.length/\Sets cj.length r) ?_ λr av=>.az av);refine Tot.upto (λs=>s.2) q.e7.length (λk s=>s.1.length=cj.length/\Sets cj.length s.1) rfl (by omega) bp λae s ab he bp=>?_;obtain ⟨L,i⟩:=s;simp only at he bp ⊢;subst he;rw [ei ae (by omega)];refine Tot.b8 (λdW=>?_) (λdM=>.az bp);have dW:ae<q.e7.length:=by omega
 rw [ev dW];generalize q.e7[ae]=y at *;simp only [Option.bind_some];refine .aK (Ξ:=λr:List (List Int)=>r.length=cj.length/\Sets cj.length r) ?_ λr av=>.az ⟨dW,rfl,av⟩;refine .aK (Ξ:=λ_=>True) (Tot.b8 (λ_=>.az trivial) (λ_=>?_)) λc _=>Tot.cE (λ_=>.az bp) (λ_=>?_)
 ·refine .aK (Ξ:=λr=>r=q.e7.drop (ae+1)) (Tot.sub ⟨by omega,by omega,by omega⟩ ?_) λr av=>?_
  ·rw [List.take_of_length_le]
   ·congr 1
   ·rw [List.length_drop]; omega
  ·subst av;exact .aK (Ig B _ (by rw [List.length_drop]; omega) (λs aL=>uL s (List.mem_of_mem_drop aL)) (by omega)) λ_ _=>.az trivial
 refine .aK (Ξ:=λr=>r.length<=8) (Tot.sub ⟨by omega,by omega,by omega⟩ (by rw [List.length_take,List.length_drop]; omega)) λr av=>?_;obtain ⟨st,_,cd,_⟩:=fV;have Fx:=mN cd;refine .aK (Im hm t.State r ⟨by omega,Fx.2.1⟩ (by omega)) λz bB=>?_;refine .aK (Ξ:=λr:List (List Int)=>r.length=cj.length/\Sets cj.length r) (Tot.cE (λ_=>?_) (λ_=>.az bp)) λr av=>.az av;refine .aK (qI cj z y uM) λn aJ=>?_;refine .aK (Ξ:=λr:List (List Int)=>r.length=cj.length/\Sets cj.length r) (Tot.b8 (λba=>?_) (λ_=>.az bp)) λr av=>.az av;obtain ⟨xx,wS,Fv⟩:=kY (l:=L) ba (by rw [bp.1]; exact aJ.2.1);rw [wS];refine Tot.ax (.aK ((bp.2 xx Fv).put (by omega) ⟨by omega,by omega⟩) λeR eC=>.az (U_ bp wS eC.1))
theorem NZ (g:bR) (aY:gq g) {m:List State}(hm:lj g m):Tot (z_ g m) λr=>∃ cj,oX m=some cj/\tT m cj/\r.length=cj.length/\Sets g.aX.length r:=by
 have aC:=aY.ir;unfold z_;refine .aK (N5 g aY hm) λsc h1=>?_;obtain ⟨cj,ov,hL,Fc,Fw⟩:=h1;have uM:=hL.n;refine .aK (N6 g aY hm ov hL) λfX ak=>.aK (Il g.aX.length (by omega) sc fX (by omega) (by omega) Fw (by rw [Fc]; exact ak.2)) λtu aN=>?_;refine .aK (N7 g aY hm ov hL) λq6 bP=>.aK (Il g.aX.length (by omega) tu q6 (by omega) (by omega) aN.2 (by rw [aN.1,Fc]; exact bP.2)) λtv cZ=>?_;exact .az ⟨cj,ov,hL,by omega,cZ.2⟩
def o6 (g:bR) (p:Int):Prop:=0<p/\p<g.aW.length
theorem N0 (g:bR) (aY:gq g) (K:List Item) (ao:K.length<=1000000):Tot (z' g K) λr=>r.length<=540/\∀ p∈r,o6 g p:=by
 unfold z';refine .aK (DI g aY K ao) λc aa=>?_;have hx:=rA aY aa.1 λx J=>((aa.2 x).1 J).iT;refine .aK (Ξ:=λr:List Int=>r.length<=540/\∀ p∈r,o6 g p) ?_ λr av=>.az av;refine Tot.upto (λs=>s.2) c.length (λk s=>s.1.length<=k/\∀ p∈s.1,o6 g p) rfl (by omega) ⟨Nat.le_refl 0,λp h=>by cases h⟩ λk s hk he bp=>?_;obtain ⟨L,i⟩:=s;obtain ⟨h1,ak⟩:=bp;simp only at he h1 ak ⊢;subst he;rw [ei k (by omega)];refine Tot.b8 (λa8=>?_) (λdM=>.az ⟨by show L.length<=_; omega,ak⟩);have a8:k<c.length:=by omega
 have hi:=((aa.2 _).1 (List.getElem_mem a8)).iT;rw [ev a8];generalize c[k]=x at *;obtain ⟨q,bK,aN,bP⟩:=hi;simp only [Option.bind_some];refine .aK (Ξ:=λL:List Int=>L.length<=k+1/\∀ p∈L,o6 g p) ?_ λr av=>.az ⟨a8,rfl,av⟩;refine .aK (Ξ:=λc:Bool=>c=true->0<x.Prod) (Tot.b8 (λh=>?_) (λ_=>.az λh=>by cases h)) λc aa=>?_
 ·rw [bK]; exact Tot.ax (.az λ_=>h)
 refine .aK (Ξ:=λL:List Int=>L.length<=k+1/\∀ p∈L,o6 g p) (Tot.cE (λh=>?_) (λ_=>.az ⟨by omega,ak⟩)) λr av=>.az av;refine .aK (Ξ:=λ_=>True) (Tot.ap (by simp [lim]; omega) trivial) λ_ _=>.az ⟨by simp; omega,λp aE=>?_⟩;rcases List.mem_append.1 aE with aE | aE
 ·exact ak p aE
 ·rw [List.mem_singleton.1 aE]; exact ⟨aa h,(mN bK).2.1⟩
theorem N1 (g:bR) (aY:gq g) {m:List State}(hm:lj g m) {cj:List Trans}(ov:oX m=some cj) (hL:tT m cj) (q p:Int):Tot (Aa g m q p) λr=>r.length<=9600/\∀ x∈r,0<=x/\x<cj.length:=by
 have uM:=hL.n;have y8:=aY.lI;have Fo:=aY.hF;unfold Aa;refine .aK (Ξ:=λc:Bool=>c=false->0<=p/\p<g.aW.length) (Tot.b8 (λ_=>.az λh=>by cases h) (λ_=>Tot.b8 (λ_=>.az λh=>by cases h) (λ_=>Tot.b8 (λ_=>.az λh=>by cases h) (λh=>.az λaR=>by have:=of_decide_eq_false aR; omega)))) λc aa=>Tot.cE (λ_=>.az ⟨Nat.zero_le _,λx h=>by cases h⟩) (λh=>?_);obtain ⟨ba,h1⟩:=aa h;rw [ov];refine Tot.ax ?_;refine .aK (Ξ:=λr:List Int=>r.length<=9600/\∀ x∈r,0<=x/\x<cj.length) ?_ λr av=>.az av;obtain ⟨gu,Fu,RQ⟩:=kY ba h1;have Ca:=aY.aT gu RQ;refine Tot.upto (λs=>s.2) cj.length (λk s=>s.1.length<=k/\∀ x∈s.1,0<=x/\x<cj.length) rfl (by omega) ⟨Nat.le_refl 0,λp h=>by cases h⟩ λk s hk he bp=>?_;obtain ⟨L,i⟩:=s;obtain ⟨ak,aN⟩:=bp;simp only at he ak aN ⊢;subst he;rw [ei k (by omega)];refine Tot.b8 (λa8=>?_) (λdM=>.az ⟨by show L.length<=_; omega,aN⟩);have a8:k<cj.length:=by omega
 have fV:=hL.ok _ (List.getElem_mem a8);rw [ev a8,Fu];generalize cj[k]=t at *;obtain ⟨st,_,cd,_⟩:=fV;have Fx:=mN cd;simp only [Option.bind_some];refine .aK (Ξ:=λL:List Int=>L.length<=k+1/\∀ x∈L,0<=x/\x<cj.length) ?_ λr av=>.az ⟨a8,rfl,av⟩;refine .aK (Ξ:=λ_=>True) (Tot.b8 (λh=>?_) (λ_=>.az trivial)) λc aa=>?_
 ·exact .aK (Im hm t.State gu.e7 ⟨by omega,Fx.2.1⟩ (by omega)) λ_ _=>.az trivial
 refine .aK (Ξ:=λL:List Int=>L.length<=k+1/\∀ x∈L,0<=x/\x<cj.length) (Tot.cE (λh=>?_) (λ_=>.az ⟨by omega,aN⟩)) λr av=>.az av;refine .aK (Ξ:=λ_=>True) (Tot.ap (by simp [lim]; omega) trivial) λ_ _=>.az ⟨by simp; omega,λp aE=>?_⟩;rcases List.mem_append.1 aE with aE | aE
 ·exact aN p aE
 ·rw [List.mem_singleton.1 aE]; exact ⟨by omega,by omega⟩
structure vV (g:bR) (l:jP):Prop where
 p:o6 g l.Prod
 t:i_ g.aX.length l.aX
theorem NW (g:bR) (aY:gq g) {m:List State}(hm:lj g m):Tot (vf g m) λr=>r.length<=81000/\∀ l∈r,vV g l:=by
 have aC:=aY.ir;have y1:=hm.lG;unfold vf;refine .aK (NZ g aY hm) λF aP=>?_;obtain ⟨cj,ov,hL,VB,jc⟩:=aP;have uM:=hL.n;refine .aK (Ξ:=λr:List jP=>r.length<=81000/\∀ l∈r,vV g l) ?_ λr av=>.az av;refine Tot.upto (λs=>s.2) m.length (λk s=>s.1.length<=540 * k/\∀ l∈s.1,vV g l) rfl (by omega) ⟨Nat.le_refl 0,λp h=>by cases h⟩ λk s hk he bp=>?_;obtain ⟨L,i⟩:=s;obtain ⟨h1,ak⟩:=bp;simp only at he h1 ak ⊢;subst he;rw [ei k (by omega)];refine Tot.b8 (λa8=>?_) (λdM=>.az ⟨by show L.length<=_; omega,ak⟩);have a8:k<m.length:=by omega
 have ep:=hm.oQ _ (List.getElem_mem a8);rw [ev a8];generalize m[k]=st at *;refine Tot.ax (.aK (N0 g aY st.Kernel (by have:=ep.len aY; omega)) λE kA=>?_);obtain ⟨Vz,Ql⟩:=kA;refine .aK (Ξ:=λL:List jP=>L.length<=540 * (k+1)/\∀ l∈L,vV g l) ?_ λr av=>.az ⟨a8,rfl,av⟩;refine Tot.upto (λs=>s.2) E.length (λae s=>s.1.length<=540 * k+ae/\∀ l∈s.1,vV g l) rfl (by omega) ⟨h1,ak⟩ λae s ab he bp=>?_;obtain ⟨L,i⟩:=s;obtain ⟨h1,ak⟩:=bp;simp only at he h1 ak ⊢;subst he;rw [ei ae (by omega)];refine Tot.b8 (λdW=>?_) (λdM=>.az ⟨by show L.length<=_; omega,ak⟩);have dW:ae<E.length:=by omega
 have aE:=Ql _ (List.getElem_mem dW);rw [ev dW];generalize E[ae]=p at *;simp only [Option.bind_some];refine .aK (N1 g aY hm ov hL k p) λB jb=>?_;obtain ⟨Vx,Qi⟩:=jb;refine .aK (Ξ:=i_ g.aX.length) ?_ λS bW=>?_
 ·refine Tot.upto (λs=>s.2) B.length (λ_ s=>i_ g.aX.length s.1) rfl (by omega) .nil λb s aF he bp=>?_;obtain ⟨S,i⟩:=s;simp only at he bp ⊢;subst he;rw [ei b (by omega)];refine Tot.b8 (λwQ=>?_) (λdM=>.az bp);have wQ:b<B.length:=by omega
  have J:=Qi _ (List.getElem_mem wQ);rw [ev wQ];generalize B[b]=x at *;obtain ⟨row,nQ,Fv⟩:=kY (l:=F) J.1 (by omega);have k9:=jc row Fv;have mx:=k9.len;simp only [Option.bind_some,nQ];refine .aK (Ξ:=i_ g.aX.length) ?_ λS bW=>.az ⟨wQ,rfl,bW⟩;refine Tot.upto (λs=>s.2) row.length (λ_ s=>i_ g.aX.length s.1) rfl (by omega) bp λz s bB he bp=>?_;obtain ⟨S,i⟩:=s;simp only at he bp ⊢;subst he;rw [ei z (by omega)];refine Tot.b8 (λoE=>?_) (λdM=>.az bp);have oE:z<row.length:=by omega
  rw [ev oE];exact Tot.ax (.aK (bp.put (by omega) (k9.i _ (List.getElem_mem oE))) λr av=>.az ⟨oE,rfl,av.1⟩)
 ·refine .aK (Ξ:=λ_=>True) (Tot.ap (by simp [lim]; omega) trivial) λ_ _=>.az ⟨dW,rfl,by simp; omega,λl ao=>?_⟩;rcases List.mem_append.1 ao with ao | ao
  ·exact ak l ao
  ·rw [List.mem_singleton.1 ao]; exact ⟨aE,bW⟩
def j8 (c:Cell):Nat:=c.aW.length+(if 0<=c.fg then 1 else 0)+(if c.gR then 1 else 0)
theorem Md {x:Option Int}{c:Cell}(ao:c.aW.length<=1000) (e:x=(((bif decide (0<=c.fg) then
some (aM ((c.aW.length:Int)+1))
else
some (c.aW.length:Int))).bind λhN =>
((bif c.gR then
some (aM (hN+1))
else
some hN)).bind λdd =>
some dd)):x=some (j8 c:Int):=by
 subst e;have hw:aM ((c.aW.length:Int)+1)=(c.aW.length:Int)+1:=by rw [dC]; omega
 have qa:aM ((c.aW.length:Int)+1+1)=(c.aW.length:Int)+1+1:=by rw [dC]; omega
 unfold j8;by_cases h:0<=c.fg
 ·cases ak:c.gR <;> simp [h,hw,qa]
 ·cases ak:c.gR <;> simp [h,hw]
theorem IQ (c:Cell) (ao:c.aW.length<=1000):xp c=some (j8 c:Int):=Md ao (by unfold xp; rfl)
structure mW (g:bR) (n:Nat) (c:Cell):Prop where
 s:0<=c.State/\c.State<n
 t:0<=c.bC/\c.bC<g.aX.length
 f:-1<=c.fg/\c.fg<n
 p:fO h' c.aW
 q:∀ p∈c.aW,o6 g p
 Uz:0<j8 c
theorem mW.len {g:bR}(aY:gq g) {n:Nat}{c:Cell}(h:mW g n c):c.aW.length<=60:=by
 have:=aY.lI;have:=i_.len (T:=g.aW.length) ⟨h.p,λx J=>⟨by have:=(h.q x J).1; omega,(h.q x J).2⟩⟩;omega
def vK (a b:Cell):Prop:=a.State<b.State\/(a.State=b.State/\a.bC<b.bC)
structure tK (g:bR) (n:Nat) (l:List Cell):Prop where
 ok:∀ c∈l,mW g n c
 Th:l.Pairwise vK
 n:l.length<=6000
theorem NV (g:bR) (aY:gq g) {m:List State}(hm:lj g m) (pz:List jP) (ao:pz.length<=81000) (hk:∀ l∈pz,vV g l):Tot (ve g m pz) (tK g m.length):=by
 have aC:=aY.ir;have y1:=hm.lG;have y8:=aY.lI;unfold ve;refine .aK (Ξ:=tK g m.length) ?_ λr av=>.az av;refine Tot.upto (λs=>s.2) m.length (λk s=>s.1.length<=40 * k/\(∀ c∈s.1,mW g m.length c)/\s.1.Pairwise vK/\∀ c∈s.1,c.State<k) rfl (by omega) ⟨Nat.le_refl 0,λp h=>(by cases h),.nil,λp h=>by cases h⟩ λk s B4 he bp=>?_;obtain ⟨L,i⟩:=s;obtain ⟨h1,ak,aN,bP⟩:=bp;simp only at he h1 ak aN bP ⊢;subst he;rw [ei k (by omega)];refine Tot.b8 (λa8=>?_) (λdM=>.az ⟨ak,aN,by show L.length<=_; omega⟩);have a8:k<m.length:=by omega
 have ep:=hm.oQ _ (List.getElem_mem a8);rw [ev a8];generalize m[k]=st at *;have VC:=ep.len aY;refine .aK (Ξ:=λL:List Cell=>L.length<=40 * (k+1)/\(∀ c∈L,mW g m.length c)/\L.Pairwise vK/\∀ c∈L,c.State<(k+1:Nat)) ?_ λr av=>.az ⟨a8,rfl,av⟩;refine Tot.upto (λs=>s.2) g.aX.length (λae s=>s.1.length<=40 * k+ae/\(∀ c∈s.1,mW g m.length c)/\s.1.Pairwise vK/\∀ c∈s.1,c.State<k\/(c.State=k/\c.bC<ae)) rfl (by omega) ⟨h1,ak,aN,λc aa=>.inl (bP c aa)⟩ λae s ab he bp=>?_;obtain ⟨L,i⟩:=s;obtain ⟨h1,ak,aN,bP⟩:=bp;simp only at he h1 ak aN bP ⊢;subst he;rw [ei ae (by omega)];refine Tot.b8 (λdW=>?_) (λdM=>.az ⟨by show L.length<=_; omega,ak,aN,λc aa=>by rcases bP c aa with h | h <;> omega⟩);refine .aK (Ξ:=λL:List Cell=>L.length<=40 * k+(ae+1)/\(∀ c∈L,mW g m.length c)/\L.Pairwise vK/\∀ c∈L,c.State<k\/(c.State=k/\c.bC<(ae+1:Nat))) ?_ λr av=>.az ⟨by omega,rfl,av⟩;refine .aK (Bf m k ae hm.tn) λfj R0=>?_;have R1:=R0.we hm;refine .aK (Ξ:=λ_=>True) ?_ λac _=>?_
 ·refine Tot.upto (λs=>s.2) st.Kernel.length (λ_ _=>True) rfl (by omega) trivial λz s bB he _=>?_;obtain ⟨b,i⟩:=s;simp only at he ⊢;subst he;rw [ei z (by omega)];simp only [Option.bind_some];refine Tot.b8 (λoE=>?_) (λ_=>.az trivial);have oE:z<st.Kernel.length:=by omega
  rw [ev oE];simp only [Option.bind_some];refine .aK (Ξ:=λ_=>True) (Tot.cE (λ_=>.az trivial) (λ_=>Tot.b8 (λ_=>Tot.b8 (λ_=>.az trivial) (λ_=>.az trivial)) (λ_=>.az trivial))) λ_ _=>.az ⟨oE,rfl,trivial⟩
 refine .aK (Ξ:=λP:List Int=>fO h' P/\∀ p∈P,o6 g p) ?_ λP dn=>?_
 ·refine Tot.upto (λs=>s.2) pz.length (λ_ s=>fO h' s.1/\∀ p∈s.1,o6 g p) rfl (by omega) ⟨.nil,λp h=>by cases h⟩ λz s bB he bp=>?_;obtain ⟨P,i⟩:=s;obtain ⟨g1,g2⟩:=bp;simp only at he g1 g2 ⊢;subst he;rw [ei z (by omega)];refine Tot.b8 (λoE=>?_) (λdM=>.az ⟨g1,g2⟩);have oE:z<pz.length:=by omega
  have jw:=hk _ (List.getElem_mem oE);rw [ev oE];generalize pz[z]=l at *;have tc:=jw.t.len;have BR:=i_.len (T:=g.aW.length) ⟨g1,λx J=>⟨by have:=(g2 x J).1; omega,(g2 x J).2⟩⟩;simp only [Option.bind_some];refine .aK (Ξ:=λP:List Int=>fO h' P/\∀ p∈P,o6 g p) ?_ λr av=>.az ⟨oE,rfl,av⟩;refine .aK (Ξ:=λ_=>True) (Tot.b8 (λ_=>.aK (Ik l.aX ae (by omega)) λ_ _=>.az trivial) (λ_=>.az trivial)) λc _=>?_;refine .aK (Ξ:=λP:List Int=>fO h' P/\∀ p∈P,o6 g p) (Tot.cE (λ_=>?_) (λ_=>.az ⟨g1,g2⟩)) λr av=>.az av;refine .aK (Bg P l.Prod g1 (by omega)) λr av=>.az ⟨av.1,λp aE=>?_⟩;rcases (av.2.2 p).1 aE with h | rfl
  ·exact g2 p h
  ·exact jw.p
 ·have BR:=i_.len (T:=g.aW.length) ⟨dn.1,λx J=>⟨by have:=(dn.2 x J).1; omega,(dn.2 x J).2⟩⟩;rw [IQ _ (by show P.length<=_; omega)];refine Tot.ax (.aK (Ξ:=λL:List Cell=>L.length<=40 * k+(ae+1)/\(∀ c∈L,mW g m.length c)/\L.Pairwise vK/\∀ c∈L,c.State<k\/(c.State=k/\c.bC<(ae+1:Nat))) (Tot.b8 (λba=>?_) (λ_=>.az ⟨by omega,ak,aN,λc aa=>by rcases bP c aa with h | h <;> omega⟩)) λr av=>.az av);refine .aK (Ξ:=λ_=>True) (Tot.ap (by simp [lim]; omega) trivial) λ_ _=>.az ⟨by simp; omega,λc aa=>?_,List.pairwise_append.2 ⟨aN,List.pairwise_singleton ..,λa bf b aF=>?_⟩,λc aa=>?_⟩
  ·rcases List.mem_append.1 aa with aa | aa
   ·exact ak c aa
   ·rw [List.mem_singleton.1 aa];exact ⟨⟨by show (0:Int)<=k; omega,by show (k:Int)<_; omega⟩,⟨by show (0:Int)<=ae; omega,by show (ae:Int)<_; omega⟩,R1,dn.1,dn.2,by omega⟩
  ·rw [List.mem_singleton.1 aF];rcases bP a bf with h | h
   ·exact .inl h
   ·exact .inr h
  ·rcases List.mem_append.1 aa with aa | aa
   ·rcases bP c aa with h | h
    ·exact .inl h
    ·exact .inr ⟨h.1,by omega⟩
   ·rw [List.mem_singleton.1 aa];exact .inr ⟨rfl,by show (ae:Int)<_; omega⟩
open Go Go.Own
theorem iw.S9 {m:ix}{T L:Nat}(h:iw m T L):kq m (3+T) m.bA.length 0 0 :=
 ⟨h.h6,h.lo,h.hi,by have:=h.ty; omega,rfl,by rw [h.gX]; decide,by rw [h.gu]; exact Nat.le_refl 0,by rw [h.gu]; exact λp aE=>absurd aE (by simp),h.lvl,h.iX⟩
theorem t78 (s:Source) (aF:tR s):Tot (vi s) λr=>r.2.1=0->gq r.1:=by
 unfold vi;refine .aK (t92 s aF) λc aa=>Tot.cE (λ_=>.az λh=>absurd h (by decide)) (λnO=>?_);have ok:HG s:=aa (by simpa using nO);refine .aK (Tot.mk (by decide) (rfl:List.replicate (3:Int).toNat false=List.replicate (3:Int).toNat false)) λa6 h_=>?_;have VK:=aF.D1;have Ca:=aF.aT
 -- declarations
 refine Tot.aK (Ξ:=λr=>iw r.1 (1001 * 1000) 0) ?_ λb5 cZ=>?_
 ·refine Tot.count (λz=>z.2.2) s.Decls.length (λz=>0<=z.2.2/\z.2.2<=s.Decls.length/\iw z.1 (1001 * z.2.2.toNat) 0/\z.1.bO<=z.2.2) ⟨Int.le_refl 0,by show (0:Int)<=_; omega,⟨by show a6.length=3; rw [<- h_]; rfl,Nat.le_refl 3,Nat.le_refl 3,Nat.le_refl 0,Nat.le_refl 0,rfl,rfl,Int.le_refl 0,by show ∀ t∈[_,_,_],0<=bC.Level t; simp⟩,Int.le_refl 0⟩ (by show (s.Decls.length:Int) - 0<_; omega) λz bB=>?_;obtain ⟨m,st,i⟩:=z;obtain ⟨ba,h1,hm,l1⟩:=bB;simp only at ba h1 hm l1 ⊢;have hw:aM (i+1)=i+1:=by rw [dC]; omega
  rw [hw];have Fb:=hm.lvl;refine Tot.b8 (λa8=>?_) (λ_=>.az (hm.mono (by omega) (Nat.le_refl _)));refine .aK (Tot.jK (Φ:=λy=>y∈s.Decls) ba a8 λy _ ay=>ay) λd aV=>?_;have oy:=aF.decls d aV;have JX:=oy.n;refine .aK (Ξ:=λ_=>True) (Tot.cE (λ_=>.az trivial) (λ_=>.az trivial)) λja _=>.aK (Ξ:=λae=>0<=ae/\ae<=i+1) (Tot.cE (λ_=>.az (by rw [dC]; omega)) (λ_=>.az (by omega))) λgG Js=>?_;refine Tot.aK (Ξ:=λr=>iw r.1 (1001 * i.toNat+1000) 0/\r.1.bO<=i+1) ?_ λdS yE=>.az ⟨⟨?_,?_,?_,?_⟩,?_,?_⟩
  ·refine Tot.count (λz=>z.2.2) d.fh.length (λz=>0<=z.2.2/\z.2.2<=d.fh.length/\iw z.1 (1001 * i.toNat+z.2.2.toNat) 0/\z.1.bO<=i+1) ⟨Int.le_refl 0,by show (0:Int)<=_; omega,⟨hm.h6,hm.lo,hm.hi,hm.ty,hm.gY,hm.gu,hm.gX,Js.1,hm.iX⟩,Js.2⟩ (by show (d.fh.length:Int) - 0<_; omega) λz bB=>?_;obtain ⟨m,st,k⟩:=z;obtain ⟨g0,g1,hm,l1⟩:=bB;simp only at g0 g1 hm l1 ⊢;have uP:aM (k+1)=k+1:=by rw [dC]; omega
   rw [uP];refine Tot.b8 (λp5=>?_) (λ_=>.az ⟨hm.mono (by omega) (Nat.le_refl _),l1⟩);have Cn:Tot (idx d.fh k) λy=>y∈d.fh:=Tot.jK g0 p5 λy _ ay=>ay;refine Tot.aK (Ξ:=λae=>iw ae.1 (1001 * i.toNat+k.toNat+1) 0/\ae.1.bO<=i+1) ?_ λae ab=>.az ⟨⟨?_,?_,?_,ab.2⟩,?_,?_⟩
   ·refine Tot.cE (λ_=>?_) (λ_=>?_)
    ·refine .aK Cn λx J=>.aK (t93 m d x hm.h6 (by have:=hm.hi; omega) (by have:=hm.ty; omega) (ok.decls d aV x J)) λb6 aY=>.az ⟨hm.grow aY,by show b6.bO<=_; rw [aY.lvl]; exact l1⟩
    ·refine Tot.aK (Ξ:=λae=>iw ae (1001 * i.toNat+k.toNat+1) 0/\ae.bO<=i+1) ?_ λae ab=>.aK Cn λ_ _=>.az ab;refine Tot.cE (λ_=>?_) (λ_=>.az ⟨hm.mono (by omega) (Nat.le_refl _),l1⟩);exact .aK Cn λ_ _=>.aK Cn λ_ _=>.aK (t94 m _ _) λb6 j5=>.az ⟨(hm.same j5.1).mono (by omega) (Nat.le_refl _),by rw [j5.1.iX]; exact l1⟩
   ·show 0<=k+1; omega
   ·show k+1<=(d.fh.length:Int); omega
   ·show iw ae.1 (1001 * i.toNat+(k+1).toNat) 0;exact ab.1.mono (by omega) (Nat.le_refl _)
   ·show k<k+1; omega
   ·show k+1<=(d.fh.length:Int); omega
  ·show 0<=i+1; omega
  ·show i+1<=(s.Decls.length:Int); omega
  ·show iw dS.1 (1001 * (i+1).toNat) 0;exact yE.1.mono (by omega) (Nat.le_refl _)
  ·exact yE.2
  ·show i<i+1; omega
  ·show i+1<=(s.Decls.length:Int); omega
 -- what stands on the left
 refine Tot.aK (Ξ:=λr=>iw r (1001 * 1000) 1000) ?_ λcU El=>?_
 ·refine Tot.count (λz=>z.2) s.e1.length (λz=>0<=z.2/\z.2<=s.e1.length/\iw z.1 (1001 * 1000) z.2.toNat) ⟨Int.le_refl 0,by show (0:Int)<=_; omega,cZ⟩ (by show (s.e1.length:Int) - 0<_; omega) λz bB=>?_;obtain ⟨m,i⟩:=z;obtain ⟨ba,h1,hm⟩:=bB;simp only at ba h1 hm ⊢;have hw:aM (i+1)=i+1:=by rw [dC]; omega
  rw [hw];refine Tot.b8 (λa8=>?_) (λ_=>.az (hm.mono (Nat.le_refl _) (by omega)));have s5:=hm.hi;have wP:=hm.gY;refine Tot.aK (Ξ:=λae=>iw ae (1001 * 1000) (i.toNat+1)) ?_ λae ab=>.az ⟨⟨?_,?_,?_⟩,?_,?_⟩
  ·refine .aK (Tot.jK (Φ:=λ_=>True) ba a8 λy _ ay=>trivial) λr av=>.aK (t95 m _ (by simp only [fz]; omega)) λt _=>?_;refine Tot.aK (Ξ:=λae=>iw ae (1001 * 1000) i.toNat) ?_ λfr rM=>?_
   ·exact Tot.cE (λ_=>.aK (t94 m _ _) λb6 j5=>.az (hm.same j5.1)) (λ_=>.az hm)
   ·have VU:=rM.gY;refine .aK (t96 fr _ (by simp only [fz]; omega)) λk _=>?_;refine Tot.aK (Ξ:=λl=>l.length<=i.toNat+1) ?_ λl ao=>.az ⟨rM.h6,rM.lo,rM.hi,rM.ty,ao,rM.gu,rM.gX,rM.lvl,rM.iX⟩;refine Tot.cE (λ_=>?_) (λ_=>.az (by omega));exact .aK (Ξ:=λ_=>True) (Tot.ap (by simp [lim]; omega) trivial) λ_ _=>.az (by simp; omega)
  ·show 0<=i+1; omega
  ·show i+1<=(s.e1.length:Int); omega
  ·show iw ae (1001 * 1000) (i+1).toNat;exact ab.mono (Nat.le_refl _) (by omega)
  ·show i<i+1; omega
  ·show i+1<=(s.e1.length:Int); omega
 -- types and starts
 refine Tot.aK (Ξ:=λr=>iw r (1001 * 1000) 1000) ?_ λbL uz=>?_
 ·refine Tot.count (λz=>z.2) s.Decls.length (λz=>0<=z.2/\z.2<=s.Decls.length/\iw z.1 (1001 * 1000) 1000) ⟨Int.le_refl 0,by show (0:Int)<=_; omega,El⟩ (by show (s.Decls.length:Int) - 0<_; omega) λz bB=>?_;obtain ⟨m,i⟩:=z;obtain ⟨ba,h1,hm⟩:=bB;simp only at ba h1 hm ⊢;have hw:aM (i+1)=i+1:=by rw [dC]; omega
  rw [hw];refine Tot.b8 (λa8=>?_) (λ_=>.az hm);refine Tot.aK (Ξ:=λr=>iw r (1001 * 1000) 1000) ?_ λrj P6=>.az ⟨⟨?_,?_,P6⟩,?_,?_⟩
  ·have oD:i.toNat<s.Decls.length:=by omega
   have hi:idx s.Decls i=some s.Decls[i.toNat]:=by simp [idx,ba,oD]
   rw [hi];generalize aV:s.Decls[i.toNat]=d;have yW:d∈s.Decls:=by rw [<- aV]; exact List.getElem_mem oD
   have JX:=(aF.decls d yW).n;refine Tot.count (λz=>z.2) d.fh.length (λz=>0<=z.2/\z.2<=d.fh.length/\iw z.1 (1001 * 1000) 1000) ⟨Int.le_refl 0,by show (0:Int)<=_; omega,hm⟩ (by show (d.fh.length:Int) - 0<_; omega) λz bB=>?_;obtain ⟨m,k⟩:=z;obtain ⟨g0,g1,hm⟩:=bB;simp only at g0 g1 hm ⊢;have uP:aM (k+1)=k+1:=by rw [dC]; omega
   rw [uP];refine Tot.ax (Tot.b8 (λp5=>?_) (λ_=>.az hm));have wP:=hm.gY;refine Tot.aK (Ξ:=λae=>iw ae (1001 * 1000) 1000) ?_ λae ab=>.az ⟨⟨?_,?_,ab⟩,?_,?_⟩
   ·refine Tot.ax (.aK (Tot.jK (Φ:=λ_=>True) g0 p5 λ_ _ _=>trivial) λx _=>?_);refine .aK (Ξ:=λ_=>True) (Tot.ax (Tot.cE (λ_=>.aK (t96 m _ (by simp only [fz]; omega)) λ_ _=>.az trivial) (λ_=>.az trivial))) λc _=>?_;refine Tot.aK (Ξ:=λae=>iw ae (1001 * 1000) 1000) ?_ λae ab=>.az ab;exact Tot.cE (λ_=>.aK (t94 m _ _) λb6 j5=>.az (hm.same j5.1)) (λ_=>.az hm)
   ·show 0<=k+1; omega
   ·show k+1<=(d.fh.length:Int); omega
   ·show k<k+1; omega
   ·show k+1<=(d.fh.length:Int); omega
  ·show 0<=i+1; omega
  ·show i+1<=(s.Decls.length:Int); omega
  ·show i<i+1; omega
  ·show i+1<=(s.Decls.length:Int); omega
 -- the start
 have uK:=ok.pos;refine Tot.aK (Ξ:=λ_=>True) (Tot.cE (λ_=>.aK (Ξ:=λ_=>True) (Tot.jK (by decide) (by omega) λ_ _ _=>trivial) λ_ _=>.az trivial) (λ_=>.az trivial)) λuY _=>?_;have VW:=uz.gY;refine .aK (t96 bL uY (by simp only [fz]; omega)) λhQ pf=>?_;have P9:-1<=hQ/\hQ<bL.bA.length:=by rcases pf with h | h <;> omega
 -- the alternatives
 have jw:bL.bA.length<=1000:=uz.gY;generalize Qu:bL.bA.length=L at jw P9;refine Tot.aK (Ξ:=λr=>kq r (3+1001 * 1000+1001 * 1000000) L (1001 * 1000000) (1+1001 * 1000000)/\1<=r.aq.aW.length) ?_ λaZ P_=>?_
 ·have rU:=uz.S9;rw [Qu] at rU;refine Tot.count (λz=>z.2) s.e1.length (λz=>0<=z.2/\z.2<=s.e1.length/\kq z.1 (3+1001 * 1000+1001 * (1000 * z.2.toNat)) L (1001 * (1000 * z.2.toNat)) (1+1001 * (1000 * z.2.toNat))/\1<=z.1.aq.aW.length) ⟨Int.le_refl 0,by show (0:Int)<=_; omega,⟨rU.h6,rU.lo,rU.hi,rU.ty,rU.gY,rU.gX,Nat.le_refl 1,λp aE=>?_,rU.lvl,rU.iX⟩,Nat.le_refl 1⟩ (by show (s.e1.length:Int) - 0<_; omega) λz bB=>?_
  ·rw [List.mem_singleton.1 aE];have VO:=uz.gX;have l0:=uz.lo;refine ⟨⟨Int.le_refl 0,by show (0:Int)<=L+bL.bx; omega⟩,λy ay=>?_,⟨by show (-1:Int)<=-1; omega,by show (-1:Int)<_; omega⟩⟩;have ay:y∈[aM (1001+hQ)]:=ay;rw [List.mem_singleton.1 ay];have:aM (1001+hQ)=1001+hQ:=by rw [dC]; omega
   rw [this];exact .inr (by show 1000<=1001+hQ/\1001+hQ<=1000+((L:Int)+bL.bx); omega)
  ·obtain ⟨m,i⟩:=z;obtain ⟨ba,h1,hm,s'⟩:=bB;simp only at ba h1 hm s' ⊢;have hw:aM (i+1)=i+1:=by rw [dC]; omega
   rw [hw];refine Tot.b8 (λa8=>?_) (λ_=>.az ⟨hm.mono (by omega) (by omega) (by omega),s'⟩);refine Tot.aK (Ξ:=λr=>kq r (3+1001 * 1000+1001 * (1000 * (i.toNat+1))) L (1001 * (1000 * (i.toNat+1))) (1+1001 * (1000 * (i.toNat+1)))/\1<=r.aq.aW.length) ?_ λxK Jw=>.az ⟨⟨?_,?_,?_,Jw.2⟩,?_,?_⟩
   ·have oD:i.toNat<s.e1.length:=by omega
    have hi:idx s.e1 i=some s.e1[i.toNat]:=by simp [idx,ba,oD]
    rw [hi];generalize aV:s.e1[i.toNat]=d;have yW:d∈s.e1:=by rw [<- aV]; exact List.getElem_mem oD
    have JX:=(aF.rules d yW).n;refine Tot.count (λz=>z.2) d.gZ.length (λz=>0<=z.2/\z.2<=d.gZ.length/\kq z.1 (3+1001 * 1000+1001 * (1000 * i.toNat+z.2.toNat)) L (1001 * (1000 * i.toNat+z.2.toNat)) (1+1001 * (1000 * i.toNat+z.2.toNat))/\1<=z.1.aq.aW.length) ⟨Int.le_refl 0,by show (0:Int)<=_; omega,hm,s'⟩ (by show (d.gZ.length:Int) - 0<_; omega) λz bB=>?_;obtain ⟨m,k⟩:=z;obtain ⟨g0,g1,hm,s'⟩:=bB;simp only at g0 g1 hm s' ⊢;have uP:aM (k+1)=k+1:=by rw [dC]; omega
    rw [uP];refine Tot.ax (Tot.b8 (λp5=>?_) (λ_=>.az ⟨hm.mono (by omega) (by omega) (by omega),s'⟩));refine Tot.ax (Tot.ax (.aK (Tot.jK (Φ:=λy=>y∈d.gZ) g0 p5 λ_ _ h=>h) λa bf=>?_));refine .aK (t97 m d.Left a hm (by omega) (by omega) (by omega) (by omega) ((aF.rules d yW).alts a bf) (ok.rules d yW a bf)) λb6 j5=>.az ⟨⟨?_,?_,?_,j5.2⟩,?_,?_⟩
    ·show 0<=k+1; omega
    ·show k+1<=(d.gZ.length:Int); omega
    ·show kq b6 (3+1001 * 1000+1001 * (1000 * i.toNat+(k+1).toNat)) L (1001 * (1000 * i.toNat+(k+1).toNat)) (1+1001 * (1000 * i.toNat+(k+1).toNat));exact j5.1.mono (by omega) (by omega) (by omega)
    ·show k<k+1; omega
    ·show k+1<=(d.gZ.length:Int); omega
   ·show 0<=i+1; omega
   ·show i+1<=(s.e1.length:Int); omega
   ·show kq xK (3+1001 * 1000+1001 * (1000 * (i+1).toNat)) L (1001 * (1000 * (i+1).toNat)) (1+1001 * (1000 * (i+1).toNat));exact Jw.1.mono (by omega) (by omega) (by omega)
   ·show i<i+1; omega
   ·show i+1<=(s.e1.length:Int); omega
 obtain ⟨pg,P'⟩:=P_;refine Tot.pc (λh=>.az λaR=>absurd aR h) (λhe=>?_);have Vs:=pg.gY;have Vq:=pg.hi;have Vu:=pg.ty;have Vr:=pg.gX;have Vt:=pg.xw
 -- nonterminals
 refine Tot.aK (Ξ:=λl=>l.length=1+L) ?_ λtG Jx=>?_
 ·refine Tot.count (λz=>z.2) aZ.bA.length (λz=>0<=z.2/\z.2<=aZ.bA.length/\z.1.length=1+z.2.toNat) ⟨Int.le_refl 0,by show (0:Int)<=_; omega,rfl⟩ (by show (aZ.bA.length:Int) - 0<_; omega) λz bB=>?_;obtain ⟨l,i⟩:=z;obtain ⟨ba,h1,ao⟩:=bB;simp only at ba h1 ao ⊢;have hw:aM (i+1)=i+1:=by rw [dC]; omega
  rw [hw];refine Tot.b8 (λa8=>?_) (λ_=>.az (by show l.length=1+L; omega));refine .aK (Tot.jK (Φ:=λ_=>True) ba a8 λ_ _ _=>trivial) λlQ _=>.aK (t98 _ _ (by show aZ.bN.length<=_; simp only [fz]; omega)) λvD Qa=>?_;have Vv:vD=-1\/(0<=vD/\vD<aZ.bN.length):=Qa;refine .aK (Ξ:=λ_=>True) (Tot.b8 (λh=>.aK (Ξ:=λ_=>True) (Tot.jK h (by omega) λ_ _ _=>trivial) λ_ _=>.az trivial) (λ_=>.az trivial)) λpx _=>?_;refine .aK (Ξ:=λ_=>True) (Tot.ap (by simp [lim]; omega) trivial) λ_ _=>.az ⟨⟨?_,?_,?_⟩,?_,?_⟩
  ·show 0<=i+1; omega
  ·show i+1<=(aZ.bA.length:Int); omega
  ·show (l++[_]).length=1+(i+1).toNat;simp; omega
  ·show i<i+1; omega
  ·show i+1<=(aZ.bA.length:Int); omega
 refine Tot.aK (Ξ:=λl=>(l.length:Int)=1+L+aZ.bx) ?_ λiG Jy=>?_
 ·refine Tot.count (λz=>z.2) (aZ.bx+1) (λz=>1<=z.2/\z.2<=aZ.bx+1/\(z.1.length:Int)=1+L+(z.2 - 1)) ⟨Int.le_refl 1,by show (1:Int)<=_; omega,by show (tG.length:Int)=1+L+(1 - 1); omega⟩ (by show aZ.bx+1 - 1<_; omega) λz bB=>?_;obtain ⟨l,i⟩:=z;obtain ⟨ba,h1,ao⟩:=bB;simp only at ba h1 ao ⊢;have hw:aM (i+1)=i+1:=by rw [dC]; omega
  rw [hw];refine Tot.b8 (λa8=>?_) (λ_=>.az (by show (l.length:Int)=1+L+aZ.bx; omega));refine .aK (t99 i (by omega) (by omega)) λC9 Vw=>.aK (Ξ:=λ_=>True) (Tot.cat (by show 1+C9.size<=_; omega) trivial) λqx _=>?_;refine .aK (Ξ:=λ_=>True) (Tot.ap (by simp [lim]; omega) trivial) λ_ _=>.az ⟨⟨?_,?_,?_⟩,?_,?_⟩
  ·show 1<=i+1; omega
  ·show i+1<=aZ.bx+1; omega
  ·show ((l++[_]).length:Int)=1+L+(i+1 - 1);simp; omega
  ·show i<i+1; omega
  ·show i+1<=aZ.bx+1; omega
 -- numbers
 have Rr:=pg.h6;refine Tot.aK (Ξ:=λl=>l.length=aZ.aq.aX.length/\∀ t∈l,0<=t.Level) ?_ λj9 Qb=>?_
 ·refine Tot.count (λz=>z.2.2) aZ.aq.aX.length (λz=>3<=z.2.2/\z.2.2<=aZ.aq.aX.length/\z.1.length=aZ.aq.aX.length/\∀ t∈z.1,0<=t.Level) ⟨Int.le_refl 3,by have:=pg.lo; show (3:Int)<=_; omega,rfl,pg.iX⟩ (by show (aZ.aq.aX.length:Int) - 3<_; omega) λz bB=>?_;obtain ⟨l,n,i⟩:=z;obtain ⟨ba,h1,ao,hv⟩:=bB;simp only at ba h1 ao hv ⊢;have hw:aM (i+1)=i+1:=by rw [dC]; omega
  rw [hw];refine Tot.b8 (λa8=>?_) (λ_=>.az ⟨ao,hv⟩);refine Tot.aK (Ξ:=λae=>ae.1.length=aZ.aq.aX.length/\∀ t∈ae.1,0<=t.Level) ?_ λae ab=>.az ⟨⟨?_,?_,ab⟩,?_,?_⟩
  ·refine .aK (Tot.jK (Φ:=λ_=>True) (by omega) (by rw [Rr]; omega) λ_ _ _=>trivial) λ_ _=>?_;refine Tot.aK (Ξ:=λae=>ae.1.length=aZ.aq.aX.length/\∀ t∈ae.1,0<=t.Level) ?_ λae ab=>.az ab;refine Tot.cE (λ_=>?_) (λ_=>.az ⟨ao,hv⟩);refine .aK (Tot.jK (Φ:=λy=>y∈l) (by omega) a8 λ_ _ h=>h) λy ay=>.az ⟨by show (l.set _ _).length=_; simp [ao],λt aC=>?_⟩;rcases zB aC with aC | rfl
   ·exact hv t aC
   ·exact (hv y ay:0<=y.Level)
  ·show 3<=i+1; omega
  ·show i+1<=(aZ.aq.aX.length:Int); omega
  ·show i<i+1; omega
  ·show i+1<=(aZ.aq.aX.length:Int); omega
 -- limits
 obtain ⟨Jz,Qc⟩:=Qb;refine Tot.aK (Ξ:=λc=>c=false->j9.length<=40/\iG.length<=24/\aZ.aq.aW.length<=60) ?_ λqI Ei=>?_
 ·refine Tot.b8 (λ_=>.az λh=>by cases h) (λh1=>Tot.b8 (λ_=>.az λh=>by cases h) (λak=>.az λh=>?_));have aN:=of_decide_eq_false h;omega
 refine Tot.aK (Ξ:=λc=>c=false->qI=false/\∀ p∈aZ.aq.aW,p.e7.length<=8) ?_ λxI Ej=>?_
 ·refine Tot.count (λz=>z.2) aZ.aq.aW.length (λz=>0<=z.2/\z.2<=aZ.aq.aW.length/\(z.1=false->qI=false/\∀ (ae:Nat) (p:Prod),(ae:Int)<z.2->aZ.aq.aW[ae]?=some p->p.e7.length<=8)) ⟨Int.le_refl 0,by show (0:Int)<=_; omega,λh=>⟨h,λae p ab=>by have ab:(ae:Int)<0:=ab; omega⟩⟩ (by show (aZ.aq.aW.length:Int) - 0<_; omega) λz bB=>?_;obtain ⟨c,i⟩:=z;obtain ⟨ba,h1,ao⟩:=bB;simp only at ba h1 ao ⊢;have hw:aM (i+1)=i+1:=by rw [dC]; omega
  rw [hw];refine Tot.b8 (λa8=>?_) (λdM=>.az λh=>⟨(ao h).1,λp aE=>?_⟩)
  ·refine Tot.aK (Ξ:=λtZ=>tZ=false->c=false/\∀ p,aZ.aq.aW[i.toNat]?=some p->p.e7.length<=8) ?_ λtZ fa=>.az ⟨⟨?_,?_,λh=>?_⟩,?_,?_⟩
   ·refine Tot.cE (λ_=>.az λh=>by cases h) (λRa=>.aK (Tot.jK (Φ:=λy=>idx aZ.aq.aW i=some y) ba a8 λ_ h _=>h) λy ay=>.az λh=>⟨Ra,λp aE=>?_⟩);have ak:=(pt ay).2.2;rw [aE] at ak; cases ak;have:=of_decide_eq_false h;omega
   ·show 0<=i+1; omega
   ·show i+1<=(aZ.aq.aW.length:Int); omega
   ·obtain ⟨ar,a2⟩:=fa h;obtain ⟨hq,h2⟩:=ao ar;refine ⟨hq,λae p ab aE=>?_⟩;have ab:(ae:Int)<i+1:=ab;by_cases Ru:(ae:Int)<i
    ·exact h2 ae p Ru aE
    ·have:ae=i.toNat:=by omega
     subst this;exact a2 p aE
   ·show i<i+1; omega
   ·show i+1<=(aZ.aq.aW.length:Int); omega
  ·obtain ⟨ae,ab,rfl⟩:=List.mem_iff_getElem.1 aE;exact (ao h).2 ae _ (by omega) (List.getElem?_eq_getElem ab)
 refine Tot.cE (λ_=>.az λh=>absurd h (by decide)) (λaa=>.az λ_=>?_);obtain ⟨ar,a2⟩:=Ej aa;obtain ⟨hq,h2,kQ⟩:=Ei ar;have l0:=pg.lo;refine ⟨⟨?_,hq⟩,⟨?_,h2⟩,⟨P',kQ⟩,λp aE=>?_,a2,Qc⟩
 ·show 3<=j9.length; omega
 ·show 1<=iG.length; omega
 ·have:=pg.gu p aE;exact this.mono (by show _<=j9.length; omega) (by show (L:Int)+aZ.bx<=((iG.length:Nat):Int) - 1; omega)
theorem t68 (s:Source) (aF:tR s):Tot (xq s) λr=>r.2=true->gq r.1:=by
 unfold xq;exact .aK (t78 s aF) λr av=>.az λh=>av (of_decide_eq_true h)
theorem NU (s:Source) (aF:tR s):Tot (xn s) λr=>r.2.2=true->gq r.1/\lj r.1 r.2.1:=by
 unfold xn;refine .aK (t68 s aF) λr av=>Tot.cE (λ_=>.az λh=>by cases h) (λh=>?_);have aY:=av (by simpa using h);refine .aK (NY r.1 aY) λm hm=>.az λh=>⟨aY,?_⟩;have h:m.2=0:=of_decide_eq_true h;rcases hm with hm | hm
 ·exact hm.2
 ·omega
structure xQ (g:bR) (m:List State) (cs:List Cell):Prop where
 ux:gq g
 V':lj g m
 ce:tK g m.length cs
theorem Ii (s:Source) (aF:tR s):Tot (q2 s) λr=>r.2.2.2=true->xQ r.1 r.2.1 r.2.2.1:=by
 unfold q2;refine .aK (NU s aF) λr av=>Tot.cE (λ_=>.az λh=>by cases h) (λh=>?_);obtain ⟨aY,hm⟩:=av (by simpa using h);exact .aK (NW r.1 aY hm) λpz Kb=>.aK (NV r.1 aY hm pz Kb.1 Kb.2) λcs hy=>.az λ_=>⟨aY,hm,hy⟩
def qh (g:bR) (p:Int):Int × Int:=match idx g.aW p with
 | some q=>match idx g.aX q.Prec with
  | some t=>(t.Level,t.eN)
  | none=>(0,0)
 | none=>(0,0)
def dec (g:bR) (p t:Int):Int:=match idx g.aX t with
 | some k=>if (qh g p).1=0\/k.Level=0 then 0 else if (qh g p).1<k.Level then 1 else if k.Level<(qh g p).1 then 2 else if k.eN=1 then 2 else if k.eN=2 then 1 else 3
 | none=>0
theorem Pq (g:bR) (aY:gq g) (p:Int) (aE:0<=p/\p<g.aW.length):GB g p=some (qh g p):=by
 obtain ⟨q,bK,hm⟩:=kY aE.1 aE.2;have aF:=(aY.gu q hm).prec;unfold GB qh;have d1:decide (p<0)=false:=decide_eq_false (by omega);have d2:decide ((g.aW.length:Int)<=p)=false:=decide_eq_false (by omega);rw [d1,d2,bK];simp only [cond_false,Option.bind_some];by_cases h:q.Prec<0
 ·rw [decide_eq_true h,uU (.inl h)]; rfl
 ·obtain ⟨t,aC,_⟩:=kY (l:=g.aX) (i:=q.Prec) (by omega) aF.2;rw [decide_eq_false h,aC]; rfl
theorem Pn (g:bR) (aY:gq g) (p t:Int) (aE:0<=p/\p<g.aW.length) (aC:0<=t/\t<g.aX.length):Gy g p t=some (dec g p t):=by
 obtain ⟨k,hk,hm⟩:=kY aC.1 aC.2;unfold Gy dec;rw [Pq g aY p aE,hk];have d1:decide (t<0)=false:=decide_eq_false (by omega);have d2:decide ((g.aX.length:Int)<=t)=false:=decide_eq_false (by omega);rw [d1,d2];generalize qh g p=x;simp only [cond_false,Option.bind_some];by_cases h1:x.1=0
 ·simp [h1]
 ·by_cases ak:k.Level=0
  ·simp [h1,ak]
  ·rw [if_neg (by omega)];simp only [h1,ak,decide_false,cond_false,Option.bind_some];by_cases aN:x.1<k.Level
   ·simp [aN]
   ·by_cases bP:k.Level<x.1
    ·simp [aN,bP]
    ·by_cases cZ:k.eN=1
     ·simp [aN,bP,cZ]
     ·by_cases dv:k.eN=2 <;> simp [aN,bP,cZ,dv]
def jF (g:bR) (c:Cell):Act:=match c.aW with
 | []=>if c.gR=true then ⟨3,0⟩ else ⟨1,c.fg⟩
 | p::_=>if c.gR=true then ⟨3,0⟩ else if c.fg<0 then ⟨2,p⟩ else if dec g p c.bC=2 then ⟨2,p⟩ else if dec g p c.bC=3 then ⟨4,0⟩ else ⟨1,c.fg⟩
def oq (g:bR) (c:Cell):List eF:=match c.aW with
 | []=>[]
 | p::r=>r.map (λx=>(⟨c.State,c.bC,p,x⟩:eF))++(if c.gR=true\/(0<=c.fg/\dec g p c.bC=0) then [(⟨c.State,c.bC,-1,p⟩:eF)] else [])
structure qy (g:bR) (n:Nat) (a:Act):Prop where
 k:0<=a.Kind/\a.Kind<=4
 hf:a.Kind=0->a.N=0
 lG:a.Kind=1->0<=a.N/\a.N<n
 pA:a.Kind=2->o6 g a.N
 S':a.Kind=3->a.N=0
 Wc:a.Kind=4->a.N=0
theorem M1 {g:bR}{n:Nat}{c:Cell}(h:mW g n c):qy g n (jF g c)/\(jF g c).Kind≠0:=by
 have zg:=h.Uz;have bh:=h.f;have a3:qy g n ⟨3,0⟩:=⟨⟨by decide,by decide⟩,λh=>(by cases h),λh=>(by cases h),λh=>(by cases h),λ_=>rfl,λh=>by cases h⟩;have a4:qy g n ⟨4,0⟩:=⟨⟨by decide,by decide⟩,λh=>(by cases h),λh=>(by cases h),λh=>(by cases h),λ_=>rfl,λ_=>rfl⟩;have ar:0<=c.fg->qy g n ⟨1,c.fg⟩:=λba=>⟨⟨by show (0:Int)<=1; decide,by show (1:Int)<=4; decide⟩,λh=>(by cases h),λ_=>⟨ba,bh.2⟩,λh=>(by cases h),λh=>(by cases h),λh=>by cases h⟩;have a2:∀ p∈c.aW,qy g n ⟨2,p⟩:=λp aE=>⟨⟨by show (0:Int)<=2; decide,by show (2:Int)<=4; decide⟩,λh=>(by cases h),λh=>(by cases h),λ_=>h.q p aE,λh=>(by cases h),λh=>by cases h⟩;unfold jF;unfold j8 at zg;cases dn:c.aW with
 | nil =>
  simp only;rw [dn] at zg;by_cases h1:c.gR=true
  ·rw [if_pos h1]; exact ⟨a3,by decide⟩
  ·rw [if_neg h1];rw [if_neg h1] at zg;refine ⟨ar ?_,by show (1:Int)≠0; decide⟩;by_cases ak:0<=c.fg
   ·exact ak
   ·rw [if_neg ak] at zg; simp at zg
 | cons p r =>
  simp only;have aE:=a2 p (by rw [dn]; simp);split
  ·exact ⟨a3,by decide⟩
  ·split
   ·exact ⟨aE,by show (2:Int)≠0; decide⟩
   ·split
    ·exact ⟨aE,by show (2:Int)≠0; decide⟩
    ·split
     ·exact ⟨a4,by decide⟩
     ·exact ⟨ar (by omega),by show (1:Int)≠0; decide⟩
theorem Ip {g:bR}(aY:gq g) {n:Nat}{c:Cell}(h:mW g n c):(oq g c).length<=60:=by
 have ao:=h.len aY;unfold oq;cases dn:c.aW with
 | nil=>simp
 | cons p r =>
  rw [dn,List.length_cons] at ao;simp only [List.length_append,List.length_map];split
  ·simp; omega
  ·simp; omega
theorem Pk (g:bR) (aY:gq g) {n:Nat}(c:Cell) (h:mW g n c):CI g c=some (jF g c,oq g c):=by
 have ao:=h.len aY
 suffices aL:Tot (CI g c) λr=>r=(jF g c,oq g c) by
  obtain ⟨r,av,e⟩:=aL; rw [av,e]
 unfold CI jF oq;cases dn:c.aW with
 | nil =>
  simp only;refine .aK (Ξ:=λl:List eF=>l=[]) ?_ λl ao=>?_
  ·refine Tot.loop (λs=>s=(([]:List eF),(1:Int))) (λ_=>0) rfl (by show 0<1000000000000000000; omega) λs aL=>?_;subst aL;exact .az rfl
  ·subst ao;cases h1:c.gR
   ·exact .az (by simp)
   ·exact .az (by simp)
 | cons p r =>
  rw [dn,List.length_cons] at ao;simp only;have jH:idx (p::r) 0=some p:=rfl;refine .aK (Ξ:=λl:List eF=>l=r.map (λx=>(⟨c.State,c.bC,p,x⟩:eF))) ?_ λl ao=>?_
  ·refine Tot.count (λs=>s.2) ((r.length:Int)+1) (λs=>∃ k:Nat,k<=r.length/\s.2=((k+1:Nat):Int)/\s.1=(r.take k).map (λx=>(⟨c.State,c.bC,p,x⟩:eF))) ⟨0,Nat.zero_le _,rfl,rfl⟩ (by show (r.length:Int)+1 - 1<_; omega) λs aL=>?_;obtain ⟨l,i⟩:=s;obtain ⟨k,hk,he,bp⟩:=aL;simp only at he bp ⊢;subst he bp;rw [ei (k+1) (by omega),jH];refine Tot.b8 (λa8=>?_) (λdM=>.az ?_)
   ·rw [List.length_cons] at a8;have a8:k<r.length:=by omega
    have de:idx (p::r) ((k+1:Nat):Int)=some r[k]:=by
     simp only [idx,if_pos (show (0:Int)<=((k+1:Nat):Int) by omega),Int.toNat_natCast,List.getElem?_cons_succ];exact List.getElem?_eq_getElem a8
    rw [de];refine Tot.ax (Tot.ax (.aK (Ξ:=λ_=>True) (Tot.ap (by simp [lim]; omega) trivial) λ_ _=>.az ⟨⟨k+1,by omega,rfl,?_⟩,by show ((k+1:Nat):Int)<((k+1+1:Nat):Int); omega,by show ((k+1+1:Nat):Int)<=(r.length:Int)+1; omega⟩));show _=(r.take (k+1)).map _;rw [ko a8,List.map_append]; rfl
   ·rw [List.length_cons] at dM;rw [List.take_of_length_le (by omega)]; rfl
  ·subst ao;have aE:=h.q p (by rw [dn]; simp);have D5:=Pn g aY p c.bC ⟨by have:=aE.1; omega,aE.2⟩ h.t;have dl:decide (((p::r).length:Int)=0)=false:=decide_eq_false (by simp; omega);simp only [jH,D5,dl,cond_false,Option.bind_some];generalize s4:dec g p c.bC=v;refine ⟨_,?_,rfl⟩;have JQ:eI (r.map (λx=>(⟨c.State,c.bC,p,x⟩:eF))) [(⟨c.State,c.bC,(-1),p⟩:eF)]=some (r.map (λx=>(⟨c.State,c.bC,p,x⟩:eF))++[⟨c.State,c.bC,(-1),p⟩]):=by
    unfold eI; rw [if_pos (by simp [lim]; omega)]
   cases h1:c.gR
   ·by_cases ak:c.fg<0
    ·have aN:¬ (0<=c.fg):=by omega
     simp [ak,aN]
    ·have aN:0<=c.fg:=by omega
     by_cases bP:v=0
     ·simp [ak,aN,bP,JQ]
     ·by_cases cZ:v=2
      ·simp [ak,aN,cZ]
      ·by_cases dv:v=3
       ·simp [ak,aN,dv]
       ·simp [ak,aN,bP,cZ,dv]
   ·simp [JQ]
def rowOf (g:bR) (l:List Cell):List Act:=l.foldl (λrow c=>row.set c.bC.toNat (jF g c)) (List.replicate g.aX.length ⟨0,0⟩)
def fC (cs:List Cell) (q:Nat):List Cell:=cs.filter λc=>decide (c.State=(q:Int))
def go (m:List State) (q s:Int):Int:=(pC m q s).getD (-1)
theorem go_eq {g:bR}{m:List State}(hm:lj g m) (q s:Int):pC m q s=some (go m q s)/\GoTo m q s (go m q s):=by
 obtain ⟨r,av,h⟩:=Bf m q s hm.tn;unfold go;rw [av];exact ⟨rfl,h⟩
theorem CT (g:bR):∀ (l:List Cell),(rowOf g l).length=g.aX.length:=λl=>by
 suffices h:∀ (l:List Cell) (r:List Act),(l.foldl (λrow c=>row.set c.bC.toNat (jF g c)) r).length=r.length by
  unfold rowOf; rw [h]; simp
 intro l
 induction l with
 | nil=>intro r; rfl
 | cons c l aS=>intro r; rw [List.foldl_cons,aS,List.length_set]
theorem Lw (g:bR) (l:List Cell) (c:Cell):rowOf g (l++[c])=(rowOf g l).set c.bC.toNat (jF g c):=by
 unfold rowOf; rw [List.foldl_append]; rfl
theorem TO {g:bR}{n:Nat}:∀ {l:List Cell},(∀ c∈l,mW g n c)->∀ a∈rowOf g l,qy g n a:=by
 intro l h
 suffices aL:∀ (l:List Cell) (r:List Act),(∀ c∈l,mW g n c)->(∀ a∈r,qy g n a)->∀ a∈l.foldl (λrow c=>row.set c.bC.toNat (jF g c)) r,qy g n a by
  refine aL l _ h λa bf=>?_;rw [List.eq_of_mem_replicate bf];exact ⟨⟨by decide,by decide⟩,λ_=>rfl,λh=>(by cases h),λh=>(by cases h),λh=>(by cases h),λh=>by cases h⟩
 intro l
 induction l with
 | nil=>intro r _ av; exact av
 | cons c l aS =>
  intro r ao av;rw [List.foldl_cons];refine aS _ (λd aV=>ao d (by simp [aV])) λa bf=>?_;rcases List.mem_or_eq_of_mem_set bf with h | h
  ·exact av a h
  ·rw [h]; exact (M1 (ao c (by simp))).1
def ox (g:bR) (m:List State) (q:Nat):List Int:=(List.range g.bt.length).map λa:Nat=>go m q (1000+(a:Int))
def ha (g:bR) (l:List Cell):List eF:=l.flatMap (oq g)
theorem Bi {g:bR}(aY:gq g) {n:Nat}:∀ {l:List Cell},(∀ c∈l,mW g n c)->(ha g l).length<=60 * l.length
 | [],_=>by simp [ha]
 | c::l,h=>by
  have h1:=Ip aY (h c (by simp));have ak:=Bi aY (l:=l) λd aV=>h d (by simp [aV]);unfold ha at ak ⊢;rw [List.flatMap_cons,List.length_append,List.length_cons];omega
theorem G9 {α:Type}{l:List α}{k:Nat}(h:k<l.length) (p:α->Bool):(l.take (k+1)).filter p=(l.take k).filter p++(if p l[k] then [l[k]] else []):=by
 rw [ko h,List.filter_append];congr 1;rw [List.filter_cons]
 split <;> simp
structure xS (g:bR) (m:List State) (cs:List Cell) (d:jD):Prop where
 a:d.eo=(List.range m.length).map λq=>rowOf g (fC cs q)
 o:d.dp=(List.range m.length).map λq=>ox g m q
theorem NQ (g:bR) (m:List State) (cs:List Cell) (dU:xQ g m cs):Tot (Gu g m cs) λr=>xS g m cs r.1/\r.2=(List.range m.length).flatMap λq=>ha g (fC cs q):=by
 obtain ⟨aY,hm,aa⟩:=dU;have aC:=aY.ir;have aJ:=aY.hF;have y1:=hm.lG;have BV:=aa.n;unfold Gu;refine .aK (Ξ:=λr:List (List Act) × List (List Int) × List eF=>r.1=(List.range m.length).map (λq=>rowOf g (fC cs q))/\r.2.1=(List.range m.length).map (λq=>ox g m q)/\r.2.2=(List.range m.length).flatMap λq=>ha g (fC cs q)) ?_ λr av=>.az ⟨⟨av.1,av.2.1⟩,av.2.2⟩;have uG:∀ q,(ha g (fC cs q)).length<=360000:=λq=>by
  have h1:=Bi aY (l:=fC cs q) λc nh=>aa.ok c ((List.mem_filter.1 nh).1);have ak:=List.length_filter_le (λc:Cell=>decide (c.State=(q:Int))) cs;unfold fC at h1 ⊢;omega
 have Rn:∀ k,((List.range k).flatMap λq=>ha g (fC cs q)).length<=360000 * k:=λk=>by
  induction k with
  | zero=>simp
  | succ k aS =>
   rw [List.range_succ,List.flatMap_append,List.length_append];have:=uG k;simp only [List.flatMap_cons,List.flatMap_nil,List.append_nil];omega
 refine Tot.upto (λs=>s.2.2.2) m.length (λk s=>s.1=(List.range k).map (λq=>rowOf g (fC cs q))/\s.2.1=(List.range k).map (λq=>ox g m q)/\s.2.2.1=(List.range k).flatMap λq=>ha g (fC cs q)) rfl (by omega) ⟨rfl,rfl,rfl⟩ λk s hk he bp=>?_;obtain ⟨A,G,C,i⟩:=s;obtain ⟨h1,ak,aN⟩:=bp;simp only at he h1 ak aN ⊢;subst he h1 ak aN;rw [ei k (by omega)];refine Tot.b8 (λa8=>?_) (λdM=>.az ?_)
 ·have a8:k<m.length:=by omega
  refine .aK (Ξ:=λr=>r=List.replicate g.aX.length (⟨0,0⟩:Act)) (Tot.mk (by simp [lim]; omega) (by simp)) λqC gm=>?_;subst gm;have VL:=Rn k;refine .aK (Ξ:=λr:List eF × List Act=>r.1=(List.range k).flatMap (λq=>ha g (fC cs q))++ha g (fC cs k)/\r.2=rowOf g (fC cs k)) ?_ λr av=>?_
  ·refine Tot.upto (λs=>s.2.2) cs.length (λae s=>s.1=(List.range k).flatMap (λq=>ha g (fC cs q))++ha g (fC (cs.take ae) k)/\s.2.1=rowOf g (fC (cs.take ae) k)) rfl (by omega) ⟨by simp [fC,ha],by simp [fC,rowOf]⟩ λae s ab he bp=>?_;obtain ⟨C,R,i⟩:=s;obtain ⟨h1,ak⟩:=bp;simp only at he h1 ak ⊢;subst he h1 ak;rw [ei ae (by omega)];refine Tot.b8 (λdW=>?_) (λdM=>.az ?_)
   ·have dW:ae<cs.length:=by omega
    have uF:=aa.ok _ (List.getElem_mem dW);have uH:=G9 dW (λc:Cell=>decide (c.State=(k:Int)));have V3:(ha g (fC (cs.take ae) k)).length<=360000:=by
     have h1:=Bi aY (l:=fC (cs.take ae) k) λc nh=>aa.ok c (List.mem_of_mem_take ((List.mem_filter.1 nh).1));have ak:=List.length_filter_le (λc:Cell=>decide (c.State=(k:Int))) (cs.take ae);rw [List.length_take] at ak;unfold fC at h1 ⊢;omega
    rw [ev dW];generalize cs[ae]=c at *;simp only [Option.bind_some];refine .aK (Ξ:=λr:List eF × List Act=>r.1=(List.range k).flatMap (λq=>ha g (fC cs q))++ha g (fC (cs.take (ae+1)) k)/\r.2=rowOf g (fC (cs.take (ae+1)) k)) ?_ λr av=>.az ⟨dW,rfl,av⟩;refine .aK (Ξ:=λr:List eF × List Act=>r.1=(List.range k).flatMap (λq=>ha g (fC cs q))++ha g (fC (cs.take (ae+1)) k)/\r.2=rowOf g (fC (cs.take (ae+1)) k)) (Tot.b8 (λaL=>?_) (λaL=>.az ?_)) λr av=>.az av
    ·rw [decide_eq_true aL,if_pos rfl] at uH;rw [Pk g aY c uF];simp only [Option.bind_some];have mx:=CT g (fC (cs.take ae) k);obtain ⟨a0,EL,_⟩:=kY (l:=rowOf g (fC (cs.take ae) k)) (i:=c.bC) uF.t.1 (by rw [mx]; exact uF.t.2);rw [EL];have hx:=Ip aY uF;refine Tot.ax (.aK (Ξ:=λ_=>True) (Tot.ap (by rw [List.length_append]; simp only [lim]; omega) trivial) λ_ _=>.az ⟨?_,?_⟩)
     ·show _=_++ha g ((cs.take (ae+1)).filter _);rw [uH];unfold ha;rw [List.flatMap_append,List.append_assoc];simp [fC]
     ·show _=rowOf g ((cs.take (ae+1)).filter _);rw [uH,Lw]; rfl
    ·have:(if (decide (c.State=(k:Int)))=true then [c] else [])=[]:=by simp [aL]
     rw [this,List.append_nil] at uH;unfold fC;rw [uH];exact ⟨rfl,rfl⟩
   ·have e:cs.take ae=cs:=List.take_of_length_le (by omega);rw [e];exact ⟨rfl,rfl⟩
  ·obtain ⟨C,R⟩:=r;obtain ⟨h1,ak⟩:=av;simp only at h1 ak ⊢;subst h1 ak;refine .aK (Ξ:=λr=>r=List.replicate g.bt.length (0:Int)) (Tot.mk (by simp [lim]; omega) (by simp)) λVd Qp=>?_;subst Qp;refine .aK (Ξ:=λr:List Int=>r=ox g m k) ?_ λr av=>?_
   ·refine Tot.upto (λs=>s.2) g.bt.length (λae s=>s.1.length=g.bt.length/\∀ i:Nat,i<ae->s.1[i]?=some (go m k (1000+(i:Int)))) rfl (by omega) ⟨by simp,λi hi=>absurd hi (Nat.not_lt_zero _)⟩ λae s ab he bp=>?_;obtain ⟨L,i⟩:=s;obtain ⟨h1,ak⟩:=bp;simp only at he h1 ak ⊢;subst he;rw [ei ae (by omega)];refine Tot.b8 (λdW=>?_) (λdM=>.az ?_)
    ·have dW:ae<L.length:=by omega
     have hw:aM (1000+(ae:Int))=1000+(ae:Int):=by rw [dC]; omega
     rw [hw,(go_eq hm k _).1,ev dW];refine Tot.ax (Tot.ax (.az ⟨by omega,rfl,?_,λi hi=>?_⟩))
     ·show (L.set _ _).length=_;rw [List.length_set]; exact h1
     ·show (L.set (ae:Int).toNat _)[i]?=_;rw [Int.toNat_natCast,Ao dW];by_cases e:i=ae
      ·subst e; rw [if_pos rfl]
      ·rw [if_neg e]; exact ak i (by omega)
    ·show L=ox g m k;refine List.ext_getElem? λi=>?_;unfold ox;by_cases hi:i<g.bt.length
     ·rw [ak i (by omega),List.getElem?_map,List.getElem?_range hi]; rfl
     ·rw [List.getElem?_eq_none (by omega),List.getElem?_eq_none (by simp; omega)]
   ·subst av;refine .aK (Ξ:=λ_=>True) (Tot.ap (by simp [lim]; omega) trivial) λ_ _=>.aK (Ξ:=λ_=>True) (Tot.ap (by simp [lim]; omega) trivial) λ_ _=>.az ⟨a8,rfl,?_,?_,?_⟩
    ·show _=(List.range (k+1)).map _;rw [List.range_succ,List.map_append]; rfl
    ·show _=(List.range (k+1)).map _;rw [List.range_succ,List.map_append]; rfl
    ·show _=(List.range (k+1)).flatMap _;rw [List.range_succ,List.flatMap_append]; simp
 ·have:k=m.length:=by omega
  subst this;exact ⟨rfl,rfl,rfl⟩
structure tL (g:bR) (n:Nat) (d:jD):Prop where
 hf:0<n/\n<=150
 ux:gq g
 a:d.eo.length=n
 HV:∀ r∈d.eo,r.length=g.aX.length/\∀ a∈r,qy g n a
 o:d.dp.length=n
 u6:∀ r∈d.dp,r.length=g.bt.length/\∀ v∈r,-1<=v/\v<n
theorem xS.we {g:bR}{m:List State}{cs:List Cell}{d:jD}(h:xS g m cs d) (dU:xQ g m cs):tL g m.length d:=by
 obtain ⟨aY,hm,aa⟩:=dU;refine ⟨⟨hm.hf,hm.lG⟩,aY,by rw [h.a]; simp,λr av=>?_,by rw [h.o]; simp,λr av=>?_⟩
 ·rw [h.a] at av;obtain ⟨q,_,rfl⟩:=List.mem_map.1 av;exact ⟨CT g _,TO λc nh=>aa.ok c (List.mem_filter.1 nh).1⟩
 ·rw [h.o] at av;obtain ⟨q,_,rfl⟩:=List.mem_map.1 av;refine ⟨by simp [ox],λv hv=>?_⟩;obtain ⟨a,_,rfl⟩:=List.mem_map.1 hv;exact (go_eq hm q _).2.we hm
theorem Lr {g:bR}(aY:gq g) {n:Nat}{cs:List Cell}(aa:tK g n cs) {f:Cell->Option Int}(bh:∀ c:Cell,c.aW.length<=1000->f c=some (j8 c:Int)):Tot (cI (R:=Int) (λ(s1:Int × Int) =>
(bif decide (s1.2<(cs.length:Int)) then
((idx cs s1.2).bind λbF =>
(f bF).bind λbj =>
((bif decide (1<bj) then
some (aM (s1.1+1))
else
some s1.1)).bind λjk =>
some jk).bind λla =>
some (.inl (la,aM (s1.2+1)))
else
some (.inr s1.1))) (0,0)) λr=>r=((cs.filter λc=>decide (1<j8 c)).length:Int):=by
 have BV:=aa.n;refine Tot.upto (λs=>s.2) cs.length (λk s=>s.1=(((cs.take k).filter λc=>decide (1<j8 c)).length:Int)) rfl (by omega) rfl λk s hk he bp=>?_;obtain ⟨z,i⟩:=s;simp only at he bp ⊢;subst he bp;rw [ei k (by omega)];refine Tot.b8 (λa8=>?_) (λdM=>.az ?_)
 ·have a8:k<cs.length:=by omega
  have EX:=aa.ok _ (List.getElem_mem a8);have uH:=G9 a8 (λc:Cell=>decide (1<j8 c));have uG:=List.length_filter_le (λc:Cell=>decide (1<j8 c)) (cs.take k);rw [List.length_take] at uG;rw [ev a8];generalize cs[k]=c at *;have hx:=EX.len aY;rw [show (some c).bind=λ(f:Cell->Option Int)=>f c from rfl]
  simp only [bh c (by omega),Option.bind_some];refine .aK (Ξ:=λz:Int=>z=(((cs.take (k+1)).filter λc=>decide (1<j8 c)).length:Int)) ?_ λr av=>.az ⟨a8,rfl,av⟩;rw [uH];refine .aK (Ξ:=λz:Int=>z=(((cs.take k).filter (λc=>decide (1<j8 c))++if decide (1<j8 c)=true then [c] else []).length:Int)) (Tot.b8 (λh=>.az ?_) (λh=>.az ?_)) λr av=>.az av
  ·have:1<j8 c:=by omega
   rw [ei _ (by omega)];simp [this]
  ·have:¬ 1<j8 c:=by omega
   simp [this]
 ·have e:cs.take k=cs:=List.take_of_length_le (by omega);rw [e]; rfl
theorem NR {g:bR}(aY:gq g) {n:Nat}{cs:List Cell}(aa:tK g n cs):Tot (Gw cs) λr=>r=((cs.filter λc=>decide (1<j8 c)).length:Int):=by
 unfold Gw;exact .aK (Lr aY aa IQ) λr av=>.az av
theorem sI (s:Source) (aF:tR s):Tot (Lf s) λr=>r.2.2.2=true->∃ n,tL r.1 n r.2.1:=by
 unfold Lf;refine .aK (Ii s aF) λr av=>Tot.cE (λ_=>.az λh=>by cases h) (λh=>?_);have dU:=av (by simpa using h);exact .aK (NQ _ _ _ dU) λd aV=>.aK (NR dU.ux dU.ce) λ_ _=>.az λ_=>⟨_,aV.1.we dU⟩
theorem Pd (a:Act):CG a=mQ a:=by
 have h1:decide (a.N<20000)=decide (a.N<=19999):=decide_eq_decide.2 (by omega);have ak:decide (0<a.N)=decide (1<=a.N):=decide_eq_decide.2 (by omega);unfold CG mQ;rw [h1,ak]
theorem u16 (a:Act):Tot (mQ a) λ_=>True:=by
 unfold mQ
 repeat' first | apply Tot.bi | refine Tot.cE (λ_=>?_) (λ_=>?_) | exact Tot.az trivial | apply Tot.az
theorem Ih (n:Int):∃ b c,vc n=some b/\mQ b=some c/\(c=n\/(c=0/\b=⟨0,0⟩)):=by
 by_cases h1:1<=n/\n<=20000
 ·have e:aM (n - 1)=n - 1:=by rw [dC]; omega
  have cX:aM (n - 1+1)=n:=by rw [dC]; omega
  refine ⟨⟨1,n - 1⟩,n,?_,?_,.inl rfl⟩
  ·simp [vc,h1,e]
  ·have:0<=n - 1/\n - 1<=19999:=by omega
   have iN:aM n=n:=by rw [dC]; omega
   simp [mQ,h1,this,iN]
 ·by_cases ak:n<=-1/\-19999<=n
  ·have e:aM (-n)=-n:=by rw [dC]; omega
   have cX:aM n=n:=by rw [dC]; omega
   have aN:¬ 1<=n:=by omega
   refine ⟨⟨2,-n⟩,n,?_,?_,.inl rfl⟩
   ·simp [vc,ak,aN,e]
   ·have:1<=-n/\-n<=19999:=by omega
    simp [mQ,this,cX]
  ·by_cases aN:n=20001
   ·subst aN; exact ⟨⟨3,0⟩,20001,by decide,by decide,.inl rfl⟩
   ·by_cases bP:n=20002
    ·subst bP; exact ⟨⟨4,0⟩,20002,by decide,by decide,.inl rfl⟩
    ·refine ⟨⟨0,0⟩,0,?_,by decide,.inr ⟨rfl,rfl⟩⟩;have f1:(decide (1<=n)&&decide (n<=20000))=false:=by simp; omega
     have f2:(decide (n<=-1)&&decide (-19999<=n))=false:=by simp; omega
     have g1:(bif decide (1<=n) then some (decide (n<=20000)) else some false)=some (decide (1<=n)&&decide (n<=20000)):=by cases decide (1<=n) <;> rfl
     have g2:(bif decide (n<=-1) then some (decide (-19999<=n)) else some false)=some (decide (n<=-1)&&decide (-19999<=n)):=by cases decide (n<=-1) <;> rfl
     unfold vc;rw [g1,f1,g2,f2];simp [aN,bP]
theorem sH (a:Act):∃ c,mQ a=some c/\(c=0\/vc c=some a):=by
 obtain ⟨c,aa,_⟩:=u16 a;refine ⟨c,aa,?_⟩;obtain ⟨K,N⟩:=a;have g:∀ p q:Prop,∀ [Decidable p] [Decidable q],(bif decide p then some (decide q) else some false)=some (decide (p/\q)):=λp q _ _=>by
  by_cases aE:p <;> simp [aE]
 by_cases h1:K=1/\0<=N/\N<=19999
 ·obtain ⟨rfl,h1⟩:=h1;have e:aM (N+1)=N+1:=by rw [dC]; omega
  have cX:aM (N+1 - 1)=N:=by rw [dC]; omega
  simp [mQ,h1,e] at aa;subst aa;have ak:1<=N+1/\N+1<=20000:=by omega
  have iN:aM N=N:=by rw [dC]; omega
  exact .inr (by simp [vc,ak,iN])
 ·by_cases ak:K=2/\1<=N/\N<=19999
  ·obtain ⟨rfl,ak⟩:=ak;have e:aM (-N)=-N:=by rw [dC]; omega
   have cX:aM N=N:=by rw [dC]; omega
   simp [mQ,ak,e] at aa;subst aa;have aN:¬ 1<=-N:=by omega
   have bP:-N<=-1/\-19999<=-N:=by omega
   exact .inr (by simp [vc,aN,bP,cX])
  ·by_cases aN:K=3/\N=0
   ·obtain ⟨rfl,rfl⟩:=aN;have:mQ ⟨3,0⟩=some 20001:=by decide
    rw [this] at aa; cases aa;exact .inr (by decide)
   ·by_cases bP:K=4/\N=0
    ·obtain ⟨rfl,rfl⟩:=bP;have:mQ ⟨4,0⟩=some 20002:=by decide
     rw [this] at aa; cases aa;exact .inr (by decide)
    ·refine .inl ?_;have zr:(bif decide (K=1) then (bif decide (0<=N) then some (decide (N<=19999)) else some false) else some false)=some false:=by
      rw [g]; by_cases h:K=1
      ·have:=λaR=>h1 ⟨h,aR⟩;simp [h]; omega
      ·simp [h]
     have r5:(bif decide (K=2) then (bif decide (1<=N) then some (decide (N<=19999)) else some false) else some false)=some false:=by
      rw [g]; by_cases h:K=2
      ·have:=λaR=>ak ⟨h,aR⟩;simp [h]; omega
      ·simp [h]
     have S0:(bif decide (K=3) then some (decide (N=0)) else some false)=some false:=by rw [g]; simp [aN]
     have F7:(bif decide (K=4) then some (decide (N=0)) else some false)=some false:=by rw [g]; simp [bP]
     unfold mQ at aa;rw [zr,r5,S0,F7] at aa;simpa using aa.symm
def nF (l:List Int) (v:Int):Prop:=(l=[]/\v=-1)\/(v∈l/\∀ x∈l,l.count x<l.count v\/(l.count x=l.count v/\v<=x))
theorem nF.uniq {l:List Int}{v w:Int}(h:nF l v) (aR:nF l w):v=w:=by
 rcases h with ⟨h1,ak⟩ | ⟨h1,ak⟩ <;> rcases aR with ⟨aN,bP⟩ | ⟨aN,bP⟩
 ·omega
 ·subst h1; cases aN
 ·subst aN; cases h1
 ·have a:=ak w aN;have b:=bP v h1;omega
theorem rF (l:List Int) (y x:Int):(l++[y]).count x=l.count x+(if y=x then 1 else 0):=by
 rw [List.count_append];by_cases e:y=x
 ·subst e; simp
 ·rw [if_neg e,List.count_eq_zero.2 λhm=>e (List.mem_singleton.1 hm).symm]
theorem O2 {l:List Int}{x:Int}(h:x∈l):0<l.count x:=List.count_pos_iff.2 h
theorem nF.snoc {l:List Int}{b y:Int}(h:nF l b) (ba:∀ x∈l,0<=x) (ay:0<=y):nF (l++[y]) (if b<0\/(l++[y]).count b<(l++[y]).count y\/((l++[y]).count y=(l++[y]).count b/\y<b) then y else b):=by
 refine .inr ?_;rcases h with ⟨rfl,rfl⟩ | ⟨aF,hm⟩
 ·rw [if_pos (.inl (by decide))];refine ⟨by simp,λx J=>?_⟩;rw [List.nil_append,List.mem_singleton] at J;subst J; exact .inr ⟨rfl,Int.le_refl _⟩
 ·have JR:=ba b aF;have key:∀ x∈l++[y],x∈l\/x=y:=λx J=>by simpa using J
  have uj:(l++[y]).count y=l.count y+1:=by rw [rF,if_pos rfl]
  by_cases JT:b=y
  ·subst JT;rw [if_neg (by omega)];refine ⟨by simp,λx J=>?_⟩;rw [uj];by_cases e:x=b
   ·subst e; exact .inr ⟨uj,Int.le_refl _⟩
   ·rw [rF,if_neg (λh=>e h.symm)];rcases key x J with J | J
    ·have:=hm x J; omega
    ·exact absurd J e
  ·have DL:(l++[y]).count b=l.count b:=by rw [rF,if_neg (λh=>JT h.symm)]; rfl
   by_cases aa:b<0\/(l++[y]).count b<(l++[y]).count y\/((l++[y]).count y=(l++[y]).count b/\y<b)
   ·rw [if_pos aa];rw [DL,uj] at aa;refine ⟨by simp,λx J=>?_⟩;rw [uj];by_cases e:x=y
    ·subst e; exact .inr ⟨uj,Int.le_refl _⟩
    ·rw [rF,if_neg (λh=>e h.symm)];rcases key x J with J | J
     ·have:=hm x J; omega
     ·exact absurd J e
   ·rw [if_neg aa];rw [DL,uj] at aa;refine ⟨by simp [aF],λx J=>?_⟩;rw [DL];by_cases e:x=y
    ·subst e; rw [uj]; omega
    ·rw [rF,if_neg (λh=>e h.symm)];rcases key x J with J | J
     ·have:=hm x J; omega
     ·exact absurd J e
theorem F9 {x:Int}(h:-1<=x/\x<=1000000):qg x=true:=by unfold qg; rw [decide_eq_true]; omega
theorem NS (l:List Int) (ao:l.length<=100000) (ba:∀ x∈l,0<=x/\x<=1000000):Tot (z1 l) (nF l):=by
 unfold z1;refine .aK (Ξ:=nF l) ?_ λr av=>.az av;refine Tot.upto (λs=>s.2.2) l.length (λk s=>s.1.length=k/\(∀ x,(ny s.1 x).getD 0=((l.take k).count x:Int))/\nF (l.take k) s.2.1) rfl (by omega) ⟨rfl,λx=>by simp [ny],.inl ⟨rfl,rfl⟩⟩ λk s hk he bp=>?_;obtain ⟨m,b,i⟩:=s;obtain ⟨h1,ak,aN⟩:=bp;simp only at he h1 ak aN ⊢;subst he;rw [ei k (by omega)];refine Tot.b8 (λa8=>?_) (λdM=>.az ?_)
 ·have a8:k<l.length:=by omega
  have ay:=ba _ (List.getElem_mem a8);have fV:=ko a8;have JM:∀ x∈l.take k,0<=x/\x<=1000000:=λx J=>ba x (List.mem_of_mem_take J);have hx:=List.count_le_length (a:=l[k]) (l:=l.take k);rw [ev a8];generalize l[k]=y at *;have aF:-1<=b/\b<=1000000:=by
   rcases aN with ⟨_,rfl⟩ | ⟨h,_⟩
   ·omega
   ·have:=JM b h; omega
  rw [List.length_take] at hx;have de:r6 qg 0 m y=some ((l.take k).count y:Int):=by unfold r6; rw [if_pos (F9 ⟨by omega,ay.2⟩),ak]
  have cX:aM (((l.take k).count y:Int)+1)=(((l.take k).count y+1:Nat):Int):=ei _ (by omega);have iN:zD qg m y (((l.take k).count y+1:Nat):Int)=some ((y,(((l.take k).count y+1:Nat):Int))::m):=by
   unfold zD;rw [F9 ⟨by omega,ay.2⟩,Bool.true_and,if_pos (decide_eq_true (by simp only [lim]; omega))]
  have Ke:∀ x,(ny ((y,(((l.take k).count y+1:Nat):Int))::m) x).getD 0=((l.take (k+1)).count x:Int):=λx=>by
   rw [fV,rF];unfold ny;by_cases e:y=x
   ·subst e; rw [if_pos rfl,if_pos rfl]; rfl
   ·rw [if_neg e,if_neg e,ak]; rfl
  have qN:∀ x,(-1<=x/\x<=1000000)->r6 qg 0 ((y,(((l.take k).count y+1:Nat):Int))::m) x=some ((l.take (k+1)).count x:Int):=λx J=>by unfold r6; rw [if_pos (F9 J),Ke]
  have aL:=aN.snoc (y:=y) (λx J=>(JM x J).1) ay.1;rw [<- fV] at aL;have nO:=List.count_le_length (a:=y) (l:=l.take (k+1));have uE:=List.count_le_length (a:=b) (l:=l.take (k+1));rw [List.length_take] at nO uE;simp only [Option.bind_some,de,cX,iN,qN y ⟨by omega,ay.2⟩,qN b aF];have hw:aM (((l.take (k+1)).count y:Int) - ((l.take (k+1)).count b:Int))=((l.take (k+1)).count y:Int) - ((l.take (k+1)).count b:Int):=by rw [dC]; omega
  rw [hw];refine .aK (Ξ:=λr:List (Int × Int) × Int=>r.1=(y,(((l.take k).count y+1:Nat):Int))::m/\nF (l.take (k+1)) r.2) ?_ λr av=>.az ⟨a8,rfl,by rw [av.1]; simp [h1],by rw [av.1]; exact Ke,av.2⟩;refine .aK (Ξ:=λc:Bool=>c=decide (b<0\/(l.take (k+1)).count b<(l.take (k+1)).count y\/((l.take (k+1)).count y=(l.take (k+1)).count b/\y<b))) ?_ λc aa=>?_
  ·refine Tot.b8 (λh=>.az (decide_eq_true (.inl h)).symm) (λh=>Tot.b8 (λaR=>.az (decide_eq_true (.inr (.inl (by omega)))).symm) (λaR=>Tot.b8 (λak=>.az ?_) (λak=>.az (decide_eq_false (by omega)).symm)));exact decide_eq_decide.2 (by omega)
  ·subst aa;refine .aK (Ξ:=λz=>z=(if b<0\/(l.take (k+1)).count b<(l.take (k+1)).count y\/((l.take (k+1)).count y=(l.take (k+1)).count b/\y<b) then y else b)) (Tot.b8 (λh=>.az (if_pos h).symm) (λh=>.az (if_neg h).symm)) λz bB=>.az ⟨rfl,?_⟩
   show nF _ z;rw [bB]; exact aL
 ·have e:l.take k=l:=List.take_of_length_le (by omega);rw [e] at aN;exact aN
theorem NT (l:List Int) (ao:l.length<=100000) (ba:∀ x∈l,0<=x/\x<=1000000):Tot (xm l) (nF l):=by
 unfold xm;refine .aK (Ξ:=λr:List Int=>fO h' r/\r.length<=l.length/\∀ x,x∈r↔x∈l) ?_ λD oy=>?_
 ·refine Tot.upto (λs=>s.2) l.length (λk s=>fO h' s.1/\s.1.length<=k/\∀ x,x∈s.1↔x∈l.take k) rfl (by omega) ⟨.nil,Nat.le_refl 0,λx=>by simp⟩ λk s hk he bp=>?_;obtain ⟨r,i⟩:=s;obtain ⟨h1,ak,aN⟩:=bp;simp only at he h1 ak aN ⊢;subst he;rw [ei k (by omega)];refine Tot.b8 (λa8=>?_) (λdM=>.az ?_)
  ·have a8:k<l.length:=by omega
   have fV:=ko a8;rw [ev a8];generalize l[k]=y at *;refine Tot.ax (.aK (Bg r y h1 (by omega)) λeR eC=>.az ⟨a8,rfl,eC.1,by have:=eC.2.1; show eR.length<=k+1; omega,λx=>?_⟩);rw [fV,List.mem_append,List.mem_singleton,<- aN];exact eC.2.2 x
  ·have e:l.take k=l:=List.take_of_length_le (by omega);rw [e] at aN;exact ⟨h1,by omega,aN⟩
 ·obtain ⟨Qj,Vy,BN⟩:=oy;refine .aK (Ξ:=λr:Int=>nF l r) ?_ λr av=>.az av;refine Tot.upto (λs=>s.2.2) D.length (λk s=>(k=0/\s.1=-1/\s.2.1=0)\/(s.1∈D.take k/\s.2.1=(l.count s.1:Int)/\∀ x∈D.take k,l.count x<l.count s.1\/(l.count x=l.count s.1/\s.1<=x))) rfl (by omega) (.inl ⟨rfl,rfl,rfl⟩) λk s hk he bp=>?_;obtain ⟨b,n,i⟩:=s;simp only at he bp ⊢;subst he;rw [ei k (by omega)];refine Tot.b8 (λa8=>?_) (λdM=>.az ?_)
  ·have a8:k<D.length:=by omega
   have fV:=ko a8;have SD:=List.getElem_mem a8;have p_:∀ x∈D.take k,x<D[k]:=λx J=>by
    obtain ⟨ae,ab,rfl⟩:=List.mem_iff_getElem.1 J;rw [List.length_take] at ab;rw [List.getElem_take];exact Ge.1 (HX Qj (by omega) a8 (by omega))
   rw [ev a8];generalize D[k]=y at *;have Cg:=(BN y).1 SD;refine .aK (Ξ:=λr:Int × Int=>r.1∈D.take (k+1)/\r.2=(l.count r.1:Int)/\∀ x∈D.take (k+1),l.count x<l.count r.1\/(l.count x=l.count r.1/\r.1<=x)) ?_ λr av=>.az ⟨a8,rfl,.inr av⟩;refine .aK (Ξ:=λz:Int=>z=(l.count y:Int)) ?_ λz bB=>?_
   ·refine Tot.upto (λs=>s.2) l.length (λae s=>s.1=((l.take ae).count y:Int)) rfl (by omega) (by simp) λae s ab he bp=>?_;obtain ⟨z,i⟩:=s;simp only at he bp ⊢;subst he bp;rw [ei ae (by omega)];refine Tot.b8 (λdW=>?_) (λdM=>.az ?_)
    ·have dW:ae<l.length:=by omega
     have lC:=ko dW;have hx:=List.count_le_length (a:=y) (l:=l.take ae);rw [List.length_take] at hx;rw [ev dW];generalize l[ae]=x at *;simp only [Option.bind_some];refine .aK (Ξ:=λz:Int=>z=((l.take (ae+1)).count y:Int)) ?_ λz bB=>.az ⟨dW,rfl,bB⟩;rw [lC,rF];refine .aK (Ξ:=λz:Int=>z=(((l.take ae).count y+if x=y then 1 else 0:Nat):Int)) (Tot.b8 (λe=>.az ?_) (λe=>.az ?_)) λz bB=>.az bB
     ·rw [if_pos e,ei _ (by omega)]
     ·rw [if_neg e]; rfl
    ·have e:l.take ae=l:=List.take_of_length_le (by omega);rw [e]; rfl
   ·subst bB;refine .aK (Ξ:=λr:Int × Int=>r.1∈D.take (k+1)/\r.2=(l.count r.1:Int)/\∀ x∈D.take (k+1),l.count x<l.count r.1\/(l.count x=l.count r.1/\r.1<=x)) ?_ λr av=>.az av;have VJ:=O2 Cg;rw [fV];have key:∀ x∈D.take k++[y],x∈D.take k\/x=y:=λx J=>by simpa using J
    refine Tot.b8 (λaa=>Tot.ax (.az ⟨by simp,rfl,λx J=>?_⟩)) (λaa=>?_)
    ·rcases key x J with J | rfl
     ·rcases bp with ⟨rfl,_,_⟩ | ⟨h1,ak,aN⟩
      ·simp at J
      ·have:=aN x J; show l.count x<l.count y\/_; omega
     ·exact .inr ⟨rfl,Int.le_refl _⟩
    ·rcases bp with ⟨rfl,_,rfl⟩ | ⟨h1,ak,aN⟩
     ·omega
     ·refine .az ⟨by simp [h1],ak,λx J=>?_⟩;rcases key x J with J | rfl
      ·exact aN x J
      ·have:=p_ b h1;have aa:¬ ((n:Int)<(l.count x:Int)):=aa;have ak:n=(l.count b:Int):=ak;show l.count x<l.count b\/(l.count x=l.count b/\b<=x);omega
  ·have e:D.take k=D:=List.take_of_length_le (by omega);rw [e] at bp;rcases bp with ⟨rfl,rfl,_⟩ | ⟨h1,ak,aN⟩
   ·have:D=[]:=List.eq_nil_of_length_eq_zero (by omega);refine .inl ⟨?_,rfl⟩;refine List.eq_nil_iff_forall_not_mem.2 λx J=>?_;have:=(BN x).2 J
    subst_vars
    cases this
   ·exact .inr ⟨(BN b).1 h1,λx J=>aN x ((BN x).2 J)⟩
def mC (l:List Int):Int:=(xm l).getD (-1)
def Dl (l:List Int):Prop:=l.length<=100000/\∀ x∈l,0<=x/\x<=1000000
theorem CB {l:List Int}(h:Dl l):z1 l=some (mC l)/\xm l=some (mC l)/\nF l (mC l):=by
 obtain ⟨v,hv,h1⟩:=NS l h.1 h.2;obtain ⟨w,hw,ak⟩:=NT l h.1 h.2;have e:mC l=w:=by unfold mC; rw [hw]; rfl
 have cX:=h1.uniq ak;rw [e];exact ⟨by rw [hv,cX],hw,ak⟩
def km {α:Type}(keep:α->Bool) (val:α->Int) (l:List α):List gy:=(l.zipIdx.filter λp=>keep p.1).map λp=>(⟨(p.2:Nat),val p.1⟩:gy)
theorem CL {α:Type}(keep:α->Bool) (val:α->Int) (l:List α) (x:α):km keep val (l++[x])=km keep val l++(if keep x=true then [(⟨l.length,val x⟩:gy)] else []):=by
 unfold km;rw [List.zipIdx_append,List.filter_append,List.map_append];congr 1;cases h:keep x <;> simp [h]
theorem CK {α:Type}(keep:α->Bool) (val:α->Int) (l:List α):(km keep val l).length<=l.length:=by
 unfold km;rw [List.length_map];refine Nat.le_trans (List.length_filter_le ..) ?_;rw [List.length_zipIdx]; exact Nat.le_refl _
def red (r:List Act):List Int:=(r.filter λa=>decide (a.Kind=2)).map (·.N)
theorem GG (r:List Act) (a:Act):red (r++[a])=red r++(if a.Kind=2 then [a.N] else []):=by
 unfold red;rw [List.filter_append,List.map_append];congr 1;by_cases h:a.Kind=2 <;> simp [h]
theorem CP (r:List Act):(red r).length<=r.length:=by
 unfold red;rw [List.length_map]; exact List.length_filter_le ..
def mr (a:Act):Int:=(mQ a).getD 0
theorem Iq (a:Act):CG a=some (mr a)/\mQ a=some (mr a):=by
 obtain ⟨c,aa,_⟩:=u16 a;have:mr a=c:=by unfold mr; rw [aa]; rfl
 rw [this,Pd];exact ⟨aa,aa⟩
def k1 (d:Int) (a:Act):Bool:=!decide (a.Kind=0)&&(!decide (a.Kind=2)||!decide (a.N=d))
def tz (r:List Act):Row:=⟨mC (red r),km (k1 (mC (red r))) mr r⟩
def lF (d v:Int):Bool:=decide (0<=v)&&!decide (v=d)
def pos (c:List Int):List Int:=c.filter λv=>decide (0<=v)
theorem Lo (r:List Int) (a:Int):pos (r++[a])=pos r++(if 0<=a then [a] else []):=by
 unfold pos;rw [List.filter_append];congr 1;by_cases h:0<=a <;> simp [h]
def tA (c:List Int):Row:=⟨mC (pos c),km (lF (mC (pos c))) id c⟩
def fH (d:jD) (a:Nat):List Int:=d.dp.map λr=>r.getD a 0
theorem Lt {g:bR}{n:Nat}(aY:gq g) {r:List Act}(ao:r.length=g.aX.length) (h:∀ a∈r,qy g n a):Dl (red r):=by
 have aC:=aY.ir;have aE:=aY.lI;have:=CP r;refine ⟨by omega,λx J=>?_⟩;unfold red at J;obtain ⟨a,bf,rfl⟩:=List.mem_map.1 J;rw [List.mem_filter] at bf;have hk:=(h a bf.1).pA (of_decide_eq_true bf.2);have h1:=hk.1;have ak:=hk.2;omega
theorem Ln {c:List Int}(ao:c.length<=150) (h:∀ v∈c,v<150):Dl (pos c):=by
 have:=List.length_filter_le (λv:Int=>decide (0<=v)) c;refine ⟨by unfold pos; omega,λx J=>?_⟩;unfold pos at J;rw [List.mem_filter] at J;have h1:=h x J.1;have ak:=of_decide_eq_true J.2;omega
theorem Bc (g:bR) (n:Nat) (d:jD) (aV:tL g n d):Tot (Lg d) λr=>r=d.eo.map tz:=by
 have aY:=aV.ux;have aC:=aY.ir;have aJ:=aV.hf;have bf:=aV.a;unfold Lg;refine .aK (Ξ:=λr:List Row=>r=d.eo.map tz) ?_ λr av=>.az av;refine Tot.upto (λs=>s.2) d.eo.length (λk s=>s.1=(d.eo.take k).map tz) rfl (by omega) rfl λk s hk he bp=>?_;obtain ⟨R,i⟩:=s;simp only at he bp ⊢;subst he bp;rw [ei k (by omega)];refine Tot.b8 (λa8=>?_) (λdM=>.az ?_)
 ·have a8:k<d.eo.length:=by omega
  have fV:=ko a8;obtain ⟨mx,wT⟩:=aV.HV _ (List.getElem_mem a8);simp only [ev a8,Option.bind_some];generalize d.eo[k]=r at *;have kg:=Lt aY mx wT;obtain ⟨yi,yj,_⟩:=CB kg;refine .aK (Ξ:=λl:List Int=>l=red r) ?_ λl ao=>?_
  ·refine Tot.upto (λs=>s.2) r.length (λae s=>s.1=red (r.take ae)) rfl (by omega) rfl λae s ab he bp=>?_;obtain ⟨L,i⟩:=s;simp only at he bp ⊢;subst he bp;rw [ei ae (by omega)];refine Tot.b8 (λdW=>?_) (λdM=>.az ?_)
   ·have dW:ae<r.length:=by omega
    have lC:=ko dW;have hlen:=CP (r.take ae);rw [List.length_take] at hlen;simp only [ev dW,Option.bind_some];generalize r[ae]=a at *;refine .aK (Ξ:=λL:List Int=>L=red (r.take (ae+1))) ?_ λr av=>.az ⟨dW,rfl,av⟩;rw [lC,GG];refine .aK (Ξ:=λL:List Int=>L=red (r.take ae)++(if a.Kind=2 then [a.N] else [])) (Tot.b8 (λh=>?_) (λh=>.az ?_)) λr av=>.az av
    ·rw [if_pos h];exact .aK (Ξ:=λ_=>True) (Tot.ap (by simp [lim]; omega) trivial) λ_ _=>.az rfl
    ·rw [if_neg h,List.append_nil]
   ·have e:r.take ae=r:=List.take_of_length_le (by omega);rw [e]; rfl
  ·subst ao;rw [yi];refine Tot.ax (.aK (Ξ:=λl:List gy=>l=km (k1 (mC (red r))) mr r) ?_ λl ao=>?_)
   ·generalize mC (red r)=D;refine Tot.upto (λs=>s.2) r.length (λae s=>s.1=km (k1 D) mr (r.take ae)) rfl (by omega) rfl λae s ab he bp=>?_;obtain ⟨L,i⟩:=s;simp only at he bp ⊢;subst he bp;rw [ei ae (by omega)];refine Tot.b8 (λdW=>?_) (λdM=>.az ?_)
    ·have dW:ae<r.length:=by omega
     have lC:=ko dW;have hlen:=CK (k1 D) mr (r.take ae);have e3:(r.take ae).length=ae:=by rw [List.length_take]; omega
     rw [List.length_take] at hlen;simp only [ev dW,Option.bind_some];generalize r[ae]=a at *;rw [(Iq a).1];refine .aK (Ξ:=λL:List gy=>L=km (k1 D) mr (r.take (ae+1))) ?_ λr av=>.az ⟨dW,rfl,av⟩;rw [lC,CL,e3];refine .aK (Ξ:=λc:Bool=>c=k1 D a) (Tot.cE (λh=>?_) (λh=>.az ?_)) λc aa=>?_
     ·refine Tot.cE (λak=>.az ?_) (λak=>.az ?_)
      ·unfold k1; rw [h,ak]; rfl
      ·unfold k1; rw [h,ak]; rfl
     ·unfold k1; rw [h]; rfl
     subst aa;refine .aK (Ξ:=λL:List gy=>L=km (k1 D) mr (r.take ae)++(if k1 D a=true then [(⟨ae,mr a⟩:gy)] else [])) (Tot.cE (λh=>?_) (λh=>.az ?_)) λr av=>.az av
     ·rw [if_pos h];exact Tot.ax (.aK (Ξ:=λ_=>True) (Tot.ap (by simp [lim]; omega) trivial) λ_ _=>.az rfl)
     ·rw [if_neg (by rw [h]; decide),List.append_nil]
    ·have e:r.take ae=r:=List.take_of_length_le (by omega);rw [e]; rfl
   ·subst ao;refine .aK (Ξ:=λ_=>True) (Tot.ap (by simp [lim]; omega) trivial) λ_ _=>.az ⟨a8,rfl,?_⟩;show _=(d.eo.take (k+1)).map tz;rw [fV,List.map_append]; rfl
 ·have e:d.eo.take k=d.eo:=List.take_of_length_le (by omega);rw [e]; rfl
theorem wj (g:bR) (n:Nat) (d:jD) (aV:tL g n d):Tot (Lh d) λr=>r=d.eo.map tz:=by
 have aY:=aV.ux;have aC:=aY.ir;have aJ:=aV.hf;have bf:=aV.a;unfold Lh;refine .aK (Ξ:=λr:List Row=>r=d.eo.map tz) ?_ λr av=>.az av;refine Tot.upto (λs=>s.2) d.eo.length (λk s=>s.1=(d.eo.take k).map tz) rfl (by omega) rfl λk s hk he bp=>?_;obtain ⟨R,i⟩:=s;simp only at he bp ⊢;subst he bp;rw [ei k (by omega)];refine Tot.b8 (λa8=>?_) (λdM=>.az ?_)
 ·have a8:k<d.eo.length:=by omega
  have fV:=ko a8;obtain ⟨mx,wT⟩:=aV.HV _ (List.getElem_mem a8);simp only [ev a8,Option.bind_some];generalize d.eo[k]=r at *;have kg:=Lt aY mx wT;obtain ⟨yi,yj,_⟩:=CB kg;refine .aK (Ξ:=λl:List Int=>l=red r) ?_ λl ao=>?_
  ·refine Tot.upto (λs=>s.2) r.length (λae s=>s.1=red (r.take ae)) rfl (by omega) rfl λae s ab he bp=>?_;obtain ⟨L,i⟩:=s;simp only at he bp ⊢;subst he bp;rw [ei ae (by omega)];refine Tot.b8 (λdW=>?_) (λdM=>.az ?_)
   ·have dW:ae<r.length:=by omega
    have lC:=ko dW;have hlen:=CP (r.take ae);rw [List.length_take] at hlen;simp only [ev dW,Option.bind_some];generalize r[ae]=a at *;refine .aK (Ξ:=λL:List Int=>L=red (r.take (ae+1))) ?_ λr av=>.az ⟨dW,rfl,av⟩;rw [lC,GG];refine .aK (Ξ:=λL:List Int=>L=red (r.take ae)++(if a.Kind=2 then [a.N] else [])) (Tot.b8 (λh=>?_) (λh=>.az ?_)) λr av=>.az av
    ·rw [if_pos h];exact .aK (Ξ:=λ_=>True) (Tot.ap (by simp [lim]; omega) trivial) λ_ _=>.az rfl
    ·rw [if_neg h,List.append_nil]
   ·have e:r.take ae=r:=List.take_of_length_le (by omega);rw [e]; rfl
  ·subst ao;rw [yj];refine Tot.ax (.aK (Ξ:=λl:List gy=>l=km (k1 (mC (red r))) mr r) ?_ λl ao=>?_)
   ·generalize mC (red r)=D;refine Tot.upto (λs=>s.2) r.length (λae s=>s.1=km (k1 D) mr (r.take ae)) rfl (by omega) rfl λae s ab he bp=>?_;obtain ⟨L,i⟩:=s;simp only at he bp ⊢;subst he bp;rw [ei ae (by omega)];refine Tot.b8 (λdW=>?_) (λdM=>.az ?_)
    ·have dW:ae<r.length:=by omega
     have lC:=ko dW;have hlen:=CK (k1 D) mr (r.take ae);have e3:(r.take ae).length=ae:=by rw [List.length_take]; omega
     rw [List.length_take] at hlen;simp only [ev dW,Option.bind_some];generalize r[ae]=a at *;rw [(Iq a).2];refine .aK (Ξ:=λL:List gy=>L=km (k1 D) mr (r.take (ae+1))) ?_ λr av=>.az ⟨dW,rfl,av⟩;rw [lC,CL,e3];refine .aK (Ξ:=λc:Bool=>c=k1 D a) (Tot.cE (λh=>?_) (λh=>.az ?_)) λc aa=>?_
     ·refine Tot.cE (λak=>.az ?_) (λak=>.az ?_)
      ·unfold k1; rw [h,ak]; rfl
      ·unfold k1; rw [h,ak]; rfl
     ·unfold k1; rw [h]; rfl
     subst aa;refine .aK (Ξ:=λL:List gy=>L=km (k1 D) mr (r.take ae)++(if k1 D a=true then [(⟨ae,mr a⟩:gy)] else [])) (Tot.cE (λh=>?_) (λh=>.az ?_)) λr av=>.az av
     ·rw [if_pos h];exact Tot.ax (.aK (Ξ:=λ_=>True) (Tot.ap (by simp [lim]; omega) trivial) λ_ _=>.az rfl)
     ·rw [if_neg (by rw [h]; decide),List.append_nil]
    ·have e:r.take ae=r:=List.take_of_length_le (by omega);rw [e]; rfl
   ·subst ao;refine .aK (Ξ:=λ_=>True) (Tot.ap (by simp [lim]; omega) trivial) λ_ _=>.az ⟨a8,rfl,?_⟩;show _=(d.eo.take (k+1)).map tz;rw [fV,List.map_append]; rfl
 ·have e:d.eo.take k=d.eo:=List.take_of_length_le (by omega);rw [e]; rfl
theorem yd (d:jD) (a:Nat):(fH d a).length=d.dp.length:=by simp [fH]
theorem Bj {d:jD}{a q:Nat}(h:q<d.dp.length):(fH d a).take (q+1)=(fH d a).take q++[(d.dp[q]).getD a 0]:=by
 rw [ko (by rw [yd]; exact h)];congr 2;simp [fH]
theorem Ir {g:bR}{n:Nat}{d:jD}(aV:tL g n d) {a:Nat}(bf:a<g.bt.length):∀ v∈fH d a,-1<=v/\v<n:=λv hv=>by
 unfold fH at hv;obtain ⟨r,av,rfl⟩:=List.mem_map.1 hv;obtain ⟨h1,ak⟩:=aV.u6 r av;refine ak _ ?_;rw [List.getD_eq_getElem?_getD,List.getElem?_eq_getElem (by omega)];exact List.getElem_mem _
theorem Cl {r:List Int}{a:Nat}(h:a<r.length):idx r (a:Int)=some (r.getD a 0):=by
 rw [ev h,List.getD_eq_getElem?_getD,List.getElem?_eq_getElem h]; rfl
theorem Lm (c:List Int):(pos c).length<=c.length:=List.length_filter_le ..
theorem Bd (g:bR) (n:Nat) (d:jD) (aV:tL g n d):Tot (Li d) λr=>r=(List.range g.bt.length).map λa=>tA (fH d a):=by
 have aY:=aV.ux;have aC:=aY.hF;have aJ:=aV.hf;have bf:=aV.o;have ba:0<d.dp.length:=by omega
 obtain ⟨RV,_⟩:=aV.u6 _ (List.getElem_mem ba);have i0:idx d.dp 0=some d.dp[0]:=ev (k:=0) ba;unfold Li;refine Tot.b8 (λh=>absurd h (by omega)) (λ_=>?_);rw [i0];refine Tot.ax (.aK (Ξ:=λr:List Row=>r=(List.range g.bt.length).map λa=>tA (fH d a)) ?_ λr av=>.az av);refine Tot.upto (λs=>s.2) g.bt.length (λk s=>s.1=(List.range k).map λa=>tA (fH d a)) rfl (by omega) rfl λk s hk he bp=>?_;obtain ⟨R,i⟩:=s;simp only at he bp ⊢;subst he bp;rw [ei k (by omega)];refine Tot.b8 (λa8=>?_) (λdM=>.az ?_)
 ·have hJ:k<g.bt.length:=by omega
  have kg:=Ln (c:=fH d k) (by rw [yd]; omega) λv hv=>by have:=(Ir aV hJ v hv).2; omega
  obtain ⟨yi,yj,_⟩:=CB kg;have hx:=yd d k;refine .aK (Ξ:=λl:List Int=>l=pos (fH d k)) ?_ λl ao=>?_
  ·refine Tot.upto (λs=>s.2) d.dp.length (λae s=>s.1=pos ((fH d k).take ae)) rfl (by omega) rfl λae s ab he bp=>?_;obtain ⟨L,i⟩:=s;simp only at he bp ⊢;subst he bp;rw [ei ae (by omega)];refine Tot.b8 (λdW=>?_) (λdM=>.az ?_)
   ·have dW:ae<d.dp.length:=by omega
    have lC:=Bj (a:=k) dW;have hlen:=Lm ((fH d k).take ae);rw [List.length_take] at hlen;obtain ⟨mx,_⟩:=aV.u6 _ (List.getElem_mem dW);simp only [ev dW,Option.bind_some,Cl (show k<(d.dp[ae]).length by omega)];generalize (d.dp[ae]).getD k 0=v at *;refine .aK (Ξ:=λL:List Int=>L=pos ((fH d k).take (ae+1))) ?_ λr av=>.az ⟨dW,rfl,av⟩;rw [lC,Lo];refine .aK (Ξ:=λL:List Int=>L=pos ((fH d k).take ae)++(if 0<=v then [v] else [])) (Tot.b8 (λh=>?_) (λh=>.az ?_)) λr av=>.az av
    ·rw [if_pos h];exact .aK (Ξ:=λ_=>True) (Tot.ap (by simp [lim]; omega) trivial) λ_ _=>.az rfl
    ·rw [if_neg h,List.append_nil]
   ·have e:(fH d k).take ae=fH d k:=List.take_of_length_le (by omega);rw [e]; rfl
  ·subst ao;rw [yi];refine Tot.ax (.aK (Ξ:=λl:List gy=>l=km (lF (mC (pos (fH d k)))) id (fH d k)) ?_ λl ao=>?_)
   ·generalize mC (pos (fH d k))=D;refine Tot.upto (λs=>s.2) d.dp.length (λae s=>s.1=km (lF D) id ((fH d k).take ae)) rfl (by omega) rfl λae s ab he bp=>?_;obtain ⟨L,i⟩:=s;simp only at he bp ⊢;subst he bp;rw [ei ae (by omega)];refine Tot.b8 (λdW=>?_) (λdM=>.az ?_)
    ·have dW:ae<d.dp.length:=by omega
     have lC:=Bj (a:=k) dW;have hlen:=CK (lF D) id ((fH d k).take ae);have e3:((fH d k).take ae).length=ae:=by rw [List.length_take]; omega
     rw [e3] at hlen;obtain ⟨mx,_⟩:=aV.u6 _ (List.getElem_mem dW);simp only [ev dW,Option.bind_some,Cl (show k<(d.dp[ae]).length by omega)];generalize (d.dp[ae]).getD k 0=v at *;refine .aK (Ξ:=λL:List gy=>L=km (lF D) id ((fH d k).take (ae+1))) ?_ λr av=>.az ⟨dW,rfl,av⟩;rw [lC,CL,e3];refine .aK (Ξ:=λc:Bool=>c=lF D v) (Tot.cE (λh=>.az ?_) (λh=>.az ?_)) λc aa=>?_
     ·unfold lF; rw [h]; rfl
     ·unfold lF; rw [h]; rfl
     subst aa;refine .aK (Ξ:=λL:List gy=>L=km (lF D) id ((fH d k).take ae)++(if lF D v=true then [(⟨ae,id v⟩:gy)] else [])) (Tot.cE (λh=>?_) (λh=>.az ?_)) λr av=>.az av
     ·rw [if_pos h];exact .aK (Ξ:=λ_=>True) (Tot.ap (by simp [lim]; omega) trivial) λ_ _=>.az rfl
     ·rw [if_neg (by rw [h]; decide),List.append_nil]
    ·have e:(fH d k).take ae=fH d k:=List.take_of_length_le (by omega);rw [e]; rfl
   ·subst ao;refine .aK (Ξ:=λ_=>True) (Tot.ap (by simp [lim]; omega) trivial) λ_ _=>.az ⟨hJ,rfl,?_⟩;show _=(List.range (k+1)).map λa=>tA (fH d a);rw [List.range_succ,List.map_append]; rfl
 ·have:k=g.bt.length:=by omega
  subst this; rfl
theorem Be (g:bR) (n:Nat) (d:jD) (aV:tL g n d):Tot (Lj d) λr=>r=(List.range g.bt.length).map λa=>tA (fH d a):=by
 have aY:=aV.ux;have aC:=aY.hF;have aJ:=aV.hf;have bf:=aV.o;have ba:0<d.dp.length:=by omega
 obtain ⟨RV,_⟩:=aV.u6 _ (List.getElem_mem ba);have i0:idx d.dp 0=some d.dp[0]:=ev (k:=0) ba;have g0:decide ((0:Int)<(d.dp.length:Int))=true:=decide_eq_true (by omega);unfold Lj;refine .aK (Ξ:=λr:List Row=>r=(List.range g.bt.length).map λa=>tA (fH d a)) ?_ λr av=>.az av;refine Tot.upto (λs=>s.2) g.bt.length (λk s=>s.1=(List.range k).map λa=>tA (fH d a)) rfl (by omega) rfl λk s hk he bp=>?_;obtain ⟨R,i⟩:=s;simp only at he bp ⊢;subst he bp;rw [ei k (by omega),g0,i0];simp only [cond_true,Option.bind_some];refine Tot.b8 (λa8=>?_) (λdM=>.az ?_)
 ·have hJ:k<g.bt.length:=by omega
  have kg:=Ln (c:=fH d k) (by rw [yd]; omega) λv hv=>by have:=(Ir aV hJ v hv).2; omega
  obtain ⟨yi,yj,_⟩:=CB kg;have hx:=yd d k;refine .aK (Ξ:=λl:List Int=>l=pos (fH d k)) ?_ λl ao=>?_
  ·refine Tot.upto (λs=>s.2) d.dp.length (λae s=>s.1=pos ((fH d k).take ae)) rfl (by omega) rfl λae s ab he bp=>?_;obtain ⟨L,i⟩:=s;simp only at he bp ⊢;subst he bp;rw [ei ae (by omega)];refine Tot.b8 (λdW=>?_) (λdM=>.az ?_)
   ·have dW:ae<d.dp.length:=by omega
    have lC:=Bj (a:=k) dW;have hlen:=Lm ((fH d k).take ae);rw [List.length_take] at hlen;obtain ⟨mx,_⟩:=aV.u6 _ (List.getElem_mem dW);simp only [ev dW,Option.bind_some,Cl (show k<(d.dp[ae]).length by omega)];generalize (d.dp[ae]).getD k 0=v at *;refine .aK (Ξ:=λL:List Int=>L=pos ((fH d k).take (ae+1))) ?_ λr av=>.az ⟨dW,rfl,av⟩;rw [lC,Lo];refine .aK (Ξ:=λL:List Int=>L=pos ((fH d k).take ae)++(if 0<=v then [v] else [])) (Tot.b8 (λh=>?_) (λh=>.az ?_)) λr av=>.az av
    ·rw [if_pos h];exact .aK (Ξ:=λ_=>True) (Tot.ap (by simp [lim]; omega) trivial) λ_ _=>.az rfl
    ·rw [if_neg h,List.append_nil]
   ·have e:(fH d k).take ae=fH d k:=List.take_of_length_le (by omega);rw [e]; rfl
  ·subst ao;rw [yj];refine Tot.ax (.aK (Ξ:=λl:List gy=>l=km (lF (mC (pos (fH d k)))) id (fH d k)) ?_ λl ao=>?_)
   ·generalize mC (pos (fH d k))=D;refine Tot.upto (λs=>s.2) d.dp.length (λae s=>s.1=km (lF D) id ((fH d k).take ae)) rfl (by omega) rfl λae s ab he bp=>?_;obtain ⟨L,i⟩:=s;simp only at he bp ⊢;subst he bp;rw [ei ae (by omega)];refine Tot.b8 (λdW=>?_) (λdM=>.az ?_)
    ·have dW:ae<d.dp.length:=by omega
     have lC:=Bj (a:=k) dW;have hlen:=CK (lF D) id ((fH d k).take ae);have e3:((fH d k).take ae).length=ae:=by rw [List.length_take]; omega
     rw [e3] at hlen;obtain ⟨mx,_⟩:=aV.u6 _ (List.getElem_mem dW);simp only [ev dW,Option.bind_some,Cl (show k<(d.dp[ae]).length by omega)];generalize (d.dp[ae]).getD k 0=v at *;refine .aK (Ξ:=λL:List gy=>L=km (lF D) id ((fH d k).take (ae+1))) ?_ λr av=>.az ⟨dW,rfl,av⟩;rw [lC,CL,e3];refine .aK (Ξ:=λc:Bool=>c=lF D v) (Tot.cE (λh=>.az ?_) (λh=>.az ?_)) λc aa=>?_
     ·unfold lF; rw [h]; rfl
     ·unfold lF; rw [h]; rfl
     subst aa;refine .aK (Ξ:=λL:List gy=>L=km (lF D) id ((fH d k).take ae)++(if lF D v=true then [(⟨ae,id v⟩:gy)] else [])) (Tot.cE (λh=>?_) (λh=>.az ?_)) λr av=>.az av
     ·rw [if_pos h];exact .aK (Ξ:=λ_=>True) (Tot.ap (by simp [lim]; omega) trivial) λ_ _=>.az rfl
     ·rw [if_neg (by rw [h]; decide),List.append_nil]
    ·have e:(fH d k).take ae=fH d k:=List.take_of_length_le (by omega);rw [e]; rfl
   ·subst ao;refine .aK (Ξ:=λ_=>True) (Tot.ap (by simp [lim]; omega) trivial) λ_ _=>.az ⟨hJ,rfl,?_⟩;show _=(List.range (k+1)).map λa=>tA (fH d a);rw [List.range_succ,List.map_append]; rfl
 ·have:k=g.bt.length:=by omega
  subst this; rfl
theorem IP (g:bR) (t:Int):xo g t=some (match idx g.aX t with | some k=>(k.Level,k.eN) | none=>(0,0)):=by
 unfold xo;by_cases ba:t<0
 ·rw [uU (.inl ba)]; simp [ba]
 ·by_cases h1:(g.aX.length:Int)<=t
  ·rw [uU (.inr h1)]; simp [h1]
  ·obtain ⟨k,hk,_⟩:=kY (l:=g.aX) (i:=t) (by omega) (by omega);simp [ba,h1,hk]
theorem Pl (g:bR) (p:Int):z8 g p=some (qh g p):=by
 unfold z8 qh;by_cases ba:p<0
 ·rw [uU (.inl ba)]; simp [ba]
 ·by_cases h1:(g.aW.length:Int)<=p
  ·rw [uU (.inr h1)]; simp [h1]
  ·obtain ⟨k,hk,_⟩:=kY (l:=g.aW) (i:=p) (by omega) (by omega);simp only [ba,h1,hk,decide_false,cond_false,Option.bind_some,IP]
   first | done | (cases idx g.aX k.Prec <;> rfl)
theorem O8 (g:bR) (p t:Int):dec g p t=0\/dec g p t=1\/dec g p t=2\/dec g p t=3:=by
 unfold dec;split
 ·repeat' split
  all_goals simp
 ·exact .inl rfl
theorem Pg (g:bR) (p t:Int):zY g p t=some (dec g p t):=by
 unfold zY;rw [Pl,IP];unfold dec;generalize qh g p=x;cases hk:idx g.aX t with
 | none =>
  simp only [Option.bind_some];by_cases h1:x.1=0 <;> simp [h1]
 | some k =>
  simp only [Option.bind_some];by_cases h1:x.1=0
  ·simp [h1]
  ·by_cases ak:k.Level=0
   ·simp [h1,ak]
   ·rw [if_neg (by omega)];simp only [h1,ak,decide_false,cond_false,Option.bind_some];by_cases aN:x.1<k.Level
    ·simp [aN]
    ·by_cases bP:k.Level<x.1
     ·have:¬ k.Level=x.1:=by omega
      simp [aN,bP,this]
     ·have:k.Level=x.1:=by omega
      rw [if_neg aN,if_neg bP];by_cases cZ:k.eN=1
      ·simp [this,cZ]
      ·by_cases dv:k.eN=2
       ·simp [this,dv]
       ·simp [this,cZ,dv]
theorem HY {p:Int}{r:List Int}(h:fO h' (p::r)):∀ x∈r,p<x:=λx J=>Ge.1 ((List.pairwise_cons.1 h).1 x J)
theorem Ij (p:Int) (r:List Int) (ao:r.length<=1000) (h:fO h' (p::r)):vg (p::r)=some p:=by
 suffices aL:Tot (vg (p::r)) λz=>z=p by
  obtain ⟨z,bB,e⟩:=aL; rw [bB,e]
 have a8:=HY h;unfold vg;refine Tot.b8 (λh=>by rw [List.length_cons] at h; omega) (λ_=>?_);have jH:idx (p::r) 0=some p:=rfl;rw [jH];refine Tot.ax (.aK (Ξ:=λz:Int=>z=p) ?_ λz bB=>.az bB);refine Tot.count (λs=>s.2) ((p::r).length:Int) (λs=>s.1=p/\1<=s.2) ⟨rfl,Int.le_refl _⟩ (by rw [List.length_cons]; show ((r.length+1:Nat):Int) - 1<_; omega) λs aL=>?_;obtain ⟨z,i⟩:=s;obtain ⟨h1,ak⟩:=aL;simp only at h1 ak ⊢;subst h1;have RE:(z::r).length=r.length+1:=rfl;refine Tot.b8 (λRF=>?_) (λ_=>.az rfl);obtain ⟨y,ay,hm⟩:=kY (l:=z::r) (i:=i) (by omega) RF;rw [ay];have SE:z<=y:=by
  rcases List.mem_cons.1 hm with rfl | hm
  ·exact Int.le_refl _
  ·have:=a8 y hm; omega
 refine Tot.ax (.az ⟨⟨Int.min_eq_left SE,?_⟩,?_,?_⟩)
 ·show 1<=aM (i+1);rw [dC]; omega
 ·show i<aM (i+1);rw [dC]; omega
 ·show aM (i+1)<=_;rw [dC]; omega
def DN (g:bR) (c:Cell):Bool:=match c.aW with
 | []=>false
 | p::_=>decide (c.gR=true\/(0<=c.fg/\dec g p c.bC=0))
theorem Pj (g:bR) (aY:gq g) {n:Nat}(c:Cell) (h:mW g n c):z7 g c=some (jF g c,DN g c):=by
 have ao:=h.len aY;have aE:=h.p;unfold z7 jF DN;cases dn:c.aW with
 | nil =>
  simp only;cases h1:c.gR <;> simp
 | cons p r =>
  rw [dn,List.length_cons] at ao;rw [dn] at aE;have dl:decide (((p::r).length:Int)=0)=false:=decide_eq_false (by simp; omega);simp only [dl,cond_false,Ij p r (by omega) aE,Option.bind_some,Pg];have aV:=O8 g p c.bC;generalize dec g p c.bC=v at *;cases h1:c.gR
  ·by_cases ak:c.fg<0
   ·have aN:¬ 0<=c.fg:=by omega
    simp [ak,aN]
   ·have aN:0<=c.fg:=by omega
    rcases aV with rfl | rfl | rfl | rfl <;> simp [ak,aN]
  ·simp
theorem Pm:∀ k:Fin 24,CJ [-1] ((k.val+1:Nat):Int)=some (List.replicate (k.val+1) (-1)):=by decide +kernel
theorem NX (g:bR) (aY:gq g) {m:List State}(hm:lj g m):Tot (z6 g m) λd=>d.eo=(List.range m.length).map (λ_=>List.replicate g.aX.length (⟨0,0⟩:Act))/\d.dp=(List.range m.length).map λq=>ox g m q:=by
 have aC:=aY.ir;have aJ:=aY.hF;have y1:=hm.lG;unfold z6;refine .aK (Ξ:=λr:List (List Act) × List (List Int)=>r.1=(List.range m.length).map (λ_=>List.replicate g.aX.length (⟨0,0⟩:Act))/\r.2=(List.range m.length).map λq=>ox g m q) ?_ λr av=>.az av;refine Tot.upto (λs=>s.2.2) m.length (λk s=>s.1=(List.range k).map (λ_=>List.replicate g.aX.length (⟨0,0⟩:Act))/\s.2.1=(List.range k).map λq=>ox g m q) rfl (by omega) ⟨rfl,rfl⟩ λk s hk he bp=>?_;obtain ⟨A,G,i⟩:=s;obtain ⟨h1,ak⟩:=bp;simp only at he h1 ak ⊢;subst he h1 ak;rw [ei k (by omega)];refine Tot.b8 (λa8=>?_) (λdM=>.az ?_)
 ·have a8:k<m.length:=by omega
  have cd:idx m (k:Int)=some m[k]:=ev a8;have kg:=List.getElem_mem a8;rw [cd];generalize m[k]=st at *;have s9:=hm.tn st kg;have fU:=hm.nd st kg;have IS:=Pm ⟨g.bt.length - 1,by omega⟩;simp only [show g.bt.length - 1+1=g.bt.length by omega] at IS;simp only [Option.bind_some,IS];refine .aK (Ξ:=λL:List Int=>L=ox g m k) ?_ λL jw=>?_
  ·refine Tot.upto (λs=>s.2) st.c9.length (λae s=>s.1.length=g.bt.length/\∀ a:Nat,a<g.bt.length->(∃ v∈st.c9.take ae,v.Sym=1000+(a:Int)/\s.1[a]?=some v.g_)\/((∀ v∈st.c9.take ae,v.Sym≠1000+(a:Int))/\s.1[a]?=some (-1))) rfl (by omega) ⟨by simp,λa bf=>.inr ⟨by simp,by simp [bf]⟩⟩ λae s ab he bp=>?_;obtain ⟨L,i⟩:=s;obtain ⟨h1,ak⟩:=bp;simp only at he h1 ak ⊢;subst he;rw [ei ae (by omega)];refine Tot.b8 (λdW=>?_) (λdM=>.az ?_)
   ·have dW:ae<st.c9.length:=by omega
    have lC:=ko dW;have wW:=hm.sym aY kg (List.getElem_mem dW);have V0:∀ v∈st.c9.take ae,v.Sym≠(st.c9[ae]).Sym:=λv hv e=>by
     obtain ⟨i,hi,rfl⟩:=List.mem_iff_getElem.1 hv;rw [List.length_take] at hi;rw [List.getElem_take] at e;have:=List.pairwise_iff_getElem.1 fU i ae (by rw [List.length_map]; omega) (by rw [List.length_map]; omega) (by omega);rw [List.getElem_map,List.getElem_map] at this;exact this e
    simp only [ev dW,Option.bind_some];generalize st.c9[ae]=v at *;refine .aK (Ξ:=λL:List Int=>L.length=g.bt.length/\∀ a:Nat,a<g.bt.length->(∃ v∈st.c9.take (ae+1),v.Sym=1000+(a:Int)/\L[a]?=some v.g_)\/((∀ v∈st.c9.take (ae+1),v.Sym≠1000+(a:Int))/\L[a]?=some (-1))) ?_ λL jw=>.az ⟨dW,rfl,jw⟩;rw [lC];have mem:∀ w,w∈st.c9.take ae++[v]↔w∈st.c9.take ae\/w=v:=λw=>by simp
    refine .aK (Ξ:=λL:List Int=>L.length=g.bt.length/\∀ a:Nat,a<g.bt.length->(∃ w∈st.c9.take ae++[v],w.Sym=1000+(a:Int)/\L[a]?=some w.g_)\/((∀ w∈st.c9.take ae++[v],w.Sym≠1000+(a:Int))/\L[a]?=some (-1))) (Tot.b8 (λh=>?_) (λh=>.az ⟨h1,λa bf=>?_⟩)) λL jw=>.az jw
    ·have aF:=wW.2.2 h;have hw:aM (v.Sym - 1000)=v.Sym - 1000:=by rw [dC]; omega
     rw [hw];obtain ⟨y,ay,_⟩:=kY (l:=L) (i:=v.Sym - 1000) (by omega) (by omega);rw [ay];refine Tot.ax (.az ⟨by rw [List.length_set]; exact h1,λa bf=>?_⟩);rw [Ao (by omega)];by_cases e:a=(v.Sym - 1000).toNat
     ·rw [if_pos e];exact .inl ⟨v,(mem v).2 (.inr rfl),by omega,rfl⟩
     ·rw [if_neg e];rcases ak a bf with ⟨w,uO,qa,FF⟩ | ⟨uO,qa⟩
      ·exact .inl ⟨w,(mem w).2 (.inl uO),qa,FF⟩
      ·refine .inr ⟨λw hw=>?_,qa⟩;rcases (mem w).1 hw with hw | rfl
       ·exact uO w hw
       ·omega
    ·rcases ak a bf with ⟨w,uO,qa,FF⟩ | ⟨uO,qa⟩
     ·exact .inl ⟨w,(mem w).2 (.inl uO),qa,FF⟩
     ·refine .inr ⟨λw hw=>?_,qa⟩;rcases (mem w).1 hw with hw | rfl
      ·exact uO w hw
      ·omega
   ·have e:st.c9.take ae=st.c9:=List.take_of_length_le (by omega);rw [e] at ak;show L=ox g m k;refine List.ext_getElem? λa=>?_;unfold ox;by_cases bf:a<g.bt.length
    ·rw [List.getElem?_map,List.getElem?_range bf];have BZ:=(go_eq hm k (1000+(a:Int))).2;show _=some (go m k (1000+(a:Int)));rcases ak a bf with ⟨v,nU,pr,R9⟩ | ⟨nU,pr⟩
     ·rw [R9];rcases BZ with ⟨_,bP⟩ | ⟨C2,w,bP,cZ,dv,h7⟩
      ·exact absurd pr (bP st cd v nU)
      ·rw [cd] at bP; cases bP;have:v=w:=by
        obtain ⟨i,hi,rfl⟩:=List.mem_iff_getElem.1 nU;obtain ⟨wZ,VN,rfl⟩:=List.mem_iff_getElem.1 cZ;have key:i=wZ:=by
         by_cases c1:i<wZ
         ·have:=List.pairwise_iff_getElem.1 fU i wZ (by rw [List.length_map]; omega) (by rw [List.length_map]; omega) c1;rw [List.getElem_map,List.getElem_map] at this;exact absurd (pr.trans dv.symm) this
         ·by_cases c2:wZ<i
          ·have:=List.pairwise_iff_getElem.1 fU wZ i (by rw [List.length_map]; omega) (by rw [List.length_map]; omega) c2;rw [List.getElem_map,List.getElem_map] at this;exact absurd (dv.trans pr.symm) this
          ·omega
        subst key; rfl
       rw [h7,this]
     ·rw [pr];rcases BZ with ⟨bP,_⟩ | ⟨C2,w,bP,cZ,dv,h7⟩
      ·rw [bP]
      ·rw [cd] at bP; cases bP;exact absurd dv (nU w cZ)
    ·rw [List.getElem?_eq_none (by omega),List.getElem?_eq_none (by simp; omega)]
  ·subst jw;refine .aK (Ξ:=λ_=>True) (Tot.ap (by simp [lim]; omega) trivial) λ_ _=>?_;refine .aK (Ξ:=λr=>r=List.replicate g.aX.length (⟨0,0⟩:Act)) (Tot.mk (by simp [lim]; omega) (by simp)) λqC gm=>?_;subst gm;refine .aK (Ξ:=λ_=>True) (Tot.ap (by simp [lim]; omega) trivial) λ_ _=>.az ⟨a8,rfl,?_,?_⟩
   ·show _=(List.range (k+1)).map _;rw [List.range_succ,List.map_append]; rfl
   ·show _=(List.range (k+1)).map _;rw [List.range_succ,List.map_append]; rfl
 ·have:k=m.length:=by omega
  subst this;exact ⟨rfl,rfl⟩
theorem Ny {cs:List Cell}{k:Nat}(h:k<cs.length) (q:Nat):fC (cs.take (k+1)) q=fC (cs.take k) q++(if cs[k].State=(q:Int) then [cs[k]] else []):=by
 unfold fC;rw [G9 h];by_cases e:cs[k].State=(q:Int) <;> simp [e]
theorem N' (g:bR) (l:List Cell) (c:Cell):ha g (l++[c])=ha g l++oq g c:=by
 unfold ha;rw [List.flatMap_append]; simp
theorem rD (g:bR) (m:List State) (cs:List Cell) (dU:xQ g m cs):Tot (vd g m cs) λr=>xS g m cs r.1/\r.2=ha g cs:=by
 obtain ⟨aY,hm,aa⟩:=dU;have aC:=aY.ir;have y1:=hm.lG;have BV:=aa.n;unfold vd;refine .aK (NX g aY hm) λd aV=>?_;obtain ⟨BX,Rh⟩:=aV;refine .aK (Ξ:=λr:List (List Act) × List eF=>r.1=(List.range m.length).map (λq=>rowOf g (fC cs q))/\r.2=ha g cs) ?_ λr av=>.az ⟨⟨av.1,Rh⟩,av.2⟩;rw [BX];refine Tot.upto (λs=>s.2.2) cs.length (λk s=>s.1=(List.range m.length).map (λq=>rowOf g (fC (cs.take k) q))/\s.2.1=ha g (cs.take k)) rfl (by omega) ⟨by simp [fC,rowOf],by simp [ha]⟩ λk s hk he bp=>?_;obtain ⟨A,C,i⟩:=s;obtain ⟨h1,ak⟩:=bp;simp only at he h1 ak ⊢;subst he h1 ak;rw [ei k (by omega)];refine Tot.b8 (λa8=>?_) (λdM=>.az ?_)
 ·have a8:k<cs.length:=by omega
  have fV:=ko a8;have fK:=Ny a8;have eA:=aa.ok _ (List.getElem_mem a8);have hx:(ha g (cs.take k)).length<=360000:=by
   have h1:=Bi aY (l:=cs.take k) λc nh=>aa.ok c (List.mem_of_mem_take nh);rw [List.length_take] at h1;omega
  rw [ev a8];generalize cs[k]=c at *;have cd:=eA.s;have mx:=CT g (fC (cs.take k) c.State.toNat);have Py:idx ((List.range m.length).map λq=>rowOf g (fC (cs.take k) q)) c.State=some (rowOf g (fC (cs.take k) c.State.toNat)):=by
   unfold idx;rw [if_pos cd.1,List.getElem?_map,List.getElem?_range (by omega)]; rfl
  obtain ⟨a0,gz,_⟩:=kY (l:=rowOf g (fC (cs.take k) c.State.toNat)) (i:=c.bC) eA.t.1 (by rw [mx]; exact eA.t.2);have I2:((List.range m.length).map λq=>rowOf g (fC (cs.take k) q)).set c.State.toNat ((rowOf g (fC (cs.take k) c.State.toNat)).set c.bC.toNat (jF g c))=(List.range m.length).map λq=>rowOf g (fC (cs.take (k+1)) q):=by
   refine List.ext_getElem? λq=>?_;rw [Ao (by simp; omega),List.getElem?_map,List.getElem?_map];by_cases e:q=c.State.toNat
   ·rw [if_pos e,e,List.getElem?_range (by omega)];show _=some (rowOf g (fC (cs.take (k+1)) c.State.toNat));rw [fK,if_pos (by omega),Lw]
   ·rw [if_neg e];by_cases bK:q<m.length
    ·rw [List.getElem?_range bK];show some (rowOf g (fC (cs.take k) q))=some (rowOf g (fC (cs.take (k+1)) q));rw [fK,if_neg (by omega),List.append_nil]
    ·rw [List.getElem?_eq_none (by simp; omega)]; rfl
  have BR:=eA.len aY;simp only [Option.bind_some,Pj g aY c eA,Py,gz];refine .aK (Ξ:=λr:List (List Act) × List eF=>r.1=(List.range m.length).map (λq=>rowOf g (fC (cs.take (k+1)) q))/\r.2=ha g (cs.take (k+1))) ?_ λr av=>.az ⟨a8,rfl,av⟩;rw [fV,N',<- fV];cases dn:c.aW with
  | nil =>
   refine Tot.b8 (λ_=>.az ⟨I2,?_⟩) (λh=>absurd rfl h);show ha g (cs.take k)=_;unfold oq;rw [dn,List.append_nil]
  | cons p r =>
   have EN:=eA.p;rw [dn] at EN BR;rw [List.length_cons] at BR;have Fg:=HY EN;refine Tot.b8 (λh=>by rw [List.length_cons] at h; omega) (λ_=>?_);rw [Ij p r (by omega) EN];refine Tot.ax (.aK (Ξ:=λl:List eF=>l=ha g (cs.take k)++r.map (λx=>(⟨c.State,c.bC,p,x⟩:eF))) ?_ λl ao=>?_)
   ·refine Tot.upto (λs=>s.2) (p::r).length (λae s=>s.1=ha g (cs.take k)++(r.take (ae - 1)).map (λx=>(⟨c.State,c.bC,p,x⟩:eF))) rfl (by rw [List.length_cons]; omega) (by simp) λae s ab he bp=>?_;obtain ⟨L,i⟩:=s;simp only at he bp ⊢;subst he bp;rw [ei ae (by rw [List.length_cons] at ab; omega)];refine Tot.b8 (λdW=>?_) (λdM=>.az ?_)
    ·have dW:ae<(p::r).length:=by omega
     rw [ev dW];simp only [Option.bind_some];refine .aK (Ξ:=λl:List eF=>l=ha g (cs.take k)++(r.take (ae+1 - 1)).map (λx=>(⟨c.State,c.bC,p,x⟩:eF))) ?_ λl ao=>.az ⟨dW,rfl,ao⟩;cases ae with
     | zero =>
      refine .aK (Ξ:=λl:List eF=>l=ha g (cs.take k)++(r.take (0+1 - 1)).map (λx=>(⟨c.State,c.bC,p,x⟩:eF))) (Tot.pc (λh=>absurd rfl h) (λ_=>.az ?_)) λl ao=>.az ao;simp
     | succ ae =>
      rw [List.length_cons] at dW;have Kc:ae<r.length:=by omega
      have eh:=Fg _ (List.getElem_mem Kc);rw [List.getElem_cons_succ];have hL:=ko Kc;refine .aK (Ξ:=λl:List eF=>l=ha g (cs.take k)++(r.take (ae+1+1 - 1)).map (λx=>(⟨c.State,c.bC,p,x⟩:eF))) (Tot.pc (λ_=>?_) (λh=>by omega)) λl ao=>.az ao;refine .aK (Ξ:=λ_=>True) (Tot.ap (by simp [lim]; omega) trivial) λ_ _=>.az ?_;rw [Nat.add_sub_cancel,Nat.add_sub_cancel,hL,List.map_append,List.append_assoc]; rfl
    ·rw [List.length_cons] at dM ab;have e:r.take (ae - 1)=r:=List.take_of_length_le (by omega);rw [e]; rfl
   ·subst ao;refine .aK (Ξ:=λl:List eF=>l=ha g (cs.take k)++oq g c) ?_ λl ao=>.az ⟨I2,ao⟩;unfold oq DN;rw [dn];simp only;refine Tot.b8 (λh=>?_) (λh=>.az ?_)
    ·rw [if_pos h];refine .aK (Ξ:=λ_=>True) (Tot.ap (by simp [lim]; omega) trivial) λ_ _=>.az (by rw [List.append_assoc])
    ·rw [if_neg h,List.append_nil]
 ·have e:cs.take k=cs:=List.take_of_length_le (by omega);rw [e];exact ⟨rfl,rfl⟩
theorem wk (r:List Act) (n:Int) (h:r.length<=100000):Gt r n=some ((red r).count n:Int):=by
 suffices aL:Tot (Gt r n) λz=>z=((red r).count n:Int) by
  obtain ⟨z,bB,e⟩:=aL; rw [bB,e]
 unfold Gt;refine .aK (Ξ:=λz:Int=>z=((red r).count n:Int)) ?_ λz bB=>.az bB;refine Tot.upto (λs=>s.2) r.length (λk s=>s.1=((red (r.take k)).count n:Int)) rfl (by omega) (by simp [red]) λk s hk he bp=>?_;obtain ⟨z,i⟩:=s;simp only at he bp ⊢;subst he bp;rw [ei k (by omega)];refine Tot.b8 (λa8=>?_) (λdM=>.az ?_)
 ·have a8:k<r.length:=by omega
  have fV:=ko a8;have h1:=List.count_le_length (a:=n) (l:=red (r.take k));have ak:=CP (r.take k);rw [List.length_take] at ak;simp only [ev a8,Option.bind_some];generalize r[k]=a at *;refine .aK (Ξ:=λz:Int=>z=((red (r.take (k+1))).count n:Int)) ?_ λz bB=>.az ⟨a8,rfl,bB⟩;rw [fV,GG];refine .aK (Ξ:=λc:Bool=>c=decide (a.Kind=2/\a.N=n)) (Tot.b8 (λh=>.az ?_) (λh=>.az ?_)) λc aa=>?_
  ·exact decide_eq_decide.2 ⟨λaR=>⟨h,aR⟩,λaR=>aR.2⟩
  ·exact (decide_eq_false λaR=>h aR.1).symm
  subst aa;refine .aK (Ξ:=λz:Int=>z=((red (r.take k)++if a.Kind=2 then [a.N] else []).count n:Int)) (Tot.b8 (λh=>.az ?_) (λh=>.az ?_)) λz bB=>.az bB
  ·rw [if_pos h.1,rF,if_pos h.2,ei _ (by omega)]
  ·by_cases aN:a.Kind=2
   ·rw [if_pos aN,rF,if_neg λaR=>h ⟨aN,aR⟩]; rfl
   ·rw [if_neg aN,List.append_nil]
 ·have e:r.take k=r:=List.take_of_length_le (by omega);rw [e]; rfl
theorem Jo (g:bR) {i:Nat}:∀ (l:List Cell) (r:List Act),(∀ c∈l,c.bC.toNat≠i)->(l.foldl (λrow c=>row.set c.bC.toNat (jF g c)) r)[i]?=r[i]?
 | [],_,_=>rfl
 | c::l,r,h=>by
  rw [List.foldl_cons,Jo g l _ λd aV=>h d (by simp [aV]),List.getElem?_set];rw [if_neg (h c (by simp))]
theorem Jn (g:bR) {c:Cell}:∀ (l:List Cell) (r:List Act),c∈l->l.Pairwise (λa b=>a.bC.toNat≠b.bC.toNat)->c.bC.toNat<r.length->(l.foldl (λrow c=>row.set c.bC.toNat (jF g c)) r)[c.bC.toNat]?=some (jF g c)
 | [],_,h,_,_=>by cases h
 | d::l,r,h,aE,ao=>by
  obtain ⟨h1,ak⟩:=List.pairwise_cons.1 aE;rw [List.foldl_cons];rcases List.mem_cons.1 h with rfl | h
  ·rw [Jo g l _ λe he=>(h1 e he).symm,List.getElem?_set,if_pos rfl,if_pos ao]
  ·exact Jn g l _ h ak (by rw [List.length_set]; exact ao)
theorem Nz {g:bR}{n:Nat}{cs:List Cell}(aa:tK g n cs) (q:Nat):(fC cs q).Pairwise λa b=>a.bC.toNat≠b.bC.toNat:=by
 unfold fC;refine List.Pairwise.imp_of_mem (λ{a b} bf aF h=>?_) (List.Pairwise.sublist List.filter_sublist aa.Th);rw [List.mem_filter] at bf aF;have h1:=of_decide_eq_true bf.2;have ak:=of_decide_eq_true aF.2;have aN:=(aa.ok a bf.1).t;have bP:=(aa.ok b aF.1).t;rcases h with h | h <;> omega
theorem HL {g:bR}{m:List State}{cs:List Cell}{d:jD}(dU:xQ g m cs) (h:xS g m cs d) {c:Cell}(nh:c∈cs):∃ row,idx d.eo c.State=some row/\row.length=g.aX.length/\idx row c.bC=some (jF g c):=by
 have eA:=dU.ce.ok c nh;have aL:=eA.s;have aC:=eA.t;refine ⟨rowOf g (fC cs c.State.toNat),?_,CT g _,?_⟩
 ·rw [h.a];unfold idx;rw [if_pos aL.1,List.getElem?_map,List.getElem?_range (by omega)]; rfl
 ·unfold idx;rw [if_pos aC.1];unfold rowOf;refine Jn g _ _ ?_ (Nz dU.ce _) (by simp; omega);unfold fC;rw [List.mem_filter];exact ⟨nh,decide_eq_true (by omega)⟩
theorem Pf (c:Cell) (ao:c.aW.length<=1000):zX c=some (j8 c:Int):=Md ao (by unfold zX; rfl)
theorem yb {g:bR}(aY:gq g) {n:Nat}{cs:List Cell}(aa:tK g n cs):Tot (zZ cs) λr=>r=((cs.filter λc=>decide (1<j8 c)).length:Int):=by
 unfold zZ;exact .aK (Lr aY aa Pf) λr av=>.az av
theorem To {g:bR}{c:Cell}(h:j8 c=1):oq g c=[]/\((c.aW=[]/\c.fg<0/\c.gR=true/\jF g c=⟨3,0⟩)\/(c.aW=[]/\0<=c.fg/\c.gR=false/\jF g c=⟨1,c.fg⟩)\/∃ p,c.aW=[p]/\jF g c=⟨2,p⟩):=by
 unfold j8 at h;unfold oq jF;cases dn:c.aW with
 | nil =>
  rw [dn] at h;refine ⟨rfl,?_⟩;simp only;by_cases h1:c.gR=true
  ·rw [if_pos h1] at h;by_cases ak:0<=c.fg
   ·rw [if_pos ak] at h; simp at h
   ·exact .inl ⟨trivial,by omega,h1,by rw [if_pos h1]⟩
  ·rw [if_neg h1] at h;by_cases ak:0<=c.fg
   ·exact .inr (.inl ⟨trivial,ak,by simpa using h1,by rw [if_neg h1]⟩)
   ·rw [if_neg ak] at h; simp at h
 | cons p r =>
  rw [dn,List.length_cons] at h;have h1:c.gR≠true:=λe=>by rw [if_pos e] at h; omega
  have ak:¬ 0<=c.fg:=λe=>by rw [if_pos e] at h; omega
  have av:r=[]:=List.eq_nil_of_length_eq_zero (by omega);subst av;simp only;refine ⟨by simp [h1,ak],.inr (.inr ⟨p,rfl,?_⟩)⟩;rw [if_neg h1,if_pos (by omega)]
def ir:Nat->ByteArray
 | 0=>⟨#[65]⟩ | 1=>⟨#[66]⟩ | 2=>⟨#[67]⟩ | 3=>⟨#[68]⟩ | 4=>⟨#[69]⟩ | 5=>⟨#[70]⟩ | _=>⟨#[71]⟩
abbrev gO:ByteArray:={ data:=#[] }
abbrev jv:ByteArray:={ data:=#[101] }
def xE (i:Nat):Sym:=⟨ir i,true,0,0⟩
def L3:Sym:=⟨jv,false,0,0⟩
def j1 (i:Nat) (w:Int):Decl:=⟨aM (2+w),gO,[xE i],0⟩
def fo:Nat->List Int->List Decl
 | _,[]=>[]
 | i,w::ws=>j1 i w::fo (i+1) ws
def e8 (i:Nat):Alt:=⟨[⟨L3,gO,0⟩,⟨xE i,gO,0⟩,⟨L3,gO,0⟩],⟨gO,false,0,0⟩,0⟩
def tH:Alt:=⟨[⟨⟨⟨#[120]⟩,true,0,0⟩,gO,0⟩],⟨gO,false,0,0⟩,0⟩
def jQ:Nat->List Alt
 | 0=>[tH]
 | n+1=>jQ n++[e8 n]
def rf (ws:List Int):Source:=⟨gO,fo 0 ws,[⟨jv,jQ ws.length,0⟩],gO⟩
theorem uk:∀ (ws:List Int) (i:Nat),(fo i ws).length=ws.length
 | [],_=>rfl
 | _::ws,i=>by simp [fo,uk ws]
theorem pP:∀ n,(jQ n).length=n+1
 | 0=>rfl
 | n+1=>by simp [jQ,pP n]
theorem yh:∀ (ws:List Int) (i k:Nat),(fo i ws)[k]?=(ws[k]?).map (j1 (i+k))
 | [],_,_=>rfl
 | _::ws,i,0=>rfl
 | _::ws,i,k+1=>by
  simp only [fo,List.getElem?_cons_succ,yh ws (i+1) k];rw [show i+1+k=i+(k+1) by omega]
theorem IM:∀ (ws:List Int) (i:Nat) (w:Int),fo i (ws++[w])=fo i ws++[j1 (i+ws.length) w]
 | [],_,_=>rfl
 | _::ws,i,w=>by
  simp only [List.cons_append,fo,IM ws,List.length_cons];rw [show i+1+ws.length=i+(ws.length+1) by omega]
theorem Dq:∀ (n k:Nat),k<n->(jQ n)[k+1]?=some (e8 k)
 | n+1,k,h=>by
  by_cases hk:k<n
  ·simp only [jQ];rw [List.getElem?_append_left (by rw [pP]; omega)];exact Dq n k hk
  ·have:k=n:=by omega
   subst this;simp only [jQ];rw [List.getElem?_append_right (by rw [pP]; exact Nat.le_refl _),pP];simp
theorem Dr:∀ n,(jQ n)[0]?=some tH
 | 0=>rfl
 | n+1=>by
  simp only [jQ];rw [List.getElem?_append_left (by rw [pP]; omega)];exact Dr n
def tS:List bC:=[⟨{ data:=#[36,101,110,100] },false,0,0,0,gO⟩,⟨{ data:=#[101,114,114,111,114] },false,(-1),0,0,gO⟩,⟨{ data:=#[36,117,110,107] },false,(-1),0,0,gO⟩]
def qs:Nat->List Int->List bC
 | _,[]=>[]
 | i,w::ws=>⟨ir i,true,65+i,i+1,w+1,gO⟩::qs (i+1) ws
def C4:bC:=⟨⟨#[120]⟩,true,120,0,0,gO⟩
def gu (i:Nat):Prod:=⟨1,[1001,i+3,1001],i+3,gO,[1001,i+3,1001],0⟩
def TI (n:Nat):Prod:=⟨1,[n+3],n+3,gO,[n+3],0⟩
def r' (n:Nat):Nat->List Prod
 | 0=>[⟨0,[1001],-1,gO,[],0⟩,TI n]
 | k+1=>r' n k++[gu k]
def hW (ws:List Int):cC:=⟨⟨tS++qs 0 ws,[],[],gO,gO⟩,[false,false,false]++ws.map (λ_=>true),[],[],0,0,gO,ws.length,0⟩
def zC (ws:List Int):cC:=⟨⟨tS++qs 0 ws,[],[⟨0,[1001],-1,gO,[],0⟩],gO,gO⟩,[false,false,false]++ws.map (λ_=>true),[],[jv],0,0,gO,ws.length,0⟩
def q0 (ws:List Int) (k:Nat):cC:=⟨⟨(tS++qs 0 ws)++[C4],[],r' ws.length k,gO,gO⟩,([false,false,false]++ws.map (λ_=>true))++[true],[],[jv],0,0,gO,ws.length,0⟩
def j3 (ws:List Int):bR:=⟨(tS++qs 0 ws)++[C4],[⟨{ data:=#[36,97,99,99,101,112,116] },gO⟩,⟨jv,gO⟩],r' ws.length ws.length,gO,gO⟩
def Bh (n:Nat) (m:List State) (cs:List Cell):Bool :=
 decide ((cs.filter λc=>decide (1<j8 c)).length=n * n) &&
 (List.range n).all (λi=>match q3 m [1001,3+(i:Int),1001] with
  | some s=>decide (0<=s)&&decide (s<m.length)&&(List.range n).all (λk=>match q3 m [1001,3+(i:Int),1001,3+(k:Int)] with
   | some t=>decide (0<=t)&&cs.any λc=>decide (c=⟨s,3+k,t,false,[2+i]⟩)
   | none=>false)
  | none=>false) &&
 cs.all (λc=>decide (j8 c=1)||(match c.aW with
  | [p]=>!c.gR&&decide (0<=c.fg)&&decide (2<=p)&&decide (p<n+2)&&decide (3<=c.bC)&&decide (c.bC<n+3)
  | _=>false))
def fE (ws:List Int):Bool:=match vh (j3 ws) with
 | some (m,e)=>decide (e=0)&&(match vf (j3 ws) m with
  | some pz=>(match ve (j3 ws) m pz with
   | some cs=>Bh ws.length m cs
   | none=>false)
  | none=>false)
 | none=>false
theorem yc {P:List Int->Prop}(ws:List Int) (h:ws.length<=7) (ba:P []) (h1:∀ a,P [a]) (ak:∀ a b,P [a,b]) (aN:∀ a b c,P [a,b,c]) (bP:∀ a b c d,P [a,b,c,d]) (cZ:∀ a b c d e,P [a,b,c,d,e]) (dv:∀ a b c d e f,P [a,b,c,d,e,f])
  (h7:∀ a b c d e f g,P [a,b,c,d,e,f,g]):P ws:=by
 rcases ws with _ | ⟨a,_ | ⟨b,_ | ⟨c,_ | ⟨d,_ | ⟨e,_ | ⟨f,_ | ⟨g,_ | ⟨i,l⟩⟩⟩⟩⟩⟩⟩⟩
 ·exact ba
 ·exact h1 ..
 ·exact ak ..
 ·exact aN ..
 ·exact bP ..
 ·exact cZ ..
 ·exact dv ..
 ·exact h7 ..
 ·simp only [List.length_cons] at h; omega
theorem zE {P:Nat->Prop}(k:Nat) (h:k<7) (ba:P 0) (h1:P 1) (ak:P 2) (aN:P 3) (bP:P 4) (cZ:P 5) (dv:P 6):P k:=by
 match k,h with
 | 0,_=>exact ba
 | 1,_=>exact h1
 | 2,_=>exact ak
 | 3,_=>exact aN
 | 4,_=>exact bP
 | 5,_=>exact cZ
 | 6,_=>exact dv
def tN (w:Int):Prop:=w=0\/w=1\/w=2
theorem O' (i:Nat) (hi:i<7) {w:Int}(hw:tN w):r8 (j1 i w)=some true:=by
 rcases hw with rfl | rfl | rfl
 ·exact zE (P:=λi=>r8 (j1 i 0)=some true) i hi (by kernel_rfl) (by kernel_rfl) (by kernel_rfl) (by kernel_rfl) (by kernel_rfl) (by kernel_rfl) (by kernel_rfl)
 ·exact zE (P:=λi=>r8 (j1 i 1)=some true) i hi (by kernel_rfl) (by kernel_rfl) (by kernel_rfl) (by kernel_rfl) (by kernel_rfl) (by kernel_rfl) (by kernel_rfl)
 ·exact zE (P:=λi=>r8 (j1 i 2)=some true) i hi (by kernel_rfl) (by kernel_rfl) (by kernel_rfl) (by kernel_rfl) (by kernel_rfl) (by kernel_rfl) (by kernel_rfl)
theorem Pb (i:Nat) (hi:i<7):q1 (e8 i)=some true:=by
 exact zE (P:=λi=>q1 (e8 i)=some true) i hi (by kernel_rfl) (by kernel_rfl) (by kernel_rfl) (by kernel_rfl) (by kernel_rfl) (by kernel_rfl) (by kernel_rfl)
theorem Pc:q1 tH=some true:=by kernel_rfl
theorem Ps (ws:List Int) (h:ws.length<7) {w:Int}(hw:tN w):vm (⟨(hW ws).aq,(hW ws).bT,(hW ws).bN,(hW ws).bA,(hW ws).b',(hW ws).cb,(hW ws).ca,aM (ws.length+1),(hW ws).bx⟩:cC) (j1 ws.length w) (xE ws.length)=some (hW (ws++[w])):=by
 revert h;rcases hw with rfl | rfl | rfl
 all_goals
  refine λh=>yc (P:=λws=>ws.length<7->vm (⟨(hW ws).aq,(hW ws).bT,(hW ws).bN,(hW ws).bA,(hW ws).b',(hW ws).cb,(hW ws).ca,aM (ws.length+1),(hW ws).bx⟩:cC) (j1 ws.length _) (xE ws.length)=some (hW (ws++[_]))) ws (by omega) ?_ ?_ ?_ ?_ ?_ ?_ ?_ (λ_ _ _ _ _ _ _ h=>absurd h (by simp)) h <;> intros <;> kernel_rfl
theorem Px (ws:List Int) (h:ws.length<=7):q4 (zC ws) jv tH=some (q0 ws 0):=by
 refine yc (P:=λws=>q4 (zC ws) jv tH=some (q0 ws 0)) ws h ?_ ?_ ?_ ?_ ?_ ?_ ?_ ?_ <;> intros <;> kernel_rfl
theorem Pw (ws:List Int) (h:ws.length<=7):∀ k,k<ws.length->q4 (q0 ws k) jv (e8 k)=some (q0 ws (k+1)):=by
 refine yc (P:=λws=>∀ k,k<ws.length->q4 (q0 ws k) jv (e8 k)=some (q0 ws (k+1))) ws h ?_ ?_ ?_ ?_ ?_ ?_ ?_ ?_
 ·exact λk hk=>absurd hk (Nat.not_lt_zero k)
 ·intros a k hk; obtain rfl:k=0:=by simp at hk; omega
  all_goals kernel_rfl
 ·intros a b k hk; obtain rfl | rfl:k=0\/k=1:=by simp at hk; omega
  all_goals kernel_rfl
 ·intros a b c k hk; obtain rfl | rfl | rfl:k=0\/k=1\/k=2:=by simp at hk; omega
  all_goals kernel_rfl
 ·intros a b c d k hk; obtain rfl | rfl | rfl | rfl:k=0\/k=1\/k=2\/k=3:=by simp at hk; omega
  all_goals kernel_rfl
 ·intros a b c d e k hk; obtain rfl | rfl | rfl | rfl | rfl:k=0\/k=1\/k=2\/k=3\/k=4:=by simp at hk; omega
  all_goals kernel_rfl
 ·intros a b c d e f k hk; obtain rfl | rfl | rfl | rfl | rfl | rfl:k=0\/k=1\/k=2\/k=3\/k=4\/k=5:=by simp at hk; omega
  all_goals kernel_rfl
 ·intros a b c d e f g k hk; obtain rfl | rfl | rfl | rfl | rfl | rfl | rfl:k=0\/k=1\/k=2\/k=3\/k=4\/k=5\/k=6:=by simp at hk; omega
  all_goals kernel_rfl
theorem S7 {ws:List Int}{k:Nat}{y:Decl}(h:(fo 0 ws)[k]?=some y):∃ w,ws[k]?=some w/\y=j1 k w:=by
 rw [yh] at h;cases hw:ws[k]? with
 | none=>rw [hw] at h; cases h
 | some w =>
  rw [hw] at h;simp only [Option.map_some,Option.some.injEq] at h;exact ⟨w,rfl,by rw [<- h,Nat.zero_add]⟩
theorem Mb (ws:List Int) (k:Nat) (h:k<ws.length):ws.take (k+1)=ws.take k++[ws[k]]:=by
 rw [List.take_add_one,List.getElem?_eq_getElem h]; rfl
structure vW (ws:List Int):Prop where
 n:ws.length<=7
 k:∀ w∈ws,tN w
theorem zM {S R:Type}{f:S->Option (S ⊕ R)}{a b:S}{r:R}(h1:f a=some (.inl b)) (ak:f b=some (.inr r)):cI f a=some r:=by
 show iter f (999999999999999998+1+1) _=_;simp only [iter,h1,ak]
theorem Pr (ws:List Int) (h:vW ws):Tot (vl (rf ws)) λr=>r=true:=by
 unfold vl;have aJ:=h.n;refine .aK (Ξ:=λr=>r=.inl ()) ⟨.inl (),rfl,rfl⟩ λr av=>?_;subst av;refine Tot.aK (Ξ:=iJ (λ_=>True) (λ_=>False)) ?_ λr av=>?_
 ·refine Tot.upto (λs=>s) ws.length (λ_ _=>True) rfl (by omega) trivial λk s hk he _=>?_;subst he;rw [ei k (by omega)];refine Tot.b8 (λa8=>?_) (λ_=>.az trivial);have a8:(k:Int)<((fo 0 ws).length:Int):=a8;rw [uk] at a8;have a8:k<ws.length:=by omega
  have aV:idx (fo 0 ws) (k:Int)=some (j1 k ws[k]):=by
   have:(fo 0 ws)[k]?=some (j1 k ws[k]):=by rw [yh,List.getElem?_eq_getElem a8,Nat.zero_add]; rfl
   simp [idx,this]
  show Tot ((idx (fo 0 ws) (k:Int)).bind _) _;rw [aV];refine Tot.ax ?_;rw [O' k (by omega) (h.k _ (List.getElem_mem a8))];exact .az ⟨a8,rfl,trivial⟩
 rcases r with r | r
 ·refine Tot.aK (Ξ:=iJ (λ_=>True) (λ_=>False)) ?_ λr av=>?_
  ·refine ⟨.inl (),zM (b:=1) ?_ rfl,trivial⟩;show (bif decide ((0:Int)<1) then _ else _)=_;have i0:idx (rf ws).e1 0=some (⟨jv,jQ ws.length,0⟩:kr):=rfl;have Pa:r9 jv=some true:=by kernel_rfl
   have eh:decide (((jQ ws.length).length:Int)=0)=false:=decide_eq_false (by rw [pP]; omega);simp only [i0,Option.bind_some,Pa,Bool.not_true,cond_false,eh];have key:Tot (cI (R:=(Unit) ⊕ (Bool)) (λ(q8:Int) =>
(bif decide (q8<((jQ ws.length).length:Int)) then
(idx (jQ ws.length) q8).bind λlg =>
(q1 lg).bind λgd =>
(bif !gd then
some (.inr (.inr false))
else
some (.inl (aM (q8+1))))
else
some (.inr (.inl ())))) 0) (λr=>r=.inl ()):=by
    refine Tot.upto (λs=>s) (ws.length+1) (λ_ _=>True) rfl (by omega) trivial λk s hk he _=>?_;subst he;rw [ei k (by omega)];refine Tot.b8 (λa8=>?_) (λ_=>.az rfl);rw [pP] at a8;have aY:∃ y,idx (jQ ws.length) (k:Int)=some y/\q1 y=some true:=by
     rcases k with _ | k
     ·exact ⟨tH,by simp [idx,Dr],Pc⟩
     ·have:=Dq ws.length k (by omega);refine ⟨e8 k,by simp only [idx,if_pos (show (0:Int)<=((k+1:Nat):Int) by omega),Int.toNat_natCast]; exact this,Pb k (by omega)⟩
    obtain ⟨y,h1,ak⟩:=aY;rw [h1];refine Tot.ax ?_;rw [ak];exact .az ⟨by omega,rfl,trivial⟩
   obtain ⟨r,av,rfl⟩:=key;rw [av];rfl
  rcases r with r | r
  ·exact .az (decide_eq_true (by show (0:Int)<1; decide))
  ·exact av.elim
 ·exact av.elim
theorem Pv (ws:List Int):pD ({ hW ws with bA:=[jv] }) jv=some 0:=by kernel_rfl
theorem Pt (ws:List Int) (h:ws.length<=7):r_ (hW ws) (⟨jv,false,0,0⟩:Sym)=some (-1):=by
 refine yc (P:=λws=>r_ (hW ws) (⟨jv,false,0,0⟩:Sym)=some (-1)) ws h ?_ ?_ ?_ ?_ ?_ ?_ ?_ ?_ <;> intros <;> kernel_rfl
theorem Pu (ws:List Int):pD (hW ws) jv=some (-1):=by kernel_rfl
theorem Po (ws:List Int) (h:vW ws):Tot (vi (rf ws)) λr=>r=(j3 ws,0,0,gO):=by
 unfold vi;have aJ:=h.n;refine .aK (Pr ws h) λc aa=>?_;subst aa;refine Tot.cE (λh=>by cases h) (λ_=>?_);refine .aK (Ξ:=λl=>l=[false,false,false]) ⟨_,rfl,rfl⟩ λa6 h_=>?_;subst h_;refine Tot.aK (Ξ:=λr=>r=(hW ws,gO)) ?_ λb5 cZ=>?_
 ·refine Tot.upto (λz=>z.2.2) ws.length (λk z=>z.1=hW (ws.take k)/\z.2.1=gO) rfl (by omega) ⟨rfl,rfl⟩ λk z hk he bB=>?_;obtain ⟨w5,st,i⟩:=z;obtain ⟨h1,ak⟩:=bB;simp only at he h1 ak ⊢;subst he h1 ak;rw [ei k (by omega)];refine Tot.b8 (λa8=>?_) (λdM=>.az ?_)
  ·have a8:(k:Int)<((fo 0 ws).length:Int):=a8;rw [uk] at a8;have a8:k<ws.length:=by omega
   have aV:idx (fo 0 ws) (k:Int)=some (j1 k ws[k]):=by
    have:(fo 0 ws)[k]?=some (j1 k ws[k]):=by rw [yh,List.getElem?_eq_getElem a8,Nat.zero_add]; rfl
    simp [idx,this]
   show Tot ((idx (fo 0 ws) (k:Int)).bind _) _;rw [aV];have B0:tN ws[k]:=h.k _ (List.getElem_mem a8);have tc:(ws.take k).length=k:=by simp; omega
   have e:=Ps (ws.take k) (by omega) B0;rw [tc,<- Mb ws k a8] at e;have B3:(2:Int)<=(j1 k ws[k]).Kind/\(j1 k ws[k]).Kind<=4:=by
    have:(j1 k ws[k]).Kind=aM (2+ws[k]):=rfl;rw [this];rcases B0 with h | h | h <;> rw [h] <;> decide
   refine Tot.ax ?_;refine .aK (Ξ:=λc=>c=true) (Tot.b8 (λ_=>.az (decide_eq_true B3.2)) (λh=>absurd B3.1 h)) λc aa=>?_;subst aa;refine .aK (Ξ:=λae=>ae=aM (k+1)) (.az (by show aM (((ws.take k).length:Int)+1)=_; rw [tc])) λae ab=>?_;subst ab;refine .aK (Ξ:=λr=>r=(hW (ws.take (k+1)),gO)) ?_ λr av=>?_
   ·refine ⟨_,zM (b:=(hW (ws.take (k+1)),gO,1)) ?_ ?_,rfl⟩
    ·have i0:idx (j1 k ws[k]).fh 0=some (xE k):=rfl;have Ry:decide ((j1 k ws[k]).Kind=6)=false:=decide_eq_false (by omega);show (bif decide ((0:Int)<1) then _ else _)=_;simp only [Ry,i0,Bool.not_false,cond_true,Option.bind_some];rw [e];rfl
    ·rfl
   ·subst av;exact .az ⟨a8,rfl,rfl,rfl⟩
  ·have dM:¬ (k:Int)<((fo 0 ws).length:Int):=dM;rw [uk] at dM;have:k=ws.length:=by omega
   show (hW (ws.take k),gO)=_;rw [this,List.take_length]
 subst cZ;refine Tot.aK (Ξ:=λr=>r={ hW ws with bA:=[jv] }) ?_ λcU El=>?_
 ·refine ⟨_,zM (b:=({ hW ws with bA:=[jv] },1)) ?_ ?_,rfl⟩
  ·show (bif decide ((0:Int)<1) then _ else _)=_;have i0:idx (rf ws).e1 0=some (⟨jv,jQ ws.length,0⟩:kr):=rfl;simp only [i0,Option.bind_some,Pt ws aJ];rw [show decide ((0:Int)<=-1)=false from rfl]
   simp only [cond_false,Option.bind_some,Pu];rfl
  ·rfl
 subst El;refine Tot.aK (Ξ:=λr=>r={ hW ws with bA:=[jv] }) ?_ λbL uz=>?_
 ·refine Tot.upto (λz=>z.2) ws.length (λk z=>z.1={ hW ws with bA:=[jv] }) rfl (by omega) rfl λk z hk he bB=>?_;obtain ⟨w5,i⟩:=z;simp only at he bB ⊢;subst he bB;rw [ei k (by omega)];refine Tot.b8 (λa8=>?_) (λdM=>.az rfl);have a8:(k:Int)<((fo 0 ws).length:Int):=a8;rw [uk] at a8;have a8:k<ws.length:=by omega
  have aV:idx (rf ws).Decls (k:Int)=some (j1 k ws[k]):=by
   have:(fo 0 ws)[k]?=some (j1 k ws[k]):=by rw [yh,List.getElem?_eq_getElem a8,Nat.zero_add]; rfl
   show idx (fo 0 ws) (k:Int)=_;simp [idx,this]
  have B0:tN ws[k]:=h.k _ (List.getElem_mem a8);have B3:¬ (5:Int)<=(j1 k ws[k]).Kind:=by
   have:(j1 k ws[k]).Kind=aM (2+ws[k]):=rfl;rw [this];rcases B0 with h | h | h <;> rw [h] <;> decide
  refine .aK (Ξ:=λr=>r={ hW ws with bA:=[jv] }) ?_ λr av=>?_
  ·refine ⟨_,zM (b:=({ hW ws with bA:=[jv] },1)) ?_ ?_,rfl⟩
   ·have i0:idx (j1 k ws[k]).fh 0=some (xE k):=rfl;simp only [aV,Option.bind_some,i0,B3,decide_false,cond_false];rfl
   ·simp only [aV,Option.bind_some];rfl
  ·subst av;exact .az ⟨a8,rfl,rfl⟩
 subst uz;refine .aK (Ξ:=λr=>r=jv) ⟨_,rfl,rfl⟩ λae ab=>?_;subst ab;refine .aK (Ξ:=λr=>r=0) ⟨_,Pv ws,rfl⟩ λae ab=>?_;subst ab;refine Tot.aK (Ξ:=λr=>r=q0 ws ws.length) ?_ λaZ pg=>?_
 ·refine ⟨_,zM (b:=(q0 ws ws.length,1)) ?_ rfl,rfl⟩;show (bif decide ((0:Int)<1) then _ else _)=_;have i0:idx (rf ws).e1 0=some (⟨jv,jQ ws.length,0⟩:kr):=rfl;simp only [i0,Option.bind_some];have key:Tot (cI (R:=cC) (λ(lM:cC × Int)=>(bif decide (lM.2<((jQ ws.length).length:Int)) then
    (idx (jQ ws.length) lM.2).bind λo1=>(q4 lM.1 jv o1).bind λiF=>some (.inl (iF,aM (lM.2+1))) else some (.inr lM.1))) (zC ws,0)) λr=>r=q0 ws ws.length:=by
   refine Tot.upto (λz=>z.2) (ws.length+1) (λk z=>z.1=(match k with | 0=>zC ws | k+1=>q0 ws k)) rfl (by omega) rfl λk z hk he bB=>?_;obtain ⟨w5,i⟩:=z;simp only at he bB ⊢;subst he bB;rw [ei k (by omega)];refine Tot.b8 (λa8=>?_) (λdM=>.az ?_)
   ·rw [pP] at a8;rcases k with _ | k
    ·have:idx (jQ ws.length) ((0:Nat):Int)=some tH:=by simp [idx,Dr]
     rw [this];refine Tot.ax ?_;rw [Px ws aJ];exact .az ⟨by omega,rfl,rfl⟩
    ·have:idx (jQ ws.length) ((k+1:Nat):Int)=some (e8 k):=by simp only [idx,if_pos (show (0:Int)<=((k+1:Nat):Int) by omega),Int.toNat_natCast]; exact Dq ws.length k (by omega)
     rw [this];refine Tot.ax ?_;rw [Pw ws aJ k (by omega)];exact .az ⟨by omega,rfl,rfl⟩
   ·rw [pP] at dM;obtain rfl:k=ws.length+1:=by omega
    rfl
  obtain ⟨r,av,rfl⟩:=key;show (bif true then (cI _ (zC ws,0)).bind _ else _)=_;rw [av];rfl
 subst pg;refine Tot.pc (λh=>absurd rfl h) (λ_=>?_);refine .aK (Ξ:=λl=>l=(j3 ws).bt) ⟨_,by kernel_rfl,rfl⟩ λtG Jx=>?_;subst Jx;refine .aK (Ξ:=λl=>l=(j3 ws).bt) ⟨_,by kernel_rfl,rfl⟩ λiG Jy=>?_;subst Jy;refine .aK (Ξ:=λl=>l=(j3 ws).aX) ⟨_,?_,rfl⟩ λj9 Jz=>?_
 ·clear h;rcases ws with _ | ⟨a0,_ | ⟨ju,_ | ⟨Bb,_ | ⟨d0,_ | ⟨jH,_ | ⟨f0,_ | ⟨g0,_ | ⟨iH,ME⟩⟩⟩⟩⟩⟩⟩⟩ <;> first | (exfalso; simp at aJ; done) | kernel_rfl
 subst Jz;refine .aK (Ξ:=λc=>c=false) ⟨_,?_,rfl⟩ λWq Ei=>?_
 ·clear h;rcases ws with _ | ⟨a0,_ | ⟨ju,_ | ⟨Bb,_ | ⟨d0,_ | ⟨jH,_ | ⟨f0,_ | ⟨g0,_ | ⟨iH,ME⟩⟩⟩⟩⟩⟩⟩⟩ <;> first | (exfalso; simp at aJ; done) | kernel_rfl
 subst Ei;refine .aK (Ξ:=λc=>c=false) ⟨_,?_,rfl⟩ λxI Ej=>?_
 ·clear h;rcases ws with _ | ⟨a0,_ | ⟨ju,_ | ⟨Bb,_ | ⟨d0,_ | ⟨jH,_ | ⟨f0,_ | ⟨g0,_ | ⟨iH,ME⟩⟩⟩⟩⟩⟩⟩⟩ <;> first | (exfalso; simp at aJ; done) | kernel_rfl
 subst Ej;exact Tot.az rfl
def AB (a:Int):Int:=(ts a 3).getD 0
theorem Hd (a:Int):ts a 3=some (AB a)/\tN (AB a):=by
 obtain ⟨r,h,ba,h1⟩:=t14 a 3 (by decide) (by decide);unfold AB tN;rw [h];exact ⟨rfl,by show r=0\/r=1\/r=2; omega⟩
def qw (l:List Int):List Int:=(l.take 7).map AB
theorem He (l:List Int):((qw l).length:Int)=min (l.length:Int) 7:=by
 simp [qw]; omega
theorem Mr (l:List Int) (k:Nat) (h:k<(qw l).length):∃ a,idx l (k:Int)=some a/\(qw l)[k]=AB a:=by
 have ao:k<7/\k<l.length:=by simp [qw] at h; omega
 refine ⟨l[k],by simp [idx,ao.2],by simp [qw]⟩
theorem KW (l:List Int):vW (qw l):=by
 have:=He l;refine ⟨by omega,λw hw=>?_⟩;simp only [qw,List.mem_map] at hw;obtain ⟨a,_,rfl⟩:=hw;exact (Hd a).2
theorem Pz (i:Nat) (h:i<7):strOfNums [hg (aM (65+(i:Int)))]=ir i :=
 zE (P:=λi=>strOfNums [hg (aM (65+(i:Int)))]=ir i) i h (by kernel_rfl) (by kernel_rfl) (by kernel_rfl) (by kernel_rfl) (by kernel_rfl) (by kernel_rfl) (by kernel_rfl)
theorem Ph (l:List Int):Tot (xl l) λr=>r=rf (qw l):=by
 unfold xl;have l1:=KW l;have aJ:=He l;have aY:=Mr l;generalize qw l=ws at *;have RI:=l1.n;refine .aK (Ξ:=λr=>r=(jQ ws.length,fo 0 ws)) ?_ λx2 ak=>?_
 ·refine Tot.upto (λz=>z.2.2) ws.length (λk z=>z.1=jQ k/\z.2.1=fo 0 (ws.take k)) rfl (by omega) ⟨rfl,rfl⟩ λk z hk he bB=>?_;obtain ⟨A,D,i⟩:=z;obtain ⟨h1,ak⟩:=bB;simp only at he h1 ak ⊢;subst he h1 ak;rw [ei k (by omega)];by_cases a8:k<ws.length
  ·refine .aK (Ξ:=λc=>c=true) (Tot.b8 (λ_=>.az (decide_eq_true (by omega))) (λh=>absurd (by omega) h)) λc aa=>?_;subst aa;obtain ⟨a,h7,nc⟩:=aY k a8;obtain ⟨pW,BL⟩:=Hd a;rw [h7];simp only [cond_true,Option.bind_some,pW,Pz k (by omega)];refine .aK (Ξ:=λ_=>True) (Tot.ap (by rw [uk]; simp [lim]; omega) trivial) λ_ _=>.aK (Ξ:=λ_=>True) (Tot.ap (by rw [pP]; simp [lim]; omega) trivial) λ_ _=>.az ⟨a8,rfl,rfl,?_⟩;have tc:(ws.take k).length=k:=by simp; omega
   show fo 0 (ws.take k)++[_]=fo 0 (ws.take (k+1));rw [Mb ws k a8,IM,nc,tc,Nat.zero_add];rfl
  ·have hk:k=ws.length:=by omega
   refine .aK (Ξ:=λc=>c=false) (Tot.b8 (λh=>.az (decide_eq_false (by omega))) (λ_=>.az rfl)) λc aa=>?_;subst aa;refine .az ?_;show (jQ k,fo 0 (ws.take k))=_;rw [hk,List.take_length]
 ·subst ak;exact .az rfl
theorem PH (ws:List Int) (h:ws.length<=7):fE ws=true:=by
 refine yc (P:=λws=>fE ws=true) ws h ?_ ?_ ?_ ?_ ?_ ?_ ?_ ?_ <;> intros <;> kernel_rfl
theorem Pe (ws:List Int) (h:vW ws):∃ m cs,q2 (rf ws)=some (j3 ws,m,cs,true)/\Bh ws.length m cs=true:=by
 have jf:=PH ws h.n;unfold fE at jf;obtain ⟨x,J,rfl⟩:=Po ws h;cases h1:vh (j3 ws) with
 | none=>rw [h1] at jf; cases jf
 | some S5 =>
  obtain ⟨m,e⟩:=S5;rw [h1] at jf;simp only [Bool.and_eq_true,decide_eq_true_eq] at jf;obtain ⟨rfl,jf⟩:=jf;cases ak:vf (j3 ws) m with
  | none=>rw [ak] at jf; cases jf
  | some pz =>
   rw [ak] at jf;simp only at jf;cases aN:ve (j3 ws) m pz with
   | none=>rw [aN] at jf; cases jf
   | some cs =>
    rw [aN] at jf;refine ⟨m,cs,?_,jf⟩;unfold q2 xn xq;simp only [J,Option.bind_some,decide_true,Bool.not_true,cond_false,h1,ak,aN]
theorem Mf (i:Nat):(ir i).size<=fz:=by
 unfold ir
 split <;> decide
theorem KX:∀ {n:Nat}{a:Alt},a∈jQ n->a=tH\/∃ i,a=e8 i
 | 0,a,h=>.inl (List.mem_singleton.1 h)
 | n+1,a,h=>by
  rcases List.mem_append.1 h with h | h
  ·exact KX h
  ·exact .inr ⟨n,List.mem_singleton.1 h⟩
theorem Ud (ws:List Int) (h:vW ws):tR (rf ws):=by
 have aJ:=h.n;have ba:gO.size<=fz:=by decide
 have he:jv.size<=fz:=by decide
 have J:(⟨#[120]⟩:ByteArray).size<=fz:=by decide
 refine ⟨ba,by show (fo 0 ws).length<=_; rw [uk]; omega,λd aV=>?_,by show 1<=1000; omega,λr av=>?_⟩
 ·obtain ⟨k,hk⟩:=List.getElem?_of_mem aV;obtain ⟨w,_,rfl⟩:=S7 hk;exact ⟨ba,by show 1<=1000; omega,λx J=>by rw [List.mem_singleton.1 J]; exact Mf k⟩
 ·rw [List.mem_singleton.1 av];refine ⟨he,by show (jQ ws.length).length<=_; rw [pP]; omega,λa bf=>?_⟩;rcases KX bf with rfl | ⟨i,rfl⟩
  ·exact ⟨by show 1<=1000; omega,λp aE=>by rw [List.mem_singleton.1 aE]; exact ⟨J,ba⟩,ba⟩
  ·refine ⟨by show 3<=1000; omega,λp aE=>?_,ba⟩;have aE:p∈[_,_,_]:=aE;simp only [List.mem_cons,List.not_mem_nil,or_false] at aE;rcases aE with rfl | rfl | rfl
   ·exact ⟨he,ba⟩
   ·exact ⟨Mf i,ba⟩
   ·exact ⟨he,ba⟩
theorem Me:∀ (ws:List Int) (i k:Nat),(qs i ws)[k]?=(ws[k]?).map λw=>⟨ir (i+k),true,65+((i+k:Nat):Int),((i+k:Nat):Int)+1,w+1,gO⟩
 | [],_,_=>rfl
 | _::ws,i,0=>rfl
 | _::ws,i,k+1=>by
  simp only [qs,List.getElem?_cons_succ,Me ws (i+1) k];rw [show i+1+k=i+(k+1) by omega]
theorem G_:∀ (ws:List Int) (i:Nat),(qs i ws).length=ws.length
 | [],_=>rfl
 | _::ws,i=>by simp [qs,G_ ws]
theorem CM (n:Nat):∀ k,(r' n k).length=k+2
 | 0=>rfl
 | k+1=>by simp [r',CM n k]
theorem Lp (n:Nat):∀ (m k:Nat),k<m->(r' n m)[k+2]?=some (gu k)
 | m+1,k,h=>by
  by_cases hk:k<m
  ·simp only [r'];rw [List.getElem?_append_left (by rw [CM]; omega)];exact Lp n m k hk
  ·obtain rfl:k=m:=by omega
   simp only [r'];rw [List.getElem?_append_right (by rw [CM]; exact Nat.le_refl _),CM];simp
theorem Mg (ws:List Int) (k:Nat) (h:k<ws.length):idx (j3 ws).aX ((k:Int)+3)=some ⟨ir k,true,65+(k:Int),(k:Int)+1,ws[k]+1,gO⟩:=by
 have e:idx (j3 ws).aX (((k+3:Nat)):Int)=((tS++qs 0 ws)++[C4])[k+3]?:=by
  simp only [idx,if_pos (show (0:Int)<=((k+3:Nat):Int) by omega),Int.toNat_natCast]; rfl
 have iN:tS.length=3:=rfl;rw [show (k:Int)+3=((k+3:Nat):Int) by omega,e,List.getElem?_append_left (by rw [List.length_append,G_,iN]; omega),List.getElem?_append_right (by rw [iN]; omega),iN,Nat.add_sub_cancel,Me,List.getElem?_eq_getElem h,Nat.zero_add];rfl
theorem TG (ws:List Int) (i:Nat) (h:i<ws.length):idx (j3 ws).aW (2+(i:Int))=some (gu i):=by
 have e:idx (j3 ws).aW (((i+2:Nat)):Int)=(r' ws.length ws.length)[i+2]?:=by
  simp only [idx,if_pos (show (0:Int)<=((i+2:Nat):Int) by omega),Int.toNat_natCast]; rfl
 rw [show 2+(i:Int)=((i+2:Nat):Int) by omega,e,Lp _ _ _ h]
theorem S4 (ws:List Int) (i:Nat) (h:i<ws.length):qh (j3 ws) (2+(i:Int))=((i:Int)+1,ws[i]+1):=by
 unfold qh;rw [TG ws i h];show (match idx (j3 ws).aX ((i:Int)+3) with | some t=>(t.Level,t.eN) | none=>(0,0))=_
 rw [Mg ws i h]
theorem IL (ws:List Int) (i k:Nat) (hi:i<ws.length) (hk:k<ws.length):dec (j3 ws) (2+(i:Int)) (3+(k:Int))=if i<k then 1 else if k<i then 2 else if ws[k]+1=1 then 2 else if ws[k]+1=2 then 1 else 3:=by
 unfold dec;rw [show 3+(k:Int)=(k:Int)+3 by omega,Mg ws k hk,S4 ws i hi];simp only;rw [if_neg (by omega)];by_cases h1:i<k
 ·rw [if_pos h1,if_pos (by omega)]
 ·rw [if_neg h1,if_neg (by omega)];by_cases ak:k<i
  ·rw [if_pos ak,if_pos (by omega)]
  ·rw [if_neg ak,if_neg (by omega)]
structure Hv (n:Nat) (m:List State) (cs:List Cell):Prop where
 raw:(cs.filter λc=>decide (1<j8 c)).length=n * n
 og:∀ i,i<n->∃ s,q3 m [1001,3+(i:Int),1001]=some s/\0<=s/\s<m.length/\∀ k,k<n->∃ t,q3 m [1001,3+(i:Int),1001,3+(k:Int)]=some t/\0<=t/\(⟨s,3+k,t,false,[2+i]⟩:Cell)∈cs
 one:∀ c∈cs,j8 c=1\/∃ p,c.aW=[p]/\c.gR=false/\0<=c.fg/\2<=p/\p<n+2/\3<=c.bC/\c.bC<n+3
theorem N_ {n:Nat}{m:List State}{cs:List Cell}(h:Bh n m cs=true):Hv n m cs:=by
 unfold Bh at h;simp only [Bool.and_eq_true,decide_eq_true_eq,List.all_eq_true,List.mem_range] at h;obtain ⟨⟨h1,ak⟩,aN⟩:=h;refine ⟨h1,λi hi=>?_,λc aa=>?_⟩
 ·have ak:=ak i hi
  split at ak
  ·rename_i s aL;simp only [Bool.and_eq_true,decide_eq_true_eq,List.all_eq_true,List.mem_range] at ak;obtain ⟨⟨bP,cZ⟩,dv⟩:=ak;refine ⟨s,aL,bP,cZ,λk hk=>?_⟩;have dv:=dv k hk
   split at dv
   ·rename_i t aC;simp only [Bool.and_eq_true,decide_eq_true_eq,List.any_eq_true] at dv;obtain ⟨h7,c,nc,rfl⟩:=dv;exact ⟨t,aC,h7,nc⟩
   ·cases dv
  ·cases ak
 ·have aN:=aN c aa;simp only [Bool.or_eq_true,decide_eq_true_eq] at aN;rcases aN with aN | aN
  ·exact .inl aN
  ·right
   split at aN
   ·rename_i p aE;simp only [Bool.and_eq_true,decide_eq_true_eq,Bool.not_eq_true'] at aN;obtain ⟨⟨⟨⟨⟨a,b⟩,c⟩,d⟩,e⟩,f⟩:=aN;exact ⟨p,aE,a,b,c,d,e,f⟩
   ·cases aN
theorem Td (ws:List Int) (h:vW ws) {m:List State}{cs:List Cell}(hk:Hv ws.length m cs):ha (j3 ws) cs=[]:=by
 unfold ha;rw [List.flatMap_eq_nil_iff];intro c aa;rcases hk.one c aa with h1 | ⟨p,h1,ak,aN,bP,cZ,dv,h7⟩
 ·exact (To h1).1
 ·unfold oq;rw [h1];simp only [List.map_nil,List.nil_append];obtain ⟨i,rfl⟩:∃ i:Nat,p=2+(i:Int):=⟨(p - 2).toNat,by omega⟩;obtain ⟨k,hJ⟩:∃ k:Nat,c.bC=3+(k:Int):=⟨(c.bC - 3).toNat,by omega⟩;rw [hJ,IL ws i k (by omega) (by omega),if_neg];rintro (e | ⟨_,e⟩)
  ·rw [ak] at e; cases e
  ·revert e
   repeat' split
   all_goals decide
theorem M3 (ws:List Int) (i k:Nat) (hi:i<ws.length) (hk:k<ws.length) (s t:Int) (aC:0<=t):jF (j3 ws) ⟨s,3+k,t,false,[2+i]⟩=if i<k then ⟨1,t⟩ else if k<i then ⟨2,2+i⟩ else if ws[k]+1=1 then ⟨2,2+i⟩ else if ws[k]+1=2 then ⟨1,t⟩ else ⟨4,0⟩:=by
 unfold jF;simp only;rw [if_neg (by simp),if_neg (by omega),IL ws i k hi hk];by_cases h1:i<k
 ·simp [h1]
 ·by_cases ak:k<i
  ·simp [h1,ak]
  ·by_cases aN:ws[k]+1=1
   ·simp [h1,ak,aN]
   ·by_cases bP:ws[k]+1=2 <;> simp [h1,ak,aN,bP]
def x4 (T:List bC):Prop:=∀ t∈T,t.Level≠0->1<=t.eN/\t.eN<=3
def HD (P:List Prod):Prop:=∀ p∈P,∀ s∈p.e7,s≠0
theorem x4.set {T:List bC}(h:x4 T) (k:Nat) {t:bC}(aC:t.Level≠0->1<=t.eN/\t.eN<=3):x4 (T.set k t):=λs aL=>by
 rcases List.mem_or_eq_of_mem_set aL with aR | aR
 ·exact h s aR
 ·rw [aR]; exact aC
structure Dh (N:Nat) (m:ix):Prop where
 Ta:N<=lim
 iX:x4 m.aq.aX
 lo:3<=m.aq.aX.length
 hi:m.aq.aX.length<=lim
 gY:m.bA.length<=lim
 i0:0<=m.bx
 i1:m.bx<=((N+m.aq.aW.length:Nat):Int)
 lI:m.aq.aW.length<=lim
 TJ:m.b'=0->HD m.aq.aW
theorem Dh.fail {N:Nat}{m b6:ix}(h:Dh N m) (aL:rv m b6/\b6.b'≠0):Dh N b6:=by
 obtain ⟨h1,ak⟩:=aL;exact ⟨h.Ta,by rw [h1.g]; exact h.iX,by rw [h1.g]; exact h.lo,by rw [h1.g]; exact h.hi,by rw [h1.gY]; exact h.gY,by rw [h1.gX]; exact h.i0,by rw [h1.g,h1.gX]; exact h.i1,by rw [h1.g]; exact h.lI,λe=>absurd e ak⟩
theorem SI {α:Type}{l:List α}{i:Int}{y:α}(h:idx l i=some y):y∈l:=by
 unfold idx at h
 split at h
 ·exact List.mem_of_getElem? h
 ·cases h
structure Ve (g:bR):Prop where
 iX:x4 g.aX
 TJ:HD g.aW
def Di (m:List State):Prop:=∀ st∈m,∀ v∈st.c9,v.Sym≠0
theorem Di.put {m:List State}(h:Di m) {i:Int}{st:State}(aL:idx m i=some st) {v:Move}(hv:v.Sym≠0) {k:Nat}:Di (m.set k ⟨st.Kernel,st.c9++[v]⟩):=λs kg w hw=>by
 rcases List.mem_or_eq_of_mem_set kg with aR | aR
 ·exact h s aR w hw
 ·rw [aR] at hw;rcases List.mem_append.1 hw with hw | hw
  ·exact h st (SI aL) w hw
  ·rw [List.mem_singleton.1 hw]; exact hv
structure Va (cs:List Cell):Prop where
 a:∀ c∈cs,c.gR=true->c.bC=0
 s:∀ c∈cs,c.bC=0->c.fg<0
theorem t12 (l:List Int):zS l=some true:=by
 suffices h:Tot (zS l) λr=>r=true by
  obtain ⟨r,av,e⟩:=h; rw [av,e]
 unfold zS;rw [UN];refine Tot.ax (.aK (Ph l) λy ay=>?_);subst ay;have l1:=KW l;have aJ:=He l;have aY:=Mr l;generalize qw l=ws at *;have RI:=l1.n;obtain ⟨m,cs,e,EX⟩:=Pe ws l1;obtain ⟨r,av,dU⟩:=Ii (rf ws) (Ud ws l1);rw [e] at av;cases av;have dU:=dU rfl;have aP:=N_ EX;have RL:=Td ws l1 aP;rw [e];refine Tot.ax (.aK (rD _ m cs dU) λr av=>?_);obtain ⟨oy,uA⟩:=av;have sU:r.1.eo.length=m.length:=(oy.we dU).a;rw [RL] at uA;have RH:min (l.length:Int) 7=(ws.length:Int):=aJ.symm;rw [RH];refine .aK (Ξ:=λc=>c=false) ?_ λc aa=>?_
 ·rw [uA];refine Tot.cE (λh=>by cases h) (λ_=>Tot.pc (λh=>absurd rfl h) (λ_=>.aK (yb dU.ux dU.ce) λz bB=>.az ?_));subst bB;rw [aP.raw];have:aM ((ws.length:Int) * (ws.length:Int))=((ws.length * ws.length:Nat):Int):=by
   rw [dC,Int.natCast_mul];have h1:(ws.length:Int) * (ws.length:Int)<=7 * 7:=Int.mul_le_mul (by omega) (by omega) (by omega) (by omega);have ak:0<=(ws.length:Int) * (ws.length:Int):=Int.mul_nonneg (by omega) (by omega);omega
  rw [this];simp
 subst aa;refine Tot.ax (.aK (Ξ:=iJ (λ_=>True) (λ_:Bool=>False)) ?_ λx J=>by
  rcases x with x | x
  ·exact .az rfl
  ·exact J.elim)
 refine Tot.upto (λs=>s) ws.length (λ_ _=>True) rfl (by omega) trivial λi s hi he _=>?_;subst he;rw [ei i (by omega)];refine Tot.b8 (λa8=>?_) (λ_=>.az trivial);have a8:i<ws.length:=by omega
 obtain ⟨s,h1,ak,aN,bP⟩:=aP.og i a8;have hw:aM (3+(i:Int))=3+(i:Int):=by rw [dC]; omega
 rw [hw,h1];refine Tot.ax (.aK (Ξ:=λc=>c=false) ?_ λc aa=>?_)
 ·refine Tot.b8 (λh=>by omega) (λ_=>Tot.b8 (λh=>by omega) (λ_=>?_));obtain ⟨t,_,_,EW⟩:=bP i a8;obtain ⟨row,yl,mx,_⟩:=HL dU oy EW;rw [yl];refine .az ?_;have:(j3 ws).aX.length=ws.length+4:=by
   show ((tS++qs 0 ws)++[C4]).length=_;rw [List.length_append,List.length_append,G_];show 3+ws.length+1=_;omega
  have hw:aM ((ws.length:Int)+4)=(row.length:Int):=by rw [dC,mx,this]; omega
  rw [hw];simp
 subst aa;refine Tot.ax (.aK (Ξ:=iJ (λ_=>True) (λ_:Bool=>False)) ?_ λx J=>by
  rcases x with x | x
  ·exact .az ⟨a8,rfl,trivial⟩
  ·exact J.elim)
 refine Tot.upto (λs=>s) ws.length (λ_ _=>True) rfl (by omega) trivial λk eL hk he _=>?_;subst he;rw [ei k (by omega)];refine Tot.b8 (λp5=>?_) (λ_=>.az trivial);have p5:k<ws.length:=by omega
 obtain ⟨t,cZ,dv,nh⟩:=bP k p5;have uP:aM (3+(k:Int))=3+(k:Int):=by rw [dC]; omega
 have qa:aM (2+(i:Int))=2+(i:Int):=by rw [dC]; omega
 rw [uP,cZ,qa];obtain ⟨row,yl,mx,gz⟩:=HL dU oy nh;have yl:idx r.1.eo s=some row:=yl;have gz:idx row (3+(k:Int))=some (jF (j3 ws) ⟨s,3+k,t,false,[2+i]⟩):=gz;have QP:=M3 ws i k a8 p5 s t dv;refine Tot.ax (.aK (Ξ:=λae:Int × Int=>ae=((jF (j3 ws) ⟨s,3+k,t,false,[2+i]⟩).Kind,(jF (j3 ws) ⟨s,3+k,t,false,[2+i]⟩).N)) ?_ λae ab=>?_)
 ·rw [QP];refine .aK (Ξ:=λae:Int × Int=>ae=if i<k then (1,t) else if k=i then (if ws[k]+1=1 then (2,2+(i:Int)) else if ws[k]+1=2 then (1,t) else (4,0)) else (2,2+(i:Int))) ?_ λae ab=>.az ?_
  ·refine Tot.b8 (λh=>.az (by rw [if_pos (by omega)])) (λh=>?_);rw [if_neg (by omega)];refine .aK (Ξ:=λae:Int × Int=>ae=if k=i then (if ws[k]+1=1 then (2,2+(i:Int)) else if ws[k]+1=2 then (1,t) else (4,0)) else (2,2+(i:Int))) ?_ λae ab=>.az ab
   refine Tot.b8 (λh=>?_) (λh=>.az (by rw [if_neg (by omega)]));obtain rfl:k=i:=by omega
   rw [if_pos rfl];obtain ⟨a,h7,nc⟩:=aY k p5;obtain ⟨pW,BL⟩:=Hd a;rw [h7,nc];simp only [Option.bind_some,pW];rcases BL with e | e | e <;> rw [e] <;> exact ⟨_,rfl,rfl⟩
  ·rw [ab];by_cases h1:i<k
   ·simp only [if_pos h1]
   ·by_cases ak:k=i
    ·have uy:¬ k<i:=by omega
     by_cases aN:ws[k]+1=1
     ·simp only [if_neg h1,if_pos ak,if_neg uy,if_pos aN]
     ·by_cases bP:ws[k]+1=2
      ·simp only [if_neg h1,if_pos ak,if_neg uy,if_neg aN,if_pos bP]
      ·simp only [if_neg h1,if_pos ak,if_neg uy,if_neg aN,if_neg bP]
    ·have uy:k<i:=by omega
     simp only [if_neg h1,if_neg ak,if_pos uy]
 ·subst ab;rw [yl];simp only [Option.bind_some,gz];exact ⟨.inl ((k+1:Nat):Int),by simp,p5,rfl,trivial⟩
end Go.Proofs
namespace Go.Own
open Go
section
variable {P:Program}{N:dy}{ops:Array Oper}{cc:List (List Nat)}{g g0:aU}{K:aU->Prop}{l:List Oper}{acc:Acc}{d i ae c':Nat}{op:Op}{ty:TypeId}{pos:String}{after:Array Edge}{x:af}{b c:Bool}
theorem cN (aF:c=!b) (hk:au P N ops l (eM g d (.cr [])) K) (h:(ops[ae]?).bind (·.dst)=some c':=by rfl) (aY:g c'=some (.lit (.bool c)):=by rfl) (bU:N.ok d=true:=by rfl) (bh:g d=none:=by rfl):au P N ops (⟨some d,op,ty,pos,after,some (ae,b)⟩::l) g K:=.ps h aY aF bU bh hk
theorem hp (hk:au P N ops l (eM g d (.cr [])) K) (h:(ops[ae]?).bind (·.dst)=some c':=by rfl) (aY:g c'=some (.cr []):=by rfl) (bU:N.ok d=true:=by rfl) (bh:g d=none:=by rfl):au P N ops (⟨some d,op,ty,pos,after,some (ae,b)⟩::l) g K:=.pu h aY bU bh hk
theorem a' (aF:c=b) (aE:dg P g op ty x) (hk:au P N ops l (eM g d x) K) (h:(ops[ae]?).bind (·.dst)=some c':=by rfl) (aY:g c'=some (.lit (.bool c)):=by rfl) (bU:N.ok d=true:=by rfl) (bh:g d=none:=by rfl):au P N ops (⟨some d,op,ty,pos,after,some (ae,b)⟩::l) g K:=.v aE bU bh (.jA h aY aF) hk
theorem MU (hk:au P N ops l (eM g d (.cr [])) K) (h:(ops[ae]?).bind (·.dst)=some c':=by rfl) (aY:g c'=some (.lit (.bool c)):=by rfl) (aF:c=!b:=by assumption) (bU:N.ok d=true:=by rfl) (bh:g d=none:=by rfl):au P N ops (⟨some d,op,ty,pos,after,some (ae,b)⟩::l) g K:=.ps h aY aF bU bh hk
theorem fm (aE:dg P g op ty x) (hk:au P N ops l (eM g d x) K) (h:(ops[ae]?).bind (·.dst)=some c':=by rfl) (aY:g c'=some (.lit (.bool c)):=by rfl) (aF:c=b:=by assumption) (bU:N.ok d=true:=by rfl) (bh:g d=none:=by rfl):au P N ops (⟨some d,op,ty,pos,after,some (ae,b)⟩::l) g K:=.v aE bU bh (.jA h aY aF) hk
theorem aI (df:Nat) (aF:c=!b) (hk:b1 P N ops cc g0 i ((df,d,some (.cr []))::acc) l K) (h:(ops[ae]?).bind (·.dst)=some c':=by rfl) (aY:nz cc g0 df acc c'=some (bk c):=by rfl) (ab:Nat.beq ops.size (df+l.length+1)=true:=by rfl) (bh:g0 d=none:=by rfl) (aJ:acc.all (λe=>!Nat.beq e.2.1 d)=true:=by rfl) (bU:N.ok d=true:=by rfl):b1 P N ops cc g0 i acc (⟨some d,op,ty,pos,after,some (ae,b)⟩::l) K:=.ps df h aY aF ab bh aJ bU hk
theorem fl (df:Nat) (hk:b1 P N ops cc g0 i ((df,d,some (.cr []))::acc) l K) (h:(ops[ae]?).bind (·.dst)=some c':=by rfl) (aY:nz cc g0 df acc c'=some (.cr []):=by rfl) (ab:Nat.beq ops.size (df+l.length+1)=true:=by rfl) (bh:g0 d=none:=by rfl) (aJ:acc.all (λe=>!Nat.beq e.2.1 d)=true:=by rfl) (bU:N.ok d=true:=by rfl):b1 P N ops cc g0 i acc (⟨some d,op,ty,pos,after,some (ae,b)⟩::l) K:=.pu df h aY ab bh aJ bU hk
theorem bG (df:Nat) (aF:c=b) (aE:dg P (nz cc g0 df acc) op ty x) (hk:b1 P N ops cc g0 i ((df,d,some x)::acc) l K) (h:(ops[ae]?).bind (·.dst)=some c':=by rfl) (aY:nz cc g0 df acc c'=some (.lit (.bool c)):=by rfl) (ab:Nat.beq ops.size (df+l.length+1)=true:=by rfl) (bh:g0 d=none:=by rfl) (aJ:acc.all (λe=>!Nat.beq e.2.1 d)=true:=by rfl) (bU:N.ok d=true:=by rfl):b1 P N ops cc g0 i acc (⟨some d,op,ty,pos,after,some (ae,b)⟩::l) K:=.v df aE ab bh aJ bU (.jA h aY aF) hk
end
section
variable {P:Program}{N:dy}{ops:Array Oper}{g:aU}{K:aU->Prop}{l:List Oper}{A B:Code}{G G1:List (Nat × af)}{Φ:Exit->aU->Prop}{t id:Nat}{b:Bool}{α:Type}{X Y o:α}
theorem W.bJ (h:(bif b then X else Y)=o) (aa:get G t=some (bk b)) (fv:b=true->X=o->W P N A (get G) Φ) (aP:b=false->Y=o->W P N B (get G) Φ):W P N (.cond (.tmp t) A B) (get G) Φ:=W.cM aa (λe=>fv e (Oc e h)) (λe=>aP e (Ob e h))
def pick (g:aU):List Nat->Option (List (Nat × af))
 | []=>some []
 | k::ks=>match g k with
  | some x=>match pick g ks with
   | some l=>some ((k,x)::l)
   | none=>none
  | none=>none
class xW (l:List (Nat × af)):Prop where p:∀ e∈l,c6 e.2
instance:xW []:=⟨λ_ h=>by cases h⟩
instance {k:Nat}{x:af}{l:List (Nat × af)} [h:cK x] [ao:xW l]:xW ((k,x)::l):=⟨λe he=>by
 rcases List.mem_cons.1 he with rfl | he
 ·exact h.bE
 ·exact ao.p e he⟩
theorem GC {c:Bool}{g g2:aU}:∀ {ks:List Nat}{G1:List (Nat × af)},pick g ks=some G1->(∀ e∈G1,c6 e.2)->Trim c g g2 G1
 | [],_,h,_=>by cases h; exact .nil
 | k::ks,G1,h,aJ=>by
  unfold pick at h
  split at h
  ·rename_i x J
   split at h
   ·rename_i l ao;cases h;have:cK x:=⟨aJ (k,x) (by simp)⟩;exact .n J (GC ao λe he=>aJ e (by simp [he]))
   ·cases h
  ·cases h
structure vT (ks:List Nat) (G1:List (Nat × af)) (g':aU):Prop where p:ku g' (get G1)
theorem bZ {ks:List Nat}(h:pick g ks=some G1) [aJ:xW G1]:au P N ops [] g (vT ks G1):=.nil ⟨(GC (c:=true) (g2:=get G1) h aJ.p).fN⟩
theorem KS {l:List Oper}{ks:List Nat}(h:au P N l.toArray l g (vT ks G1)):au P N l.toArray l g λg'=>ku g' (get G1):=λi hi=>by
 obtain ⟨g',h1,ak⟩:=h i hi;exact ⟨g',h1,ak.p⟩
theorem au.br (ks:List Nat) (h:pick g ks=some G1) [aJ:xW G1] (hk:au P N ops l (get G1) K):au P N ops l g K:=.TL (GC h aJ.p) hk
theorem W.br {l:List Oper}(ks:List Nat) (h:au P N l.toArray l (get G) (vT ks G1)) (hk:ag .normal Φ G1):W P N (.region id l.toArray false) (get G) Φ:=W.rx G1 (KS h) hk
theorem W.rs {l:List Oper}(G1:List (Nat × af)) (h:au P N l.toArray l (get G) λg'=>ku g' (get G1)) (hk:W P N B (get G1) Φ):W P N (.seq (.region id l.toArray false) B) (get G) Φ:=W.bc (W.rx G1 h (ag.bb hk))
theorem W.bV {l:List Oper}(ks:List Nat) (h:au P N l.toArray l (get G) (vT ks G1)) (hk:W P N B (get G1) Φ):W P N (.seq (.region id l.toArray false) B) (get G) Φ:=W.rs G1 (KS h) hk
end
end Go.Own
namespace Go.Own
open Go
class gw (P:Program) (t:TypeId):Prop where p:hh P t=true
class rl (P:Program) (t:TypeId):Prop where p:pJ P t=true
class gM (P:Program) (t:TypeId) (e:outParam TypeId) (z:outParam Nat):Prop where p:e' P t e z=true
class dr (P:Program) (s:TypeId) (f:Nat) (off:outParam Nat) (t:outParam TypeId):Prop where p:dm P s f off t=true
section
variable {P:Program}{N:dy}{ops:Array Oper}{g:aU}{K:aU->Prop}{l:List Oper}{ty t:TypeId}{a:Operand}{k r z n:Nat}{cs fo:List af}
theorem O.cA {v:Value}(aL:g r=some (.obj cs)) (J:Rd g a (.ptr ⟨r,[]⟩ k)) (aC:hh P t=true) (aa:cs[k]?=some (.lit v)):dg P g (.load t a) ty (.lit v):=O.dz aL J aC aa rfl
theorem O.w2 (aL:g r=some (.obj cs)) (J:Rd g a (.ptr ⟨r,[]⟩ k)) (aC:hh P t=true) (aa:cs[k]?=some (.aD z n fo)):dg P g (.load t a) ty (.aD z n fo):=O.dz aL J aC aa rfl
theorem O.w3 (aL:g r=some (.obj cs)) (J:Rd g a (.ptr ⟨r,[]⟩ k)) (aC:hh P t=true) (aa:cs[k]?=some (.own z n fo)):dg P g (.load t a) ty (.bq z ⟨r,[k]⟩ n):=O.dz aL J aC aa rfl
end
section
variable {P:Program}{N:dy}{ops:Array Oper}{g:aU}{K:aU->Prop}{l:List Oper}{t0 d:Nat}{t1 t2 ty:TypeId}{ar a2 a3:Operand}{lG:Nat}{v0:Value}{pos:String}{after:Array Edge}{op:Op}{Vp:Nat × Bool}
theorem au.ho (op:Op) (u:Option (Nat × Bool)) (h:au P N ops (⟨some d,op,ty,pos,after,u⟩::l) g K):au P N ops (⟨some d,op,ty,pos,after,u⟩::l) g K:=h
theorem au.nl (h:au P N ops [] g K):au P N ops [] g K:=h
theorem au.a_ (h:au P N ops l g K:=by
(repeat' (first
 | exact mX .nil
 | exact .nil
 | refine .n rfl ?_
 | (first
  | ((with_reducible apply au.ho (.move (.tmp _)) none); (first | refine bu rfl ?_ | refine ai (O.aA (.aD rfl)) ?_ | refine ai (O.aA (.own rfl)) ?_ | refine ai (O.aA (.obj rfl)) ?_ | refine ai (O.aA (.bs rfl)) ?_ | refine ai (O.aA (.ptr rfl)) ?_ | refine ai (O.aA (.bq rfl)) ?_))
  | ((with_reducible apply au.ho (.load _ _) none); (first | refine ai (O.cA rfl (.ptr rfl) gw.p rfl) ?_ | refine ai (O.du (.bs rfl) gw.p rfl) ?_ | refine ai (O.w2 rfl (.ptr rfl) gw.p rfl) ?_ | refine ai (O.cA rfl (.obj rfl) gw.p rfl) ?_ | refine ai (O.w2 rfl (.obj rfl) gw.p rfl) ?_ | refine ai (O.w3 rfl (.ptr rfl) gw.p rfl) ?_ | refine ai (O.w3 rfl (.obj rfl) gw.p rfl) ?_))
  | ((with_reducible apply au.ho (.fieldAddr _ _ _) none); (first | refine ai (O.bm rfl (.obj rfl) dr.p rfl) ?_ | refine ai (O.e2 (.bs rfl) dr.p) ?_ | refine ai (O.bm rfl (.ptr rfl) dr.p rfl) ?_))
  | ((with_reducible apply au.ho (.assign (.tmp _)) none); (first | refine MW rfl ?_ | refine ai (O.dq (.aD rfl)) ?_ | refine ai (O.dq (.own rfl)) ?_ | refine ai (O.dq (.obj rfl)) ?_ | refine ai (O.dq (.bs rfl)) ?_ | refine ai (O.dq (.ptr rfl)) ?_ | refine ai (O.dq (.bq rfl)) ?_))
  | ((with_reducible apply au.ho (.assign (.const _)) none); (first | refine MX rfl ?_ | refine ai (O.dq .Cr) ?_))
  | ((with_reducible apply au.ho (.indexAddr _ _ _) none); (first | refine ai (O.cQ (.aD rfl) (.lit rfl) gM.p (by assumption)) ?_ | refine ai (O.cQ (.aD rfl) (.k rfl) gM.p (by assumption)) ?_))
  | ((with_reducible apply au.ho (.binOp .add _ _ _ _) none); (first | refine ai (O.add (.lit rfl) (.k rfl)) ?_ | refine ai (O.add (.lit rfl) (.lit rfl)) ?_ | refine ai (O.add (.k rfl) (.lit rfl)) ?_))
  | ((with_reducible apply au.ho (.binOp .lss _ _ _ _) none); (first | refine ai (O.lss (.lit rfl) (.k rfl)) ?_ | refine ai (O.lss (.lit rfl) (.lit rfl)) ?_ | refine ai (O.lss (.k rfl) (.lit rfl)) ?_))
  | ((with_reducible apply au.ho (.binOp .eql _ _ _ _) none); (first | refine ai (O.eql (.lit rfl) (.k rfl)) ?_ | refine ai (O.eql (.lit rfl) (.lit rfl)) ?_ | refine ai (O.eql (.k rfl) (.lit rfl)) ?_ | refine ai (O.ou (.lit rfl) (.lit rfl)) ?_ | refine ai (O.ou (.lit rfl) (.k rfl)) ?_))
  | ((with_reducible apply au.ho (.binOp .neq _ _ _ _) none); (first | refine ai (O.neq (.lit rfl) (.k rfl)) ?_ | refine ai (O.neq (.lit rfl) (.lit rfl)) ?_ | refine ai (O.neq (.k rfl) (.lit rfl)) ?_ | refine ai (O.lH (.lit rfl) (.lit rfl)) ?_ | refine ai (O.lH (.lit rfl) (.k rfl)) ?_))
  | ((with_reducible apply au.ho (.binOp .geq _ _ _ _) none); (first | refine ai (O.geq (.lit rfl) (.k rfl)) ?_ | refine ai (O.geq (.lit rfl) (.lit rfl)) ?_ | refine ai (O.geq (.k rfl) (.lit rfl)) ?_))
  | ((with_reducible apply au.ho (.binOp .gtr _ _ _ _) none); (first | refine ai (O.gtr (.lit rfl) (.k rfl)) ?_ | refine ai (O.gtr (.lit rfl) (.lit rfl)) ?_ | refine ai (O.gtr (.k rfl) (.lit rfl)) ?_))
  | ((with_reducible apply au.ho (.binOp .sub _ _ _ _) none); (first | refine ai (O.sub (.lit rfl) (.k rfl)) ?_ | refine ai (O.sub (.lit rfl) (.lit rfl)) ?_ | refine ai (O.sub (.k rfl) (.lit rfl)) ?_))
  | ((with_reducible apply au.ho (.binOp .leq _ _ _ _) none); (first | refine ai (O.leq (.lit rfl) (.k rfl)) ?_ | refine ai (O.leq (.lit rfl) (.lit rfl)) ?_ | refine ai (O.leq (.k rfl) (.lit rfl)) ?_))
  | ((with_reducible apply au.ho (.pick _ _ _) none); (first | refine ai (O.eQ (.lit rfl) rfl (.lit rfl)) ?_ | refine ai (O.cB (.lit rfl) rfl (.lit rfl)) ?_ | refine ai (O.eQ (.lit rfl) rfl (.k rfl)) ?_ | refine ai (O.cB (.lit rfl) rfl (.k rfl)) ?_ | refine ai (O.eQ (.lit rfl) (by assumption) (.lit rfl)) ?_ | refine ai (O.cB (.lit rfl) (by assumption) (.lit rfl)) ?_ | refine ai (O.eQ (.lit rfl) (by assumption) (.k rfl)) ?_ | refine ai (O.cB (.lit rfl) (by assumption) (.k rfl)) ?_))
  | ((with_reducible apply au.ho (.call { callee:=.builtin .len,args:=#[_],argTypes:=#[_] }) none); (first | refine ai (O.gN (.aD rfl) gM.p) ?_ | refine ai (O.py (.bq rfl) gM.p) ?_ | refine ai (O.py (.own rfl) gM.p) ?_ | refine ai (O.ma (.lit rfl) rl.p) ?_))
  | ((with_reducible apply au.ho (.unOp .not _ _) none); (first | refine ai (O.not (.lit rfl)) ?_))
  | ((with_reducible apply au.ho (.nilCheck _) none); (first | refine ai (O.eJ (.ptr rfl)) ?_ | refine ai (O.zF (.bs rfl)) ?_ | refine ai (O.eJ (.obj rfl)) ?_))
  | ((with_reducible apply au.ho (.index _ _ _) none); (first | refine ai (O.og (.lit rfl) (.lit rfl) rl.p (by assumption)) ?_))
  | ((with_reducible apply au.ho (.move (.const _)) none); (first | refine ai (O.aA (.k rfl)) ?_ | refine ai (O.aA .Cr) ?_)))
 | ((with_reducible apply au.nl); first | exact bZ rfl | refine mX ?_)
 | ((with_reducible apply au.ho _ (some _)); first
  | (first | refine cN rfl ?_ | refine MU ?_ | refine hp ?_)
  | ((with_reducible apply au.ho (.move (.tmp _)) (some _)); (first | refine a' rfl (O.aA (.lit rfl)) ?_ | refine fm (O.aA (.lit rfl)) ?_ | refine a' rfl (O.aA (.aD rfl)) ?_ | refine fm (O.aA (.aD rfl)) ?_ | refine a' rfl (O.aA (.own rfl)) ?_ | refine fm (O.aA (.own rfl)) ?_ | refine a' rfl (O.aA (.obj rfl)) ?_ | refine fm (O.aA (.obj rfl)) ?_ | refine a' rfl (O.aA (.bs rfl)) ?_ | refine fm (O.aA (.bs rfl)) ?_ | refine a' rfl (O.aA (.ptr rfl)) ?_ | refine fm (O.aA (.ptr rfl)) ?_ | refine a' rfl (O.aA (.bq rfl)) ?_ | refine fm (O.aA (.bq rfl)) ?_))
  | ((with_reducible apply au.ho (.load _ _) (some _)); (first | refine a' rfl (O.cA rfl (.ptr rfl) gw.p rfl) ?_ | refine fm (O.cA rfl (.ptr rfl) gw.p rfl) ?_ | refine a' rfl (O.du (.bs rfl) gw.p rfl) ?_ | refine fm (O.du (.bs rfl) gw.p rfl) ?_ | refine a' rfl (O.w2 rfl (.ptr rfl) gw.p rfl) ?_ | refine fm (O.w2 rfl (.ptr rfl) gw.p rfl) ?_ | refine a' rfl (O.cA rfl (.obj rfl) gw.p rfl) ?_ | refine fm (O.cA rfl (.obj rfl) gw.p rfl) ?_ | refine a' rfl (O.w2 rfl (.obj rfl) gw.p rfl) ?_ | refine fm (O.w2 rfl (.obj rfl) gw.p rfl) ?_ | refine a' rfl (O.w3 rfl (.ptr rfl) gw.p rfl) ?_ | refine fm (O.w3 rfl (.ptr rfl) gw.p rfl) ?_ | refine a' rfl (O.w3 rfl (.obj rfl) gw.p rfl) ?_ | refine fm (O.w3 rfl (.obj rfl) gw.p rfl) ?_))
  | ((with_reducible apply au.ho (.fieldAddr _ _ _) (some _)); (first | refine a' rfl (O.bm rfl (.obj rfl) dr.p rfl) ?_ | refine fm (O.bm rfl (.obj rfl) dr.p rfl) ?_ | refine a' rfl (O.e2 (.bs rfl) dr.p) ?_ | refine fm (O.e2 (.bs rfl) dr.p) ?_ | refine a' rfl (O.bm rfl (.ptr rfl) dr.p rfl) ?_ | refine fm (O.bm rfl (.ptr rfl) dr.p rfl) ?_))
  | ((with_reducible apply au.ho (.indexAddr _ _ _) (some _)); (first | refine a' rfl (O.cQ (.aD rfl) (.lit rfl) gM.p (by assumption)) ?_ | refine fm (O.cQ (.aD rfl) (.lit rfl) gM.p (by assumption)) ?_ | refine a' rfl (O.cQ (.aD rfl) (.k rfl) gM.p (by assumption)) ?_ | refine fm (O.cQ (.aD rfl) (.k rfl) gM.p (by assumption)) ?_))
  | ((with_reducible apply au.ho (.binOp .add _ _ _ _) (some _)); (first | refine a' rfl (O.add (.lit rfl) (.k rfl)) ?_ | refine fm (O.add (.lit rfl) (.k rfl)) ?_ | refine a' rfl (O.add (.lit rfl) (.lit rfl)) ?_ | refine fm (O.add (.lit rfl) (.lit rfl)) ?_ | refine a' rfl (O.add (.k rfl) (.lit rfl)) ?_ | refine fm (O.add (.k rfl) (.lit rfl)) ?_))
  | ((with_reducible apply au.ho (.binOp .lss _ _ _ _) (some _)); (first | refine a' rfl (O.lss (.lit rfl) (.k rfl)) ?_ | refine fm (O.lss (.lit rfl) (.k rfl)) ?_ | refine a' rfl (O.lss (.lit rfl) (.lit rfl)) ?_ | refine fm (O.lss (.lit rfl) (.lit rfl)) ?_ | refine a' rfl (O.lss (.k rfl) (.lit rfl)) ?_ | refine fm (O.lss (.k rfl) (.lit rfl)) ?_))
  | ((with_reducible apply au.ho (.binOp .eql _ _ _ _) (some _)); (first | refine a' rfl (O.eql (.lit rfl) (.k rfl)) ?_ | refine fm (O.eql (.lit rfl) (.k rfl)) ?_ | refine a' rfl (O.eql (.lit rfl) (.lit rfl)) ?_ | refine fm (O.eql (.lit rfl) (.lit rfl)) ?_ | refine a' rfl (O.eql (.k rfl) (.lit rfl)) ?_ | refine fm (O.eql (.k rfl) (.lit rfl)) ?_ | refine a' rfl (O.ou (.lit rfl) (.lit rfl)) ?_ | refine fm (O.ou (.lit rfl) (.lit rfl)) ?_ | refine a' rfl (O.ou (.lit rfl) (.k rfl)) ?_ | refine fm (O.ou (.lit rfl) (.k rfl)) ?_))
  | ((with_reducible apply au.ho (.binOp .neq _ _ _ _) (some _)); (first | refine a' rfl (O.neq (.lit rfl) (.k rfl)) ?_ | refine fm (O.neq (.lit rfl) (.k rfl)) ?_ | refine a' rfl (O.neq (.lit rfl) (.lit rfl)) ?_ | refine fm (O.neq (.lit rfl) (.lit rfl)) ?_ | refine a' rfl (O.neq (.k rfl) (.lit rfl)) ?_ | refine fm (O.neq (.k rfl) (.lit rfl)) ?_ | refine a' rfl (O.lH (.lit rfl) (.lit rfl)) ?_ | refine fm (O.lH (.lit rfl) (.lit rfl)) ?_ | refine a' rfl (O.lH (.lit rfl) (.k rfl)) ?_ | refine fm (O.lH (.lit rfl) (.k rfl)) ?_))
  | ((with_reducible apply au.ho (.binOp .geq _ _ _ _) (some _)); (first | refine a' rfl (O.geq (.lit rfl) (.k rfl)) ?_ | refine fm (O.geq (.lit rfl) (.k rfl)) ?_ | refine a' rfl (O.geq (.lit rfl) (.lit rfl)) ?_ | refine fm (O.geq (.lit rfl) (.lit rfl)) ?_ | refine a' rfl (O.geq (.k rfl) (.lit rfl)) ?_ | refine fm (O.geq (.k rfl) (.lit rfl)) ?_))
  | ((with_reducible apply au.ho (.binOp .gtr _ _ _ _) (some _)); (first | refine a' rfl (O.gtr (.lit rfl) (.k rfl)) ?_ | refine fm (O.gtr (.lit rfl) (.k rfl)) ?_ | refine a' rfl (O.gtr (.lit rfl) (.lit rfl)) ?_ | refine fm (O.gtr (.lit rfl) (.lit rfl)) ?_ | refine a' rfl (O.gtr (.k rfl) (.lit rfl)) ?_ | refine fm (O.gtr (.k rfl) (.lit rfl)) ?_))
  | ((with_reducible apply au.ho (.binOp .sub _ _ _ _) (some _)); (first | refine a' rfl (O.sub (.lit rfl) (.k rfl)) ?_ | refine fm (O.sub (.lit rfl) (.k rfl)) ?_ | refine a' rfl (O.sub (.lit rfl) (.lit rfl)) ?_ | refine fm (O.sub (.lit rfl) (.lit rfl)) ?_ | refine a' rfl (O.sub (.k rfl) (.lit rfl)) ?_ | refine fm (O.sub (.k rfl) (.lit rfl)) ?_))
  | ((with_reducible apply au.ho (.binOp .leq _ _ _ _) (some _)); (first | refine a' rfl (O.leq (.lit rfl) (.k rfl)) ?_ | refine fm (O.leq (.lit rfl) (.k rfl)) ?_ | refine a' rfl (O.leq (.lit rfl) (.lit rfl)) ?_ | refine fm (O.leq (.lit rfl) (.lit rfl)) ?_ | refine a' rfl (O.leq (.k rfl) (.lit rfl)) ?_ | refine fm (O.leq (.k rfl) (.lit rfl)) ?_))
  | ((with_reducible apply au.ho (.call { callee:=.builtin .len,args:=#[_],argTypes:=#[_] }) (some _)); (first | refine a' rfl (O.gN (.aD rfl) gM.p) ?_ | refine fm (O.gN (.aD rfl) gM.p) ?_ | refine a' rfl (O.py (.bq rfl) gM.p) ?_ | refine fm (O.py (.bq rfl) gM.p) ?_ | refine a' rfl (O.py (.own rfl) gM.p) ?_ | refine fm (O.py (.own rfl) gM.p) ?_ | refine a' rfl (O.ma (.lit rfl) rl.p) ?_ | refine fm (O.ma (.lit rfl) rl.p) ?_))
  | ((with_reducible apply au.ho (.unOp .not _ _) (some _)); (first | refine a' rfl (O.not (.lit rfl)) ?_ | refine fm (O.not (.lit rfl)) ?_))
  | ((with_reducible apply au.ho (.nilCheck _) (some _)); (first | refine a' rfl (O.eJ (.ptr rfl)) ?_ | refine fm (O.eJ (.ptr rfl)) ?_ | refine a' rfl (O.zF (.bs rfl)) ?_ | refine fm (O.zF (.bs rfl)) ?_ | refine a' rfl (O.eJ (.obj rfl)) ?_ | refine fm (O.eJ (.obj rfl)) ?_))
  | ((with_reducible apply au.ho (.index _ _ _) (some _)); (first | refine a' rfl (O.og (.lit rfl) (.lit rfl) rl.p (by assumption)) ?_ | refine fm (O.og (.lit rfl) (.lit rfl) rl.p (by assumption)) ?_)))))):au P N ops l g K:=h
theorem W.HO {id:Nat}{l:List Oper}{G G1:List (Nat × af)}{Φ:Exit->aU->Prop}(ks:List Nat) (hk:ag .normal Φ G1) (h:au P N l.toArray l (get G) (vT ks G1):=by exact au.a_):W P N (.region id l.toArray false) (get G) Φ:=W.br ks h hk
theorem W.dq {id:Nat}{l:List Oper}{B:Code}{G:List (Nat × af)}{Φ:Exit->aU->Prop}(G1:List (Nat × af)) (hk:W P N B (get G1) Φ) (h:au P N l.toArray l (get G) (λg'=>ku g' (get G1)):=by exact au.a_):W P N (.seq (.region id l.toArray false) B) (get G) Φ:=W.rs G1 h hk
theorem W.a7 {id:Nat}{l:List Oper}{B:Code}{G G1:List (Nat × af)}{Φ:Exit->aU->Prop}(ks:List Nat) (hk:W P N B (get G1) Φ) (h:au P N l.toArray l (get G) (vT ks G1):=by exact au.a_):W P N (.seq (.region id l.toArray false) B) (get G) Φ:=W.bV ks h hk
end
end Go.Own
namespace Go.Own
open Go
section
variable {P:Program}{N:dy}{G:List (Nat × af)}{g':aU}
theorem cF {rs:List ResultVar}{ys xs:List af}{res:af}{outs:List (Option af)}{n:Nat}(h:n_ P (get G) rs ys xs g') (he:pF xs=res:=by rfl) (bd:rr g' N.pins 0 outs:=by (repeat' first | exact .nil | refine .no ?_)) (fU:(rs.filterMap fun | .cell t _=>some t | _=>none).Nodup:=by exact of_decide_eq_true (by kernel_rfl)) (ao:outs.length=n:=by rfl):ag .ret (AM P N rs n outs res) G:=ag.fin (Fin.ro h he fU bd ao (.inr rfl))
end
end Go.Own
