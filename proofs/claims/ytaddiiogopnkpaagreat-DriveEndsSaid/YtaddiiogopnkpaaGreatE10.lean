/- Parts of the proof that the last text states. -/
import Derived.KernelRfl
import Derived.ProofKit
import Derived.RowKit3
import Derived.Test.YtaddiiogopnkpaaGreatE9
set_option linter.unusedVariables false
namespace Go.Proofs
open Go Go.Own Go.Sort
set_option maxRecDepth 100000
theorem Qu {α:Type}(keep:α->Bool) (val:α->Int) {l:List α}(ah:l.length<=1000):lF (jQ keep val l):=by
 refine ⟨λp aq=>?_,?_⟩
 all_goals grind [KS,ZW]
theorem zo (l:List Row) (ah:l.length<=200) (hr:∀ r∈l,lF r.g_/\r.g_.length<=1000):Tot (yg l) λr=>r.1=l.map (·.Def)/\∀ a n,rD r.2 a n=some (q' (l.map (·.g_)) a n):=by
 unfold yg;refine .aA (Ξ:=λs:List Int × List (List cG)=>s.1=l.map (·.Def)/\s.2=l.map (·.g_)) ?_ λs aw=>?_
 ·refine Tot.upto (λs=>s.2.2) l.length (λk s=>s.1=(l.take k).map (·.Def)/\s.2.1=(l.take k).map (·.g_)) rfl (by omega) ⟨rfl,rfl⟩ λk s hk he bf=>?_;obtain ⟨A,B,i⟩:=s;obtain ⟨h1,af⟩:=bf;simp only at he h1 af ⊢;subst he h1 af;rw [et k (by omega)];refine Tot.bt (λaN=>?_) (λdF=>.al ?_)
  ·have aN:k<l.length:=by omega
   rw [dN aN];refine Tot.aV (.bK<|.bK<|.al ⟨aN,rfl,?_,?_⟩)
   all_goals grind [l2]
  grind
 ·obtain ⟨h1,af⟩:=aw;rw [af];have c7:p_ (l.map (·.g_)):=⟨by simp; omega,λr dG=>by
   grind⟩
  have eV:EL (l.map (·.g_)):=⟨by simp; omega,λr dG=>by
   grind⟩
  refine .aA (TS _ eV) λc aa=>.al ⟨h1,λa n=>?_⟩;obtain ⟨hK,o,hO,fK⟩:=aa.2 c7;exact Vy c7 hO fK (fK.inv c7 (List.pairwise_reverse.2 hO.AV)) hK a n
structure wF (g:bD) (d:gP) (t:Tables):Prop where
 Ng:t.Def=d.cz.map λr=>hp (red r)
 gd:t.jw=(List.range g.dC.length).map λa=>hp (pos (f' d a))
 ac:∀ a n,rD t.cz a n=some (q' (d.cz.map λr=>(sB r).g_) a n)
 go:∀ a n,rD t.ej a n=some (q' ((List.range g.dC.length).map λa=>(qK (f' d a)).g_) a n)
 le:t.Left=g.bx.map (·.Left)
 jN:t.kv=g.bx.map λp=>(p.dD.length:Int)
 Zd:e_ sx t.je/\t.je.length<=1000/\∀ p,p∈t.je↔tC g.br p
theorem nS (g:bD) (n:Nat) (d:gP) (aO:yO g n d) (hk:u0 g):Tot (yc g d) (wF g d):=by
 have aP:=aO.oC;have ar:=aP.k9;have ri:=aP.eW;have sh:=aP.jt;have mf:=aO.gJ;have vo:=aO.a;have Cu:=aO.o;unfold yc;refine .aA (TM g n d aO) λaR h1=>?_;subst h1;refine .aA (zo _ (by simp; omega) λr hr=>?_) λx2 af=>.aA (TN g n d aO) λa7 aD=>?_
 ·obtain ⟨q,a8,rfl⟩:=List.mem_map.1 hr;have ah:=(aO.kU q a8).1;have:=AU (oN (hp (red q))) o2 q;exact ⟨Qu _ _ (by omega),by show (jQ _ _ q).length<=_; omega⟩
 subst aD;refine .aA (zo _ (by simp; omega) λr hr=>?_) λbl bm=>?_
 ·obtain ⟨a,_,rfl⟩:=List.mem_map.1 hr;have ah:=BD d a;have:=AU (pb (hp (pos (f' d a)))) id (f' d a);exact ⟨Qu _ _ (by omega),by show (jQ _ _ (f' d a)).length<=_; omega⟩
 refine .aA (Ξ:=λs:List Int × List Int=>s.1=g.bx.map (·.Left)/\s.2=g.bx.map λp=>(p.dD.length:Int)) ?_ λbz dp=>.aA (TJ g hk (by omega)) λea pD=>.al ?_
 ·refine Tot.upto (λs=>s.2.2) g.bx.length (λk s=>s.1=(g.bx.take k).map (·.Left)/\s.2.1=(g.bx.take k).map λp=>(p.dD.length:Int)) rfl (by omega) ⟨rfl,rfl⟩ λk s JI he bf=>?_;obtain ⟨A,B,i⟩:=s;obtain ⟨h1,af⟩:=bf;simp only at he h1 af ⊢;subst he h1 af;rw [et k (by omega)];refine Tot.bt (λaN=>?_) (λdF=>.al ?_)
  ·have aN:k<g.bx.length:=by omega
   rw [dN aN];refine Tot.aV (.bK<|.bK<|.al ⟨aN,rfl,?_,?_⟩)
   all_goals grind [l2]
  grind
 ·refine ⟨?_,?_,λa m=>?_,λa m=>?_,dp.1,dp.2,pD⟩
  ·show x2.1=_;rw [af.1,List.map_map];rfl
  ·show bl.1=_;rw [bm.1,List.map_map];rfl
  ·show rD x2.2 a m=_;rw [af.2,List.map_map];rfl
  ·show rD bl.2 a m=_;rw [bm.2,List.map_map];rfl
theorem get_at {α:Type}{keep:α->Bool}{val:α->Int}{l:List α}{k:Nat}{x:α}(ah:l.length<=1000) (hk:l[k]?=some x):kY (jQ keep val l) (k:Int)=if keep x=true then (val x,true) else (0,false):=by
 have h1:=VA (keep:=keep) (val:=val) (by omega) hk
 grind [Vx,AU]
theorem Vz {α:Type}{keep:α->Bool}{val:α->Int}{l:List α}{i:Int}(h:i<0\/(l.length:Int)<=i):kY (jQ keep val l) i=(0,false):=by
 grind [get_none,KS]
def DZ (r:List Act) (k:Int):Option Act:=if (kY (sB r).g_ k).2=true then x8 (kY (sB r).g_ k).1 else some (if hp (red r)<0 then ⟨0,0⟩ else ⟨2,hp (red r)⟩)
theorem U8 {g:bD}{d:gP}{t:Tables}(h:wF g d t) (s k:Int):wb t s k=match idx d.cz s with | some r=>DZ r k | none=>some ⟨0,0⟩:=by
 unfold wb;rw [h.ac,Option.bind_some];have Ol:t.Def.length=d.cz.length:=by rw [h.Ng]; simp
 cases aw:idx d.cz s with
 | none =>
  grind [idx,q']
 | some r =>
  have au:=j6 aw;have aY:idx (d.cz.map λr=>(sB r).g_) s=some (sB r).g_:=by
   grind [idx]
  have aeG:idx t.Def s=some (hp (red r)):=by
   rw [h.Ng]
   grind [idx]
  grind [q',DZ]
theorem Z7 {g:bD}{n:Nat}(aP:fZ g) (aB:n<=150) {r:List Act}(ah:r.length<=1000) {k:Nat}{x:Act}(hk:r[k]?=some x) (J:oU g n x):DZ r (k:Int)=some (if oN (hp (red r)) x=true then x else if hp (red r)<0 then ⟨0,0⟩ else ⟨2,hp (red r)⟩):=by
 unfold DZ;have e:kY (sB r).g_ (k:Int)=if oN (hp (red r)) x=true then (o2 x,true) else (0,false):=get_at ah hk
 grind [oN,T6]
def D0 (c:List Int) (s:Int):Int:=if (kY (qK c).g_ s).2=true then (kY (qK c).g_ s).1 else hp (pos c)
theorem UX {g:bD}{d:gP}{t:Tables}(h:wF g d t) (s a:Int):Ao t s a=some (if 0<=a/\a<g.dC.length then D0 (f' d a.toNat) s else -1):=by
 unfold Ao;rw [h.go,Option.bind_some];have Jx:t.jw.length=g.dC.length:=by rw [h.gd]; simp
 by_cases aI:0<=a/\a<(g.dC.length:Int)
 ·obtain ⟨k,rfl⟩:∃ k:Nat,a=(k:Int):=⟨a.toNat,by omega⟩;have hk:k<g.dC.length:=by omega
  have aY:idx ((List.range g.dC.length).map λa=>(qK (f' d a)).g_) (k:Int)=some (qK (f' d k)).g_:=by
   unfold idx;rw [if_pos (by omega),Int.toNat_natCast,List.getElem?_map,List.getElem?_range hk]; rfl
  have jm:idx t.jw (k:Int)=some (hp (pos (f' d k))):=by
   rw [h.gd];unfold idx;rw [if_pos (by omega),Int.toNat_natCast,List.getElem?_map,List.getElem?_range hk]; rfl
  rw [if_pos aI,Int.toNat_natCast];unfold q' D0;rw [aY];simp only;by_cases af:(kY (qK (f' d k)).g_ s).2=true
  ·simp [af]
  ·have af:(kY (qK (f' d k)).g_ s).2=false:=by simpa using af
   have d1:decide ((k:Int)<0)=false:=decide_eq_false (by omega);have d2:decide ((t.jw.length:Int)<=(k:Int))=false:=decide_eq_false (by omega);rw [af,d1,d2,jm];simp
 ·have aY:idx ((List.range g.dC.length).map λa=>(qK (f' d a)).g_) a=none:=by
   unfold idx;split
   ·rw [List.getElem?_eq_none];simp; omega
   ·rfl
  rw [if_neg aI];unfold q';rw [aY];simp only [cond_false];by_cases aK:a<0
  ·simp [aK]
  ·have h1:(t.jw.length:Int)<=a:=by omega
   simp [aK,h1]
theorem Z8 {c:List Int}(ah:c.length<=1000) {q:Nat}{v:Int}(a8:c[q]?=some v):D0 c (q:Int)=if pb (hp (pos c)) v=true then v else hp (pos c):=by
 unfold D0;have e:kY (qK c).g_ (q:Int)=if pb (hp (pos c)) v=true then (v,true) else (0,false):=get_at ah a8
 rw [e];by_cases h:pb (hp (pos c)) v=true
 ·rw [if_pos h,if_pos rfl,if_pos h]
 ·rw [if_neg h,if_neg (by simp),if_neg h]
theorem Zk {g:bD}{n:Nat}(aP:fZ g) {r:List Act}(ah:r.length=g.br.length) (h:∀ a∈r,oU g n a):oW (red r) (hp (red r)):=(K2 (QC aP ah h)).2.2
theorem Y2 {r:List Act}{v:Int}(h:v∈red r):∃ a∈r,a.Kind=2/\a.N=v:=by
 unfold red at h;obtain ⟨a,aI,rfl⟩:=List.mem_map.1 h;rw [List.mem_filter] at aI;exact ⟨a,aI.1,of_decide_eq_true aI.2,rfl⟩
theorem P7 {g:bD}{n:Nat}(aP:fZ g) {r:List Act}(ah:r.length=g.br.length) (h:∀ a∈r,oU g n a):hp (red r)=-1\/(0<=hp (red r)/\∃ a∈r,a.Kind=2/\a.N=hp (red r)):=by
 rcases Zk aP ah h with ⟨_,e⟩ | ⟨hm,_⟩
 ·exact .inl e
 ·obtain ⟨a,aI,hk,e⟩:=Y2 hm;have:=((h a aI).n_ hk).1;exact .inr ⟨by omega,a,aI,hk,e⟩
theorem SE {g:bD}{n:Nat}{x:Act}(J:oU g n x) {D:Int}(jm:D=-1\/0<=D):(if oN D x=true then x else if D<0 then ⟨0,0⟩ else ⟨2,D⟩)=(if x.Kind=0/\D≠-1 then ⟨2,D⟩ else x):=by
 obtain ⟨k,m⟩:=x;have aK:=J.gJ;simp only at aK;unfold oN;by_cases ft:k=0
 ·subst ft;have:=aK rfl;subst this;rcases jm with rfl | jm
  ·simp
  ·have h1:¬ D<0:=by omega
   have af:D≠-1:=by omega
   simp [h1,af]
 ·by_cases b3:k=2
  ·subst b3;by_cases Nl:m=D
   ·subst Nl;have af:=(J.n_ rfl).1;have af:0<m:=af;have h1:¬ m<0:=by omega
    simp [h1]
   ·simp [Nl]
  ·simp [ft,b3]
open Go Go.Own
structure ou where
 act:Int->Int->Act
 go:Int->Int->Int
 left:Int->Int
 len:Int->Nat
structure gZ where
 st:List Int
 nd:List Node
 hJ:Int
 p:eZ
 pop:Bool
inductive Mh where
 | fin (p:eZ)
 | go (p:eZ) (afq:Int) (r:gZ)
def fS (st:List Int) (nd:List Node):Int:=st.getD nd.length 0
def ij (tk:List Int) (a:Int):Int:=if (tk.length:Int)<=a then 0 else tk.getD a.toNat 0
def qJ (c:gZ) (n:Nat) (s:Int) (x:Node):gZ:=⟨c.st.take (c.nd.length+1 - n)++[s],c.nd.take (c.nd.length - n)++[x],c.hJ,{ c.p with Steps:=c.p.Steps+1,Deep:=max c.p.Deep ((c.nd.length:Int)+1 - n) },false⟩
def sw (c:gZ) (k:Int):Node:=⟨k,-1,c.p.At,mV dn []⟩
def lY (B:ou) (c:gZ):Mh :=
 if (B.act (fS c.st c.nd) 1).Kind=1 then .go c.p ((c.nd.length:Int)+1) (qJ c 0 (B.act (fS c.st c.nd) 1).N (sw c 1))
 else if c.nd.length=0 then .fin { c.p with Kind:=2 }
 else .go c.p ((c.nd.length:Int) - 1) ⟨c.st.take c.nd.length,c.nd.take (c.nd.length - 1),c.hJ,{ c.p with Steps:=c.p.Steps+1 },true⟩
def rQ (c:gZ):gZ:=⟨c.st,c.nd,3,{ c.p with eC:=c.p.eC++[⟨c.p.At,decide (c.hJ=0)⟩] },true⟩
def D8 (c:gZ) (s k:Int):gZ:={ qJ c 0 s (sw c k) with hJ:=max (c.hJ - 1) 0,p:={ (qJ c 0 s (sw c k)).p with At:=c.p.At+1 } }
def Gy (B:ou) (c:gZ) (p:Int):gZ:={ qJ c (B.len p) (B.go (c.st.getD (c.nd.length - B.len p) 0) (B.left p)) ⟨1000+B.left p,p,-1,mV dn (c.nd.drop (c.nd.length - B.len p))⟩ with p:={ (qJ c (B.len p) 0 default).p with bx:=c.p.bx++[p] } }
def h' (B:ou) (tk:List Int) (c:gZ):Mh :=
 if c.pop=true then lY B c
 else if (B.act (fS c.st c.nd) (ij tk c.p.At)).Kind=1 then .go c.p ((c.nd.length:Int)+1) (D8 c (B.act (fS c.st c.nd) (ij tk c.p.At)).N (ij tk c.p.At))
 else if (B.act (fS c.st c.nd) (ij tk c.p.At)).Kind=2 then .go c.p ((c.nd.length:Int)+1 - B.len (B.act (fS c.st c.nd) (ij tk c.p.At)).N) (Gy B c (B.act (fS c.st c.nd) (ij tk c.p.At)).N)
 else if (B.act (fS c.st c.nd) (ij tk c.p.At)).Kind=3 then .fin { c.p with Kind:=1,Tree:=c.nd.getD (c.nd.length - 1) default }
 else if c.hJ=3 then (if ij tk c.p.At=0 then .fin { c.p with Kind:=2 } else .go c.p c.nd.length { c with p:={ c.p with Steps:=c.p.Steps+1,fp:=c.p.fp++[c.p.At],At:=c.p.At+1 } })
 else lY B (rQ c)
inductive h2 (B:ou) (tk:List Int) (D S:Int):gZ->eZ->Prop
 | fin {c:gZ}{p:eZ}(h:h' B tk c=.fin p):h2 B tk D S c p
 | lim {c r:gZ}{p:eZ}{n:Int}(h:h' B tk c=.go p n r) (ah:p.Steps=S\/D<n):h2 B tk D S c { p with Kind:=3 }
 | go {c r:gZ}{p P:eZ}{n:Int}(h:h' B tk c=.go p n r) (ah:¬ (p.Steps=S\/D<n)) (hr:h2 B tk D S r P):h2 B tk D S c P
inductive px:Nat->Node->Prop
 | mk {n:Nat}{s p a:Int}{L:List Node}(ah:L.length<=100000) (h:∀ x∈L,px n x):px (n+1) ⟨s,p,a,mV dn L⟩
theorem px.up {n:Nat}{x:Node}(h:px n x):∀ {m:Nat},n<=m->px m x:=by
 induction h with
 | mk ah _ aM =>
  intro m hm;obtain ⟨m,rfl⟩:∃ k,m=k+1:=⟨m - 1,by omega⟩;exact .mk ah λx J=>aM x J (by omega)
theorem px.leaf {n:Nat}(h:1<=n) (k a b:Int):px n ⟨k,a,b,mV dn []⟩:=by
 obtain ⟨n,rfl⟩:∃ m,n=m+1:=⟨n - 1,by omega⟩;exact .mk (by simp) (by simp)
structure p8 (B:ou) (V:Int->Prop) (Q:List Int->List Node->Prop):Prop where
 len:∀ {st:List Int}{nd:List Node},Q st nd->st.length=nd.length+1
 v:∀ {st:List Int}{nd:List Node},Q st nd->∀ q∈st,V q
 dO:∀ {st:List Int}{nd:List Node}{k:Int}{x:Node},Q st nd->(B.act (fS st nd) k).Kind=1->x.Sym=k->Q (st++[(B.act (fS st nd) k).N]) (nd++[x])
 wj:∀ {st:List Int}{nd:List Node}{k:Int},Q st nd->(B.act (fS st nd) k).Kind=2->B.len (B.act (fS st nd) k).N<=nd.length
 rd:∀ {st:List Int}{nd:List Node}{k p:Int}{x:Node},Q st nd->B.act (fS st nd) k=⟨2,p⟩->x.Sym=1000+B.left p->Q (st.take (nd.length+1 - B.len p)++[B.go (st.getD (nd.length - B.len p) 0) (B.left p)]) (nd.take (nd.length - B.len p)++[x])
 pop:∀ {st:List Int}{nd:List Node},Q st nd->nd.length≠0->Q (st.take nd.length) (nd.take (nd.length - 1))
 ac:∀ {st:List Int}{nd:List Node}{k:Int},Q st nd->(B.act (fS st nd) k).Kind=3->nd.length≠0
theorem p8.top {B:ou}{V:Int->Prop}{Q:List Int->List Node->Prop}(h:p8 B V Q) {st:List Int}{nd:List Node}(a8:Q st nd):idx st (nd.length:Int)=some (fS st nd)/\V (fS st nd):=by
 have ah:=h.len a8;have h1:nd.length<st.length:=by omega
 have:fS st nd=st[nd.length]:=by simp [fS,List.getD_eq_getElem?_getD,h1]
 exact ⟨by rw [this]; simp [idx,h1],h.v a8 _ (by rw [this]; exact List.getElem_mem h1)⟩
structure ja (Q:List Int->List Node->Prop) (tk:List Int) (D S:Int) (c:gZ):Prop where
 q:Q c.st c.nd
 nd:(c.nd.length:Int)<=D
 Ij:D<=100000
 aV:S<=1000000
 LJ:tk.length<=1000000000000
 k0:c.p.Kind=0
 e9:0<=c.p.Steps
 LC:c.p.Steps<=S
 a0:0<=c.p.At
 dv:c.p.At<=tk.length+c.p.Steps
 f0:0<=c.hJ
 f3:c.hJ<=3
 pl:c.p.bx.length<=c.p.Steps
 PC:c.p.fp.length<=c.p.Steps
 ul:c.p.eC.length<=c.p.Steps+1
 yA:c.hJ≠3->c.p.eC.length<=c.p.Steps
 c5:∀ x∈c.nd,px c.p.Steps.toNat x
 Am:c.pop=true->c.hJ=3
 d0:(c.nd.length:Int)<=c.p.Deep
 Ih:c.p.Deep<=D
theorem ja.put {B:ou}{V:Int->Prop}{Q:List Int->List Node->Prop}{tk:List Int}{D S:Int}{c:gZ}(h:ja Q tk D S c) {n:Nat}{s:Int}{x:Node}(aB:n<=c.nd.length) (a8:Q (c.st.take (c.nd.length+1 - n)++[s]) (c.nd.take (c.nd.length - n)++[x])) (J:px (c.p.Steps.toNat+1) x) (ah:¬ (c.p.Steps=S\/D<(c.nd.length:Int)+1 - n)):ja Q tk D S (qJ c n s x):=by
 have ⟨_,_,_,_,_,_,_,_,_,_,_,_,_,_,_,_,_,_,_,_⟩:=h;have e:(c.nd.take (c.nd.length - n)++[x]).length=c.nd.length - n+1:=by simp
 refine ⟨a8,?_,by assumption,by assumption,by assumption,by assumption,?_,?_,by assumption,?_,by assumption,by assumption,?_,?_,?_,λaT=>?_,λy ao=>?_,λh=>(by cases h),?_,?_⟩
 all_goals simp only [qJ]
 ·rw [e]; omega
 ·omega
 ·omega
 ·omega
 ·omega
 ·omega
 ·omega
 ·have:=h.yA aT; omega
 ·have b3:(c.p.Steps+1).toNat=c.p.Steps.toNat+1:=by omega
  rw [b3];rcases List.mem_append.1 ao with ao | ao
  ·exact (h.c5 y (List.mem_of_mem_take ao)).up (by omega)
  ·rw [List.mem_singleton.1 ao]; exact J
 ·rw [e]; omega
 ·omega
theorem ja.up {Q:List Int->List Node->Prop}{tk:List Int}{D S:Int}{c:gZ}(h:ja Q tk D S c) (aT:c.hJ≠3):ja Q tk D S (rQ c):=by
 have ⟨_,_,_,_,_,_,_,_,_,_,_,_,_,_,_,_,_,_,_,_⟩:=h;refine ⟨by assumption,by assumption,by assumption,by assumption,by assumption,by assumption,by assumption,by assumption,by assumption,by assumption,?_,?_,by assumption,by assumption,?_,λaJ=>?_,by assumption,λ_=>rfl,by assumption,by assumption⟩
 ·show (0:Int)<=3; decide
 ·show (3:Int)<=3; decide
 ·have:=h.yA aT;simp only [rQ,List.length_append,List.length_singleton]; omega
 ·exact absurd rfl aJ
variable {B:ou}{V:Int->Prop}{Q:List Int->List Node->Prop}{tk:List Int}{D S:Int}{c:gZ}
theorem Qs (bQ:p8 B V Q) (h:ja Q tk D S c) (aT:c.hJ=3) {p:eZ}{n:Int}{r:gZ}(e:lY B c=.go p n r) (ah:¬ (p.Steps=S\/D<n)):p=c.p/\ja Q tk D S r/\r.p.Steps=c.p.Steps+1:=by
 have ⟨_,_,_,_,_,_,_,_,_,_,_,_,_,_,_,_,_,_,_,_⟩:=h;have fK:=bQ.len h.q;unfold lY at e
 split at e
 ·rename_i hk;cases e;have a8:=bQ.dO (x:=sw c 1) h.q hk rfl;refine ⟨rfl,h.put (B:=B) (V:=V) (Nat.zero_le _) ?_ (.leaf (by omega) ..) (by simpa using ah),rfl⟩;rw [Nat.sub_zero,Nat.sub_zero,List.take_length,<- fK,List.take_length];exact a8
 ·split at e
  ·cases e
  ·rename_i aK;cases e;have b9:(c.nd.take (c.nd.length - 1)).length=c.nd.length - 1:=by simp
   refine ⟨rfl,⟨bQ.pop h.q aK,?_,by assumption,by assumption,by assumption,by assumption,?_,?_,by assumption,?_,by assumption,by assumption,?_,?_,?_,λaJ=>absurd aT aJ,λy ao=>?_,λ_=>aT,?_,by assumption⟩,rfl⟩
   all_goals simp only
   ·rw [b9]; omega
   ·omega
   ·omega
   ·omega
   ·omega
   ·omega
   ·omega
   ·exact (h.c5 y (List.mem_of_mem_take ao)).up (by omega)
   ·rw [b9]; omega
theorem z_ (bQ:p8 B V Q) (h:ja Q tk D S c) {p:eZ}{n:Int}{r:gZ}(e:h' B tk c=.go p n r) (ah:¬ (p.Steps=S\/D<n)):ja Q tk D S r/\r.p.Steps=c.p.Steps+1:=by
 have ⟨_,_,_,_,_,_,_,_,_,_,_,_,_,_,_,_,_,_,_,_⟩:=h;have fK:=bQ.len h.q;unfold h' at e
 split at e
 ·rename_i aq;exact (Qs bQ h (h.Am aq) e ah).2
 ·split at e
  ·rename_i hk;cases e;have a8:=bQ.dO (x:=sw c (ij tk c.p.At)) h.q hk rfl;have:=h.put (B:=B) (V:=V) (n:=0) (s:=(B.act (fS c.st c.nd) (ij tk c.p.At)).N) (x:=sw c (ij tk c.p.At)) (Nat.zero_le _) (by rw [Nat.sub_zero,Nat.sub_zero,List.take_length,<- fK,List.take_length]; exact a8) (.leaf (by omega) ..) (by simpa using ah);refine ⟨⟨this.q,this.nd,this.Ij,this.aV,this.LJ,this.k0,this.e9,this.LC,?_,?_,?_,?_,this.pl,this.PC,this.ul,λ_=>?_,this.c5,λh=>(by cases h),this.d0,this.Ih⟩,rfl⟩
   all_goals simp only [D8,qJ]
   all_goals omega
  ·split at e
   ·rename_i hk;have hle:=bQ.wj h.q hk;cases e;generalize aq:(B.act (fS c.st c.nd) (ij tk c.p.At)).N=a at *;have a8:=bQ.rd (x:=⟨1000+B.left a,a,-1,mV dn (c.nd.drop (c.nd.length - B.len a))⟩) h.q (show B.act (fS c.st c.nd) (ij tk c.p.At)=⟨2,a⟩ by rw [<- aq,<- hk]) rfl;have:=h.put (B:=B) (V:=V) hle a8 (.mk (by simp; omega) λx J=>h.c5 x (List.mem_of_mem_drop J)) ah;have ⟨_,_,_,_,_,_,_,_,_,_,_,_,_,_,_,_,_,_,_,_⟩:=this;refine ⟨⟨this.q,this.nd,this.Ij,this.aV,this.LJ,this.k0,this.e9,this.LC,this.a0,this.dv,this.f0,this.f3,?_,this.PC,this.ul,this.yA,this.c5,this.Am,this.d0,this.Ih⟩,rfl⟩;simp only [Gy,qJ,List.length_append,List.length_singleton];omega
   ·split at e
    ·cases e
    ·split at e
     ·rename_i aT
      split at e
      ·cases e
      ·rename_i aK;cases e;refine ⟨⟨h.q,h.nd,h.Ij,h.aV,h.LJ,h.k0,?_,?_,?_,?_,h.f0,h.f3,?_,?_,?_,λaJ=>absurd aT aJ,λx J=>(h.c5 x J).up ?_,λaJ=>aT,h.d0,h.Ih⟩,rfl⟩
       all_goals simp only [List.length_append,List.length_singleton]
       all_goals omega
     ·rename_i aT;obtain ⟨h1,af,aD⟩:=Qs bQ (h.up aT) rfl e ah;exact ⟨af,aD⟩
theorem Qr {p:eZ}(e:lY B c=.fin p):p.Kind=2:=by
 unfold lY at e
 split at e
 ·cases e
 ·split at e
  ·cases e; rfl
  ·cases e
theorem Y4 {p:eZ}(e:h' B tk c=.fin p):p.Kind=1\/p.Kind=2:=by
 unfold h' at e
 split at e
 ·exact .inr (Qr e)
 ·split at e
  ·cases e
  ·split at e
   ·cases e
   ·split at e
    ·cases e; exact .inl rfl
    ·split at e
     ·split at e
      ·cases e; exact .inr rfl
      ·cases e
     ·exact .inr (Qr e)
theorem h2.kind {P:eZ}(h:h2 B tk D S c P):P.Kind=1\/P.Kind=2\/P.Kind=3:=by
 induction h with
 | fin h=>exact (Y4 h).imp id .inl
 | lim=>exact .inr (.inr rfl)
 | go _ _ _ aM=>exact aM
def gT (t:Tables) (tk:List Int) (D S:Int) (c:gZ):dz:=⟨t,tk,D,S,c.st,c.nd,c.hJ,c.p⟩
structure za (t:Tables) (B:ou) (V:Int->Prop):Prop where
 act:∀ {q:Int}(k:Int),V q->wb t q k=some (B.act q k)
 go:∀ {q k p s:Int},V q->B.act q k=⟨2,p⟩->V s->Ao t s (B.left p)=some (B.go s (B.left p))
 red:∀ {q k p:Int},V q->B.act q k=⟨2,p⟩->idx t.kv p=some (B.len p:Int)/\idx t.Left p=some (B.left p)/\0<=B.left p/\B.left p<=1000000
variable {t:Tables}{B:ou}{V:Int->Prop}{Q:List Int->List Node->Prop}{tk:List Int}{D S:Int}{c:gZ}
theorem Bo {α:Type}{l m:List α}(h:l.length+m.length<=2000000):cT l m=some (l++m):=by
 unfold cT lim; rw [if_pos (by omega)]
theorem Tot.eq {α β:Type}{x:Option β}{f:β->Option α}{Φ:α->Prop}{a:β}(h:x=some a) (hk:Tot (f a) Φ):Tot (x.bind f) Φ:=by rw [h]; exact hk
theorem Il (h:ja Q tk D S c) (n:Int):x3 (gT t tk D S c) n=some (if c.p.Steps=S\/D<n then (false,gT t tk D S { c with p:={ c.p with Kind:=3 } }) else (true,gT t tk D S { c with p:={ c.p with Steps:=c.p.Steps+1 } })):=by
 have ⟨_,_,_,_,_,_,_,_,_,_,_,_,_,_,_,_,_,_,_,_⟩:=h;unfold x3;simp only [gT];rw [l5 (n:=c.p.Steps+1) (by omega) (by omega)];by_cases h:c.p.Steps=S
 ·simp [h]
 ·by_cases aJ:D<n
  ·simp [h,aJ]
  ·simp [h,aJ]
theorem Iq (bQ:p8 B V Q) (h:ja Q tk D S c) {m:Nat}(hm:m<=c.nd.length) (s:Int) (x:Node):uF (gT t tk D S c) s m x=some (if c.p.Steps=S\/D<(c.nd.length:Int)+1 - m then (false,gT t tk D S { c with p:={ c.p with Kind:=3 } }) else (true,gT t tk D S (qJ c m s x))):=by
 have ⟨_,_,_,_,_,_,_,_,_,_,_,_,_,_,_,_,_,_,_,_⟩:=h;have fK:=bQ.len h.q;unfold uF;rw [Il h];have hw:aG (((gT t tk D S c).dt.length:Int) - m)=((c.nd.length+1 - m:Nat):Int):=by
  show aG ((c.st.length:Int) - m)=_;rw [l5 (by omega) (by omega)]; omega
 rw [hw];have ft:((c.nd.length+1 - m:Nat):Int)=(c.nd.length:Int)+1 - m:=by omega
 by_cases ah:c.p.Steps=S\/D<(c.nd.length:Int)+1 - m
 ·rw [if_pos ah,if_pos (by rw [ft]; exact ah)];simp
 ·rw [if_neg ah,if_neg (by rw [ft]; exact ah)];have b9:aG (((gT t tk D S { c with p:={ c.p with Steps:=c.p.Steps+1 } }).dt.length:Int) - m)=((c.nd.length+1 - m:Nat):Int):=hw;have b3:aG (((gT t tk D S { c with p:={ c.p with Steps:=c.p.Steps+1 } }).fc.length:Int) - m)=((c.nd.length - m:Nat):Int):=by
   show aG ((c.nd.length:Int) - m)=_;rw [l5 (by omega) (by omega)]; omega
  have i1:lV c.st ((c.nd.length+1 - m:Nat):Int)=some ():=by simp [lV]; omega
  have i2:lV c.nd ((c.nd.length - m:Nat):Int)=some ():=by simp [lV]
  have av:cT (c.st.take (c.nd.length+1 - m)) [s]=some (c.st.take (c.nd.length+1 - m)++[s]):=Bo (by simp; omega);have a2:cT (c.nd.take (c.nd.length - m)) [x]=some (c.nd.take (c.nd.length - m)++[x]):=Bo (by simp; omega);simp only [Option.bind_some,Bool.not_true,cond_false,b9,b3,Int.toNat_natCast];simp only [gT,i1,av,i2,a2,Option.bind_some];have eP:aG (((c.st.take (c.nd.length+1 - m)++[s]).length:Int) - 1)=(c.nd.length:Int)+1 - m:=by
   simp only [List.length_append,List.length_take,List.length_cons,List.length_nil,fK];rw [l5 (by omega) (by omega)]; omega
  rw [eP];rfl
theorem Nk (h:ja Q tk D S c):yj (gT t tk D S c)=some (ij tk c.p.At):=by
 have ⟨_,_,_,_,_,_,_,_,_,_,_,_,_,_,_,_,_,_,_,_⟩:=h;unfold yj ij;simp only [gT];by_cases aN:(tk.length:Int)<=c.p.At
 ·simp [aN]
 ·have:c.p.At.toNat<tk.length:=by omega
  have hi:idx tk c.p.At=some (tk.getD c.p.At.toNat 0):=by
   unfold idx;rw [if_pos h.a0,List.getD_eq_getElem?_getD,List.getElem?_eq_getElem this]; rfl
  simp [aN,hi]
theorem Ip (bQ:p8 B V Q) (cU:za t B V) (h:ja Q tk D S c) (k:Int):yi (gT t tk D S c) k=some (B.act (fS c.st c.nd) k):=by
 have ⟨_,_,_,_,_,_,_,_,_,_,_,_,_,_,_,_,_,_,_,_⟩:=h;have fK:=bQ.len h.q;obtain ⟨h1,af⟩:=bQ.top h.q;unfold yi;have e:aG (((gT t tk D S c).dt.length:Int) - 1)=(c.nd.length:Int):=by
  show aG ((c.st.length:Int) - 1)=_;rw [l5 (by omega) (by omega)]; omega
 rw [e];show (idx c.st (c.nd.length:Int)).bind _=_;rw [h1,Option.bind_some];show (wb t (fS c.st c.nd) k).bind _=_;rw [cU.act k af]; rfl
def u1 (B:ou) (t:Tables) (Q:List Int->List Node->Prop) (tk:List Int) (D S:Int) (c:gZ) (d:dz):Prop :=
 h2 B tk D S c d.bb\/∃ cg,d=gT t tk D S cg/\ja Q tk D S cg/\cg.pop=false/\c.p.Steps<cg.p.Steps/\∀ P,h2 B tk D S cg P->h2 B tk D S c P
theorem Tu (bQ:p8 B V Q) (h:ja Q tk D S c) (aq:c.pop=false) (aT:c.hJ=3) (h1:(B.act (fS c.st c.nd) (ij tk c.p.At)).Kind≠1) (af:(B.act (fS c.st c.nd) (ij tk c.p.At)).Kind≠2) (aD:(B.act (fS c.st c.nd) (ij tk c.p.At)).Kind≠3):Tot (Dl (gT t tk D S c)) (u1 B t Q tk D S c):=by
 have ⟨_,_,_,_,_,_,_,_,_,_,_,_,_,_,_,_,_,_,_,_⟩:=h;have fK:=bQ.len h.q;unfold Dl;rw [Nk h,Option.bind_some];by_cases aK:ij tk c.p.At=0
 ·have hm:h' B tk c=.fin { c.p with Kind:=2 }:=by unfold h'; rw [if_neg (by simp [aq]),if_neg h1,if_neg af,if_neg aD,if_pos aT,if_pos aK]
  simp only [aK,decide_true,cond_true,Option.bind_some];exact .al (.inl (.fin hm))
 ·have hm:h' B tk c=.go c.p c.nd.length { c with p:={ c.p with Steps:=c.p.Steps+1,fp:=c.p.fp++[c.p.At],At:=c.p.At+1 } }:=by unfold h'; rw [if_neg (by simp [aq]),if_neg h1,if_neg af,if_neg aD,if_pos aT,if_neg aK]
  simp only [aK,decide_false,cond_false];have e:aG (((gT t tk D S c).dt.length:Int) - 1)=(c.nd.length:Int):=by
   show aG ((c.st.length:Int) - 1)=_;rw [l5 (by omega) (by omega)]; omega
  rw [e,Il h];by_cases ah:c.p.Steps=S\/D<(c.nd.length:Int)
  ·rw [if_pos ah];simp only [Option.bind_some,cond_false];exact .al (.inl (show h2 B tk D S c { c.p with Kind:=3 } from .lim hm ah))
  ·rw [if_neg ah];simp only [Option.bind_some,cond_true,gT];rw [Bo (by simp; omega),Option.bind_some,Option.bind_some,Option.bind_some,l5 (n:=c.p.At+1) (by omega) (by omega)];obtain ⟨aW,he⟩:=z_ bQ h hm ah;exact .al (.inr ⟨_,rfl,aW,aq,by rw [he]; omega,λP hr=>.go hm ah hr⟩)
theorem TQ (bQ:p8 B V Q) (cU:za t B V) (h:ja Q tk D S c) (aq:c.pop=false) {a:Int}(aI:B.act (fS c.st c.nd) (ij tk c.p.At)=⟨2,a⟩):Tot (AN (gT t tk D S c) a) (u1 B t Q tk D S c):=by
 have ⟨_,_,_,_,_,_,_,_,_,_,_,_,_,_,_,_,_,_,_,_⟩:=h;have fK:=bQ.len h.q;obtain ⟨hi,hv⟩:=bQ.top h.q;have hle:B.len a<=c.nd.length:=by
  have:=bQ.wj (k:=ij tk c.p.At) h.q (by rw [aI]);rw [aI] at this; exact this
 obtain ⟨g1,g2,g3,g4⟩:=cU.red hv aI;have hm:h' B tk c=.go c.p ((c.nd.length:Int)+1 - B.len a) (Gy B c a):=by unfold h'; rw [if_neg (by simp [aq]),if_neg (by rw [aI]; simp),if_pos (by rw [aI]),aI]
 have h9:c.nd.length - B.len a<c.st.length:=by omega
 have J3:idx c.st ((c.nd.length:Int) - B.len a)=some (c.st.getD (c.nd.length - B.len a) 0):=by
  have e:(c.nd.length:Int) - B.len a=((c.nd.length - B.len a:Nat):Int):=by omega
  rw [e];simp [idx,List.getD_eq_getElem?_getD,h9]
 have rm:V (c.st.getD (c.nd.length - B.len a) 0):=by
  rw [List.getD_eq_getElem?_getD,List.getElem?_eq_getElem h9];exact bQ.v h.q _ (List.getElem_mem h9)
 unfold AN;simp only [gT];have ik:aG ((c.nd.length:Int) - (B.len a:Int))=((c.nd.length - B.len a:Nat):Int):=by rw [l5 (by omega) (by omega)]; omega
 have hs:aG (aG ((c.st.length:Int) - 1) - (B.len a:Int))=(c.nd.length:Int) - B.len a:=by rw [l5 (n:=(c.st.length:Int) - 1) (by omega) (by omega),l5 (by omega) (by omega)]; omega
 have i2:lV c.nd ((c.nd.length - B.len a:Nat):Int)=some ():=by simp [lV]
 have c1:K' (c.nd.drop (c.nd.length - B.len a))=some (c.nd.drop (c.nd.length - B.len a)):=by simp [K',E4]; omega
 simp only [g1,g2,Option.bind_some,ik,hs,i2,Int.toNat_natCast,c1,J3];rw [cU.go hv aI rm,Option.bind_some,l5 (n:=1000+B.left a) (by omega) (by omega)];have:=Iq (t:=t) bQ h hle (B.go (c.st.getD (c.nd.length - B.len a) 0) (B.left a)) ⟨1000+B.left a,a,-1,mV dn (c.nd.drop (c.nd.length - B.len a))⟩;simp only [gT] at this;rw [this,Option.bind_some];by_cases ah:c.p.Steps=S\/D<(c.nd.length:Int)+1 - B.len a
 ·rw [if_pos ah];simp only [cond_false,Option.bind_some];exact .al (.inl (show h2 B tk D S c { c.p with Kind:=3 } from .lim hm ah))
 ·rw [if_neg ah];simp only [cond_true,qJ];rw [Bo (by simp; omega),Option.bind_some,Option.bind_some];obtain ⟨aW,he⟩:=z_ bQ h hm ah;exact .al (.inr ⟨Gy B c a,rfl,aW,rfl,by rw [he]; omega,λP hr=>.go hm ah hr⟩)
theorem TR (bQ:p8 B V Q) (cU:za t B V) (h:ja Q tk D S c) (aq:c.pop=false) (h1:(B.act (fS c.st c.nd) (ij tk c.p.At)).Kind≠1) (af:(B.act (fS c.st c.nd) (ij tk c.p.At)).Kind≠2) (aD:(B.act (fS c.st c.nd) (ij tk c.p.At)).Kind≠3):Tot (AO (gT t tk D S c)) (u1 B t Q tk D S c):=by
 have ⟨_,_,_,_,_,_,_,_,_,_,_,_,_,_,_,_,_,_,_,_⟩:=h;unfold AO;refine Tot.bt (λaT=>.aA (Tu bQ h aq aT h1 af aD) λd aO=>.al aO) (λaT=>?_);have aT:c.hJ≠3:=aT;have hu:=h.up aT;have yA:=h.yA aT;have JR:h' B tk c=h' B tk (rQ c):=by
  have:h' B tk (rQ c)=lY B (rQ c):=by unfold h'; exact if_pos rfl
  rw [this];unfold h';rw [if_neg (by simp [aq]),if_neg h1,if_neg af,if_neg aD,if_neg aT]
 have XQ:∀ {P:eZ},h2 B tk D S (rQ c) P->h2 B tk D S c P:=λ{P} hr=>by
  cases hr with
  | fin h=>exact .fin (JR.trans h)
  | lim h ah=>exact .lim (JR.trans h) ah
  | go h ah hr=>exact .go (JR.trans h) ah hr
 refine Tot.eq (a:=(rQ c).p.eC) (Bo (by simp [gT]; omega)) (Tot.eq (Ip (t:=t) bQ cU hu 1) ?_);refine .aA (Ξ:=h0 (λx:dz × Int × Int=>∃ cg,x.1=gT t tk D S cg/\ja Q tk D S cg/\cg.pop=true/\c.p.Steps<=cg.p.Steps/\B.act (fS cg.st cg.nd) 1=⟨1,x.2.2⟩/\∀ P,h2 B tk D S cg P->h2 B tk D S c P) (λd:dz=>h2 B tk D S c d.bb)) ?_ λx J=>?_
 ·refine Tot.loop (λs=>∃ cg,s.1=gT t tk D S cg/\ja Q tk D S cg/\cg.pop=true/\c.p.Steps<=cg.p.Steps/\B.act (fS cg.st cg.nd) 1=⟨s.2.1,s.2.2⟩/\∀ P,h2 B tk D S cg P->h2 B tk D S c P) (λs=>s.1.fc.length) ⟨rQ c,rfl,hu,rfl,Int.le_refl _,rfl,λP=>XQ⟩ ?_ λs aw=>?_
  ·show c.nd.length<1000000000000000000;omega
  obtain ⟨s,YT,F6⟩:=s;obtain ⟨cg,rfl,aa,pJ,eS,w9,hr⟩:=aw;have ⟨_,_,_,_,_,_,_,_,_,_,_,_,_,_,_,_,_,_,_,_⟩:=aa;have fK:=bQ.len aa.q;have vz:h' B tk cg=lY B cg:=by unfold h'; exact if_pos pJ
  simp only at w9 ⊢;refine Tot.pA (λhk=>?_) (λhk=>.al ⟨cg,rfl,aa,pJ,eS,by rw [w9]; simp only [Act.mk.injEq,and_true]; exact hk,hr⟩);have ik:aG (((gT t tk D S cg).dt.length:Int) - 1)=(cg.nd.length:Int):=by
   show aG ((cg.st.length:Int) - 1)=_;rw [l5 (by omega) (by omega)]; omega
  rw [ik];refine Tot.bt (λaK=>.al ?_) (λaK=>?_)
  ·refine hr _ (.fin ?_);rw [vz]; unfold lY;rw [if_neg (by rw [w9]; exact hk),if_pos (by omega)]; rfl
  ·have hs:aG ((cg.nd.length:Int) - 1)=((cg.nd.length - 1:Nat):Int):=by rw [l5 (by omega) (by omega)]; omega
   have JP:h' B tk cg=.go cg.p ((cg.nd.length:Int) - 1) ⟨cg.st.take cg.nd.length,cg.nd.take (cg.nd.length - 1),cg.hJ,{ cg.p with Steps:=cg.p.Steps+1 },true⟩:=by
    rw [vz]; unfold lY;rw [if_neg (by rw [w9]; exact hk),if_neg (by omega)]
   have b9:((cg.nd.length - 1:Nat):Int)=(cg.nd.length:Int) - 1:=by omega
   rw [hs,Il aa,Option.bind_some];by_cases ah:cg.p.Steps=S\/D<(cg.nd.length:Int) - 1
   ·rw [if_pos (by rw [b9]; exact ah)];exact .al (hr _ (show h2 B tk D S cg { cg.p with Kind:=3 } from .lim JP ah))
   ·rw [if_neg (by rw [b9]; exact ah)];obtain ⟨aW,he⟩:=z_ bQ aa JP ah;have i1:lV cg.st (cg.nd.length:Int)=some ():=by simp [lV]; omega
    have i2:lV cg.nd ((cg.nd.length - 1:Nat):Int)=some ():=by simp [lV]
    have b3:=Ip (t:=t) bQ cU aW 1;simp only [gT] at b3;simp only [gT,Bool.not_true,cond_false,i1,i2,Option.bind_some,Int.toNat_natCast,b3];refine .al ⟨⟨_,rfl,aW,rfl,by rw [he]; omega,rfl,λP a8=>hr _ (.go JP ah a8)⟩,?_⟩;show (cg.nd.take (cg.nd.length - 1)).length<cg.nd.length;simp; omega
 ·rcases x with ⟨s,YT,F6⟩ | d
  ·obtain ⟨cg,rfl,aa,pJ,eS,w9,hr⟩:=J;have vz:h' B tk cg=.go cg.p ((cg.nd.length:Int)+1) (qJ cg 0 F6 (sw cg 1)):=by
    unfold h'; rw [if_pos pJ]; unfold lY;rw [if_pos (by rw [w9]),w9]
   have:=Iq (t:=t) bQ aa (Nat.zero_le _) F6 (sw cg 1);simp only [Int.natCast_zero,Int.sub_zero] at this;show Tot ((uG (gT t tk D S cg) 1).bind λdj=>(uF (gT t tk D S cg) F6 0 dj).bind λc3=>some c3.2) _;have Ir:uG (gT t tk D S cg) 1=some (sw cg 1):=rfl;rw [Ir,Option.bind_some,this,Option.bind_some];by_cases ah:cg.p.Steps=S\/D<(cg.nd.length:Int)+1
   ·rw [if_pos ah];exact .al (.inl (hr _ (show h2 B tk D S cg { cg.p with Kind:=3 } from .lim vz ah)))
   ·rw [if_neg ah];obtain ⟨aW,he⟩:=z_ bQ aa vz ah;exact .al (.inr ⟨_,rfl,aW,rfl,by rw [he]; omega,λP a8=>hr _ (.go vz ah a8)⟩)
  ·exact .al (.inl J)
theorem TL (bQ:p8 B V Q) (cU:za t B V) (h:ja Q tk D S c) (aq:c.pop=false):Tot (yf (gT t tk D S c)) (u1 B t Q tk D S c):=by
 have ⟨_,_,_,_,_,_,_,_,_,_,_,_,_,_,_,_,_,_,_,_⟩:=h;have fK:=bQ.len h.q;unfold yf;rw [Nk h,Option.bind_some,Ip bQ cU h,Option.bind_some];generalize aI:B.act (fS c.st c.nd) (ij tk c.p.At)=a;refine .aA (Ξ:=u1 B t Q tk D S c) (.aA (Ξ:=u1 B t Q tk D S c) ?_ λd aO=>.al aO) λd aO=>.al aO;refine Tot.bt (λh1=>?_) (λh1=>?_)
 ·have hm:h' B tk c=.go c.p ((c.nd.length:Int)+1) (D8 c a.N (ij tk c.p.At)):=by unfold h'; rw [if_neg (by simp [aq]),aI,if_pos h1]
  have Ir:uG (gT t tk D S c) (ij tk c.p.At)=some (sw c (ij tk c.p.At)):=rfl;rw [Option.bind_some,Ir,Option.bind_some];have:=Iq (t:=t) bQ h (Nat.zero_le _) a.N (sw c (ij tk c.p.At));simp only [Int.natCast_zero,Int.sub_zero] at this;rw [this,Option.bind_some];by_cases ah:c.p.Steps=S\/D<(c.nd.length:Int)+1
  ·rw [if_pos ah];simp only [cond_false,Option.bind_some];exact .al (.inl (show h2 B tk D S c { c.p with Kind:=3 } from .lim hm ah))
  ·rw [if_neg ah];simp only [cond_true,Option.bind_some];obtain ⟨aW,he⟩:=z_ bQ h hm ah;refine .al (.inr ⟨D8 c a.N (ij tk c.p.At),?_,aW,rfl,by rw [he]; omega,λP a8=>.go hm ah a8⟩);simp only [gT,D8,qJ];rw [l5 (n:=c.hJ - 1) (by omega) (by omega),l5 (n:=c.p.At+1) (by omega) (by omega)]
 ·refine .aA (Ξ:=u1 B t Q tk D S c) ?_ λd aO=>.al aO;refine Tot.bt (λaf=>?_) (λaf=>.aA (Ξ:=u1 B t Q tk D S c) (Tot.bt (λaD=>?_) (λaD=>?_)) λd aO=>.al aO)
  ·exact .aA (TQ bQ cU h aq (a:=a.N) (by rw [aI,<- af])) λd aO=>.al aO
  ·have aB:=bQ.ac (k:=ij tk c.p.At) h.q (by rw [aI]; exact aD);have ik:aG (((gT t tk D S c).fc.length:Int) - 1)=((c.nd.length - 1:Nat):Int):=by
    show aG ((c.nd.length:Int) - 1)=_;rw [l5 (by omega) (by omega)]; omega
   have aN:c.nd.length - 1<c.nd.length:=by omega
   have hi:idx c.nd ((c.nd.length - 1:Nat):Int)=some (c.nd.getD (c.nd.length - 1) default):=by
    simp [idx,List.getD_eq_getElem?_getD,aN]
   rw [ik];simp only [gT,hi,Option.bind_some];refine .al (.inl (.fin ?_));unfold h'; rw [if_neg (by simp [aq]),aI,if_neg h1,if_neg af,if_pos aD]
  ·exact .aA (TR bQ cU h aq (by rw [aI]; exact h1) (by rw [aI]; exact af) (by rw [aI]; exact aD)) λd aO=>.al aO
theorem YZ (bQ:p8 B V Q) (cU:za t B V) (h:ja Q tk D S c) (aq:c.pop=false):Tot (cf (R:=dz) (λ(eT:dz) =>
  (bif decide (eT.bb.Kind=0) then
  (yf eT).bind λed =>
  some (.inl ed)
  else
  some (.inr eT))) (gT t tk D S c)) λd=>h2 B tk D S c d.bb:=by
 refine Tot.loop (λd=>(d.bb.Kind≠0/\h2 B tk D S c d.bb)\/∃ cg,d=gT t tk D S cg/\ja Q tk D S cg/\cg.pop=false/\∀ P,h2 B tk D S cg P->h2 B tk D S c P) (λd=>if d.bb.Kind=0 then (S - d.bb.Steps).toNat+1 else 0) (.inr ⟨c,rfl,h,aq,λ_ h=>h⟩) ?_ λd aO=>?_
 ·have ⟨_,_,_,_,_,_,_,_,_,_,_,_,_,_,_,_,_,_,_,_⟩:=h;show (if c.p.Kind=0 then (S - c.p.Steps).toNat+1 else 0)<1000000000000000000
  split <;> omega
 ·rcases aO with ⟨aK,aO⟩ | ⟨cg,rfl,aa,pJ,hr⟩
  ·exact Tot.bt (λh=>absurd h aK) (λ_=>.al aO)
  ·refine Tot.bt (λaK=>.aA (TL bQ cU aa pJ) λd aO=>.al ?_) (λh=>absurd aa.k0 h);have ⟨_,_,_,_,_,_,_,_,_,_,_,_,_,_,_,_,_,_,_,_⟩:=aa;rcases aO with aO | ⟨c2,rfl,qq,W8,j4,hz⟩
   ·have hk:=aO.kind;refine ⟨.inl ⟨by omega,hr _ aO⟩,?_⟩;show (if d.bb.Kind=0 then _ else 0)<(if cg.p.Kind=0 then _ else 0);rw [if_neg (by omega),if_pos aa.k0]; omega
   ·have:=qq.LC;refine ⟨.inr ⟨c2,rfl,qq,W8,λP h=>hr _ (hz P h)⟩,?_⟩;show (if c2.p.Kind=0 then (S - c2.p.Steps).toNat+1 else 0)<(if cg.p.Kind=0 then (S - cg.p.Steps).toNat+1 else 0)
    rw [if_pos qq.k0,if_pos aa.k0]; omega
structure nh (g:bD) (m:List State) (cs:List Cell) (d:gP):Prop where
 dv:Ew g m cs
 AV:jW g m m.length 0
 q9:∀ c∈cs,tw g m c
 qh:EA g m cs d
 tk:u0 g
theorem NJ (g:bD):∀ (l:List Cell) (R:List Act) {k:Nat}{x:Act},(l.foldl (λrow c=>row.set c.b4.toNat (qc g c)) R)[k]?=some x->R[k]?=some x\/∃ c∈l,c.b4.toNat=k/\x=qc g c
 | [],R,k,x,h=>.inl h
 | c::l,R,k,x,h=>by
  rcases NJ g l _ h with aJ | ⟨cg,aa,h1⟩
  ·rw [List.getElem?_set] at aJ
   split at aJ
   ·rename_i e
    split at aJ
    ·cases aJ; exact .inr ⟨c,by simp,e,rfl⟩
    ·cases aJ
   ·exact .inl aJ
  ·exact .inr ⟨cg,by simp [aa],h1⟩
theorem YE {α β:Type}{f:α->β}{l:List α}{i:Int}{y:β}(h:idx (l.map f) i=some y):∃ x,idx l i=some x/\y=f x:=by
 unfold idx at h ⊢
 split at h
 ·rename_i aK;rw [List.getElem?_map] at h;obtain ⟨x,h1,af⟩:=Option.map_eq_some_iff.1 h;exact ⟨x,by rw [if_pos aK]; exact h1,af.symm⟩
 ·cases h
theorem YG {n:Nat}{i:Int}{k:Nat}(h:idx (List.range n) i=some k):i=(k:Int)/\k<n:=by
 obtain ⟨aK,h1,af⟩:=mi h;obtain ⟨aD,bm⟩:=List.getElem?_eq_some_iff.1 af;rw [List.getElem_range] at bm;simp only [List.length_range] at h1;omega
theorem nh.act {g:bD}{m:List State}{cs:List Cell}{d:gP}(eg:nh g m cs d) {q k:Int}{r:List Act}{x:Act}(a8:idx d.cz q=some r) (hk:idx r k=some x):(x.Kind=1->oi m q k x.N)/\(x.Kind=2->oh g m q x.N)/\(x.Kind=3->rU g m q ⟨0,1⟩):=by
 rw [eg.qh.a] at a8;obtain ⟨n,aB,rfl⟩:=YE a8;obtain ⟨rfl,aN⟩:=YG aB;obtain ⟨nx,_,fy⟩:=mi hk;unfold rowOf at fy;rcases NJ g _ _ fy with h | ⟨c,aa,aeT,rfl⟩
 ·have:=List.mem_of_getElem? h;rw [List.mem_replicate] at this;rw [this.2];exact ⟨λh=>by simp at h,λh=>by simp at h,λh=>by simp at h⟩
 ·obtain ⟨sa,eS⟩:=List.mem_filter.1 aa;have eS:c.State=(n:Int):=of_decide_eq_true eS;have aW:=eg.dv.ce.ok c sa;have J:=eg.q9 c sa;have ar:c.b4=k:=by have:=aW.t.1; omega
  subst ar;rw [<- eS];have CF:0<=c.kR->oi m c.State c.b4 c.kR:=λaK=>by
   rcases J.dO with ⟨e,_⟩ | ⟨st,v,h1,af,aD,bm⟩
   ·omega
   ·exact ⟨st,v,h1,af,aD,bm.symm⟩
  have Fl:c.nK=true->rU g m c.State ⟨0,1⟩:=λh=>by
   obtain ⟨st,h1,af⟩:=J.ac h;exact ⟨st,h1,.base af ((eg.dv.F5.pT st (List.mem_of_getElem? (mi h1).2.2)).i _ af)⟩
  have sk:=aW.Rq;unfold qc;unfold oe at sk;cases bQ:c.bx with
  | nil =>
   rw [bQ] at sk;simp only;split
   ·rename_i aI;exact ⟨λh=>by simp at h,λh=>by simp at h,λ_=>Fl aI⟩
   ·rename_i aI;refine ⟨λ_=>CF ?_,λh=>by simp at h,λh=>by simp at h⟩;rw [if_neg aI] at sk;simp only [List.length_nil] at sk
    split at sk
    ·assumption
    ·omega
  | cons p r =>
   have Og:oh g m c.State p:=J.T2 p (by rw [bQ]; simp);simp only;split
   ·rename_i aI;exact ⟨λh=>by simp at h,λh=>by simp at h,λ_=>Fl aI⟩
   ·split
    ·exact ⟨λh=>by simp at h,λ_=>Og,λh=>by simp at h⟩
    ·split
     ·exact ⟨λh=>by simp at h,λ_=>Og,λh=>by simp at h⟩
     ·split
      ·exact ⟨λh=>by simp at h,λh=>by simp at h,λh=>by simp at h⟩
      ·exact ⟨λ_=>CF (by omega),λh=>by simp at h,λh=>by simp at h⟩
def nO (d:gP) (q k:Int):Act:=match idx d.cz q with
 | none=>⟨0,0⟩
 | some r=>if ((idx r k).getD ⟨0,0⟩).Kind=0/\hp (red r)≠-1 then ⟨2,hp (red r)⟩ else (idx r k).getD ⟨0,0⟩
def IK (g:bD) (d:gP) (s a:Int):Int:=if 0<=a/\a<g.dC.length then D0 (f' d a.toNat) s else -1
def wu (g:bD) (d:gP):ou:=⟨nO d,IK g d,λp=>((idx g.bx p).map (·.Left)).getD 0,λp=>((idx g.bx p).map (·.dD.length)).getD 0⟩
variable {g:bD}{m:List State}{cs:List Cell}{d:gP}{t:Tables}
theorem nh.do (eg:nh g m cs d):yO g m.length d:=eg.qh.aU eg.dv
theorem U9 (eg:nh g m cs d) (bQ:wF g d t) (s k:Int):wb t s k=some (nO d s k):=by
 have jm:=eg.do
 rw [U8 bQ];unfold nO;cases aw:idx d.cz s with
 | none=>rfl
 | some r =>
  simp only;have hr:=jm.kU r (j6 aw).2.2;have ah:r.length<=1000:=by have:=jm.oC.k9; omega
  have Cs:=P7 jm.oC hr.1 hr.2;cases hk:idx r k with
  | some x =>
   obtain ⟨aK,h1,af⟩:=mi hk;have:=Z7 jm.oC jm.gJ.2 ah af (hr.2 x (List.mem_of_getElem? af));rw [show ((k.toNat:Nat):Int)=k by omega,SE (hr.2 x (List.mem_of_getElem? af)) (Cs.imp id λh=>h.1)] at this;rw [this]; rfl
  | none =>
   have o8:k<0\/(r.length:Int)<=k:=by
    unfold idx at hk
    split at hk
    ·have:=List.getElem?_eq_none_iff.1 hk;exact .inr (by omega)
    ·exact .inl (by omega)
   unfold DZ;rw [show kY (sB r).g_ k=(0,false) from Vz o8]
   simp only [Bool.false_eq_true,if_false,Option.getD_none,true_and];rcases Cs with e | ⟨aK,_⟩
   ·rw [e]; simp
   ·rw [if_neg (by omega),if_pos (by omega)]
theorem nh.ap (eg:nh g m cs d) (q k:Int):((nO d q k).Kind=1->oi m q k (nO d q k).N)/\((nO d q k).Kind=2->oh g m q (nO d q k).N/\oX g (nO d q k).N)/\((nO d q k).Kind=3->rU g m q ⟨0,1⟩):=by
 have jm:=eg.do
 unfold nO;cases aw:idx d.cz q with
 | none=>exact ⟨λh=>by simp at h,λh=>by simp at h,λh=>by simp at h⟩
 | some r =>
  have hr:=jm.kU r (j6 aw).2.2;simp only;split
  ·rename_i aa;refine ⟨λh=>by simp at h,λ_=>?_,λh=>by simp at h⟩;rcases P7 jm.oC hr.1 hr.2 with e | ⟨_,a,aI,hk,e⟩
   ·exact absurd e aa.2
   ·obtain ⟨i,hi⟩:=List.getElem?_of_mem aI;have h1:=(eg.act aw (Pc hi)).2.1 hk;have af:=(hr.2 a aI).n_ hk;rw [e] at h1 af; exact ⟨h1,af⟩
  ·cases hk:idx r k with
   | none=>exact ⟨λh=>by simp at h,λh=>by simp at h,λh=>by simp at h⟩
   | some x =>
    have:=eg.act aw hk;exact ⟨this.1,λh=>⟨this.2.1 h,(hr.2 x (j6 hk).2.2).n_ h⟩,this.2.2⟩
theorem nh.VC (eg:nh g m cs d) {s a cy:Int}(h:oi m s (1000+a) cy) (aK:0<=a):IK g d s a=cy/\a<g.dC.length:=by
 have jm:=eg.do
 have hm:=eg.dv.F5;obtain ⟨st,v,h1,af,aD,bm⟩:=h;have bU:=(j6 h1).2.2;obtain ⟨_,_,au⟩:=hm.sym eg.dv.oC bU af;have aI:a<g.dC.length:=by have:=au (by omega); omega
 refine ⟨?_,aI⟩;obtain ⟨n,rfl,aB⟩:=FN h1;have JU:=(List.getElem?_eq_some_iff.1 aB).1;obtain ⟨k,rfl⟩:∃ k:Nat,a=(k:Int):=⟨a.toNat,by omega⟩;have hk:k<g.dC.length:=by omega
 have Cj:go m n (1000+(k:Int))=cy:=by
  rcases (go_eq hm n (1000+(k:Int))).2 with ⟨_,h⟩ | ⟨uR,dH,g1,g2,g3,g4⟩
  ·exact absurd aD (h st h1 v af)
  ·rw [g4];rw [h1] at g1; cases g1;have eA:=hm.nd st bU;have:v=dH:=by
    obtain ⟨i,hi,b9⟩:=List.mem_iff_getElem.1 af;obtain ⟨j,ag,b3⟩:=List.mem_iff_getElem.1 g2;have e:i=j:=by
     have aq:=List.pairwise_iff_getElem.1 eA;rcases Nat.lt_trichotomy i j with h | h | h
     ·exact (aq i j (by simpa using hi) (by simpa using ag) h (by simp [b9,b3,aD,g3])).elim
     ·exact h
     ·exact (aq j i (by simpa using ag) (by simpa using hi) h (by simp [b9,b3,aD,g3])).elim
    subst e;exact b9.symm.trans b3
   rw [<- this]; exact bm
 have W7:(f' d k)[n]?=some cy:=by
  unfold f';rw [List.getElem?_map,eg.qh.o,List.getElem?_map,List.getElem?_range JU];simp only [Option.map_some];unfold vi;rw [List.getD_eq_getElem?_getD,List.getElem?_map,List.getElem?_range hk];simp [Cj]
 have XV:0<=cy:=by rw [<- bm]; exact (hm.aS st bU v af).t0
 unfold IK;rw [if_pos ⟨by omega,aI⟩,Int.toNat_natCast,Z8 (by have:=BD d k; have:=jm.o; have:=jm.gJ; omega) W7];unfold pb;by_cases e:cy=hp (pos (f' d k))
 ·simp [<- e]
 ·simp [e,XV]
theorem oi.st {q x s:Int}(eg:nh g m cs d) (h:oi m q x s):0<=s/\s<m.length:=by
 obtain ⟨st,v,h1,af,aD,bm⟩:=h;have:=eg.dv.F5.aS st (j6 h1).2.2 v af;rw [<- bm]; exact ⟨this.t0,this.t1⟩
def u3 (m:List State) (st:List Int) (nd:List Node):Prop:=mC m st (nd.map (·.Sym))
theorem nh.path (eg:nh g m cs d):p8 (wu g d) (λq=>0<=q/\q<m.length) (u3 m):=by
 have aP:=eg.dv.oC;have hm:=eg.dv.F5;have top:∀ {st:List Int}{nd:List Node},u3 m st nd->st[nd.length]?=some (fS st nd):=λ{st nd} h=>by
  have ah:=h.len;rw [List.length_map] at ah;have:nd.length<st.length:=by omega
  simp [fS,List.getD_eq_getElem?_getD,this]
 have red:∀ {st:List Int}{nd:List Node}{k p:Int},u3 m st nd->nO d (fS st nd) k=⟨2,p⟩->∃ r cy,idx g.bx p=some r/\r.dD.length<=nd.length/\st[nd.length - r.dD.length]?=some (st.getD (nd.length - r.dD.length) 0)/\oi m (st.getD (nd.length - r.dD.length) 0) (1000+r.Left) cy:=λ{st nd k p} h aI=>by
  obtain ⟨⟨S,bh,r,hr,aa⟩,sh⟩:oh g m (fS st nd) p/\oX g p:=by have:=(eg.ap (fS st nd) k).2.1; rw [aI] at this; exact this rfl
  have au:=h.back eg.AV r.dD.length (top h) ⟨S,bh,aa⟩;obtain ⟨b,h1,af,_⟩:=au.2 r.dD.length (Nat.le_refl _);rw [Int.sub_self] at af;have he:st.getD (nd.length - r.dD.length) 0=b:=by rw [List.getD_eq_getElem?_getD,h1]; rfl
  have fL:p≠0:=by have:=sh.1; omega
  obtain ⟨cy,XU⟩:=af.VB aP eg.AV (h.from h1) fL hr;exact ⟨r,cy,hr,au.1,by rw [he]; exact h1,by rw [he]; exact XU⟩
 refine ⟨λ{st nd} h=>by have:=h.len; rwa [List.length_map] at this,λ{st nd} h q a8=>?_,λ{st nd k x} h hk J=>?_,λ{st nd k} h hk=>?_,λ{st nd k p x} h aI J=>?_,λ{st nd} h aK=>?_,λ{st nd k} h hk=>?_⟩
 ·obtain ⟨i,hi⟩:=List.getElem?_of_mem a8;rcases h.from hi with rfl | ⟨b,x,he⟩
  ·have:=hm.gJ; omega
  ·exact he.st eg
 ·have:=(eg.ap (fS st nd) k).1 hk;have:=mC.push h (by rw [List.length_map]; exact top h) this;unfold u3;rw [List.map_append,List.map_singleton,J];exact this
 ·obtain ⟨r,cy,hr,hle,_⟩:=red (k:=k) (p:=(nO d (fS st nd) k).N) h (by show nO d (fS st nd) k=_; rw [<- show (nO d (fS st nd) k).Kind=2 from hk])
  show ((idx g.bx (nO d (fS st nd) k).N).map (·.dD.length)).getD 0<=_;rw [hr]; exact hle
 ·obtain ⟨r,cy,hr,hle,bU,he⟩:=red (k:=k) (p:=p) h aI;have hlen:(wu g d).len p=r.dD.length:=by show ((idx g.bx p).map (·.dD.length)).getD 0=_; rw [hr]; rfl
  have OD:(wu g d).left p=r.Left:=by show ((idx g.bx p).map (·.Left)).getD 0=_; rw [hr]; rfl
  have ug:0<=r.Left:=(aP.gx r (j6 hr).2.2).left.1;rw [hlen,OD];rw [OD] at J;have Cj:(wu g d).go (st.getD (nd.length - r.dD.length) 0) r.Left=cy:=(eg.VC he ug).1;rw [Cj];have ar:=mC.take h (n:=nd.length - r.dD.length) (by rw [List.length_map]; omega);have CT:((nd.map (·.Sym)).take (nd.length - r.dD.length)).length=nd.length - r.dD.length:=by simp
  have:=mC.push ar (a:=st.getD (nd.length - r.dD.length) 0) (x:=1000+r.Left) (b:=cy) (by rw [CT,List.getElem?_take,if_pos (by omega)]; exact bU) he;unfold u3;rw [List.map_append,List.map_singleton,J,List.map_take];rw [show nd.length+1 - r.dD.length=nd.length - r.dD.length+1 by omega];exact this
 ·have:=mC.take h (n:=nd.length - 1) (by rw [List.length_map]; omega);unfold u3;rw [List.map_take];rw [show nd.length - 1+1=nd.length by omega] at this;exact this
 ·have:=(h.back eg.AV 1 (top h) ((eg.ap (fS st nd) k).2.2 hk)).1;omega
def Mq (T:List b4) (n v:Int):Prop:=(n<=0/\v=0)\/(0<n/\((∃ (k:Nat) (t:b4),T[k]?=some t/\t.cc=n/\v=(k:Int))\/((∀ (k:Nat) (t:b4),T[k]?=some t->t.cc≠n)/\v=2)))
theorem half {x:Int}(aK:0<=x) (h1:x<=1000000):aG (yu .u64 (IntKind.u64.wrap (aG x)) 1)=x / 2:=by
 have b9:aG x=x:=by rw [cB]; omega
 have b3:IntKind.u64.wrap x=x:=by rw [IntKind.wrap_u64]; omega
 rw [b9,b3];have eP:yu .u64 x 1=x / 2:=by
  show x.fdiv (2 ^ 1)=x / 2;rw [Int.fdiv_eq_ediv_of_nonneg _ (by decide)];rfl
 rw [eP,cB]; omega
theorem TP (l:List cG) (n:Int) (aI:e_ sx l) (ah:l.length<=1000):Tot (DM l n) λr=>(r.2=true->∃ p,idx l r.1=some p/\p∈l/\p.At=n)/\(r.2=false->∀ p∈l,p.At≠n):=by
 have HJ:∀ {i j:Nat}(hi:i<l.length) (ag:j<l.length),i<=j->l[i].At<=l[j].At:=λ{i j} hi ag h=>by
  by_cases e:i=j
  ·subst e; omega
  ·have:=F3.1 (List.pairwise_iff_getElem.1 aI i j hi ag (by omega));omega
 unfold DM;refine .aA (Ξ:=λr:Int=>∃ k:Nat,r=(k:Int)/\k<=l.length/\(∀ (i:Nat) (h:i<l.length),i<k->l[i].At<n)/\∀ (i:Nat) (h:i<l.length),k<=i->n<=l[i].At) ?_ λr hr=>?_
 ·refine Tot.count (λs=>s.1 - s.2) 1 (λs=>∃ lo hi:Nat,s=((lo:Int),(hi:Int))/\lo<=hi/\hi<=l.length/\(∀ (i:Nat) (h:i<l.length),i<lo->l[i].At<n)/\∀ (i:Nat) (h:i<l.length),hi<=i->n<=l[i].At) ⟨0,l.length,rfl,Nat.zero_le _,Nat.le_refl _,λi h aJ=>by omega,λi h aJ=>by omega⟩ (by show 1 - (0 - (l.length:Int))<_; omega) λs aw=>?_;obtain ⟨lo,hi,rfl,h1,af,aD,bm⟩:=aw;simp only;refine Tot.bt (λaN=>?_) (λdF=>.al ⟨lo,rfl,by omega,aD,λi h aJ=>bm i h (by omega)⟩);rw [half (by omega) (by omega)];have hm:∃ m:Nat,((lo:Int)+(hi:Int)) / 2=(m:Int)/\lo<=m/\m<hi:=⟨(lo+hi) / 2,by omega,by omega,by omega⟩;obtain ⟨m,hm,vy,JN⟩:=hm;rw [hm,et m (by omega),dN (by omega:m<l.length)];obtain ⟨v,hv,qv,s9⟩:=HY (l[m]'(by omega)).At n;simp only [Option.bind_some,AL,hv];refine .aA (Ξ:=λj:Int × Int=>(∃ xS qs:Nat,j=((xS:Int),(qs:Int))/\xS<=qs/\qs<=l.length/\(∀ (i:Nat) (h:i<l.length),i<xS->l[i].At<n)/\∀ (i:Nat) (h:i<l.length),qs<=i->n<=l[i].At)/\(lo:Int) - (hi:Int)<j.1 - j.2/\j.1 - j.2<=1) ?_ λj ag=>.al ag;refine .aA (Ξ:=λj:Int × Int=>(∃ xS qs:Nat,j=((xS:Int),(qs:Int))/\xS<=qs/\qs<=l.length/\(∀ (i:Nat) (h:i<l.length),i<xS->l[i].At<n)/\∀ (i:Nat) (h:i<l.length),qs<=i->n<=l[i].At)/\(lo:Int) - (hi:Int)<j.1 - j.2/\j.1 - j.2<=1) ?_ λj ag=>.al ag;refine Tot.bt (λCs=>.al ⟨⟨m+1,hi,rfl,by omega,af,λi h aJ=>?_,bm⟩,by show (lo:Int) - hi<((m+1:Nat):Int) - hi; omega,by show ((m+1:Nat):Int) - hi<=1; omega⟩) (λpO=>.al ⟨⟨lo,m,rfl,vy,by omega,aD,λi h aJ=>?_⟩,by show (lo:Int) - hi<lo - m; omega,by show (lo:Int) - m<=1; omega⟩)
  ·have:=HJ h (by omega:m<l.length) (by omega);have:=qv.1 Cs;omega
  ·have:=HJ (by omega:m<l.length) h aJ;have:¬ (l[m]'(by omega)).At<n:=λh=>pO (qv.2 h);omega
 ·obtain ⟨k,rfl,hk,h1,af⟩:=hr;refine .aA (Ξ:=λc:Int × Bool=>(c.2=true->∃ p,idx l c.1=some p/\p∈l/\p.At=n)/\(c.2=false->∀ p∈l,p.At≠n)) ?_ λc aa=>.al aa;refine Tot.bt (λaN=>?_) (λdF=>.al ⟨λh=>(by cases h),λ_ p aq=>?_⟩)
  ·have aN:k<l.length:=by omega
   rw [dN aN];obtain ⟨v,hv,qv,s9⟩:=HY l[k].At n;simp only [Option.bind_some,AL,hv];refine .al ⟨λh=>⟨_,dN aN,List.getElem_mem aN,s9.1 (of_decide_eq_true h)⟩,λh p aq=>?_⟩;obtain ⟨i,hi,rfl⟩:=List.mem_iff_getElem.1 aq;have cO:l[k].At≠n:=λe=>of_decide_eq_false h (s9.2 e);by_cases vx:i<k
   ·have:=h1 i hi vx; omega
   ·have av:=HJ aN hi (by omega);have a2:=af k aN (Nat.le_refl _);omega
  ·obtain ⟨i,hi,rfl⟩:=List.mem_iff_getElem.1 aq;have:=h1 i hi (by omega);omega
theorem tM (g:bD) (aP:u0 g) (l:List cG) (n:Int) (aI:e_ sx l) (ah:l.length<=1000) (hm:∀ p,p∈l↔tC g.br p):Tot (v8 l n) (Mq g.br n):=by
 unfold v8;refine Tot.bt (λh=>.al (.inl ⟨h,rfl⟩)) (λh=>?_);refine .aA (TP l n aI ah) λr hr=>Tot.bM (λaT=>.al (.inr ⟨by omega,.inr ⟨λk t ar e=>?_,rfl⟩⟩)) (λar=>?_)
 ·exact hr.2 (by simpa using aT) ⟨t.cc,(k:Int)⟩ ((hm _).2 ⟨k,t,ar,by omega,rfl⟩) e
 ·obtain ⟨p,aq,JY,e⟩:=hr.1 (by simpa using ar);rw [aq];obtain ⟨k,t,h1,af,rfl⟩:=(hm p).1 JY;exact .al (.inr ⟨by omega,.inl ⟨k,t,h1,e,rfl⟩⟩)
variable {g:bD}{m:List State}{cs:List Cell}{d:gP}{t:Tables}
theorem nh.hP (eg:nh g m cs d) (bQ:wF g d t):za t (wu g d) (λq=>0<=q/\q<m.length):=by
 refine ⟨λ{q} k _=>U9 eg bQ q k,λ{q k p s} _ _ _=>?_,λ{q k p} _ aI=>?_⟩
 ·rw [UX bQ]; rfl
 ·obtain ⟨⟨_,_,r,hr,_⟩,_⟩:oh g m q p/\oX g p:=by have:=(eg.ap q k).2.1; rw [show nO d q k=⟨2,p⟩ from aI] at this; exact this rfl
  obtain ⟨aK,h1,af⟩:=mi hr;have ah:=(eg.dv.oC.gx r (j6 hr).2.2).left;have aB:=eg.dv.oC.eW;have b9:(wu g d).len p=r.dD.length:=by show ((idx g.bx p).map (·.dD.length)).getD 0=_; rw [hr]; rfl
  have b3:(wu g d).left p=r.Left:=by show ((idx g.bx p).map (·.Left)).getD 0=_; rw [hr]; rfl
  rw [b9,b3,bQ.jN,bQ.le];unfold idx;rw [if_pos aK,if_pos aK,List.getElem?_map,List.getElem?_map,af];exact ⟨rfl,rfl,ah.1,by omega⟩
theorem k_ (s:Source) (au:u4 s):Tot (AH s) λr=>r.2.2.2=true->Ew r.1 r.2.1 r.2.2.1/\jW r.1 r.2.1 r.2.1.length 0/\(∀ c∈r.2.2.1,tw r.1 r.2.1 c)/\u0 r.1:=by
 have z93:Par (yk s) λr=>r.2=true->u0 r.1:=by
  unfold yk;exact λr hr h=>by
   obtain ⟨x,h1,af⟩:=Option.bind_eq_some_iff.1 hr;cases af;have h:x.2.1=0:=of_decide_eq_true h;exact Zu s au x h1 h
 unfold AH Gp;refine .aA (Ξ:=λr=>r.2.2=true->fZ r.1/\u0 r.1/\ng r.1 r.2.1/\jW r.1 r.2.1 r.2.1.length 0) ?_ λr hr=>Tot.bM (λ_=>.al λh=>by cases h) (λh=>?_)
 ·refine .aA (Par.ju (t93 s au) z93) λr hr=>Tot.bM (λ_=>.al λh=>by cases h) (λh=>?_);have h:r.2=true:=by simpa using h
  refine .aA (ZD r.1 (hr.1 h)) λx J=>.al λaf=>⟨hr.1 h,hr.2 h,?_⟩;have af:x.2=0:=of_decide_eq_true af;rcases J with J | J
  ·exact J.2
  ·omega
 ·obtain ⟨aP,hk,hm,hw⟩:=hr (by simpa using h);exact .aA (ZC r.1 aP hm) λry OF=>.aA (ZB r.1 aP hm ry OF.1 OF.2) λcs eS=>.al λ_=>⟨⟨aP,hm,eS.1⟩,hw,eS.2,hk⟩
theorem a1 (s:Source) (au:u4 s):Tot (x4 s) λr=>r.2.2.2=true->∃ m cs,nh r.1 m cs r.2.1:=by
 unfold x4;refine .aA (k_ s au) λr hr=>Tot.bM (λ_=>.al λh=>by cases h) (λh=>?_);obtain ⟨dI,hw,aa,hk⟩:=hr (by simpa using h);exact .aA (tN r.1 r.2.1 r.2.2.1 dI) λx J=>.aA (TK dI.oC dI.ce) λn _=>.al λ_=>⟨_,_,dI,hw,aa,J.1,hk⟩
def Ef (t:Tables) (n:Int):Int:=(v8 t.je n).getD 0
def rO (t:Tables) (l:List Int):List Int:=(l.takeWhile λn=>decide (0<n)).map (Ef t)
theorem U1 (eg:nh g m cs d) (bQ:wF g d t) (n:Int):v8 t.je n=some (Ef t n)/\Mq g.br n (Ef t n):=by
 obtain ⟨h1,af,aD⟩:=bQ.Zd;obtain ⟨v,hv,hi⟩:=tM g eg.tk t.je n h1 af aD;unfold Ef;rw [hv]; exact ⟨rfl,hi⟩
def start:gZ:=⟨[0],[],0,⟨0,0,0,0,[],[],[],⟨0,0,0,GI⟩⟩,false⟩
theorem ja.start {Q:List Int->List Node->Prop}(a8:Q [0] []) {tk:List Int}(ar:tk.length<=1000000000000) {D S:Int}(jm:0<=D/\D<=100000) (bh:0<=S/\S<=1000000):ja Q tk D S start:=by
 refine ⟨a8,?_,jm.2,bh.2,ar,rfl,?_,?_,?_,?_,?_,?_,?_,?_,?_,λ_=>?_,λx J=>(by cases J),λh=>(by cases h),?_,?_⟩
 all_goals simp only [Go.Proofs.start,List.length_nil]
 all_goals omega
theorem Rn {α:Type}(p:α->Bool):∀ (l:List α) {k:Nat}(hk:k<l.length),(∀ i (hi:i<k),p (l[i]'(by omega))=true)->p l[k]=false->l.takeWhile p=l.take k
 | [],k,hk,_,_=>by simp at hk
 | a::l,0,hk,_,h=>by
  have h:p a=false:=h;simp [h]
 | a::l,k+1,hk,h1,af=>by
  have aI:p a=true:=h1 0 (by omega);rw [List.takeWhile_cons,if_pos aI,List.take_succ_cons,Rn p l (k:=k) (by simpa using hk) (λi hi=>h1 (i+1) (by omega)) af]
theorem abb {α:Type}(p:α->Bool) {l:List α}(h:∀ x∈l,p x=true):l.takeWhile p=l:=by
 induction l with
 | nil=>rfl
 | cons a l aM=>rw [List.takeWhile_cons,if_pos (h a (by simp)),aM λx J=>h x (by simp [J])]
theorem M3 (eg:nh g m cs d) (bQ:wF g d t) (l:List Int) (ah:l.length<=1000000) (D S:Int):Tot (ti t l D S) λP=>h2 (wu g d) (rO t l) (min (max D 0) 100000) (min (max S 0) 1000000) start P:=by
 unfold ti;refine .aA (Ξ:=λr=>r=rO t l) (.aA (Ξ:=λr=>r=rO t l) ?_ λr hr=>.al hr) λr hr=>?_
 ·refine Tot.upto (λs=>s.2) l.length (λk s=>s.1=(l.take k).map (Ef t)/\∀ i (hi:i<k) (ah:i<l.length),0<l[i]) rfl (by omega) ⟨rfl,λi hi=>by omega⟩ λk s hk he bf=>?_;obtain ⟨A,i⟩:=s;obtain ⟨h1,af⟩:=bf;simp only at he h1 af ⊢;subst he h1;rw [et k (by omega)];refine Tot.bt (λaN=>?_) (λdF=>.al ?_)
  ·have aN:k<l.length:=by omega
   rw [dN aN];refine Tot.aV (Tot.bt (λaK=>.al ?_) (λaK=>?_))
   ·unfold rO;rw [Rn _ l aN (λi hi=>decide_eq_true (af i hi (by omega))) (decide_eq_false (by omega))];exact rfl
   ·rw [(U1 eg bQ _).1];refine Tot.aV (.bK<|.al ⟨aN,rfl,?_,λi hi hL=>?_⟩)
    ·show _=(l.take (k+1)).map _;rw [l2 aN,List.map_append]; rfl
    ·by_cases e:i=k
     ·subst e; omega
     ·exact af i (by omega) hL
  ·unfold rO;have e:l.take k=l:=List.take_of_length_le (by omega);have J:∀ x∈l,decide (0<x)=true:=λx J=>by
    obtain ⟨i,hi,rfl⟩:=List.mem_iff_getElem.1 J;exact decide_eq_true (af i (by omega) hi)
   rw [e,abb _ J];exact rfl
 ·subst hr;have ar:(rO t l).length<=1000000000000:=by
   have:=(List.takeWhile_sublist (λn:Int=>decide (0<n)) (l:=l)).length_le;unfold rO;rw [List.length_map]; omega
  have a8:u3 m [0] []:=mC.start;exact .aA (YZ eg.path (eg.hP bQ) (ja.start (D:=min (max D 0) 100000) (S:=min (max S 0) 1000000) a8 ar (by omega) (by omega)) rfl) λx J=>.al J
structure yQ (a b:eZ):Prop where
 s:a.Steps<=b.Steps
 d:a.Deep<=b.Deep
 p:a.bx <+: b.bx
 u:a.eC <+: b.eC
 l:a.fp <+: b.fp
theorem yQ.refl (a:eZ):yQ a a:=⟨Int.le_refl _,Int.le_refl _,List.prefix_refl _,List.prefix_refl _,List.prefix_refl _⟩
structure yG (c:gZ) (p:eZ):Prop where
 e:yQ c.p p
 s:p.Steps=c.p.Steps
 d:p.Deep=c.p.Deep
 a:p.At=c.p.At
 t:p.Tree=c.p.Tree
 q:p.bx=c.p.bx
 l:p.fp=c.p.fp
 u:p.eC.length<=c.p.eC.length+1/\(c.hJ=3->p.eC=c.p.eC)
variable {B:ou}{V:Int->Prop}{Q:List Int->List Node->Prop}{tk:List Int}{D S:Int}{c:gZ}
theorem yG.refl:yG c c.p:=⟨.refl _,rfl,rfl,rfl,rfl,rfl,rfl,by omega,λ_=>rfl⟩
theorem yG.up (aT:c.hJ≠3):yG c (rQ c).p:=⟨⟨Int.le_refl _,Int.le_refl _,List.prefix_refl _,⟨_,rfl⟩,List.prefix_refl _⟩,rfl,rfl,rfl,rfl,rfl,rfl,by simp [rQ],λh=>absurd h aT⟩
structure L7 (c:gZ) (p:eZ) (n:Int) (r:gZ):Prop where
 e:yQ p r.p
 s:r.p.Steps=p.Steps+1
 t:r.p.Tree=p.Tree
 n:(c.nd.length:Int)<=c.p.Deep->n<=r.p.Deep
 o:c.nd.length=0->c.hJ≠3->1<=r.p.Deep
theorem Qq {c0:gZ}(aO:c0.p.Deep=c.p.Deep) (aB:c0.nd=c.nd) {p:eZ}{n:Int}{r:gZ}(e:lY B c0=.go p n r):p=c0.p/\L7 c p n r:=by
 unfold lY at e
 split at e
 ·cases e;refine ⟨rfl,⟨by show c0.p.Steps<=c0.p.Steps+1; omega,by show c0.p.Deep<=max _ _; omega,List.prefix_refl _,List.prefix_refl _,List.prefix_refl _⟩,rfl,rfl,λ_=>?_,λ_ _=>?_⟩
  ·show _<=max c0.p.Deep ((c0.nd.length:Int)+1 - (0:Nat)); omega
  ·show 1<=max c0.p.Deep ((c0.nd.length:Int)+1 - (0:Nat)); omega
 ·split at e
  ·cases e
  ·rename_i aK;cases e;refine ⟨rfl,⟨by show c0.p.Steps<=c0.p.Steps+1; omega,Int.le_refl _,List.prefix_refl _,List.prefix_refl _,List.prefix_refl _⟩,rfl,rfl,λh=>?_,λh=>?_⟩
   ·show _<=c0.p.Deep; rw [aO,aB]; omega
   ·rw [aB] at aK; exact absurd h aK
theorem Iy {a b:eZ}(h1:a.Steps=b.Steps) (af:a.Deep=b.Deep) (aD:a.bx=b.bx) (bm:a.eC=b.eC) (b7:a.fp=b.fp):yQ a b:=⟨by omega,by omega,aD ▸ List.prefix_refl _,bm ▸ List.prefix_refl _,b7 ▸ List.prefix_refl _⟩
theorem PL {p:eZ}{n:Int}{r:gZ}(aD:c.pop=true->c.hJ=3) (e:h' B tk c=.go p n r) (ah:∀ k,(B.act (fS c.st c.nd) k).Kind=2->B.len (B.act (fS c.st c.nd) k).N<=c.nd.length):yG c p/\L7 c p n r:=by
 unfold h' at e
 split at e
 ·obtain ⟨rfl,h⟩:=Qq (c:=c) rfl rfl e;exact ⟨.refl,h⟩
 ·split at e
  ·cases e;refine ⟨.refl,⟨by show c.p.Steps<=c.p.Steps+1; omega,by show c.p.Deep<=max _ _; omega,List.prefix_refl _,List.prefix_refl _,List.prefix_refl _⟩,rfl,rfl,λ_=>?_,λ_ _=>?_⟩
   ·show _<=max c.p.Deep ((c.nd.length:Int)+1 - (0:Nat)); omega
   ·show 1<=max c.p.Deep ((c.nd.length:Int)+1 - (0:Nat)); omega
  ·split at e
   ·rename_i hk;have:=ah _ hk;cases e;refine ⟨.refl,⟨by show c.p.Steps<=c.p.Steps+1; omega,by show c.p.Deep<=max _ _; omega,⟨_,rfl⟩,List.prefix_refl _,List.prefix_refl _⟩,rfl,rfl,λ_=>?_,λh _=>?_⟩
    ·show _<=max c.p.Deep ((c.nd.length:Int)+1 - (B.len _:Nat)); omega
    ·show 1<=max c.p.Deep ((c.nd.length:Int)+1 - (B.len _:Nat)); omega
   ·split at e
    ·cases e
    ·split at e
     ·rename_i aT
      split at e
      ·cases e
      ·cases e;exact ⟨.refl,⟨by show c.p.Steps<=c.p.Steps+1; omega,Int.le_refl _,List.prefix_refl _,List.prefix_refl _,⟨_,rfl⟩⟩,rfl,rfl,λh=>h,λ_ h=>absurd aT h⟩
     ·rename_i aT;obtain ⟨rfl,h⟩:=Qq (c0:=rQ c) (c:=c) rfl rfl e;exact ⟨.up aT,h⟩
theorem Y3 {p:eZ}(e:h' B tk c=.fin p):yQ c.p p/\p.Steps=c.p.Steps/\p.Deep=c.p.Deep/\p.At=c.p.At/\p.bx=c.p.bx/\p.fp=c.p.fp/\(p.eC.length<=c.p.eC.length+1/\(c.hJ=3->p.eC=c.p.eC))/\(p.Tree=c.p.Tree\/(p.Tree=c.nd.getD (c.nd.length - 1) default/\∃ k,(B.act (fS c.st c.nd) k).Kind=3)):=by
 have Qn:∀ {c0:gZ}{p:eZ},lY B c0=.fin p->p={ c0.p with Kind:=2 }:=λ{c0 p} e=>by
  unfold lY at e
  split at e
  ·cases e
  ·split at e
   ·cases e; rfl
   ·cases e
 unfold h' at e
 split at e
 ·rw [Qn e]; exact ⟨Iy rfl rfl rfl rfl rfl,rfl,rfl,rfl,rfl,rfl,⟨by simp,λ_=>rfl⟩,.inl rfl⟩
 ·split at e
  ·cases e
  ·split at e
   ·cases e
   ·split at e
    ·rename_i hk;cases e; exact ⟨Iy rfl rfl rfl rfl rfl,rfl,rfl,rfl,rfl,rfl,⟨by simp,λ_=>rfl⟩,.inr ⟨rfl,_,hk⟩⟩
    ·split at e
     ·split at e
      ·cases e; exact ⟨Iy rfl rfl rfl rfl rfl,rfl,rfl,rfl,rfl,rfl,⟨by simp,λ_=>rfl⟩,.inl rfl⟩
      ·cases e
     ·rename_i aT;have a:=yG.up aT;rw [Qn e]; exact ⟨⟨a.e.s,a.e.d,a.e.p,a.e.u,a.e.l⟩,rfl,rfl,rfl,rfl,rfl,a.u,.inl rfl⟩
structure Mj (tk:List Int) (D S:Int) (P:eZ):Prop where
 e9:0<=P.Steps
 s:P.Steps<=S
 d0:0<=P.Deep
 d:P.Deep<=D
 p:P.bx.length<=1000000
 l:P.fp.length<=1000000
 u:P.eC.length<=1000001
 t:px 1000001 P.Tree
theorem h2.Gj (bQ:p8 B V Q) {P:eZ}(h:h2 B tk D S c P):ja Q tk D S c->px 1000001 c.p.Tree->Mj tk D S P:=by
 induction h with
 | @fin c p h =>
  intro aa ar;obtain ⟨_,b9,b3,eP,lj,tR,⟨U5,Io⟩,Is⟩:=Y3 h;have ⟨_,_,_,_,_,_,_,_,_,_,_,_,_,_,_,_,_,_,_,_⟩:=aa;refine ⟨by omega,by omega,by omega,by omega,by rw [lj]; omega,by rw [tR]; omega,?_,?_⟩
  ·by_cases aT:c.hJ=3
   ·rw [Io aT]; omega
   ·have:=aa.yA aT; omega
  ·rcases Is with e | ⟨e,k,hk⟩
   ·rw [e]; exact ar
   ·rw [e];have:=bQ.ac aa.q hk;have aN:c.nd.length - 1<c.nd.length:=by omega
    rw [List.getD_eq_getElem?_getD,List.getElem?_eq_getElem aN];exact (aa.c5 _ (List.getElem_mem aN)).up (by omega)
 | @lim c r p n h ah =>
  intro aa ar;obtain ⟨h1,_⟩:=PL aa.Am h λk hk=>bQ.wj aa.q hk;have ⟨_,b9,b3,eP,Is,lj,tR,U5,Io⟩:=h1;have ⟨_,_,_,_,_,_,_,_,_,_,_,_,_,_,_,_,_,_,_,_⟩:=aa;refine ⟨by simp only; omega,by simp only; omega,by simp only; omega,by simp only; omega,by simp only; rw [lj]; omega,by simp only; rw [tR]; omega,?_,by simp only; rw [Is]; exact ar⟩;simp only;by_cases aT:c.hJ=3
  ·rw [Io aT]; omega
  ·have:=aa.yA aT; omega
 | go h ah _ aM =>
  intro aa ar;obtain ⟨h1,af⟩:=PL aa.Am h λk hk=>bQ.wj aa.q hk;exact aM (z_ bQ aa h ah).1 (by rw [af.t,h1.t]; exact ar)
theorem h2.UT {P Hu:eZ}(h:h2 B tk D S c P):h2 B tk D S c Hu->P=Hu:=by
 induction h with
 | fin h =>
  intro aJ;cases aJ with
  | fin g=>rw [h] at g; cases g; rfl
  | lim g _=>rw [h] at g; cases g
  | go g _ _=>rw [h] at g; cases g
 | lim h ah =>
  intro aJ;cases aJ with
  | fin g=>rw [h] at g; cases g
  | lim g _=>rw [h] at g; cases g; rfl
  | go g aB _=>rw [h] at g; cases g; exact absurd ah aB
 | go h ah _ aM =>
  intro aJ;cases aJ with
  | fin g=>rw [h] at g; cases g
  | lim g aB=>rw [h] at g; cases g; exact absurd aB ah
  | go g _ hr=>rw [h] at g; cases g; exact aM hr
theorem LK {α:Type}{x:Option α}{a:α}(h:Tot x λr=>r=a):x=some a:=by
 obtain ⟨_,h,rfl⟩:=h;exact h
theorem U3:∀ {n:Nat}{x:Node},px n x->ye n x x=some true:=by
 intro n x h
 induction h with
 | @mk n s p a L ah h aM =>
  suffices cU:Tot (ye (n+1) ⟨s,p,a,mV dn L⟩ ⟨s,p,a,mV dn L⟩) λr=>r=true by
   obtain ⟨r,hr,e⟩:=cU; rw [hr,e]
  unfold ye;have aB:(mV dn L).n=L.length:=rfl;simp only [decide_true,Bool.not_true,cond_false,Option.bind_some,aB,US];refine .aA (Ξ:=h0 (λ_:Unit=>True) (λ_:Bool=>False)) ?_ λx J=>?_
  ·refine Tot.upto (λs=>s) L.length (λ_ _=>True) rfl (by omega) trivial λk s hk he _=>?_;subst he;rw [et k (by omega)];refine Tot.bt (λaN=>?_) (λ_=>.al trivial);have aN:k<L.length:=by omega
   rw [dN aN];simp only [Option.bind_some,aM _ (List.getElem_mem aN),Bool.not_true,cond_false];exact .al ⟨aN,rfl,trivial⟩
  ·rcases x with x | x
   ·exact .al rfl
   ·exact J.elim
theorem U2 (l:List qb) (h:l.length<=1000000000):Tot (AJ l l) λc=>c=true:=by
 unfold AJ;simp only [decide_true,Bool.not_true,cond_false];refine .aA (Ξ:=h0 (λ_:Unit=>True) (λ_:Bool=>False)) ?_ λx J=>?_
 ·refine Tot.upto (λs=>s) l.length (λ_ _=>True) rfl (by omega) trivial λk s hk he _=>?_;subst he;rw [et k (by omega)];refine Tot.bt (λaN=>?_) (λ_=>.al trivial);have aN:k<l.length:=by omega
  rw [dN aN];simp only [Option.bind_some,decide_true,BEq.rfl,Bool.and_self,Bool.not_true,cond_false];exact .al ⟨aN,rfl,trivial⟩
 ·rcases x with x | x
  ·exact .al rfl
  ·exact J.elim
theorem U0 {P:eZ}(h:Mj tk D S P):Au P P=some true:=by
 have h1:tl P.bx P.bx=some true:=LK (zn _ (by have:=h.p; omega));have af:tl P.fp P.fp=some true:=LK (zn _ (by have:=h.l; omega));have aD:AJ P.eC P.eC=some true:=LK (U2 _ (by have:=h.u; omega));have bm:Gn P.Tree P.Tree=some true:=U3 (h.t.up (by unfold fuel; omega));unfold Au;simp only [decide_true,cond_true,h1,af,aD,bm,Option.bind_some]
theorem aa0:px 1000001 start.p.Tree:=px.leaf (by omega) 0 0 0
theorem iN (g:bD) (aP:fZ g) (l:List Int) (n:Int) (aK:0<=n) (aB:n<=1000):Tot (Ds g l n) λr=>r.length<=n:=by
 have ar:=aP.k9;unfold Ds;refine .aA (Ξ:=λr=>(r.length:Int)<=n) ?_ λr hr=>.al hr;refine Tot.count (λs=>s.2) n (λs=>0<=s.2/\s.2<=n/\(s.1.length:Int)=s.2) ⟨Int.le_refl _,aK,rfl⟩ (by show n - 0<_; omega) λs aw=>?_;obtain ⟨A,i⟩:=s;obtain ⟨h1,af,aD⟩:=aw;simp only at h1 af aD ⊢;refine .aA (Ξ:=λb:Bool=>b=true->i<l.length/\i<n) (Tot.bt (λh=>.al λaJ=>⟨h,of_decide_eq_true aJ⟩) (λ_=>.al λh=>by cases h)) λb au=>?_;refine Tot.bM (λW2=>?_) (λ_=>.al (by show (A.length:Int)<=n; omega));obtain ⟨bm,b7⟩:=au W2;obtain ⟨y,ao,_⟩:=nD h1 bm;rw [ao];refine .aA (Ξ:=λL:List Int=>L.length=A.length+1) ?_ λL fK=>.al ⟨⟨?_,?_,?_⟩,?_,?_⟩
 ·refine Tot.aV (.aA (t19 y (aG ((g.br.length:Int) - 2)) (by rw [l5 (by omega) (by omega)]; omega) (by rw [l5 (by omega) (by omega)]; omega)) λk hk=>?_);rw [l5 (by omega) (by omega)] at hk;refine .aA (Ξ:=λL:List Int=>L.length=A.length+1) (Tot.bt (λh=>?_) (λh=>.bK<|.al (by simp))) λL fK=>.al fK;obtain ⟨t,rn,_⟩:=nD (l:=g.br) (i:=k+2) (by omega) (by omega);rw [l5 (n:=k+2) (by omega) (by omega),rn];exact Tot.aV (.bK<|.al (by simp))
 all_goals simp only
 all_goals rw [l5 (n:=i+1) (by omega) (by omega)]
 all_goals omega
theorem abc (l r:List Int) (e:Int) (h:e<=0):((l++[e])++r).takeWhile (λn=>decide (0<n))=l.takeWhile λn=>decide (0<n):=by
 induction l with
 | nil=>simp [show ¬ 0<e by omega]
 | cons a l aM =>
  simp only [List.cons_append,List.takeWhile_cons];split
  ·rw [aM]
  ·rfl
theorem qf (l:List Int) (n:Int) (aK:0<=n) (aB:n<=1000000):Tot (Dx l n) λr=>(r.length:Int)<=n:=by
 unfold Dx;exact Tot.bt (λh=>.aA (Ξ:=λr:List Int=>(r.length:Int)<=n) (Tot.sub ⟨by omega,aK,by omega⟩ (by simp; omega)) λr hr=>.al hr) (λh=>.al (by omega))
theorem Qt {B:ou}{c:gZ}:(∀ p,lY B c=.fin p->p.At=c.p.At)/\∀ p n r,lY B c=.go p n r->r.p.At=c.p.At:=by
 unfold lY;split
 ·exact ⟨λp e=>(by cases e),λp n r e=>(by cases e; rfl)⟩
 ·split
  ·exact ⟨λp e=>(by cases e; rfl),λp n r e=>(by cases e)⟩
  ·exact ⟨λp e=>(by cases e),λp n r e=>(by cases e; rfl)⟩
theorem KU {B:ou}(aK:∀ q,(B.act q 0).Kind≠1) {tk:List Int}{c:gZ}(aI:c.p.At<=tk.length):(∀ p,h' B tk c=.fin p->p.At<=tk.length)/\∀ p n r,h' B tk c=.go p n r->p.At=c.p.At/\r.p.At<=tk.length:=by
 have Rr:∀ {k:Int},ij tk c.p.At=k->k≠0->c.p.At<tk.length:=λ{k} e h=>by
  by_cases aN:c.p.At<tk.length
  ·exact aN
  ·exact absurd (e.symm.trans (if_pos (by omega))) h
 have aq:∀ {c0:gZ},c0.p.At=c.p.At->(∀ p,lY B c0=.fin p->p.At<=tk.length)/\∀ p n r,lY B c0=.go p n r->p.At=c.p.At/\r.p.At<=tk.length:=λ{c0} ft=>by
  refine ⟨λp e=>?_,λp n r e=>⟨?_,?_⟩⟩
  ·rw [Qt.1 p e,ft]; exact aI
  ·unfold lY at e
   split at e
   ·cases e; exact ft
   ·split at e
    ·cases e
    ·cases e; exact ft
  ·rw [Qt.2 p n r e,ft]; exact aI
 unfold h';split
 ·exact aq rfl
 ·split
  ·rename_i hk;refine ⟨λp e=>(by cases e),λp n r e=>?_⟩;cases e;have:c.p.At<tk.length:=Rr rfl λh=>by rw [h] at hk; exact aK _ hk
   exact ⟨rfl,by show c.p.At+1<=_; omega⟩
  ·split
   ·exact ⟨λp e=>(by cases e),λp n r e=>(by cases e; exact ⟨rfl,aI⟩)⟩
   ·split
    ·exact ⟨λp e=>(by cases e; exact aI),λp n r e=>(by cases e)⟩
    ·split
     ·split
      ·exact ⟨λp e=>(by cases e; exact aI),λp n r e=>(by cases e)⟩
      ·rename_i h;have:c.p.At<tk.length:=Rr rfl h;refine ⟨λp e=>(by cases e),λp n r e=>?_⟩;cases e;exact ⟨rfl,by show c.p.At+1<=_; omega⟩
     ·exact aq rfl
theorem h2.at {B:ou}(aK:∀ q,(B.act q 0).Kind≠1) {tk:List Int}{D S:Int}{c:gZ}{P:eZ}(h:h2 B tk D S c P):c.p.At<=tk.length->P.At<=tk.length:=by
 induction h with
 | fin h=>exact λaI=>(KU aK aI).1 _ h
 | lim h ah =>
  intro aI;have:=((KU aK aI).2 _ _ _ h).1;simp only; omega
 | go h ah _ aM=>exact λaI=>aM ((KU aK aI).2 _ _ _ h).2
theorem Zb {g:bD}{m:List State}{cs:List Cell}{d:gP}(eg:nh g m cs d) (q:Int):(nO d q 0).Kind≠1:=by
 intro hk;obtain ⟨uR,v,h1,af,aD,bm⟩:=(eg.ap q 0).1 hk;obtain ⟨n,e,aB⟩:=FN h1;obtain ⟨_,y,y',ao,aB,_⟩:=eg.AV.aS n uR aB v af;obtain ⟨_,_,q,g1,g2⟩:=Ge eg.dv.oC (x:=y') (by rw [aB,aD]; decide);rw [aB,aD] at g2;exact eg.dv.oC.we q (j6 g1).2.2 0 (j6 g2).2.2 rfl
theorem t5 (x:qS) (w:List Int) (e:Int) (b:List Int):AK x w e b=some true:=by
 suffices h:Tot (AK x w e b) λr=>r=true by
  obtain ⟨r,hr,e⟩:=h; rw [hr,e]
 unfold AK;rw [abM];refine Tot.aV (.aA (t10 x) λy au=>.aA (a1 y au) λD aO=>Tot.bM (λ_=>.al rfl) (λh=>?_));obtain ⟨m,cs,eg⟩:=aO (by simpa using h);clear aO;generalize D.1=g at *;generalize D.2.1=d at *;refine .aA (Ξ:=λb1:Int=>b1<=0) (Tot.bt (λh=>.al (Int.le_refl _)) (λh=>.al (by omega))) λb1 he=>?_;refine .aA (nS g m.length d eg.do eg.tk) λt bQ=>.aA (iN g eg.dv.oC w 30 (by decide) (by decide)) λl ah=>.aA (M3 eg bQ l (by omega) 500 1500) λP aY=>?_;have a8:u3 m [0] []:=mC.start;have XK:=aY.Gj eg.path (ja.start a8 (by
  have:=(List.takeWhile_sublist (λn:Int=>decide (0<n)) (l:=l)).length_le;unfold rO;rw [List.length_map]; omega) (by omega) (by omega)) aa0
 refine .aA (Ξ:=λb=>b=true) ?_ λb au=>.al au;refine .aA (Ξ:=λr=>r=l) (Tot.ap (by simp [lim]; omega) rfl) λgi h1=>?_;subst h1;refine .aA (Ξ:=λr=>r=gi++[b1]) (Tot.ap (by simp [lim]; omega) rfl) λfV af=>?_;subst af;refine .aA (qf b 9 (by decide) (by decide)) λr hr=>?_;refine .aA (Ξ:=λz=>z=gi++[b1]++r) (Tot.ap (by simp [lim]; omega) rfl) λafo aD=>?_;subst aD;refine .aA (M3 eg bQ _ (by simp; omega) 500 1500) λHu h6=>?_;have b9:rO t (gi++[b1]++r)=rO t gi:=by
  unfold rO;rw [abc gi r b1 he]
 rw [b9] at h6;obtain rfl:=aY.UT h6;rw [U0 XK];refine Tot.aV (.al ?_);have:=(List.takeWhile_sublist (λn:Int=>decide (0<n)) (l:=gi)).length_le;have aI:=aY.at (Zb eg) (by show (0:Int)<=_; omega);unfold rO at aI;rw [List.length_map] at aI;exact decide_eq_true (by omega)
end Go.Proofs
namespace Go.Own
open Go Go.ChangeShapes Go.WideShapes Go.ChangeAt Go.RowKit
variable {H:Type}{enc:TypeId × Value->H}{P:Program}
theorem ZU {f:Func}{s:ChangeSpec}{apart fresh handsOn again:Bool}{W wJ:World}{args:Array Value}{v:Value}{jE gs:List (DataW H)}{before lX pv:List MemPlace}
  (jG:DataW.Whole enc P f.params.toList s.vars apart W args.toList jE gs before) (hk:Me W wJ) (qt:before=lX++pv)
  (zP:∀ (b:Nat) (sp:Nat->Bool) (aO:Bool),DataW.TrodAll enc P wJ b sp aO f.resultTypes.toList (v.resultList f.resultTypes.size) (s.fn H (jE++gs)).results [])
  (qm:∀ sp:Nat->Bool,(∀ p∈before,sp p.block=true)->DataW.TrodAll enc P wJ 0 sp true f.params.toList args.toList (s.fn H (jE++gs)).args lX)
  (O4:∀ sp:Nat->Bool,(∀ p∈before,sp p.block=true)->DataW.TrodVars enc P wJ sp s.vars (s.fn H (jE++gs)).vars pv)
  (c7:∀ (j:Nat) (t:TypeId) (r:Value),f.resultTypes[j]?=some t->(v.resultList f.resultTypes.size)[j]?=some r->Value.okWide P wJ .any 0 t r) :
  s.post enc P f apart fresh handsOn again W args v wJ:=by
 subst qt;have aN:∀ p∈lX++pv,p.block<W.heap.size:=λp aq=>jG.lt p aq;have iV:∀ p∈lX++pv,(λb=>decide (b<W.heap.size)) p.block=true:=λp aq=>decide_eq_true (aN p aq);have Ww:=jG;obtain ⟨_,_,_,_,_,aX,aB⟩:=Ww;have ar:=trodAll_append (qm (λ_=>true) (λ_ _=>rfl)) (zP 0 (λ_=>true) true);refine ⟨jE,gs,lX++pv,[],lX,pv,jG,zP _ _ _,qm _ iV,O4 _ iV,hk.kept _,λ_=>⟨c7,_,_,lX++pv,⟨_,pv,ar,O4 _ (λ_ _=>rfl),rfl,λb off aq=>?_,aB⟩,λp aq _=>aq⟩⟩;rw [hk.dL _ (aN _ aq)];exact aX b off aq
end Go.Own
namespace Go.Proofs
open Go Go.Own
set_option maxRecDepth 100000
theorem Ry:Tryz.prog.underlying 3=some (.int .i64):=by kernel_rfl
theorem abm:Tryz.prog.underlying 4=some .bool:=by kernel_rfl
def x0 (n:Int):Prop:=(Lit.int .i64 n).wf=true
def okB (_:Bool):Prop:=True
def x1 {α:Type}(p:α->Prop) (l:List α):Prop:=l.length<=maxLen/\∀ x∈l,p x
def Zl (x:qS):Prop:=x0 x.dC/\x1 (x1 x0) x.eM/\x1 x0 x.wE/\x1 x0 x.q0/\okB x.A9/\True
theorem HA:kP Tryz.prog ai 3 x0:=.int Ry (by kernel_rfl) λ_=>rfl
theorem Sx:kP Tryz.prog e1 4 okB:=.bool abm (by kernel_rfl) λ_=>rfl
theorem LL:Tryz.prog.underlying 27=some (.slice 3):=by kernel_rfl
theorem Bn:kP Tryz.prog (bF ai) 27 (x1 x0):=HA.slice (t:=27) LL (by kernel_rfl) (by decide)
theorem SA:kP Tryz.prog (bF (bF ai)) 26 (x1 (x1 x0)):=Bn.slice (t:=26) (by kernel_rfl) (by kernel_rfl) (by decide)
def U_:bN qS:=⟨5,λx=>[ae x.dC,aj (bF ai) x.eM,aj ai x.wE,aj ai x.q0,bg x.A9],λ_=>rfl,λ_=>dk.bk⟩
theorem QS:Ee Tryz.prog 29 [3,26,27,27,4]=true:=by kernel_rfl
theorem Sz:kP Tryz.prog U_ 29 Zl:=.struct (t:=29) (.cons HA (.cons SA (.cons Bn (.cons Bn (.cons Sx .nil))))) (λb=>(⟨b.1,b.2.1,b.2.2.1,b.2.2.2.1,b.2.2.2.2.1⟩:qS)) (λx=>(x.dC,x.eM,x.wE,x.q0,x.A9,())) (λ_=>rfl) (λ_=>rfl) QS (by kernel_rfl)
theorem ZG:laidOutB Tryz.prog=true:=by kernel_rfl
theorem ZH:mapsRowed Tryz.prog=true:=by kernel_rfl
theorem ZF:((List.range Tryz.prog.types.size).all λt=>match Tryz.prog.underlying t with | some (.slice e)=>decide (0<Tryz.prog.cellsOf e) | _=>true)=true:=by kernel_rfl
end Go.Proofs
