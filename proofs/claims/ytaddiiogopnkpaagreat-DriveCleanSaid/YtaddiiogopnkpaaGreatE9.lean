/- Parts of the proof that the last text states. -/
import Derived.KernelRfl
import Derived.Test.YtaddiiogopnkpaaGreatE8
set_option linter.unusedVariables false
namespace Go.Proofs
open Go Go.Own Go.Sort
set_option maxRecDepth 100000
def rowOf (g:bA) (l:List Cell):List Act:=l.foldl (λrow c=>row.set c.b4.toNat (qf g c)) (List.replicate g.bo.length ⟨0,0⟩)
def ir (cs:List Cell) (q:Nat):List Cell:=cs.filter λc=>decide (c.State=(q:Int))
def go (m:List State) (q s:Int):Int:=(rE m q s).getD (-1)
theorem go_eq {g:bA}{m:List State}(hm:nh g m) (q s:Int):rE m q s=some (go m q s)/\GoTo m q s (go m q s):=by
 obtain ⟨r,hr,h⟩:=E9 m q s hm.xX;unfold go;rw [hr];exact ⟨rfl,h⟩
theorem QJ (g:bA):∀ (l:List Cell),(rowOf g l).length=g.bo.length:=λl=>by
 suffices h:∀ (l:List Cell) (r:List Act),(l.foldl (λrow c=>row.set c.b4.toNat (qf g c)) r).length=r.length by
  unfold rowOf; rw [h]; simp
 intro l
 induction l with
 | nil=>intro r; rfl
 | cons c l aO=>intro r; rw [List.foldl_cons,aO,List.length_set]
theorem Z_ (g:bA) (l:List Cell) (c:Cell):rowOf g (l++[c])=(rowOf g l).set c.b4.toNat (qf g c):=by
 unfold rowOf; rw [List.foldl_append]; rfl
theorem Z7 {g:bA}{n:Nat}:∀ {l:List Cell},(∀ c∈l,pz g n c)->∀ a∈rowOf g l,oV g n a:=by
 intro l h
 suffices av:∀ (l:List Cell) (r:List Act),(∀ c∈l,pz g n c)->(∀ a∈r,oV g n a)->∀ a∈l.foldl (λrow c=>row.set c.b4.toNat (qf g c)) r,oV g n a by
  refine av l _ h λa aJ=>?_;rw [List.eq_of_mem_replicate aJ];exact ⟨⟨by decide,by decide⟩,λ_=>rfl,λh=>(by cases h),λh=>(by cases h),λh=>(by cases h),λh=>by cases h⟩
 intro l
 induction l with
 | nil=>intro r _ hr; exact hr
 | cons c l aO =>
  intro r ah hr;rw [List.foldl_cons];refine aO _ (λd aQ=>ah d (by simp [aQ])) λa aJ=>?_;rcases List.mem_or_eq_of_mem_set aJ with h | h
  ·exact hr a h
  ·rw [h]; exact (SB (ah c (by simp))).1
def vm (g:bA) (m:List State) (q:Nat):List Int:=(List.range g.dD.length).map λa:Nat=>go m q (1000+(a:Int))
def mb (g:bA) (l:List Cell):List e5:=l.flatMap (zt g)
theorem Is {g:bA}(aN:f' g) {n:Nat}:∀ {l:List Cell},(∀ c∈l,pz g n c)->(mb g l).length<=60 * l.length
 | [],_=>by simp [mb]
 | c::l,h=>by
  have h1:=Nc aN (h c (by simp));have af:=Is aN (l:=l) λd aQ=>h d (by simp [aQ]);unfold mb at af ⊢;rw [List.flatMap_cons,List.length_append,List.length_cons];omega
theorem Rp {α:Type}{l:List α}{k:Nat}(h:k<l.length) (p:α->Bool):(l.take (k+1)).filter p=(l.take k).filter p++(if p l[k] then [l[k]] else []):=by
 rw [lG h,List.filter_append];congr 1;rw [List.filter_cons]
 split <;> simp
structure EE (g:bA) (m:List State) (cs:List Cell) (d:gW):Prop where
 a:d.cA=(List.range m.length).map λq=>rowOf g (ir cs q)
 o:d.eJ=(List.range m.length).map λq=>vm g m q
theorem qj (g:bA) (m:List State) (cs:List Cell) (dL:Ez g m cs):Tot (AI g m cs) λr=>EE g m cs r.1/\r.2=(List.range m.length).flatMap λq=>mb g (ir cs q):=by
 obtain ⟨aN,hm,aa⟩:=dL;have au:=aN.lk;have aC:=aN.e1;have s_:=hm.nE;have JB:=aa.n;unfold AI;refine .aB (Ξ:=λr:List (List Act) × List (List Int) × List e5=>r.1=(List.range m.length).map (λq=>rowOf g (ir cs q))/\r.2.1=(List.range m.length).map (λq=>vm g m q)/\r.2.2=(List.range m.length).flatMap λq=>mb g (ir cs q)) ?_ λr hr=>.aj ⟨⟨hr.1,hr.2.1⟩,hr.2.2⟩;have mQ:∀ q,(mb g (ir cs q)).length<=360000:=λq=>by
  have h1:=Is aN (l:=ir cs q) λc r'=>aa.ok c ((List.mem_filter.1 r').1);have af:=List.length_filter_le (λc:Cell=>decide (c.State=(q:Int))) cs;unfold ir at h1 ⊢;omega
 have JG:∀ k,((List.range k).flatMap λq=>mb g (ir cs q)).length<=360000 * k:=λk=>by
  induction k with
  | zero=>simp
  | succ k aO =>
   rw [List.range_succ,List.flatMap_append,List.length_append];have:=mQ k;simp only [List.flatMap_cons,List.flatMap_nil,List.append_nil];omega
 refine Tot.upto (λs=>s.2.2.2) m.length (λk s=>s.1=(List.range k).map (λq=>rowOf g (ir cs q))/\s.2.1=(List.range k).map (λq=>vm g m q)/\s.2.2.1=(List.range k).flatMap λq=>mb g (ir cs q)) rfl (by omega) ⟨rfl,rfl,rfl⟩ λk s hk he bc=>?_;obtain ⟨A,G,C,i⟩:=s;obtain ⟨h1,af,aE⟩:=bc;simp only at he h1 af aE ⊢;subst he h1 af aE;rw [eA k (by omega)];refine Tot.bt (λaP=>?_) (λdF=>.aj ?_)
 ·have aP:k<m.length:=by omega
  refine .aB (Ξ:=λr=>r=List.replicate g.bo.length (⟨0,0⟩:Act)) (Tot.mk (by simp [lim]; omega) (by simp)) λtH gu=>?_;subst gu;have aek:=JG k;refine .aB (Ξ:=λr:List e5 × List Act=>r.1=(List.range k).flatMap (λq=>mb g (ir cs q))++mb g (ir cs k)/\r.2=rowOf g (ir cs k)) ?_ λr hr=>?_
  ·refine Tot.upto (λs=>s.2.2) cs.length (λj s=>s.1=(List.range k).flatMap (λq=>mb g (ir cs q))++mb g (ir (cs.take j) k)/\s.2.1=rowOf g (ir (cs.take j) k)) rfl (by omega) ⟨by simp [ir,mb],by simp [ir,rowOf]⟩ λj s ag he bc=>?_;obtain ⟨C,R,i⟩:=s;obtain ⟨h1,af⟩:=bc;simp only at he h1 af ⊢;subst he h1 af;rw [eA j (by omega)];refine Tot.bt (λfX=>?_) (λdF=>.aj ?_)
   ·have fX:j<cs.length:=by omega
    have xo:=aa.ok _ (List.getElem_mem fX);have s5:=Rp fX (λc:Cell=>decide (c.State=(k:Int)));have aeG:(mb g (ir (cs.take j) k)).length<=360000:=by
     have h1:=Is aN (l:=ir (cs.take j) k) λc r'=>aa.ok c (List.mem_of_mem_take ((List.mem_filter.1 r').1));have af:=List.length_filter_le (λc:Cell=>decide (c.State=(k:Int))) (cs.take j);rw [List.length_take] at af;unfold ir at h1 ⊢;omega
    rw [dT fX];generalize cs[j]=c at *;simp only [Option.bind_some];refine .aB (Ξ:=λr:List e5 × List Act=>r.1=(List.range k).flatMap (λq=>mb g (ir cs q))++mb g (ir (cs.take (j+1)) k)/\r.2=rowOf g (ir (cs.take (j+1)) k)) ?_ λr hr=>.aj ⟨fX,rfl,hr⟩;refine .aB (Ξ:=λr:List e5 × List Act=>r.1=(List.range k).flatMap (λq=>mb g (ir cs q))++mb g (ir (cs.take (j+1)) k)/\r.2=rowOf g (ir (cs.take (j+1)) k)) (Tot.bt (λav=>?_) (λav=>.aj ?_)) λr hr=>.aj hr
    ·rw [decide_eq_true av,if_pos rfl] at s5;rw [BO g aN c xo];simp only [Option.bind_some];have oH:=QJ g (ir (cs.take j) k);obtain ⟨a0,Ca,_⟩:=nC (l:=rowOf g (ir (cs.take j) k)) (i:=c.b4) xo.t.1 (by rw [oH]; exact xo.t.2);rw [Ca];have hT:=Nc aN xo;refine Tot.aV (.aB (Ξ:=λ_=>True) (Tot.ap (by rw [List.length_append]; simp only [lim]; omega) trivial) λ_ _=>.aj ⟨?_,?_⟩)
     ·show _=_++mb g ((cs.take (j+1)).filter _);rw [s5];unfold mb;rw [List.flatMap_append,List.append_assoc];simp [ir]
     ·show _=rowOf g ((cs.take (j+1)).filter _);rw [s5,Z_]; rfl
    ·have:(if (decide (c.State=(k:Int)))=true then [c] else [])=[]:=by simp [av]
     rw [this,List.append_nil] at s5;unfold ir;rw [s5];exact ⟨rfl,rfl⟩
   ·have e:cs.take j=cs:=List.take_of_length_le (by omega);rw [e];exact ⟨rfl,rfl⟩
  ·obtain ⟨C,R⟩:=r;obtain ⟨h1,af⟩:=hr;simp only at h1 af ⊢;subst h1 af;refine .aB (Ξ:=λr=>r=List.replicate g.dD.length (0:Int)) (Tot.mk (by simp [lim]; omega) (by simp)) λHK VY=>?_;subst VY;refine .aB (Ξ:=λr:List Int=>r=vm g m k) ?_ λr hr=>?_
   ·refine Tot.upto (λs=>s.2) g.dD.length (λj s=>s.1.length=g.dD.length/\∀ i:Nat,i<j->s.1[i]?=some (go m k (1000+(i:Int)))) rfl (by omega) ⟨by simp,λi hi=>absurd hi (Nat.not_lt_zero _)⟩ λj s ag he bc=>?_;obtain ⟨L,i⟩:=s;obtain ⟨h1,af⟩:=bc;simp only at he h1 af ⊢;subst he;rw [eA j (by omega)];refine Tot.bt (λfX=>?_) (λdF=>.aj ?_)
    ·have fX:j<L.length:=by omega
     have hw:aG (1000+(j:Int))=1000+(j:Int):=by rw [cv]; omega
     rw [hw,(go_eq hm k _).1,dT fX];refine Tot.aV (Tot.aV (.aj ⟨by omega,rfl,?_,λi hi=>?_⟩))
     ·show (L.set _ _).length=_;rw [List.length_set]; exact h1
     ·show (L.set (j:Int).toNat _)[i]?=_;rw [Int.toNat_natCast,p3 fX];by_cases e:i=j
      ·subst e; rw [if_pos rfl]
      ·rw [if_neg e]; exact af i (by omega)
    ·show L=vm g m k;refine List.ext_getElem? λi=>?_;unfold vm;by_cases hi:i<g.dD.length
     ·rw [af i (by omega),List.getElem?_map,List.getElem?_range hi]; rfl
     ·rw [List.getElem?_eq_none (by omega),List.getElem?_eq_none (by simp; omega)]
   ·subst hr;refine .bJ<|.bJ<|.aj ⟨aP,rfl,?_,?_,?_⟩
    ·show _=(List.range (k+1)).map _;rw [List.range_succ,List.map_append]; rfl
    ·show _=(List.range (k+1)).map _;rw [List.range_succ,List.map_append]; rfl
    ·show _=(List.range (k+1)).flatMap _;rw [List.range_succ,List.flatMap_append]; simp
 ·have:k=m.length:=by omega
  subst this;exact ⟨rfl,rfl,rfl⟩
structure yV (g:bA) (n:Nat) (d:gW):Prop where
 gN:0<n/\n<=150
 o6:f' g
 a:d.cA.length=n
 k5:∀ r∈d.cA,r.length=g.bo.length/\∀ a∈r,oV g n a
 o:d.eJ.length=n
 Gq:∀ r∈d.eJ,r.length=g.dD.length/\∀ v∈r,-1<=v/\v<n
theorem EE.aL {g:bA}{m:List State}{cs:List Cell}{d:gW}(h:EE g m cs d) (dL:Ez g m cs):yV g m.length d:=by
 obtain ⟨aN,hm,aa⟩:=dL;refine ⟨⟨hm.gN,hm.nE⟩,aN,by rw [h.a]; simp,λr hr=>?_,by rw [h.o]; simp,λr hr=>?_⟩
 ·rw [h.a] at hr;obtain ⟨q,_,rfl⟩:=List.mem_map.1 hr;exact ⟨QJ g _,Z7 λc r'=>aa.ok c (List.mem_filter.1 r').1⟩
 ·rw [h.o] at hr;obtain ⟨q,_,rfl⟩:=List.mem_map.1 hr;refine ⟨by simp [vm],λv hv=>?_⟩;obtain ⟨a,_,rfl⟩:=List.mem_map.1 hv;exact (go_eq hm q _).2.aL hm
theorem ZV {g:bA}(aN:f' g) {n:Nat}{cs:List Cell}(aa:Bd g n cs) {f:Cell->Option Int}(aU:∀ c:Cell,c.bu.length<=1000->f c=some (oh c:Int)):Tot (cd (R:=Int) (λ(s1:Int × Int) =>
(bif decide (s1.2<(cs.length:Int)) then
((idx cs s1.2).bind λbz =>
(f bz).bind λbq =>
((bif decide (1<bq) then
some (aG (s1.1+1))
else
some s1.1)).bind λea =>
some ea).bind λiy =>
some (.inl (iy,aG (s1.2+1)))
else
some (.inr s1.1))) (0,0)) λr=>r=((cs.filter λc=>decide (1<oh c)).length:Int):=by
 have JB:=aa.n;refine Tot.upto (λs=>s.2) cs.length (λk s=>s.1=(((cs.take k).filter λc=>decide (1<oh c)).length:Int)) rfl (by omega) rfl λk s hk he bc=>?_;obtain ⟨z,i⟩:=s;simp only at he bc ⊢;subst he bc;rw [eA k (by omega)];refine Tot.bt (λaP=>?_) (λdF=>.aj ?_)
 ·have aP:k<cs.length:=by omega
  have WS:=aa.ok _ (List.getElem_mem aP);have s5:=Rp aP (λc:Cell=>decide (1<oh c));have mQ:=List.length_filter_le (λc:Cell=>decide (1<oh c)) (cs.take k);rw [List.length_take] at mQ;rw [dT aP];generalize cs[k]=c at *;have hT:=WS.len aN;rw [show (some c).bind=λ(f:Cell->Option Int)=>f c from rfl]
  simp only [aU c (by omega),Option.bind_some];refine .aB (Ξ:=λz:Int=>z=(((cs.take (k+1)).filter λc=>decide (1<oh c)).length:Int)) ?_ λr hr=>.aj ⟨aP,rfl,hr⟩;rw [s5];refine .aB (Ξ:=λz:Int=>z=(((cs.take k).filter (λc=>decide (1<oh c))++if decide (1<oh c)=true then [c] else []).length:Int)) (Tot.bt (λh=>.aj ?_) (λh=>.aj ?_)) λr hr=>.aj hr
  ·have:1<oh c:=by omega
   rw [eA _ (by omega)];simp [this]
  ·have:¬ 1<oh c:=by omega
   simp [this]
 ·have e:cs.take k=cs:=List.take_of_length_le (by omega);rw [e]; rfl
theorem TJ {g:bA}(aN:f' g) {n:Nat}{cs:List Cell}(aa:Bd g n cs):Tot (DL cs) λr=>r=((cs.filter λc=>decide (1<oh c)).length:Int):=by
 unfold DL;exact .aB (ZV aN aa Np) λr hr=>.aj hr
open Go Go.Own
theorem UX (a:Act):AP a=oQ a:=by
 grind [AP,oQ]
theorem UT (n:Int):yb n=Dr n:=by
 grind [yb,Dr]
theorem Rx (a:Act):Tot (oQ a) λ_=>True:=by
 unfold oQ
 repeat' first | apply Tot.bi | refine Tot.bH (λ_=>?_) (λ_=>?_) | exact Tot.aj trivial | apply Tot.aj
theorem TT (a:Act):∃ c,oQ a=some c/\(c=0\/Dr c=some a):=by
 obtain ⟨c,aa,_⟩:=Rx a;refine ⟨c,aa,?_⟩;obtain ⟨K,N⟩:=a;have g:∀ p q:Prop,∀ [Decidable p] [Decidable q],(bif decide p then some (decide q) else some false)=some (decide (p/\q)):=λp q _ _=>by
  by_cases aq:p <;> simp [aq]
 by_cases h1:K=1/\0<=N/\N<=19999
 ·obtain ⟨rfl,h1⟩:=h1;have e:aG (N+1)=N+1:=by rw [cv]; omega
  have b3:aG (N+1 - 1)=N:=by rw [cv]; omega
  simp [oQ,h1,e] at aa;subst aa;have af:1<=N+1/\N+1<=20000:=by omega
  have e7:aG N=N:=by rw [cv]; omega
  exact .inr (by simp [Dr,af,e7])
 ·by_cases af:K=2/\1<=N/\N<=19999
  ·obtain ⟨rfl,af⟩:=af;have e:aG (-N)=-N:=by rw [cv]; omega
   have b3:aG N=N:=by rw [cv]; omega
   simp [oQ,af,e] at aa;subst aa;have aE:¬ 1<=-N:=by omega
   have bm:-N<=-1/\-19999<=-N:=by omega
   exact .inr (by simp [Dr,aE,bm,b3])
  ·by_cases aE:K=3/\N=0
   ·obtain ⟨rfl,rfl⟩:=aE;have:oQ ⟨3,0⟩=some 20001:=by decide
    rw [this] at aa; cases aa;exact .inr (by decide)
   ·by_cases bm:K=4/\N=0
    ·obtain ⟨rfl,rfl⟩:=bm;have:oQ ⟨4,0⟩=some 20002:=by decide
     rw [this] at aa; cases aa;exact .inr (by decide)
    ·refine .inl ?_;have vU:(bif decide (K=1) then (bif decide (0<=N) then some (decide (N<=19999)) else some false) else some false)=some false:=by
      rw [g]; by_cases h:K=1
      ·have:=λaI=>h1 ⟨h,aI⟩;simp [h]; omega
      ·simp [h]
     have uz:(bif decide (K=2) then (bif decide (1<=N) then some (decide (N<=19999)) else some false) else some false)=some false:=by
      rw [g]; by_cases h:K=2
      ·have:=λaI=>af ⟨h,aI⟩;simp [h]; omega
      ·simp [h]
     have YH:(bif decide (K=3) then some (decide (N=0)) else some false)=some false:=by rw [g]; simp [aE]
     have KO:(bif decide (K=4) then some (decide (N=0)) else some false)=some false:=by rw [g]; simp [bm]
     unfold oQ at aa;rw [vU,uz,YH,KO] at aa;simpa using aa.symm
def oX (l:List Int) (v:Int):Prop:=(l=[]/\v=-1)\/(v∈l/\∀ x∈l,l.count x<l.count v\/(l.count x=l.count v/\v<=x))
theorem oX.uniq {l:List Int}{v w:Int}(h:oX l v) (aI:oX l w):v=w:=by
 rcases h with ⟨h1,af⟩ | ⟨h1,af⟩ <;> rcases aI with ⟨aE,bm⟩ | ⟨aE,bm⟩
 ·omega
 ·subst h1; cases aE
 ·subst aE; cases h1
 ·have a:=af w aE;have b:=bm v h1;omega
theorem w3 (l:List Int) (y x:Int):(l++[y]).count x=l.count x+(if y=x then 1 else 0):=by
 rw [List.count_append];by_cases e:y=x
 ·subst e; simp
 ·rw [if_neg e,List.count_eq_zero.2 λhm=>e (List.mem_singleton.1 hm).symm]
theorem UI {l:List Int}{x:Int}(h:x∈l):0<l.count x:=List.count_pos_iff.2 h
theorem oX.snoc {l:List Int}{b y:Int}(h:oX l b) (aK:∀ x∈l,0<=x) (ao:0<=y):oX (l++[y]) (if b<0\/(l++[y]).count b<(l++[y]).count y\/((l++[y]).count y=(l++[y]).count b/\y<b) then y else b):=by
 refine .inr ?_;rcases h with ⟨rfl,rfl⟩ | ⟨ar,hm⟩
 ·rw [if_pos (.inl (by decide))];refine ⟨by simp,λx J=>?_⟩;rw [List.nil_append,List.mem_singleton] at J;subst J; exact .inr ⟨rfl,Int.le_refl _⟩
 ·have Oj:=aK b ar;have key:∀ x∈l++[y],x∈l\/x=y:=λx J=>by simpa using J
  have w6:(l++[y]).count y=l.count y+1:=by rw [w3,if_pos rfl]
  by_cases Om:b=y
  ·subst Om;rw [if_neg (by omega)];refine ⟨by simp,λx J=>?_⟩;rw [w6];by_cases e:x=b
   ·subst e; exact .inr ⟨w6,Int.le_refl _⟩
   ·rw [w3,if_neg (λh=>e h.symm)];rcases key x J with J | J
    ·have:=hm x J; omega
    ·exact absurd J e
  ·have km:(l++[y]).count b=l.count b:=by rw [w3,if_neg (λh=>Om h.symm)]; rfl
   by_cases aa:b<0\/(l++[y]).count b<(l++[y]).count y\/((l++[y]).count y=(l++[y]).count b/\y<b)
   ·rw [if_pos aa];rw [km,w6] at aa;refine ⟨by simp,λx J=>?_⟩;rw [w6];by_cases e:x=y
    ·subst e; exact .inr ⟨w6,Int.le_refl _⟩
    ·rw [w3,if_neg (λh=>e h.symm)];rcases key x J with J | J
     ·have:=hm x J; omega
     ·exact absurd J e
   ·rw [if_neg aa];rw [km,w6] at aa;refine ⟨by simp [ar],λx J=>?_⟩;rw [km];by_cases e:x=y
    ·subst e; rw [w6]; omega
    ·rw [w3,if_neg (λh=>e h.symm)];rcases key x J with J | J
     ·have:=hm x J; omega
     ·exact absurd J e
theorem KP {x:Int}(h:-1<=x/\x<=1000000):sv x=true:=by unfold sv; rw [decide_eq_true]; omega
theorem TS (l:List Int) (ah:l.length<=100000) (aK:∀ x∈l,0<=x/\x<=1000000):Tot (wg l) (oX l):=by
 unfold wg;refine .aB (Ξ:=oX l) ?_ λr hr=>.aj hr;refine Tot.upto (λs=>s.2.2) l.length (λk s=>s.1.length=k/\(∀ x,(pq s.1 x).getD 0=((l.take k).count x:Int))/\oX (l.take k) s.2.1) rfl (by omega) ⟨rfl,λx=>by simp [pq],.inl ⟨rfl,rfl⟩⟩ λk s hk he bc=>?_;obtain ⟨m,b,i⟩:=s;obtain ⟨h1,af,aE⟩:=bc;simp only at he h1 af aE ⊢;subst he;rw [eA k (by omega)];refine Tot.bt (λaP=>?_) (λdF=>.aj ?_)
 ·have aP:k<l.length:=by omega
  have ao:=aK _ (List.getElem_mem aP);have fP:=lG aP;have Ob:∀ x∈l.take k,0<=x/\x<=1000000:=λx J=>aK x (List.mem_of_mem_take J);have hT:=List.count_le_length (a:=l[k]) (l:=l.take k);rw [dT aP];generalize l[k]=y at *;have ar:-1<=b/\b<=1000000:=by
   rcases aE with ⟨_,rfl⟩ | ⟨h,_⟩
   ·omega
   ·have:=Ob b h; omega
  rw [List.length_take] at hT;have b9:uC sv 0 m y=some ((l.take k).count y:Int):=by unfold uC; rw [if_pos (KP ⟨by omega,ao.2⟩),af]
  have b3:aG (((l.take k).count y:Int)+1)=(((l.take k).count y+1:Nat):Int):=eA _ (by omega);have e7:Ad sv m y (((l.take k).count y+1:Nat):Int)=some ((y,(((l.take k).count y+1:Nat):Int))::m):=by
   unfold Ad;rw [KP ⟨by omega,ao.2⟩,Bool.true_and,if_pos (decide_eq_true (by simp only [lim]; omega))]
  have JY:∀ x,(pq ((y,(((l.take k).count y+1:Nat):Int))::m) x).getD 0=((l.take (k+1)).count x:Int):=λx=>by
   rw [fP,w3];unfold pq;by_cases e:y=x
   ·subst e; rw [if_pos rfl,if_pos rfl]; rfl
   ·rw [if_neg e,if_neg e,af]; rfl
  have nr:∀ x,(-1<=x/\x<=1000000)->uC sv 0 ((y,(((l.take k).count y+1:Nat):Int))::m) x=some ((l.take (k+1)).count x:Int):=λx J=>by unfold uC; rw [if_pos (KP J),JY]
  have av:=aE.snoc (y:=y) (λx J=>(Ob x J).1) ao.1;rw [<- fP] at av;have ku:=List.count_le_length (a:=y) (l:=l.take (k+1));have qw:=List.count_le_length (a:=b) (l:=l.take (k+1));rw [List.length_take] at ku qw;simp only [Option.bind_some,b9,b3,e7,nr y ⟨by omega,ao.2⟩,nr b ar];have hw:aG (((l.take (k+1)).count y:Int) - ((l.take (k+1)).count b:Int))=((l.take (k+1)).count y:Int) - ((l.take (k+1)).count b:Int):=by rw [cv]; omega
  rw [hw];refine .aB (Ξ:=λr:List (Int × Int) × Int=>r.1=(y,(((l.take k).count y+1:Nat):Int))::m/\oX (l.take (k+1)) r.2) ?_ λr hr=>.aj ⟨aP,rfl,by rw [hr.1]; simp [h1],by rw [hr.1]; exact JY,hr.2⟩;refine .aB (Ξ:=λc:Bool=>c=decide (b<0\/(l.take (k+1)).count b<(l.take (k+1)).count y\/((l.take (k+1)).count y=(l.take (k+1)).count b/\y<b))) ?_ λc aa=>?_
  ·refine Tot.bt (λh=>.aj (decide_eq_true (.inl h)).symm) (λh=>Tot.bt (λaI=>.aj (decide_eq_true (.inr (.inl (by omega)))).symm) (λaI=>Tot.bt (λaf=>.aj ?_) (λaf=>.aj (decide_eq_false (by omega)).symm)));exact decide_eq_decide.2 (by omega)
  ·subst aa;refine .aB (Ξ:=λz=>z=(if b<0\/(l.take (k+1)).count b<(l.take (k+1)).count y\/((l.take (k+1)).count y=(l.take (k+1)).count b/\y<b) then y else b)) (Tot.bt (λh=>.aj (if_pos h).symm) (λh=>.aj (if_neg h).symm)) λz aW=>.aj ⟨rfl,?_⟩
   show oX _ z;rw [aW]; exact av
 ·have e:l.take k=l:=List.take_of_length_le (by omega);rw [e] at aE;exact aE
theorem Na (l:List Int) (ah:l.length<=100000) (aK:∀ x∈l,0<=x/\x<=1000000):Tot (Gy l) (oX l):=by
 unfold Gy;refine .aB (Ξ:=λr:List Int=>fg iP r/\r.length<=l.length/\∀ x,x∈r↔x∈l) ?_ λD js=>?_
 ·refine Tot.upto (λs=>s.2) l.length (λk s=>fg iP s.1/\s.1.length<=k/\∀ x,x∈s.1↔x∈l.take k) rfl (by omega) ⟨.nil,Nat.le_refl 0,λx=>by simp⟩ λk s hk he bc=>?_;obtain ⟨r,i⟩:=s;obtain ⟨h1,af,aE⟩:=bc;simp only at he h1 af aE ⊢;subst he;rw [eA k (by omega)];refine Tot.bt (λaP=>?_) (λdF=>.aj ?_)
  ·have aP:k<l.length:=by omega
   have fP:=lG aP;rw [dT aP];generalize l[k]=y at *;refine Tot.aV (.aB (E_ r y h1 (by omega)) λc' dH=>.aj ⟨aP,rfl,dH.1,by have:=dH.2.1; show c'.length<=k+1; omega,λx=>?_⟩);rw [fP,List.mem_append,List.mem_singleton,<- aE];exact dH.2.2 x
  ·have e:l.take k=l:=List.take_of_length_le (by omega);rw [e] at aE;exact ⟨h1,by omega,aE⟩
 ·obtain ⟨VS,ad8,Fq⟩:=js;refine .aB (Ξ:=λr:Int=>oX l r) ?_ λr hr=>.aj hr;refine Tot.upto (λs=>s.2.2) D.length (λk s=>(k=0/\s.1=-1/\s.2.1=0)\/(s.1∈D.take k/\s.2.1=(l.count s.1:Int)/\∀ x∈D.take k,l.count x<l.count s.1\/(l.count x=l.count s.1/\s.1<=x))) rfl (by omega) (.inl ⟨rfl,rfl,rfl⟩) λk s hk he bc=>?_;obtain ⟨b,n,i⟩:=s;simp only at he bc ⊢;subst he;rw [eA k (by omega)];refine Tot.bt (λaP=>?_) (λdF=>.aj ?_)
  ·have aP:k<D.length:=by omega
   have fP:=lG aP;have FP:=List.getElem_mem aP;have uo:∀ x∈D.take k,x<D[k]:=λx J=>by
    obtain ⟨j,ag,rfl⟩:=List.mem_iff_getElem.1 J;rw [List.length_take] at ag;rw [List.getElem_take];exact PN.1 (MO VS (by omega) aP (by omega))
   rw [dT aP];generalize D[k]=y at *;have FO:=(Fq y).1 FP;refine .aB (Ξ:=λr:Int × Int=>r.1∈D.take (k+1)/\r.2=(l.count r.1:Int)/\∀ x∈D.take (k+1),l.count x<l.count r.1\/(l.count x=l.count r.1/\r.1<=x)) ?_ λr hr=>.aj ⟨aP,rfl,.inr hr⟩;refine .aB (Ξ:=λz:Int=>z=(l.count y:Int)) ?_ λz aW=>?_
   ·refine Tot.upto (λs=>s.2) l.length (λj s=>s.1=((l.take j).count y:Int)) rfl (by omega) (by simp) λj s ag he bc=>?_;obtain ⟨z,i⟩:=s;simp only at he bc ⊢;subst he bc;rw [eA j (by omega)];refine Tot.bt (λfX=>?_) (λdF=>.aj ?_)
    ·have fX:j<l.length:=by omega
     have um:=lG fX;have hT:=List.count_le_length (a:=y) (l:=l.take j);rw [List.length_take] at hT;rw [dT fX];generalize l[j]=x at *;simp only [Option.bind_some];refine .aB (Ξ:=λz:Int=>z=((l.take (j+1)).count y:Int)) ?_ λz aW=>.aj ⟨fX,rfl,aW⟩;rw [um,w3];refine .aB (Ξ:=λz:Int=>z=(((l.take j).count y+if x=y then 1 else 0:Nat):Int)) (Tot.bt (λe=>.aj ?_) (λe=>.aj ?_)) λz aW=>.aj aW
     ·rw [if_pos e,eA _ (by omega)]
     ·rw [if_neg e]; rfl
    ·have e:l.take j=l:=List.take_of_length_le (by omega);rw [e]; rfl
   ·subst aW;refine .aB (Ξ:=λr:Int × Int=>r.1∈D.take (k+1)/\r.2=(l.count r.1:Int)/\∀ x∈D.take (k+1),l.count x<l.count r.1\/(l.count x=l.count r.1/\r.1<=x)) ?_ λr hr=>.aj hr;have pL:=UI FO;rw [fP];have key:∀ x∈D.take k++[y],x∈D.take k\/x=y:=λx J=>by simpa using J
    refine Tot.bt (λaa=>Tot.aV (.aj ⟨by simp,rfl,λx J=>?_⟩)) (λaa=>?_)
    ·rcases key x J with J | rfl
     ·rcases bc with ⟨rfl,_,_⟩ | ⟨h1,af,aE⟩
      ·simp at J
      ·have:=aE x J; show l.count x<l.count y\/_; omega
     ·exact .inr ⟨rfl,Int.le_refl _⟩
    ·rcases bc with ⟨rfl,_,rfl⟩ | ⟨h1,af,aE⟩
     ·omega
     ·refine .aj ⟨by simp [h1],af,λx J=>?_⟩;rcases key x J with J | rfl
      ·exact aE x J
      ·have:=uo b h1;have aa:¬ ((n:Int)<(l.count x:Int)):=aa;have af:n=(l.count b:Int):=af;show l.count x<l.count b\/(l.count x=l.count b/\b<=x);omega
  ·have e:D.take k=D:=List.take_of_length_le (by omega);rw [e] at bc;rcases bc with ⟨rfl,rfl,_⟩ | ⟨h1,af,aE⟩
   ·have:D=[]:=List.eq_nil_of_length_eq_zero (by omega);refine .inl ⟨?_,rfl⟩;refine List.eq_nil_iff_forall_not_mem.2 λx J=>?_;have:=(Fq x).2 J
    subst_vars
    cases this
   ·exact .inr ⟨(Fq b).1 h1,λx J=>aE x ((Fq x).2 J)⟩
def hE (l:List Int):Int:=(Gy l).getD (-1)
def HO (l:List Int):Prop:=l.length<=100000/\∀ x∈l,0<=x/\x<=1000000
theorem K' {l:List Int}(h:HO l):wg l=some (hE l)/\Gy l=some (hE l)/\oX l (hE l):=by
 obtain ⟨v,hv,h1⟩:=TS l h.1 h.2;obtain ⟨w,hw,af⟩:=Na l h.1 h.2;have e:hE l=w:=by unfold hE; rw [hw]; rfl
 have b3:=h1.uniq af
 grind
def jT {α:Type}(keep:α->Bool) (val:α->Int) (l:List α):List cH:=(l.zipIdx.filter λp=>keep p.1).map λp=>(⟨(p.2:Nat),val p.1⟩:cH)
theorem Qx {α:Type}(keep:α->Bool) (val:α->Int) (l:List α) (x:α):jT keep val (l++[x])=jT keep val l++(if keep x=true then [(⟨l.length,val x⟩:cH)] else []):=by
 grind [jT]
theorem AT {α:Type}(keep:α->Bool) (val:α->Int) (l:List α):(jT keep val l).length<=l.length:=by
 grind [jT,List.length_zipIdx]
theorem K2 {α:Type}{keep:α->Bool}{val:α->Int}{l:List α}{p:cH}:p∈jT keep val l↔∃ (k:Nat) (x:α),l[k]?=some x/\keep x=true/\p=⟨k,val x⟩:=by
 unfold jT;rw [List.mem_map];constructor
 ·grind
 ·rintro ⟨k,x,h1,af,rfl⟩;exact ⟨(x,k),by rw [List.mem_filter,List.mem_zipIdx_iff_getElem?]; exact ⟨h1,af⟩,rfl⟩
def red (r:List Act):List Int:=(r.filter λa=>decide (a.Kind=2)).map (·.N)
theorem Z0 (r:List Act) (a:Act):red (r++[a])=red r++(if a.Kind=2 then [a.N] else []):=by
 grind [red]
theorem QC (r:List Act):(red r).length<=r.length:=by
 grind [red]
def o5 (a:Act):Int:=(oQ a).getD 0
theorem T8 (a:Act):AP a=some (o5 a)/\oQ a=some (o5 a):=by
 obtain ⟨c,aa,_⟩:=Rx a
 grind [o5,UX]
def oM (d:Int) (a:Act):Bool:=!decide (a.Kind=0)&&(!decide (a.Kind=2)||!decide (a.N=d))
def sD (r:List Act):Row:=⟨hE (red r),jT (oM (hE (red r))) o5 r⟩
def pg (d v:Int):Bool:=decide (0<=v)&&!decide (v=d)
def pos (c:List Int):List Int:=c.filter λv=>decide (0<=v)
theorem ZH (r:List Int) (a:Int):pos (r++[a])=pos r++(if 0<=a then [a] else []):=by
 grind [pos]
def qL (c:List Int):Row:=⟨hE (pos c),jT (pg (hE (pos c))) id c⟩
def gb (d:gW) (a:Nat):List Int:=d.eJ.map λr=>r.getD a 0
theorem QD {g:bA}{n:Nat}(aN:f' g) {r:List Act}(ah:r.length=g.bo.length) (h:∀ a∈r,oV g n a):HO (red r):=by
 have au:=aN.lk;have aq:=aN.jd;have:=QC r;refine ⟨by omega,λx J=>?_⟩;unfold red at J;obtain ⟨a,aJ,rfl⟩:=List.mem_map.1 J;rw [List.mem_filter] at aJ;have hk:=(h a aJ.1).ob (of_decide_eq_true aJ.2);have h1:=hk.1;have af:=hk.2;omega
theorem ZG {c:List Int}(ah:c.length<=150) (h:∀ v∈c,v<150):HO (pos c):=by
 have:=List.length_filter_le (λv:Int=>decide (0<=v)) c;refine ⟨by unfold pos; omega,λx J=>?_⟩
 grind [pos]
theorem TL (g:bA) (n:Nat) (d:gW) (aQ:yV g n d):Tot (DM d) λr=>r=d.cA.map sD:=by
 have aN:=aQ.o6;have au:=aN.lk;have aC:=aQ.gN;have aJ:=aQ.a;unfold DM;refine .aB (Ξ:=λr:List Row=>r=d.cA.map sD) ?_ λr hr=>.aj hr;refine Tot.upto (λs=>s.2) d.cA.length (λk s=>s.1=(d.cA.take k).map sD) rfl (by omega) rfl λk s hk he bc=>?_;obtain ⟨R,i⟩:=s;simp only at he bc ⊢;subst he bc;rw [eA k (by omega)];refine Tot.bt (λaP=>?_) (λdF=>.aj ?_)
 ·have aP:k<d.cA.length:=by omega
  have fP:=lG aP;obtain ⟨oH,vH⟩:=aQ.k5 _ (List.getElem_mem aP);simp only [dT aP,Option.bind_some];generalize d.cA[k]=r at *;have qz:=QD aN oH vH;obtain ⟨BO,UW,_⟩:=K' qz;refine .aB (Ξ:=λl:List Int=>l=red r) ?_ λl ah=>?_
  ·refine Tot.upto (λs=>s.2) r.length (λj s=>s.1=red (r.take j)) rfl (by omega) rfl λj s ag he bc=>?_;obtain ⟨L,i⟩:=s;simp only at he bc ⊢;subst he bc;rw [eA j (by omega)];refine Tot.bt (λfX=>?_) (λdF=>.aj ?_)
   ·have fX:j<r.length:=by omega
    have um:=lG fX;have hlen:=QC (r.take j);rw [List.length_take] at hlen;simp only [dT fX,Option.bind_some];generalize r[j]=a at *;refine .aB (Ξ:=λL:List Int=>L=red (r.take (j+1))) ?_ λr hr=>.aj ⟨fX,rfl,hr⟩;rw [um,Z0];refine .aB (Ξ:=λL:List Int=>L=red (r.take j)++(if a.Kind=2 then [a.N] else [])) (Tot.bt (λh=>?_) (λh=>.aj ?_)) λr hr=>.aj hr
    ·rw [if_pos h];exact .bJ<|.aj rfl
    grind
   grind
  ·subst ah;rw [BO];refine Tot.aV (.aB (Ξ:=λl:List cH=>l=jT (oM (hE (red r))) o5 r) ?_ λl ah=>?_)
   ·generalize hE (red r)=D;refine Tot.upto (λs=>s.2) r.length (λj s=>s.1=jT (oM D) o5 (r.take j)) rfl (by omega) rfl λj s ag he bc=>?_;obtain ⟨L,i⟩:=s;simp only at he bc ⊢;subst he bc;rw [eA j (by omega)];refine Tot.bt (λfX=>?_) (λdF=>.aj ?_)
    ·have fX:j<r.length:=by omega
     have um:=lG fX;have hlen:=AT (oM D) o5 (r.take j);have eF:(r.take j).length=j:=by rw [List.length_take]; omega
     rw [List.length_take] at hlen;simp only [dT fX,Option.bind_some];generalize r[j]=a at *;rw [(T8 a).1];refine .aB (Ξ:=λL:List cH=>L=jT (oM D) o5 (r.take (j+1))) ?_ λr hr=>.aj ⟨fX,rfl,hr⟩;rw [um,Qx,eF];refine .aB (Ξ:=λc:Bool=>c=oM D a) (Tot.bH (λh=>?_) (λh=>.aj ?_)) λc aa=>?_
     ·refine Tot.bH (λaf=>.aj ?_) (λaf=>.aj ?_)
      all_goals grind [oM]
     ·grind [oM]
     subst aa;refine .aB (Ξ:=λL:List cH=>L=jT (oM D) o5 (r.take j)++(if oM D a=true then [(⟨j,o5 a⟩:cH)] else [])) (Tot.bH (λh=>?_) (λh=>.aj ?_)) λr hr=>.aj hr
     ·rw [if_pos h];exact Tot.aV (.bJ<|.aj rfl)
     grind
    grind
   ·subst ah;refine .bJ<|.aj ⟨aP,rfl,?_⟩
    grind [sD]
 grind
theorem BH (d:gW) (a:Nat):(gb d a).length=d.eJ.length:=by simp [gb]
theorem Nf {d:gW}{a q:Nat}(h:q<d.eJ.length):(gb d a).take (q+1)=(gb d a).take q++[(d.eJ[q]).getD a 0]:=by
 rw [lG (by rw [BH]; exact h)];congr 2;simp [gb]
theorem T9 {g:bA}{n:Nat}{d:gW}(aQ:yV g n d) {a:Nat}(aJ:a<g.dD.length):∀ v∈gb d a,-1<=v/\v<n:=λv hv=>by
 unfold gb at hv;obtain ⟨r,hr,rfl⟩:=List.mem_map.1 hv;obtain ⟨h1,af⟩:=aQ.Gq r hr;refine af _ ?_;rw [List.getD_eq_getElem?_getD,List.getElem?_eq_getElem (by omega)];exact List.getElem_mem _
theorem Ph {r:List Int}{a:Nat}(h:a<r.length):idx r (a:Int)=some (r.getD a 0):=by
 rw [dT h,List.getD_eq_getElem?_getD,List.getElem?_eq_getElem h]; rfl
theorem ZF (c:List Int):(pos c).length<=c.length:=List.length_filter_le ..
theorem TM (g:bA) (n:Nat) (d:gW) (aQ:yV g n d):Tot (DN d) λr=>r=(List.range g.dD.length).map λa=>qL (gb d a):=by
 have aN:=aQ.o6;have au:=aN.e1;have aC:=aQ.gN;have aJ:=aQ.o;have aK:0<d.eJ.length:=by omega
 obtain ⟨aeH,_⟩:=aQ.Gq _ (List.getElem_mem aK);have i0:idx d.eJ 0=some d.eJ[0]:=dT (k:=0) aK;unfold DN;refine Tot.bt (λh=>absurd h (by omega)) (λ_=>?_);rw [i0];refine Tot.aV (.aB (Ξ:=λr:List Row=>r=(List.range g.dD.length).map λa=>qL (gb d a)) ?_ λr hr=>.aj hr);refine Tot.upto (λs=>s.2) g.dD.length (λk s=>s.1=(List.range k).map λa=>qL (gb d a)) rfl (by omega) rfl λk s hk he bc=>?_;obtain ⟨R,i⟩:=s;simp only at he bc ⊢;subst he bc;rw [eA k (by omega)];refine Tot.bt (λaP=>?_) (λdF=>.aj ?_)
 ·have ih:k<g.dD.length:=by omega
  have qz:=ZG (c:=gb d k) (by rw [BH]; omega) λv hv=>by have:=(T9 aQ ih v hv).2; omega
  obtain ⟨BO,UW,_⟩:=K' qz;have hT:=BH d k;refine .aB (Ξ:=λl:List Int=>l=pos (gb d k)) ?_ λl ah=>?_
  ·refine Tot.upto (λs=>s.2) d.eJ.length (λj s=>s.1=pos ((gb d k).take j)) rfl (by omega) rfl λj s ag he bc=>?_;obtain ⟨L,i⟩:=s;simp only at he bc ⊢;subst he bc;rw [eA j (by omega)];refine Tot.bt (λfX=>?_) (λdF=>.aj ?_)
   ·have fX:j<d.eJ.length:=by omega
    have um:=Nf (a:=k) fX;have hlen:=ZF ((gb d k).take j);rw [List.length_take] at hlen;obtain ⟨oH,_⟩:=aQ.Gq _ (List.getElem_mem fX);simp only [dT fX,Option.bind_some,Ph (show k<(d.eJ[j]).length by omega)];generalize (d.eJ[j]).getD k 0=v at *;refine .aB (Ξ:=λL:List Int=>L=pos ((gb d k).take (j+1))) ?_ λr hr=>.aj ⟨fX,rfl,hr⟩;rw [um,ZH];refine .aB (Ξ:=λL:List Int=>L=pos ((gb d k).take j)++(if 0<=v then [v] else [])) (Tot.bt (λh=>?_) (λh=>.aj ?_)) λr hr=>.aj hr
    ·rw [if_pos h];exact .bJ<|.aj rfl
    ·rw [if_neg h,List.append_nil]
   ·have e:(gb d k).take j=gb d k:=List.take_of_length_le (by omega);rw [e]; rfl
  ·subst ah;rw [BO];refine Tot.aV (.aB (Ξ:=λl:List cH=>l=jT (pg (hE (pos (gb d k)))) id (gb d k)) ?_ λl ah=>?_)
   ·generalize hE (pos (gb d k))=D;refine Tot.upto (λs=>s.2) d.eJ.length (λj s=>s.1=jT (pg D) id ((gb d k).take j)) rfl (by omega) rfl λj s ag he bc=>?_;obtain ⟨L,i⟩:=s;simp only at he bc ⊢;subst he bc;rw [eA j (by omega)];refine Tot.bt (λfX=>?_) (λdF=>.aj ?_)
    ·have fX:j<d.eJ.length:=by omega
     have um:=Nf (a:=k) fX;have hlen:=AT (pg D) id ((gb d k).take j);have eF:((gb d k).take j).length=j:=by rw [List.length_take]; omega
     rw [eF] at hlen;obtain ⟨oH,_⟩:=aQ.Gq _ (List.getElem_mem fX);simp only [dT fX,Option.bind_some,Ph (show k<(d.eJ[j]).length by omega)];generalize (d.eJ[j]).getD k 0=v at *;refine .aB (Ξ:=λL:List cH=>L=jT (pg D) id ((gb d k).take (j+1))) ?_ λr hr=>.aj ⟨fX,rfl,hr⟩;rw [um,Qx,eF];refine .aB (Ξ:=λc:Bool=>c=pg D v) (Tot.bH (λh=>.aj ?_) (λh=>.aj ?_)) λc aa=>?_
     ·unfold pg; rw [h]; rfl
     ·unfold pg; rw [h]; rfl
     subst aa;refine .aB (Ξ:=λL:List cH=>L=jT (pg D) id ((gb d k).take j)++(if pg D v=true then [(⟨j,id v⟩:cH)] else [])) (Tot.bH (λh=>?_) (λh=>.aj ?_)) λr hr=>.aj hr
     ·rw [if_pos h];exact .bJ<|.aj rfl
     ·rw [if_neg (by rw [h]; decide),List.append_nil]
    ·have e:(gb d k).take j=gb d k:=List.take_of_length_le (by omega);rw [e]; rfl
   ·subst ah;refine .bJ<|.aj ⟨ih,rfl,?_⟩;show _=(List.range (k+1)).map λa=>qL (gb d a);rw [List.range_succ,List.map_append]; rfl
 ·have:k=g.dD.length:=by omega
  subst this; rfl
theorem ZK {α:Type}(keep:α->Bool) (val:α->Int) (l:List α):(jT keep val l).Pairwise λa b=>a.At<b.At:=by
 unfold jT;rw [List.pairwise_map];refine List.Pairwise.sublist List.filter_sublist ?_;rw [List.pairwise_iff_getElem];intro i j hi ag aet;simp only [List.getElem_zipIdx];omega
theorem Tt (P:List cH) (i:Int) (h:P.length<=1000000):Tot (Ar P i) λr=>(∃ v,(⟨i,v⟩:cH)∈P/\r=(v,true))\/((∀ v,(⟨i,v⟩:cH)∉P)/\r=(0,false)):=by
 unfold Ar;refine .aB (Ξ:=ie (λ_=>∀ v,(⟨i,v⟩:cH)∉P) (λr:Int × Bool=>∃ v,(⟨i,v⟩:cH)∈P/\r=(v,true))) ?_ λx J=>?_
 ·refine Tot.upto (λs=>s) P.length (λk _=>∀ v,(⟨i,v⟩:cH)∉P.take k) rfl (by omega) (by simp) λk s hk he bc=>?_;subst he;rw [eA k (by omega)];refine Tot.bt (λaP=>?_) (λ_=>.aj ?_)
  ·have aP:k<P.length:=by omega
   have fP:=lG aP;have hm:=List.getElem_mem aP;simp only [dT aP,Option.bind_some];generalize P[k]=p at *;refine Tot.bt (λe=>.aj ⟨p.b',by rw [<- e]; exact hm,rfl⟩) (λe=>.aj ⟨aP,rfl,λv hv=>?_⟩);rw [fP,List.mem_append,List.mem_singleton] at hv;rcases hv with hv | hv
   ·exact bc v hv
   ·exact e (by rw [<- hv])
  ·have e:P.take k=P:=List.take_of_length_le (by omega);rw [e] at bc;exact bc
 ·rcases x with x | x
  ·exact .aj (.inr ⟨J,rfl⟩)
  ·exact .aj (.inl J)
theorem Vp {α:Type}{keep:α->Bool}{val:α->Int}{l:List α}{k:Nat}{x:α}(ah:l.length<=1000000) (hk:l[k]?=some x):Ar (jT keep val l) (k:Int)=some (if keep x=true then (val x,true) else (0,false)):=by
 obtain ⟨r,hr,h⟩:=Tt (jT keep val l) k (by have:=AT keep val l; omega);rw [hr];have key:∀ v,(⟨(k:Nat),v⟩:cH)∈jT keep val l↔keep x=true/\v=val x:=λv=>by
  rw [K2];constructor
  ·rintro ⟨j,y,h1,af,aE⟩;simp only [cH.mk.injEq] at aE;have:k=j:=by omega
   subst this;rw [hk] at h1; cases h1;exact ⟨af,aE.2⟩
  ·rintro ⟨h1,rfl⟩;exact ⟨k,x,hk,h1,rfl⟩
 rcases h with ⟨v,h1,rfl⟩ | ⟨h1,rfl⟩
 ·obtain ⟨af,rfl⟩:=(key v).1 h1;rw [if_pos af]
 ·rw [if_neg λh=>h1 (val x) ((key _).2 ⟨h,rfl⟩)]
theorem T7 {g:bA}{n:Nat}(aN:f' g) (aC:n<=150) {a:Act}(h:oV g n a) (aK:a.Kind≠0):yb (o5 a)=some a:=by
 rw [UT];obtain ⟨c,aa,aQ⟩:=TT a;have aq:=aN.jd;have:o5 a=c:=by unfold o5; rw [aa]; rfl
 rw [this];refine aQ.resolve_left λe=>?_;subst e;obtain ⟨K,N⟩:=a;have h1:=h.k;simp only at h1 aK;have:K=1\/K=2\/K=3\/K=4:=by omega
 rcases this with rfl | rfl | rfl | rfl
 ·have af:=h.nE rfl;simp only at af;have aE:0<=N/\N<=19999:=by omega
  have e:aG (N+1)=N+1:=by rw [cv]; omega
  simp [oQ,aE,e] at aa;omega
 ·have af:=h.ob rfl;have bm:=af.1;have b7:=af.2;simp only at bm b7;have aE:1<=N/\N<=19999:=by omega
  have e:aG (-N)=-N:=by rw [cv]; omega
  simp [oQ,aE,e] at aa;omega
 ·have af:N=0:=h.PT rfl;subst af;have:oQ ⟨3,0⟩=some 20001:=by decide
  rw [this] at aa; cases aa
 ·have af:N=0:=h.YY rfl;subst af;have:oQ ⟨4,0⟩=some 20002:=by decide
  rw [this] at aa; cases aa
abbrev fz:=List cH
structure lN (r:fz):Prop where
 mL:∀ p∈r,0<=p.At/\p.At<=999
 nd:(r.map (·.At)).Nodup
def Fit (jm:List Int) (r:fz) (b:Nat):Prop:=∀ p∈r,jm.getD (b+p.At.toNat) 0=0
theorem tg {α:Type}{l:List α}{k:Nat}(h:k<l.length):idx l (k:Int)=some l[k]:=by simp [idx,h]
theorem TD (p:cH) (b:Nat) (jm:List Int) (aq:0<=p.At/\p.At<=999) (ar:b<=1000000000000) (aa:jm.length<=1000000000000):Tot (DB p b jm) λc=>(c=true↔jm.getD (b+p.At.toNat) 0≠0):=by
 unfold DB;have hw:aG ((b:Int)+p.At)=((b+p.At.toNat:Nat):Int):=by rw [cv]; omega
 rw [hw];refine .aB (Ξ:=λc=>(c=true↔jm.getD (b+p.At.toNat) 0≠0)) (Tot.bt (λh=>?_) (λh=>.aj ?_)) λc aa=>.aj aa
 ·have ah:b+p.At.toNat<jm.length:=by omega
  rw [tg ah];refine Tot.aV (.aj ?_);rw [List.getD_eq_getElem?_getD,List.getElem?_eq_getElem ah];simp
 ·have ah:¬ b+p.At.toNat<jm.length:=by omega
  rw [List.getD_eq_getElem?_getD,List.getElem?_eq_none (by omega)];simp
theorem Tx (jm:List Int) (r:fz) (b:Nat) (hr:∀ p∈r,0<=p.At/\p.At<=999) (ah:r.length<=100000) (ar:b<=1000000000000) (aa:jm.length<=1000000000000):Tot (x9 jm r b) λc=>(c=true↔Fit jm r b):=by
 unfold x9 Gt Gu;refine .aB (Ξ:=λx=>x=true↔¬ Fit jm r b) (.aB (Ξ:=λx=>(x=-1/\Fit jm r b)\/(0<=x/\¬ Fit jm r b)) ?_ λx J=>.aj ?_) λx J=>.aj ?_
 ·refine Tot.aB (Tot.scan r (λp=>jm.getD (b+p.At.toNat) 0=0) (λx:Int=>0<=x/\¬ Fit jm r b) (by omega) (λs y aK h1 hi hm=>?_) (λs av=>by simp [av])) λx J=>?_
  ·refine Tot.bt (λ_=>?_) (λh=>absurd h1 h);rw [hi];refine Tot.aV (.aB (TD y b jm (hr y hm) ar aa) λc xn=>Tot.bH (λh=>.aj ⟨aK,λaU=>(xn.1 h) (aU y hm)⟩) (λh=>.aj ⟨?_,?_⟩))
   ·rw [cv]; omega
   ·exact Classical.byContradiction λaC=>by rw [xn.2 aC] at h; cases h
  ·rcases x with _ | x
   ·exact .aj (.inl ⟨rfl,J⟩)
   ·exact .aj (.inr J)
 ·rcases J with ⟨rfl,aU⟩ | ⟨aK,aU⟩
  ·simp [aU]
  ·simp [aK,aU]
 ·cases x <;> simp_all
theorem TN (a b:Int):tp a b=some (if a<b then -1 else if b<a then 1 else 0):=by
 unfold tp;have h:∀ x,wh x=some false:=λx=>by simp [wh]
 rw [h,h];by_cases h1:a<b
 ·simp [h1]
 ·by_cases af:b<a <;> simp [h1,af]
theorem Tw (a b:Int):Ds [a,b]=some (if a=0 then b else a):=by
 unfold Ds;have hD:∀ (f:Int->Option (Int ⊕ (Unit ⊕ Int))),f 0=(if a=0 then some (.inl 1) else some (.inr (.inr a)))->f 1=(if b=0 then some (.inl 2) else some (.inr (.inr b)))->f 2=some (.inr (.inl ()))->cd f 0=some (if a=0 then (if b=0 then .inl () else .inr b) else .inr a):=by
  intro f x y z;show iter f (999999999999999997+1+1+1) _=_;by_cases aJ:a=0
  ·by_cases ar:b=0 <;> simp only [iter,x,y,z,aJ,ar,if_true,if_false]
  ·simp only [iter,x,aJ,if_false]
 rw [hD _ ?_ ?_ ?_]
 ·by_cases aJ:a=0
  ·by_cases ar:b=0 <;> simp [aJ,ar]
  ·simp [aJ]
 ·show (bif decide ((0:Int)<2) then _ else _)=_;have e:idx [a,b] 0=some a:=rfl;simp only [e,Option.bind_some];by_cases aJ:a=0 <;> simp [aJ];rfl
 ·show (bif decide ((1:Int)<2) then _ else _)=_;have e:idx [a,b] 1=some b:=rfl;simp only [e,Option.bind_some];by_cases ar:b=0 <;> simp [ar];rfl
 ·rfl
def EB (rows:List fz) (a b:Int):Prop:=∃ x y,idx rows a=some x/\idx rows b=some y/\(y.length<x.length\/(x.length=y.length/\a<b))
theorem FX {α:Type}{l:List α}{i:Int}(aK:0<=i) (h1:i<l.length):∃ y,idx l i=some y/\y∈l:=by
 have aP:i.toNat<l.length:=by omega
 exact ⟨l[i.toNat],by simp [idx,aK,aP],List.getElem_mem aP⟩
theorem Tv (rows:List fz) (a b:Int) (aJ:0<=a/\a<rows.length) (ar:0<=b/\b<rows.length):∃ v,vZ a b rows=some v/\(v<0↔EB rows a b):=by
 obtain ⟨x,J,_⟩:=FX aJ.1 aJ.2;obtain ⟨y,ao,_⟩:=FX ar.1 ar.2;unfold vZ;rw [J,ao];simp only [Option.bind_some,TN,Tw];have eX:EB rows a b↔(y.length<x.length\/(x.length=y.length/\a<b)):=by
  unfold EB;rw [J,ao];constructor
  ·rintro ⟨x',y',b9,b3,h⟩;cases b9; cases b3; exact h
  ·intro h;exact ⟨x,y,rfl,rfl,h⟩
 refine ⟨_,rfl,?_⟩;rw [eX];by_cases h1:(y.length:Int)<x.length
 ·simp only [h1,if_true];rw [if_neg (by decide)];constructor
  ·intro _; exact .inl (by omega)
  ·intro _; decide
 ·by_cases af:(x.length:Int)<y.length
  ·simp only [h1,af,if_true,if_false];rw [if_neg (by decide)];constructor
   ·intro h; exact absurd h (by decide)
   ·rintro (h | ⟨h,_⟩) <;> omega
  ·simp only [h1,af,if_false,if_true];by_cases aE:a<b
   ·simp only [aE,if_true];constructor
    ·intro _; exact .inr ⟨by omega,trivial⟩
    ·intro _; decide
   ·simp only [aE,if_false];constructor
    ·intro h
     split at h <;> omega
    ·rintro (h | ⟨_,h⟩)
     ·omega
     ·exact h.elim
structure tG (c:h6) (r:fz) (i b:Nat) (v bY:List Int):Prop where
 len:v.length=bY.length
 lo:c.b8.length<=bY.length
 Pk:∀ p∈r,b+p.At.toNat<bY.length
 hi:bY.length=c.b8.length\/∃ p∈r,bY.length=b+p.At.toNat+1
 jm:∀ p∈r,bY.getD (b+p.At.toNat) 0=(i:Int)+1
 BG:∀ k,(∀ p∈r,b+p.At.toNat≠k)->bY.getD k 0=c.b8.getD k 0
 val:∀ p∈r,v.getD (b+p.At.toNat) 0=p.b'
 LV:∀ k,(∀ p∈r,b+p.At.toNat≠k)->v.getD k 0=c.b'.getD k 0
structure Step (r:fz) (i:Nat) (c cc:h6) (b:Nat):Prop where
 fit:Fit c.b8 r b
 least:∀ dR,dR<b->¬ Fit c.b8 r dR
 base:cc.cZ=c.cZ.set i (b:Int)
 put:tG c r i b cc.b' cc.b8
inductive ot (rows:List fz):List Nat->h6->Prop
 | nil:ot rows [] ⟨List.replicate rows.length 0,[],[]⟩
 | cons {i b:Nat}{l:List Nat}{c cc:h6}{r:fz}(hr:rows[i]?=some r) (hi:i∉l) (h:ot rows l c) (av:Step r i c cc b):ot rows (i::l) cc
theorem ot.len {rows:List fz}{l:List Nat}{c:h6}(h:ot rows l c):c.b'.length=c.b8.length/\c.cZ.length=rows.length:=by
 induction h with
 | nil=>simp
 | cons _ _ _ av aO=>exact ⟨av.put.len,by rw [av.base,List.length_set]; exact aO.2⟩
theorem ot.rest {rows:List fz}{l:List Nat}{c:h6}(h:ot rows l c):∀ j,j<rows.length->j∉l->c.cZ[j]?=some 0:=by
 induction h with
 | nil=>intro j ag _; simp [ag]
 | @cons i b l c cc r hr hi h av aO =>
  intro j ag aC;rw [av.base,List.getElem?_set_ne (by rintro rfl; exact aC (by simp))];exact aO j ag λbO=>aC (by simp [bO])
theorem pad (x y:Int) (K:Nat) (c5:aG (x+y)=(K:Int)) (aea:K<=1000000000) (v bY:List Int) (ah:v.length=bY.length) (ar:bY.length<=1000000000) :
  Tot (cd (R:=List Int × List Int) (λ(s:List Int × List Int) =>
(bif decide ((s.2.length:Int)<=aG (x+y)) then
(c8 s.2 [0]).bind λgO =>
(c8 s.1 [0]).bind λkV =>
some (.inl (s.1++[0],s.2++[0]))
else
some (.inr (s.1,s.2)))) (v,bY)) λr=>r.1.length=r.2.length/\r.2.length=max bY.length (K+1)/\(∀ k,r.1.getD k 0=v.getD k 0)/\∀ k,r.2.getD k 0=bY.getD k 0:=by
 have app:∀ (l:List Int) k,(l++[0]).getD k 0=l.getD k 0:=by
  intro l k;rw [List.getD_eq_getElem?_getD,List.getD_eq_getElem?_getD];by_cases hk:k<l.length
  ·rw [List.getElem?_append_left hk]
  ·rw [List.getElem?_append_right (by omega),List.getElem?_eq_none (l:=l) (by omega)];by_cases aK:k - l.length=0
   ·rw [aK]; rfl
   ·rw [List.getElem?_eq_none (by simp; omega)]
 refine Tot.loop (λs=>s.1.length=s.2.length/\bY.length<=s.2.length/\s.2.length<=max bY.length (K+1)/\(∀ k,s.1.getD k 0=v.getD k 0)/\∀ k,s.2.getD k 0=bY.getD k 0) (λs=>(K+1) - s.2.length) ⟨ah,Nat.le_refl _,Nat.le_max_left _ _,λ_=>rfl,λ_=>rfl⟩ (by show (K+1) - bY.length<1000000000000000000; omega) λs av=>?_;obtain ⟨h1,af,aE,bm,b7⟩:=av;rw [c5];refine Tot.bt (λhle=>?_) (λaeo=>.aj ⟨h1,?_,bm,b7⟩)
 ·refine .bJ<|.bJ<|.aj ⟨⟨?_,?_,?_,λk=>?_,λk=>?_⟩,?_⟩
  ·show (s.1++[0]).length=(s.2++[0]).length; simp [h1]
  ·show bY.length<=(s.2++[0]).length; simp; omega
  ·show (s.2++[0]).length<=_; simp; omega
  ·exact (app _ _).trans (bm k)
  ·exact (app _ _).trans (b7 k)
  ·show (K+1) - (s.2++[0]).length<(K+1) - s.2.length;simp; omega
 ·show s.2.length=_; omega
theorem zA (l:List Int) (K k:Nat) (x:Int) (h:K<l.length):(l.set K x).getD k 0=if k=K then x else l.getD k 0:=by
 rw [List.getD_eq_getElem?_getD,List.getElem?_set];by_cases e:k=K
 ·subst e; simp [h]
 ·simp [e,Ne.symm e,List.getD_eq_getElem?_getD]
theorem tG.more {c:h6}{r:fz}{p:cH}{i b:Nat}{v bY dK BF:List Int}(h:tG c r i b v bY) (aq:∀ q∈r,q.At.toNat≠p.At.toNat) (ah:dK.length=BF.length) (hlen:BF.length=max bY.length (b+p.At.toNat+1)) (hv:∀ k,dK.getD k 0=v.getD k 0) (aa:∀ k,BF.getD k 0=bY.getD k 0) :
  tG c (r++[p]) i b (dK.set (b+p.At.toNat) p.b') (BF.set (b+p.At.toNat) ((i:Int)+1)):=by
 have c5:b+p.At.toNat<BF.length:=by omega
 have mem:∀ {Q:cH->Prop},(∀ q∈r,Q q)->Q p->∀ q∈r++[p],Q q:=λh1 af q a_=>by
  rcases List.mem_append.1 a_ with a_ | a_
  ·exact h1 q a_
  ·rw [List.mem_singleton.1 a_]; exact af
 refine ⟨by simp [ah],?_,mem (λq a_=>?_) ?_,?_,mem (λq a_=>?_) ?_,λk hk=>?_,mem (λq a_=>?_) ?_,λk hk=>?_⟩
 ·rw [List.length_set]; have:=h.lo; omega
 ·rw [List.length_set]; have:=h.Pk q a_; omega
 ·rw [List.length_set]; exact c5
 ·rw [List.length_set];by_cases hm:bY.length<=b+p.At.toNat+1
  ·exact .inr ⟨p,by simp,by omega⟩
  ·rcases h.hi with e | ⟨q,a_,e⟩
   ·exact .inl (by omega)
   ·exact .inr ⟨q,by simp [a_],by omega⟩
 ·rw [zA _ _ _ _ c5,if_neg (by have:=aq q a_; omega),aa]; exact h.jm q a_
 ·rw [zA _ _ _ _ c5,if_pos rfl]
 ·rw [zA _ _ _ _ c5,if_neg (λe=>hk p (by simp) e.symm),aa]; exact h.BG k λq a_=>hk q (by simp [a_])
 ·rw [zA _ _ _ _ (by rw [ah]; exact c5),if_neg (by have:=aq q a_; omega),hv]; exact h.val q a_
 ·rw [zA _ _ _ _ (by rw [ah]; exact c5),if_pos rfl]
 ·rw [zA _ _ _ _ (by rw [ah]; exact c5),if_neg (λe=>hk p (by simp) e.symm),hv]; exact h.LV k λq a_=>hk q (by simp [a_])
theorem tG.nil (c:h6) (i b:Nat) (ah:c.b'.length=c.b8.length):tG c [] i b c.b' c.b8 :=
 ⟨ah,Nat.le_refl _,λ_ h=>absurd h (by simp),.inl rfl,λ_ h=>absurd h (by simp),λ_ _=>rfl,λ_ h=>absurd h (by simp),λ_ _=>rfl⟩
theorem Fit.Ny {jm:List Int}{r:fz}{b:Nat}(h:jm.length<=b):Fit jm r b:=λp _=>by
 rw [List.getD_eq_getElem?_getD,List.getElem?_eq_none (by omega)]; rfl
theorem Q5 {r:fz}{k:Nat}(hr:lN r) (hk:k<r.length):∀ q∈r.take k,q.At.toNat≠(r[k]).At.toNat:=by
 intro q a_ e;obtain ⟨j,ag,rfl⟩:=List.mem_iff_getElem.1 a_;rw [List.length_take] at ag;have eF:j<r.length:=by omega
 rw [List.getElem_take] at e;have h1:=hr.mL _ (List.getElem_mem eF);have af:=hr.mL _ (List.getElem_mem hk);have eG:=hr.nd;have:=(List.getElem_inj (h₀:=by simpa using eF) (h₁:=by simpa using hk) eG).1 (by simp only [List.getElem_map]; omega);omega
structure qc (rows:List fz):Prop where
 n:rows.length<=400
 rows:∀ r∈rows,lN r
structure ER (rows:List fz):Prop where
 n:rows.length<=1000
 r:∀ r∈rows,r.length<=1000
theorem aar (rows:List fz) (eX:ER rows) (i:Nat) (r:fz) (hr:rows[i]?=some r) (lY:lN r) (c:h6) (aa:c.b8.length<=900000) (aK:c.cZ[i]?=some 0) (fits:List Int->fz->Int->Option Bool)
  (aU:∀ b:Nat,b<=1000000->Tot (fits c.b8 r b) λx=>(x=true↔Fit c.b8 r b)) :
  Tot (cd (R:=List Int) (λ(dk:List Int) =>
(idx rows (i:Int)).bind λiC =>
(idx dk (i:Int)).bind λf_ =>
(fits c.b8 iC f_).bind λhf =>
(bif !hf then
(idx dk (i:Int)).bind λjW =>
some (.inl (dk.set (i:Int).toNat (aG (jW+1))))
else
some (.inr dk))) c.cZ) λB=>∃ b:Nat,B=c.cZ.set i (b:Int)/\Fit c.b8 r b/\(∀ dR,dR<b->¬ Fit c.b8 r dR)/\b<=c.b8.length:=by
 have uh:i<c.cZ.length:=(List.getElem?_eq_some_iff.1 aK).1;have Cq:idx rows (i:Int)=some r:=by simp [idx,hr]
 have XL:c.cZ=c.cZ.set i 0:=by
  apply List.ext_getElem?;intro k;rw [List.getElem?_set];by_cases e:i=k
  ·subst e; rw [aK]; simp [uh]
  ·simp [e]
 have key:Tot (cd (R:=List Int) (λ(dk:List Int) =>
(idx rows (i:Int)).bind λiC =>
(idx dk (i:Int)).bind λf_ =>
(fits c.b8 iC f_).bind λhf =>
(bif !hf then
(idx dk (i:Int)).bind λjW =>
some (.inl (dk.set (i:Int).toNat (aG (jW+1))))
else
some (.inr dk))) (c.cZ.set i 0)) λB=>∃ b:Nat,B=c.cZ.set i (b:Int)/\Fit c.b8 r b/\(∀ dR,dR<b->¬ Fit c.b8 r dR)/\b<=c.b8.length:=by
  refine Tot.loop (λs=>∃ b:Nat,s=c.cZ.set i (b:Int)/\(∀ dR,dR<b->¬ Fit c.b8 r dR)/\b<=c.b8.length) (λs=>c.b8.length+1 - (s.getD i 0).toNat) ⟨0,rfl,λdR h=>absurd h (Nat.not_lt_zero _),Nat.zero_le _⟩ (by show c.b8.length+1 - _<1000000000000000000; omega) λs av=>?_;obtain ⟨b,rfl,ah,ar⟩:=av;have Kc:idx (c.cZ.set i (b:Int)) (i:Int)=some (b:Int):=by
   simp [idx,uh]
  rw [Cq,Kc];refine Tot.aV (Tot.aV (.aB (aU b (by omega)) λx J=>?_));refine Tot.bH (λh=>Tot.aV (.aj ⟨⟨b+1,?_,λdR j7=>?_,?_⟩,?_⟩)) (λh=>.aj ⟨b,rfl,J.1 (by simpa using h),ah,ar⟩)
  ·have hw:aG ((b:Int)+1)=((b+1:Nat):Int):=by rw [cv]; omega
   rw [hw];show (c.cZ.set i (b:Int)).set i _=_;rw [List.set_set]
  ·by_cases e:dR=b
   ·subst e;intro xp;rw [J.2 xp] at h; cases h
   ·exact ah dR (by omega)
  ·have:¬ c.b8.length<=b:=λaI=>by
    rw [J.2 (Fit.Ny aI)] at h; cases h
   omega
  ·have hw:aG ((b:Int)+1)=((b+1:Nat):Int):=by rw [cv]; omega
   rw [hw];show c.b8.length+1 - ((((c.cZ.set i (b:Int)).set i ((b+1:Nat):Int)).getD i 0).toNat)<c.b8.length+1 - ((c.cZ.set i (b:Int)).getD i 0).toNat;rw [List.set_set];have g:∀ x:Int,(c.cZ.set i x).getD i 0=x:=λx=>by simp [List.getD_eq_getElem?_getD,uh]
   rw [g,g];have:¬ c.b8.length<=b:=λaI=>by
    rw [J.2 (Fit.Ny aI)] at h; cases h
   omega
 rw [<- XL] at key;exact key
theorem ZM (r:fz) (lY:lN r) (oH:r.length<=1000) (i b:Nat) (hi:i<=100000) (c:h6) (hT:c.b'.length=c.b8.length) (aa:c.b8.length<=900000) (ar:b<=c.b8.length)
  (f:List Int × List Int × Int->Option ((List Int × List Int × Int) ⊕ (List Int × List Int)))
  (aU:∀ (v bY:List Int) (k:Nat) (hk:k<r.length),f (v,bY,(k:Int))=(cd (R:=List Int × List Int) (λ(s:List Int × List Int) =>
(bif decide ((s.2.length:Int)<=aG ((b:Int)+(r[k]).At)) then
(c8 s.2 [0]).bind λgO =>
(c8 s.1 [0]).bind λkV =>
some (.inl (s.1++[0],s.2++[0]))
else
some (.inr (s.1,s.2)))) (v,bY)).bind λfv =>
(idx fv.2 (aG ((b:Int)+(r[k]).At))).bind λwz =>
(idx fv.1 (aG ((b:Int)+(r[k]).At))).bind λHv =>
some (.inl (fv.1.set (aG ((b:Int)+(r[k]).At)).toNat (r[k]).b',fv.2.set (aG ((b:Int)+(r[k]).At)).toNat (aG ((i:Int)+1)),aG ((k:Int)+1))))
  (he:∀ (v bY:List Int) (k:Int),¬ k<r.length->f (v,bY,k)=some (.inr (v,bY))) :
  Tot (cd f (c.b',c.b8,0)) λx=>tG c r i b x.1 x.2/\x.2.length<=c.b8.length+1000:=by
 refine Tot.count (λs=>s.2.2) r.length (λs=>∃ k:Nat,k<=r.length/\s.2.2=(k:Int)/\tG c (r.take k) i b s.1 s.2.1) ⟨0,Nat.zero_le _,rfl,tG.nil c i b hT⟩ (by show (r.length:Int) - 0<_; omega) λs av=>?_;obtain ⟨v,bY,kc⟩:=s;obtain ⟨k,hk,rfl,bT⟩:=av;simp only at bT ⊢;by_cases aP:k<r.length
 ·rw [aU v bY k aP];have aq:=lY.mL _ (List.getElem_mem aP);have c5:aG ((b:Int)+(r[k]).At)=((b+(r[k]).At.toNat:Nat):Int):=by rw [cv]; omega
  have aef:bY.length<=1000000:=by
   rcases bT.hi with e | ⟨q,a_,e⟩
   ·omega
   ·have:=lY.mL q (List.mem_of_mem_take a_);omega
  refine .aB (pad _ _ _ c5 (by omega) v bY bT.len (by omega)) λx J=>?_;obtain ⟨h1,af,aE,bm⟩:=J;rw [c5];have zO:b+(r[k]).At.toNat<x.2.length:=by omega
  have Xo:b+(r[k]).At.toNat<x.1.length:=by omega
  rw [tg zO,tg Xo];have X1:aG ((i:Int)+1)=(i:Int)+1:=by rw [cv]; omega
  have sk:aG ((k:Int)+1)=((k+1:Nat):Int):=by rw [cv]; omega
  rw [X1,sk];refine Tot.aV (Tot.aV (.aj ⟨⟨k+1,by omega,rfl,?_⟩,?_,?_⟩))
  ·rw [List.take_add_one,List.getElem?_eq_getElem aP];exact bT.more (Q5 lY aP) h1 af aE bm
  ·grind
  grind
 ·rw [he v bY k (by omega)];have:k=r.length:=by omega
  subst this;rw [List.take_length] at bT;refine .aj ⟨bT,?_⟩;show bY.length<=c.b8.length+1000;rcases bT.hi with e | ⟨q,a_,e⟩
  ·omega
  ·have:=lY.mL q a_;omega
theorem lN.snoc {r:fz}{p:cH}(h:lN r) (aq:0<=p.At/\p.At<=999) (aC:p.At∉r.map (·.At)):lN (r++[p]):=by
 refine ⟨λq a_=>?_,?_⟩
 ·rcases List.mem_append.1 a_ with a_ | a_
  ·exact h.mL q a_
  ·rw [List.mem_singleton.1 a_]; exact aq
 ·rw [List.map_append,List.nodup_append];refine ⟨h.nd,by simp,λa aJ b ar e=>?_⟩;have ar:b∈[p.At]:=ar;rw [List.mem_singleton.1 ar] at e;exact aC (e ▸ aJ)
theorem lN.nil:lN []:=⟨λ_ h=>absurd h (by simp),by simp⟩
theorem lN.bad {r:fz}{k:Nat}(hk:k<r.length) (h:¬ (0<=(r[k]).At/\(r[k]).At<=999)\/(r[k]).At∈(r.take k).map (·.At)):¬ lN r:=by
 intro hr;rcases h with h | h
 ·exact h (hr.mL _ (List.getElem_mem hk))
 ·obtain ⟨q,a_,e⟩:=List.mem_map.1 h;exact Q5 hr hk q a_ (by have e:q.At=(r[k]).At:=e; rw [e])
theorem aaa {rows:List fz}{r:fz}(hr:r∈rows) (h:¬ lN r):¬ qc rows:=λbO=>h (bO.rows r hr)
theorem LR {r:fz}{k:Nat}(h:k<r.length):r.take (k+1)=r.take k++[r[k]]:=by
 rw [List.take_add_one,List.getElem?_eq_getElem h]; rfl
theorem Tu (rows:List fz) (eX:ER rows):Tot (As rows) λc=>(c=true↔qc rows):=by
 unfold As;have aC:=eX.n;refine Tot.bt (λh=>.aj ⟨λh=>(by cases h),λbO=>by have:=bO.n; omega⟩) (λadX=>?_);refine Tot.aB (Tot.scan rows lN (λx:Bool=>x=false/\¬ qc rows) (by omega) (λs r aK h1 hi hm=>?_) (λs av=>by simp [av])) λx J=>?_
 ·refine Tot.bt (λ_=>?_) (λh=>absurd h1 h);rw [hi];have oH:=eX.r r hm;refine Tot.aV (.aB (Ξ:=ie (λ_=>lN r) (λx:Bool=>x=false/\¬ qc rows)) ?_ λx J=>?_)
  ·refine Tot.count (λs=>s.2) r.length (λs=>∃ k:Nat,k<=r.length/\s.2=(k:Int)/\s.1.length=1000/\lN (r.take k)/\∀ j,j<1000->(s.1.getD j false=true↔(j:Int)∈(r.take k).map (·.At))) ⟨0,Nat.zero_le _,rfl,List.length_replicate ..,lN.nil,λj ag=>by
   show ((List.replicate 1000 false).getD j false=true↔_);rw [List.getD_eq_getElem?_getD,List.getElem?_replicate,if_pos ag];simp⟩ (by show (r.length:Int) - 0<_; omega) λs av=>?_
   obtain ⟨met,kc⟩:=s;obtain ⟨k,hk,rfl,vE,c6,JZ⟩:=av;simp only at vE JZ ⊢;refine Tot.bt (λaP=>?_) (λdF=>.aj ?_)
   ·have aP:k<r.length:=by omega
    rw [tg aP];have hw:aG ((k:Int)+1)=((k+1:Nat):Int):=by rw [cv]; omega
    rw [hw];have dL:0<=(r[k]).At/\(r[k]).At<=999->xJ 1000 met (r[k]).At=some (met.getD (r[k]).At.toNat false):=by
     intro h;unfold xJ;rw [if_pos (by omega)];have:(r[k]).At.toNat<met.length:=by omega
     simp [idx,h.1,this,List.getD_eq_getElem?_getD]
    refine Tot.aV (.aB (Ξ:=λc=>(c=true↔(¬ (0<=(r[k]).At/\(r[k]).At<=999)\/(r[k]).At∈(r.take k).map (·.At)))) ?_ λc aa=>Tot.bH (λh=>.aj ⟨rfl,aaa hm (lN.bad aP (aa.1 h))⟩) (λh=>?_))
    ·refine Tot.bt (λh=>.aj ⟨λ_=>.inl (by omega),λ_=>rfl⟩) (λh=>Tot.bt (λaI=>.aj ⟨λ_=>.inl (by omega),λ_=>rfl⟩) (λaI=>?_));have aq:0<=(r[k]).At/\(r[k]).At<=999:=by omega
     rw [dL aq];refine Tot.aV (.aj ?_);rw [JZ _ (by omega)];have e:(((r[k]).At.toNat:Nat):Int)=(r[k]).At:=by omega
     rw [e];exact ⟨λh=>.inr h,λh=>h.resolve_left λaC=>aC aq⟩
    ·have W_:(0<=(r[k]).At/\(r[k]).At<=999)/\(r[k]).At∉(r.take k).map (·.At):=by
      refine ⟨Classical.byContradiction λaC=>?_,λaC=>?_⟩
      ·rw [aa.2 (.inl aC)] at h; cases h
      ·rw [aa.2 (.inr aC)] at h; cases h
     obtain ⟨aq,aC⟩:=W_;rw [dL aq];refine Tot.aV (.aj ⟨⟨k+1,by omega,rfl,by show (met.set _ _).length=_; simp [vE],?_,λj ag=>?_⟩,?_,?_⟩)
     ·rw [LR aP]; exact c6.snoc aq aC
     ·show ((met.set (r[k]).At.toNat true).getD j false=true↔_);rw [LR aP,List.map_append,List.mem_append,List.getD_eq_getElem?_getD,List.getElem?_set];by_cases e:(r[k]).At.toNat=j
      ·subst e;have ah:(r[k]).At.toNat<met.length:=by omega
       have b3:(((r[k]).At.toNat:Nat):Int)=(r[k]).At:=by omega
       rw [if_pos rfl,if_pos ah,b3];simp
      ·rw [if_neg e,<- List.getD_eq_getElem?_getD,JZ j ag];constructor
       ·exact .inl
       ·rintro (h | h)
        ·exact h
        ·have h:(j:Int)∈[(r[k]).At]:=h;have:=List.mem_singleton.1 h;omega
     ·show (k:Int)<((k+1:Nat):Int); omega
     ·show ((k+1:Nat):Int)<=_; omega
   ·have:k=r.length:=by omega
    subst this;rw [List.take_length] at c6;exact c6
  ·rcases x with _ | x
   ·exact .aj ⟨by rw [cv]; omega,J⟩
   ·exact .aj J
 ·rcases x with _ | x
  ·have J:∀ r∈rows,lN r:=J;exact .aj ⟨λ_=>⟨by omega,J⟩,λ_=>rfl⟩
  ·obtain ⟨rfl,ar⟩:x=false/\¬ qc rows:=J;exact .aj ⟨λh=>(by cases h),λh=>absurd h ar⟩
def lC (rows:List fz) (a:Int):Nat:=((idx rows a).map List.length).getD 0
def jR (rows:List fz) (a b:Int):Bool:=decide (lC rows b<lC rows a\/(lC rows a=lC rows b/\a<b))
theorem PK {rows:List fz}{a b:Int}:jR rows a b=true↔(lC rows b<lC rows a\/(lC rows a=lC rows b/\a<b)):=by simp [jR]
theorem KY {rows:List fz}{a b:Int}:jR rows a b=false↔¬ (lC rows b<lC rows a\/(lC rows a=lC rows b/\a<b)):=by simp [jR]
theorem PL (rows:List fz):SWO (jR rows) where
 irrefl x:=by rw [KY]; omega
 trans x y z h1 af:=by rw [PK] at *; omega
 ntrans x y z h1 af:=by rw [KY] at *; omega
theorem PM {rows:List fz}{a b:Int}(h1:jR rows a b=false) (af:jR rows b a=false):a=b:=by
 rw [KY] at *; omega
theorem M6 (rows:List fz) (a b:Int) (aJ:0<=a/\a<rows.length) (ar:0<=b/\b<rows.length):∃ v,vZ a b rows=some v/\(v<0↔jR rows a b=true):=by
 obtain ⟨v,hv,h⟩:=Tv rows a b aJ ar;refine ⟨v,hv,h.trans ?_⟩;obtain ⟨x,J,_⟩:=FX aJ.1 aJ.2;obtain ⟨y,ao,_⟩:=FX ar.1 ar.2;rw [PK];unfold EB lC;rw [J,ao];constructor
 ·rintro ⟨x',y',b9,b3,h⟩;cases b9; cases b3; exact h
 ·intro h;exact ⟨x,y,rfl,rfl,h⟩
theorem Pl {α:Type}{lt lt':α->α->Bool}(x:α):∀ l:List α,(∀ y∈l,lt y x=lt' y x)->ins lt x l=ins lt' x l
 | [],_=>rfl
 | y::l,h=>by
  simp only [ins,h y (by simp)];rw [Pl x l λz aW=>h z (by simp [aW])]
theorem Pt {α:Type}{lt lt':α->α->Bool}:∀ l:List α,(∀ a∈l,∀ b∈l,lt a b=lt' a b)->ia lt l=ia lt' l
 | [],_=>rfl
 | x::l,h=>by
  simp only [ia];rw [Pt l λa aJ b ar=>h a (by simp [aJ]) b (by simp [ar])];exact Pl x _ λy ao=>h y (by simp [(th lt' l).mem_iff.1 ao]) x (by simp)
structure sU (rows:List fz) (o:List Nat):Prop where
 mem:∀ i,i∈o↔∃ r,rows[i]?=some r/\r≠[]
 nd:o.Nodup
 AU:o.Pairwise λ(a b:Nat)=>jR rows (b:Int) (a:Int)=false
theorem sU.lt {rows:List fz}{o:List Nat}(h:sU rows o) {i:Nat}(hi:i∈o):i<rows.length:=by
 obtain ⟨r,hr,_⟩:=(h.mem i).1 hi;exact (List.getElem?_eq_some_iff.1 hr).1
theorem sU.len {rows:List fz}{o:List Nat}(h:sU rows o):o.length<=rows.length:=by
 have:∀ (l m:List Nat),l.Nodup->(∀ x∈l,x∈m)->l.length<=m.length:=by
  intro l
  induction l with
  | nil=>intro m _ _; exact Nat.zero_le _
  | cons x l aO =>
   intro m aQ hm;have J:=hm x (by simp);have o_:=List.nodup_cons.1 aQ;have:=aO (m.erase x) o_.2 λy ao=>(List.mem_erase_of_ne (λe=>o_.1 (by rw [<- e]; exact ao))).2 (hm y (by simp [ao]));have ah:=List.length_erase_of_mem J;have aq:=List.length_pos_of_mem J;simp only [List.length_cons];omega
 have:=this o (List.range rows.length) h.nd λx J=>by simpa using h.lt J
 simpa using this
theorem aaH (rows:List fz) (l:List Int) (ah:∀ a∈l,0<=a/\a<rows.length) (aC:l.length<=100000):p4 (λa b=>vZ a b rows) l=some (ia (jR rows) l):=by
 have aP:∀ a∈l,∀ b∈l,kR (λa b=>vZ a b rows) a b=jR rows a b:=by
  intro a aJ b ar;obtain ⟨v,hv,h⟩:=M6 rows a b (ah a aJ) (ah b ar);unfold kR;simp only [hv,Option.getD_some];cases hk:jR rows a b with
  | true=>exact decide_eq_true (h.2 hk)
  | false=>exact decide_eq_false λbO=>by rw [h.1 bO] at hk; cases hk
 unfold p4;rw [if_pos]
 ·rw [Pt l aP]
 ·simp only [Bool.and_eq_true,decide_eq_true_eq,List.all_eq_true];refine ⟨⟨λa aJ b ar=>?_,?_⟩,by omega⟩
  ·obtain ⟨v,hv,_⟩:=M6 rows a b (ah a aJ) (ah b ar);rw [hv]; rfl
  ·unfold Am;simp only [List.all_eq_true,Bool.and_eq_true,Bool.or_eq_true,Bool.not_eq_true',decide_eq_true_eq];have bf:=PL rows;intro a aJ;refine ⟨by rw [aP a aJ a aJ]; exact bf.irrefl a,λb ar=>⟨?_,λc aa=>⟨?_,?_⟩⟩⟩
   ·rw [aP a aJ b ar,aP b ar a aJ];cases h1:jR rows a b with
    | true=>exact .inl (.inl rfl)
    | false =>
     cases af:jR rows b a with
     | true=>exact .inl (.inr rfl)
     | false=>exact .inr (PM h1 af)
   ·rw [aP a aJ b ar,aP b ar c aa,aP a aJ c aa];cases h1:jR rows a b with
    | false=>exact .inl rfl
    | true =>
     cases af:jR rows b c with
     | false=>exact .inl rfl
     | true=>exact .inr (bf.trans _ _ _ h1 af)
   ·rw [aP a aJ b ar,aP b ar c aa,aP a aJ c aa];cases h1:jR rows a b with
    | true=>exact .inl (.inl rfl)
    | false =>
     cases af:jR rows b c with
     | true=>exact .inl (.inr rfl)
     | false=>exact .inr (bf.ntrans _ _ _ h1 af)
theorem TR (rows:List fz) (eX:ER rows):Tot (AO rows) λc=>(¬ qc rows->c=⟨[],[],[]⟩)/\(qc rows->c.b8.length<=900000/\∃ o,sU rows o/\ot rows o.reverse c):=by
 unfold AO;refine .aB (Tu rows eX) λaR h1=>Tot.bH (λh=>.aj ⟨λ_=>rfl,λc6=>by rw [h1.2 c6] at h; cases h⟩) (λh=>?_);have c6:qc rows:=h1.1 (by simpa using h);refine Tot.use (Φ:=λc=>(¬ qc rows->c=⟨[],[],[]⟩)/\(qc rows->c.b8.length<=900000/\∃ o,sU rows o/\ot rows o.reverse c)) (Ψ:=λc=>c.b8.length<=900000/\∃ o,sU rows o/\ot rows o.reverse c) ?_ λc aa=>⟨λaC=>absurd c6 aC,λ_=>aa⟩;have aC:=c6.n;refine .aB (Ξ:=λl=>l=List.replicate rows.length 0) (Tot.mk (by simp [lim]; omega) (by simp)) λa8 aE=>?_;subst aE;refine .aB (Ξ:=λl=>∃ o:List Nat,l=o.map (λ(j:Nat)=>(j:Int))/\o.Nodup/\o.length<=400/\∀ j,j∈o↔∃ r,rows[j]?=some r/\r≠[]) ?_ λb1 b7=>?_
 ·refine Tot.count (λs=>s.2) rows.length (λs=>∃ k:Nat,k<=rows.length/\s.2=(k:Int)/\∃ o:List Nat,s.1=o.map (λ(j:Nat)=>(j:Int))/\o.Nodup/\o.length<=k/\∀ j,j∈o↔j<k/\∃ r,rows[j]?=some r/\r≠[]) ⟨0,Nat.zero_le _,rfl,[],rfl,List.nodup_nil,Nat.le_refl 0,λj=>by simp⟩ (by show (rows.length:Int) - 0<_; omega) λs av=>?_;obtain ⟨l,kc⟩:=s;obtain ⟨k,hk,rfl,o,rfl,eG,Cy,hm⟩:=av;simp only;have hw:aG ((k:Int)+1)=((k+1:Nat):Int):=by rw [cv]; omega
  rw [hw];refine Tot.bt (λaP=>?_) (λdF=>.aj ⟨o,rfl,eG,by omega,λj=>?_⟩)
  ·have aP:k<rows.length:=by omega
   rw [tg aP];have sg:rows[k]?=some rows[k]:=List.getElem?_eq_getElem aP;have Xk:k∉o:=λh=>by have:=((hm k).1 h).1; omega
   refine .aB (Ξ:=λl=>∃ fW:List Nat,l=fW.map (λ(j:Nat)=>(j:Int))/\fW.Nodup/\fW.length<=k+1/\∀ j,j∈fW↔j<k+1/\∃ r,rows[j]?=some r/\r≠[]) ?_ λl ah=>.aj ⟨⟨k+1,by omega,rfl,ah⟩,?_,?_⟩
   ·refine Tot.aV (.aB (Ξ:=λl=>∃ fW:List Nat,l=fW.map (λ(j:Nat)=>(j:Int))/\fW.Nodup/\fW.length<=k+1/\∀ j,j∈fW↔j<k+1/\∃ r,rows[j]?=some r/\r≠[]) ?_ λl ah=>.aj ah);refine Tot.bt (λaq=>?_) (λaq=>.aj ⟨o,rfl,eG,by omega,λj=>?_⟩)
    ·refine .bJ<|.aj ⟨o++[k],by simp,?_,by simp; omega,λj=>?_⟩
     ·rw [List.nodup_append];exact ⟨eG,by simp,λa aJ b ar e=>Xk (by rw [<- List.mem_singleton.1 ar,<- e]; exact aJ)⟩
     ·rw [List.mem_append,hm j,List.mem_singleton];constructor
      ·rintro (⟨h1,af⟩ | rfl)
       ·exact ⟨by omega,af⟩
       ·exact ⟨by omega,_,sg,λe=>by rw [e] at aq; simp at aq⟩
      ·rintro ⟨h1,af⟩;by_cases e:j=k
       ·exact .inr e
       ·exact .inl ⟨by omega,af⟩
    ·rw [hm j];constructor
     ·rintro ⟨h1,af⟩;exact ⟨by omega,af⟩
     ·rintro ⟨h1,r,af,aE⟩;refine ⟨?_,r,af,aE⟩;have:j≠k:=by
       rintro rfl;rw [sg] at af; cases af;have:(rows[j]).length≠0:=λe=>aE (List.eq_nil_of_length_eq_zero e);omega
      omega
   ·show (k:Int)<((k+1:Nat):Int); omega
   ·show ((k+1:Nat):Int)<=_; omega
  ·have:k=rows.length:=by omega
   subst this;rw [hm j];constructor
   ·exact λh=>h.2
   ·rintro ⟨r,hr,h⟩;exact ⟨(List.getElem?_eq_some_iff.1 hr).1,r,hr,h⟩
 obtain ⟨Aj,rfl,Xu,aeF,vC⟩:=b7;have zK:∀ a∈Aj.map (λ(j:Nat)=>(j:Int)),0<=a/\a<rows.length:=by
  intro a aJ;obtain ⟨j,ag,rfl⟩:=List.mem_map.1 aJ;obtain ⟨r,hr,_⟩:=(vC j).1 ag;have:=(List.getElem?_eq_some_iff.1 hr).1;omega
 rw [aaH rows _ zK (by simp; omega)];refine Tot.aV ?_
 -- the order, az places
 obtain ⟨o,aX,hOr⟩:∃ o:List Nat,ia (jR rows) (Aj.map λ(j:Nat)=>(j:Int))=o.map (λ(j:Nat)=>(j:Int))/\sU rows o:=by
  refine ⟨ia (λa b:Nat=>jR rows (a:Int) (b:Int)) Aj,?_,?_⟩
  ·exact (FY (lt:=λa b:Nat=>jR rows (a:Int) (b:Int)) (lt':=jR rows) (f:=λ(j:Nat)=>(j:Int)) (λa b=>rfl) Aj).symm
  ·have bf:=PL rows;have aq:=th (λa b:Nat=>jR rows (a:Int) (b:Int)) Aj;refine ⟨λi=>(aq.mem_iff).trans (vC i),aq.nodup_iff.2 Xu,?_⟩;have av:=FZ (lt:=λa b:Nat=>jR rows (a:Int) (b:Int)) ⟨λx=>bf.irrefl _,λx y z=>bf.trans _ _ _,λx y z=>bf.ntrans _ _ _⟩ Aj;exact av.imp λh=>by simpa using h
 rw [aX];have Cy:=hOr.len;refine .aB (Ξ:=λc=>c.b8.length<=900000/\∃ o,sU rows o/\ot rows o.reverse c) ?_ λc aa=>.aj aa;refine Tot.count (λs=>s.2) o.length (λs=>∃ k:Nat,k<=o.length/\s.2=(k:Int)/\s.1.b8.length<=1000 * k/\ot rows (o.take k).reverse s.1) ⟨0,Nat.zero_le _,rfl,Nat.le_refl 0,.nil⟩ (by show (o.length:Int) - 0<_; omega) λs av=>?_;obtain ⟨c,kc⟩:=s;obtain ⟨k,hk,rfl,hT,fN⟩:=av;simp only at hT fN ⊢;have hw:aG ((k:Int)+1)=((k+1:Nat):Int):=by rw [cv]; omega
 rw [hw];refine Tot.bt (λaP=>?_) (λdF=>.aj ⟨by show c.b8.length<=900000; omega,o,hOr,?_⟩)
 ·rw [List.length_map] at aP;have aP:k<o.length:=by omega
  have vA:idx (o.map λ(j:Nat)=>(j:Int)) (k:Int)=some ((o[k]:Nat):Int):=by
   rw [tg (by simpa using aP)]; simp
  rw [vA];generalize hi:o[k]=i;have OE:i∈o:=by rw [<- hi]; exact List.getElem_mem aP
  obtain ⟨r,hr,aeI⟩:=(hOr.mem i).1 OE;have Fz:=hOr.lt OE;have zV:r∈rows:=List.mem_of_getElem? hr;have lY:=c6.rows r zV;have oH:=eX.r r zV;have OP:i∉(o.take k).reverse:=by
   rw [List.mem_reverse];intro h;obtain ⟨j,ag,e⟩:=List.mem_iff_getElem.1 h;rw [List.length_take] at ag;rw [List.getElem_take] at e;have:=(List.getElem_inj (i:=j) (j:=k) (h₀:=by omega) (h₁:=aP) hOr.nd).1 (by rw [e,hi]);omega
  have hlen:=fN.len;refine Tot.aV (.aB (aar rows eX i r hr lY c (by omega) (fN.rest i Fz OP) x9 λb ar=>Tx c.b8 r b lY.mL (by omega) (by omega) (by omega)) λB VQ=>?_);obtain ⟨b,rfl,xp,Xl,qv⟩:=VQ;have Cq:idx rows (i:Int)=some r:=by simp [idx,hr]
  rw [Cq];refine Tot.aV (.aB (ZM r lY oH i b (by omega) c hlen.1 (by omega) qv _ (λv bY k hk=>?_) (λv bY k hk=>?_)) λx J=>?_)
  ·have xi:idx (c.cZ.set i (b:Int)) (i:Int)=some (b:Int):=by
    have:i<c.cZ.length:=by omega
    simp [idx,this]
   have aQ:decide ((k:Int)<(r.length:Int))=true:=decide_eq_true (by omega);simp only [aQ,cond_true,tg hk,xi,Option.bind_some]
  ·have aQ:decide ((k:Int)<(r.length:Int))=false:=decide_eq_false hk;simp only [aQ,cond_false]
  ·obtain ⟨bT,ah⟩:=J;refine .aj ⟨⟨k+1,by omega,rfl,?_,?_⟩,?_,?_⟩
   ·show x.2.length<=1000 * (k+1); omega
   ·rw [List.take_add_one,List.getElem?_eq_getElem aP,hi];show ot rows ((o.take k)++[i]).reverse _;rw [List.reverse_append];exact .cons hr OP fN ⟨xp,Xl,rfl,bT⟩
   ·show (k:Int)<((k+1:Nat):Int); omega
   ·show ((k+1:Nat):Int)<=_; omega
 ·rw [List.length_map] at dF;have:k=o.length:=by omega
  subst this;rw [List.take_length] at fN;exact fN
def Ai (bY:List Int):List Nat:=(List.range bY.length).filter λk=>decide (bY.getD k 0≠0)
def QH (rows:List fz) (i:Nat):Nat:=(rows[i]?.map List.length).getD 0
structure Inv (rows:List fz) (l:List Nat) (c:h6):Prop where
 own:∀ i∈l,∃ (r:fz) (b:Nat),rows[i]?=some r/\c.cZ[i]?=some (b:Int)/\∀ p∈r,b+p.At.toNat<c.b8.length/\c.b8.getD (b+p.At.toNat) 0=(i:Int)+1/\c.b'.getD (b+p.At.toNat) 0=p.b'
 LY:∀ k,c.b8.getD k 0≠0->∃ i∈l,∃ (r:fz) (b:Nat),rows[i]?=some r/\c.cZ[i]?=some (b:Int)/\∃ p∈r,k=b+p.At.toNat/\c.b8.getD k 0=(i:Int)+1
 zero:∀ k,c.b8.getD k 0=0->c.b'.getD k 0=0
 last:c.b8.length=0\/c.b8.getD (c.b8.length - 1) 0≠0
 least:∀ i∈l,∀ b:Nat,c.cZ[i]?=some (b:Int)->∀ dR,dR<b->∃ (r:fz) (p:cH) (ss:Nat),rows[i]?=some r/\p∈r/\ss∈l/\jR rows (ss:Int) (i:Int)=true/\c.b8.getD (dR+p.At.toNat) 0=(ss:Int)+1
 vh:(Ai c.b8).length=(l.map (QH rows)).sum
theorem K1 {bY:List Int}{k:Nat}:k∈Ai bY↔bY.getD k 0≠0:=by
 unfold Ai;rw [List.mem_filter,List.mem_range];constructor
 ·intro h; simpa using h.2
 ·intro h;refine ⟨Classical.byContradiction λhk=>h ?_,by simpa using h⟩;rw [List.getD_eq_getElem?_getD,List.getElem?_eq_none (by omega)]; rfl
theorem PU (bY:List Int):(Ai bY).Nodup:=List.nodup_range.sublist List.filter_sublist
theorem ot.inv {rows:List fz}(c6:qc rows) {l:List Nat}{c:h6}(h:ot rows l c) (J_:l.Pairwise λ(a b:Nat)=>jR rows (a:Int) (b:Int)=false):Inv rows l c:=by
 induction h with
 | nil=>exact ⟨λ_ h=>absurd h (by simp),λk h=>absurd rfl h,λ_ _=>rfl,.inl rfl,λ_ h=>absurd h (by simp),rfl⟩
 | @cons i b l c cc r hr hi fN av aO =>
  have OW:=List.pairwise_cons.1 J_;have I:=aO OW.2;have lY:=c6.rows r (List.mem_of_getElem? hr);have bT:=av.put;have hlen:=fN.len;have uh:i<c.cZ.length:=by rw [hlen.2]; exact (List.getElem?_eq_some_iff.1 hr).1
  have xi:cc.cZ[i]?=some (b:Int):=by rw [av.base]; simp [uh]
  have xk:∀ j,j≠i->cc.cZ[j]?=c.cZ[j]?:=λj ag=>by rw [av.base,List.getElem?_set_ne (Ne.symm ag)]
  have cS:∀ j∈l,j≠i:=λj ag e=>hi (e ▸ ag);have free:∀ k,c.b8.getD k 0≠0->∀ p∈r,b+p.At.toNat≠k:=λk hk p aq e=>hk (e ▸ av.fit p aq);have keep:∀ k,c.b8.getD k 0≠0->cc.b8.getD k 0=c.b8.getD k 0:=λk hk=>bT.BG k (free k hk);refine ⟨λj ag=>?_,λk hk=>?_,λk hk=>?_,?_,λj ag gY kO dR aP=>?_,?_⟩
  ·rcases List.mem_cons.1 ag with rfl | ag
   ·exact ⟨r,b,hr,xi,λp aq=>⟨bT.Pk p aq,bT.jm p aq,bT.val p aq⟩⟩
   ·obtain ⟨c',dR,h1,af,aE⟩:=I.own j ag;refine ⟨c',dR,h1,by rw [xk j (cS j ag)]; exact af,λp aq=>?_⟩;obtain ⟨g1,g2,g3⟩:=aE p aq;have OQ:c.b8.getD (dR+p.At.toNat) 0≠0:=by rw [g2]; omega
    exact ⟨Nat.lt_of_lt_of_le g1 bT.lo,by rw [keep _ OQ]; exact g2,by rw [bT.LV _ (free _ OQ)]; exact g3⟩
  ·by_cases aq:∃ p∈r,b+p.At.toNat=k
   ·obtain ⟨p,aq,rfl⟩:=aq;exact ⟨i,by simp,r,b,hr,xi,p,aq,rfl,bT.jm p aq⟩
   ·have e:=bT.BG k λp CB e=>aq ⟨p,CB,e⟩;rw [e] at hk ⊢;obtain ⟨j,ag,c',dR,h1,af,aE⟩:=I.LY k hk;exact ⟨j,by simp [ag],c',dR,h1,by rw [xk j (cS j ag)]; exact af,aE⟩
  ·by_cases aq:∃ p∈r,b+p.At.toNat=k
   ·obtain ⟨p,aq,rfl⟩:=aq;rw [bT.jm p aq] at hk; omega
   ·have aC:∀ p∈r,b+p.At.toNat≠k:=λp CB e=>aq ⟨p,CB,e⟩;rw [bT.BG k aC] at hk;rw [bT.LV k aC];exact I.zero k hk
  ·rcases bT.hi with e | ⟨p,aq,e⟩
   ·rcases I.last with aK | aK
    ·exact .inl (by omega)
    ·exact .inr (by rw [e,keep _ aK]; exact aK)
   ·refine .inr ?_;rw [e];show cc.b8.getD (b+p.At.toNat+1 - 1) 0≠0;rw [Nat.add_sub_cancel,bT.jm p aq]; omega
  ·rcases List.mem_cons.1 ag with rfl | ag
   ·rw [xi] at kO;have i_:b=gY:=by injection kO with e; omega
    subst i_;have OO:=av.least dR aP;obtain ⟨p,aq,aW⟩:∃ p∈r,c.b8.getD (dR+p.At.toNat) 0≠0 :=
     Classical.byContradiction λaC=>OO λp aq=>Classical.byContradiction λaW=>aC ⟨p,aq,aW⟩
    obtain ⟨ss,qx,_,_,_,_,_,_,_,e⟩:=I.LY _ aW;refine ⟨r,p,ss,hr,aq,by simp [qx],?_,by rw [keep _ aW]; exact e⟩;have h1:=OW.1 ss qx;cases af:jR rows (ss:Int) (j:Int) with
    | true=>rfl
    | false=>exact absurd (PM af h1) (by have:=cS ss qx; omega)
   ·rw [xk j (cS j ag)] at kO;obtain ⟨c',p,ss,h1,af,aE,bm,b7⟩:=I.least j ag gY kO dR aP;exact ⟨c',p,ss,h1,af,by simp [aE],bm,by rw [keep _ (by rw [b7]; omega)]; exact b7⟩
  ·have CC:(Ai cc.b8).Perm (r.map (λp=>b+p.At.toNat)++Ai c.b8):=by
    refine (List.perm_ext_iff_of_nodup (PU _) ?_).2 λk=>?_
    ·rw [List.nodup_append];refine ⟨?_,PU _,λx J y ao e=>?_⟩
     ·unfold List.Nodup;rw [List.pairwise_map];have:=lY.nd;unfold List.Nodup at this;rw [List.pairwise_map] at this;refine this.imp_of_mem λ{p q} aq a_ cS=>?_;have h1:=lY.mL p aq;have af:=lY.mL q a_;omega
     ·obtain ⟨p,aq,rfl⟩:=List.mem_map.1 J;have h1:=K1.1 ao;rw [<- e] at h1;exact h1 (av.fit p aq)
    ·rw [K1,List.mem_append,K1,List.mem_map];by_cases aq:∃ p∈r,b+p.At.toNat=k
     ·obtain ⟨p,aq,rfl⟩:=aq;rw [bT.jm p aq];exact ⟨λ_=>.inl ⟨p,aq,rfl⟩,λ_=>by omega⟩
     ·rw [bT.BG k λp CB e=>aq ⟨p,CB,e⟩];exact ⟨.inr,λh=>h.resolve_left aq⟩
   rw [CC.length_eq,List.length_append,List.length_map,I.vh,List.map_cons,List.sum_cons];simp [QH,hr]
def k9 (r:fz) (n:Int):Int × Bool:=match r.find? λp=>decide (p.At=n) with
 | some p=>(p.b',true)
 | none=>(0,false)
theorem get_none {r:fz}{n:Int}(h:∀ p∈r,p.At≠n):k9 r n=(0,false):=by
 unfold k9;rw [List.find?_eq_none.2 λp aq=>by simpa using h p aq]
theorem get_some {r:fz}(hr:lN r) {p:cH}(aq:p∈r):k9 r p.At=(p.b',true):=by
 unfold k9;cases h:r.find? λq=>decide (q.At=p.At) with
 | none=>exact absurd (List.find?_eq_none.1 h p aq) (by simp)
 | some q =>
  have h1:q.At=p.At:=by simpa using List.find?_some h
  have af:=List.mem_of_find?_eq_some h;obtain ⟨i,hi,b9⟩:=List.mem_iff_getElem.1 af;obtain ⟨j,ag,b3⟩:=List.mem_iff_getElem.1 aq;have:=(List.getElem_inj (h₀:=by simpa using hi) (h₁:=by simpa using ag) hr.nd).1 (by simp only [List.getElem_map]; rw [b9,b3]; exact h1);subst this;rw [b9] at b3;rw [b3]
theorem Vm (r:fz) (n:Int) (ah:r.length<=100000):Ar r n=some (k9 r n):=by
 suffices h:Tot (Ar r n) λx=>x=k9 r n by
  obtain ⟨x,J,e⟩:=h; rw [J,e]
 unfold Ar;refine Tot.aB (Ξ:=ie (λ_=>k9 r n=(0,false)) (λx=>x=k9 r n)) ?_ λx J=>?_
 ·refine Tot.count (λs=>s) r.length (λs=>∃ k:Nat,k<=r.length/\s=(k:Int)/\∀ p∈r.take k,p.At≠n) ⟨0,Nat.zero_le _,rfl,λ_ h=>absurd h (by simp)⟩ (by show (r.length:Int) - 0<_; omega) λs av=>?_;obtain ⟨k,hk,rfl,aC⟩:=av;refine Tot.bt (λh=>?_) (λh=>.aj ?_)
  ·have aP:k<r.length:=by omega
   rw [tg aP];refine Tot.aV (Tot.bt (λe=>.aj ?_) (λe=>.aj ⟨⟨k+1,by omega,by rw [cv]; omega,λp aq=>?_⟩,by show (k:Int)<aG _; rw [cv]; omega,by show aG _<=_; rw [cv]; omega⟩))
   ·show ((r[k]).b',true)=k9 r n;unfold k9;have aU:r.find? (λp=>decide (p.At=n))=some r[k]:=by
     rw [List.find?_eq_some_iff_getElem];refine ⟨by simpa using e,k,aP,rfl,λj ag=>?_⟩;have:=aC (r[j]'(by omega)) (List.mem_iff_getElem.2 ⟨j,by rw [List.length_take]; omega,by rw [List.getElem_take]⟩);simpa using this
    rw [aU]
   ·rw [LR aP] at aq;rcases List.mem_append.1 aq with aq | aq
    ·exact aC p aq
    ·rw [List.mem_singleton.1 aq]; exact e
  ·have:k=r.length:=by omega
   subst this;rw [List.take_length] at aC;exact get_none aC
 ·rcases x with x | x
  ·exact .aj (Eq.symm J)
  ·exact .aj J
def q' (rows:List fz) (a n:Int):Int × Bool:=match idx rows a with
 | some r=>k9 r n
 | none=>(0,false)
theorem Vn {rows:List fz}(c6:qc rows) {o:List Nat}(hO:sU rows o) {c:h6}(fN:ot rows o.reverse c) (bc:Inv rows o.reverse c) (aa:c.b8.length<=900000) (a n:Int):rD c a n=some (q' rows a n):=by
 have hlen:=fN.len
 suffices h:Tot (rD c a n) λx=>x=q' rows a n by
  obtain ⟨x,J,e⟩:=h; rw [J,e]
 have P0:(∀ r,idx rows a=some r->∀ p∈r,p.At≠n)->q' rows a n=(0,false):=by
  intro h;unfold q';cases hi:idx rows a with
  | none=>rfl
  | some r=>exact get_none (h r hi)
 have out:(a<0\/(c.cZ.length:Int)<=a)->idx rows a=none:=by
  intro h;unfold idx;rcases h with h | h
  ·rw [if_neg (by omega)]
  ·split
   ·exact List.getElem?_eq_none (by omega)
   ·rfl
 -- where the pairs of a row stand
 have at_:∀ r,idx rows a=some r->∀ p∈r,0<=a/\∃ b:Nat,c.cZ[a.toNat]?=some (b:Int)/\b+p.At.toNat<c.b8.length/\c.b8.getD (b+p.At.toNat) 0=(a.toNat:Int)+1/\c.b'.getD (b+p.At.toNat) 0=p.b':=by
  intro r hr p aq;have aK:0<=a:=by
   by_cases aK:0<=a
   ·exact aK
   ·rw [idx,if_neg aK] at hr; cases hr
  have dH:rows[a.toNat]?=some r:=by rw [idx,if_pos aK] at hr; exact hr
  obtain ⟨c',b,h1,af,aE⟩:=bc.own a.toNat (List.mem_reverse.2 ((hO.mem _).2 ⟨r,dH,λe=>by rw [e] at aq; simp at aq⟩));rw [dH] at h1; cases h1;exact ⟨aK,b,af,aE p aq⟩
 have fO:∀ r,idx rows a=some r->∀ p∈r,0<=p.At/\p.At<=999:=by
  intro r hr p aq;have:r∈rows:=by
   unfold idx at hr
   split at hr
   ·exact List.mem_of_getElem? hr
   ·cases hr
  exact (c6.rows r this).mL p aq
 unfold rD;refine .aB (Ξ:=λx:Bool=>(x=true->(a<0\/(c.cZ.length:Int)<=a)\/n<0\/(c.b8.length:Int)<=n)/\(x=false->0<=a/\a<c.cZ.length/\0<=n/\n<c.b8.length)) ?_ λx J=>Tot.bH (λh=>?_) (λh=>?_)
 ·refine Tot.bt (λh=>.aj ⟨λ_=>.inl (.inl h),λh=>(by cases h)⟩) (λh1=>Tot.bt (λh=>.aj ⟨λ_=>.inl (.inr h),λh=>(by cases h)⟩) (λaf=>Tot.bt (λh=>.aj ⟨λ_=>.inr (.inl h),λh=>(by cases h)⟩) (λaE=>.aj ⟨λh=>.inr (.inr (of_decide_eq_true h)),λh=>?_⟩)));have:=of_decide_eq_false h;omega
 ·refine .aj (Eq.symm (P0 λr hr p aq e=>?_));obtain ⟨aK,b,ar,h1,_⟩:=at_ r hr p aq;have af:=fO r hr p aq;rcases J.1 h with aI | aI | aI
  ·rw [out aI] at hr; cases hr
  ·omega
  ·omega
 ·obtain ⟨aK,h1,af,aE⟩:=J.2 h;have halt:a.toNat<rows.length:=by omega
  -- the base
  obtain ⟨b,ar,hS⟩:∃ b:Nat,c.cZ[a.toNat]?=some (b:Int)/\b<=900000:=by
   by_cases hm:a.toNat∈o
   ·obtain ⟨c',b,g1,g2,g3⟩:=bc.own a.toNat (List.mem_reverse.2 hm);refine ⟨b,g2,?_⟩;obtain ⟨r,b9,b3⟩:=(hO.mem _).1 hm;rw [b9] at g1; cases g1;obtain ⟨p,aq⟩:=List.exists_mem_of_ne_nil _ b3;have:=(g3 p aq).1;omega
   ·exact ⟨0,fN.rest _ halt (by simpa using hm),by omega⟩
  have xi:idx c.cZ a=some (b:Int):=by rw [idx,if_pos aK]; exact ar
  rw [xi];have hw:aG ((b:Int)+n)=((b+n.toNat:Nat):Int):=by rw [cv]; omega
  have X0:aG (a+1)=a+1:=by rw [cv]; have:=c6.n; omega
  refine Tot.aV ?_;rw [hw,X0];refine .aB (Ξ:=λx:Bool=>(x=true->∀ r,idx rows a=some r->∀ p∈r,p.At≠n)/\(x=false->b+n.toNat<c.b8.length/\c.b8.getD (b+n.toNat) 0=a+1)) (Tot.bt (λh=>.aj ⟨λ_ r hr p aq e=>?_,λh=>(by cases h)⟩) (λh=>?_)) λx J=>Tot.bH (λh=>.aj (Eq.symm (P0 (J.1 h)))) (λh=>?_)
  ·obtain ⟨_,dR,b5,g1,_⟩:=at_ r hr p aq;rw [ar] at b5;have:b=dR:=by injection b5 with b5; omega
   subst this;subst e;omega
  ·have ah:b+n.toNat<c.b8.length:=by omega
   rw [tg ah];have aN:c.b8.getD (b+n.toNat) 0=c.b8[b+n.toNat]:=by rw [List.getD_eq_getElem?_getD,List.getElem?_eq_getElem ah]; rfl
   rw [<- aN];refine Tot.aV (.aj ⟨λh r hr p aq e=>?_,λh=>⟨ah,by simpa using h⟩⟩);obtain ⟨_,dR,b5,_,g2,_⟩:=at_ r hr p aq;rw [ar] at b5;have:b=dR:=by injection b5 with b5; omega
   subst this;subst e;rw [g2] at h;have:¬ ((a.toNat:Int)+1=a+1):=by simpa using h
   omega
  ·obtain ⟨ah,he⟩:=J.2 h;have pO:b+n.toNat<c.b'.length:=by omega
   rw [tg pO];refine Tot.aV (.aj ?_);obtain ⟨i,hi,r,dR,b9,b3,p,aq,e7,nr⟩:=bc.LY (b+n.toNat) (by rw [he]; omega);rw [he] at nr;have Xa:i=a.toNat:=by omega
   subst Xa;rw [ar] at b3;have:b=dR:=by injection b3 with b3; omega
   subst this;have vH:idx rows a=some r:=by rw [idx,if_pos aK]; exact b9
   have FH:=fO r vH p aq;have rk:p.At=n:=by omega
   obtain ⟨_,dR,b5,_,_,g3⟩:=at_ r vH p aq;rw [ar] at b5;have:b=dR:=by injection b5 with b5; omega
   subst this;unfold q';rw [vH];show _=k9 r n;have OC:=get_some (c6.rows r (List.mem_of_getElem? b9)) aq;rw [rk,<- g3,rk,List.getD_eq_getElem?_getD,List.getElem?_eq_getElem pO] at OC;exact OC.symm
structure kj (x:Sym):Prop where
 lit:x.Lit=true->x.Name.size=1/\0<lQ x.Name 0/\lQ x.Name 0<=255/\x.cb=0
 num:0<=x.cb/\x.cb<=50000
theorem Lf (x:Sym) (a b:Bool):Par (uI x a b) λr=>r=true->kj x:=by
 unfold uI;refine Par.bH (λah=>?_) (λah=>?_)
 ·refine .aB (Ξ:=λc=>c=false->x.Name.size=1/\x.cb=0) ?_ λc aa=>Par.bH (λ_=>.aj λh=>by cases h) (λaf=>?_)
  ·refine Par.bH (λ_=>.aj λh=>by cases h) (λ_=>Par.q8 (λ_=>.aj λh=>by cases h) (λh1=>.aj λaf=>⟨by omega,?_⟩));simpa using af
  ·obtain ⟨h1,aE⟩:=aa af;refine .aB (Ξ:=λc=>c=lQ x.Name 0) (λc aa=>?_) λc aa=>?_
   ·unfold kJ at aa
    split at aa
    ·exact (Option.some.inj aa).symm
    ·cases aa
   ·subst aa;refine .aB (Ξ:=λr=>r.2=true->0<lQ x.Name 0/\lQ x.Name 0<=255) ?_ λr hr=>.aj λh=>⟨λ_=>⟨h1,(hr h).1,(hr h).2,aE⟩,by omega⟩;unfold AD;refine Par.bt (λh=>.aj λ_=>by omega) (λ_=>Par.bt (λh=>.aj λ_=>by omega) (λ_=>Par.bt (λh=>.aj λ_=>by omega) (λ_=>?_)));refine .aB (Ξ:=λc=>c=true->lQ x.Name 0=92\/lQ x.Name 0=39) (Par.bt (λh=>.aj λ_=>.inl h) (λ_=>.aj λh=>.inr (of_decide_eq_true h))) λc aa=>Par.bH (λh=>.aj λ_=>by rcases aa h with h | h <;> omega) (λ_=>?_);refine .aB (Ξ:=λr:Int × Bool=>r.2=true->0<lQ x.Name 0/\lQ x.Name 0<=255) (Par.bt (λh=>.aj λaI=>?_) (λ_=>.aj λh=>by cases h)) λr hr=>.aj hr;have:lQ x.Name 0<=126:=of_decide_eq_true aI;omega
 ·refine .aB (Ξ:=λc=>c=true->0<=x.cb/\x.cb<=50000) ?_ λc aa=>.aj λh=>⟨λaI=>(by rw [ah] at aI; cases aI),aa h⟩;refine .aB (Ξ:=λ_=>True) (λ_ _=>trivial) λc _=>Par.bH (λ_=>Par.bt (λh=>.aj λ_=>by omega) (λ_=>Par.bH (λ_=>Par.bt (λh=>.aj λaI=>⟨by omega,of_decide_eq_true aI⟩) (λ_=>.aj λh=>by cases h)) (λ_=>.aj λh=>by cases h))) (λ_=>.aj λh=>by cases h)
theorem Qn (x:Sym):Par (uJ x) λr=>r=true->kj x:=by
 unfold uJ;refine .aB (Ξ:=λr=>r=true->kj x) ?_ λr hr=>.aj hr;refine Par.bH (λ_=>Par.bH (λh=>.aj λaI=>?_) (λ_=>.aj λh=>by cases h)) (λ_=>.aj λh=>by cases h);have h1:x.Lit=false:=by simpa using h
 have af:x.cb=0:=of_decide_eq_true aI;exact ⟨λh=>(by rw [h1] at h; cases h),by omega⟩
theorem Zn (d:Decl) (aC:d.fi.length<=1000000):Par (ye d) λr=>r=true->∀ x∈d.fi,kj x:=by
 unfold ye;refine .aB (Ξ:=λ_=>True) (λ_ _=>trivial) λc _=>Par.bH (λ_=>.aj λh=>by cases h) (λ_=>?_);refine .aB (Par.scan d.fi (by omega) (λx=>kj x) (λr=>r=false) (λs y aK h1 hi hm=>?_) (λs av=>by simp [av])) λx J=>?_
 ·refine Par.bt (λ_=>?_) (λh=>absurd h1 h);rw [hi];have hw:aG (s+1)=s+1:=by rw [cv]; omega
  rw [hw];exact .aB (Ξ:=λz=>z=y) (.aj rfl) λz aW=>by
   subst aW;exact .aB (Lf _ _ _) λc aa=>Par.bH (λ_=>.aj rfl) (λaf=>.aj ⟨rfl,aa (by simpa using af)⟩)
 ·rcases x with _ | r
  ·exact .aj λ_=>J
  ·exact .aj λh=>by have:r=false:=J; rw [this] at h; cases h
theorem Zo (a:Alt) (aC:a.Parts.length<=1000000):Par (yf a) λr=>r=true->(∀ p∈a.Parts,kj p.Sym)/\kj a.Prec:=by
 unfold yf;refine .aB (Par.scan a.Parts (by omega) (λp=>kj p.Sym) (λr=>r=false) (λs y aK h1 hi hm=>?_) (λs av=>by simp [av])) λx J=>?_
 ·refine Par.bt (λ_=>?_) (λh=>absurd h1 h);rw [hi];have hw:aG (s+1)=s+1:=by rw [cv]; omega
  rw [hw];refine .aB (Ξ:=λz=>z=y) (.aj rfl) λz aW=>?_;subst aW;refine .aB (Ξ:=λc=>c=false->kj z.Sym) ?_ λc aa=>Par.bH (λ_=>.aj rfl) (λaf=>.aj ⟨rfl,aa af⟩);refine Par.bt (λhe=>?_) (λcS=>?_)
  ·refine .aB (Lf _ _ _) λc aa=>Par.bH (λ_=>.aj λh=>by cases h) (λaf=>?_);have c6:=aa (by simpa using af);exact λ_ _ _=>c6
  ·refine Par.q8 (λ_=>?_) (λh=>absurd h cS);refine .aB (Qn _) λc aa=>Par.bH (λ_=>.aj λh=>by cases h) (λaf=>?_);have c6:=aa (by simpa using af);exact λ_ _ _=>c6
 ·rcases x with _ | r
  ·have J:∀ p∈a.Parts,kj p.Sym:=J;refine .aB (Ξ:=λc=>c=true->kj a.Prec) ?_ λc aa=>.aj λh=>⟨J,aa h⟩;refine .aB (Qn _) λc aa=>Par.bH (λaf=>.aj λ_=>aa af) (λ_=>.aB (Lf _ _ _) λc aa=>.aj aa)
  ·exact .aj λh=>by have:r=false:=J; rw [this] at h; cases h
structure Mt (s:Source):Prop where
 decls:∀ d∈s.Decls,∀ x∈d.fi,kj x
 rules:∀ r∈s.eR,∀ a∈r.gi,(∀ p∈a.Parts,kj p.Sym)/\kj a.Prec
theorem Zj (s:Source) (ar:u' s):Par (yc s) λr=>r=true->Mt s:=by
 unfold yc;refine .aB (Ξ:=ie (λ_=>True) (λr=>r=false)) ?_ λx J=>?_
 ·refine Par.loop (λ_=>True) trivial λj _=>?_;refine Par.bt (λ_=>.aB (Ξ:=λ_=>True) (λ_ _=>trivial) λ_ _=>Par.bH (λ_=>.aj rfl) (λ_=>.aj trivial)) (λ_=>.aj trivial)
 ·rcases x with _ | r
  ·refine .aB (Par.scan s.Decls (by have:=ar.ql; omega) (λd=>∀ x∈d.fi,kj x) (λr=>r=false) (λi y aK h1 hi hm=>?_) (λs av=>by simp [av])) λx J=>?_
   ·refine Par.bt (λ_=>?_) (λh=>absurd h1 h);rw [hi];have hw:aG (i+1)=i+1:=by have:=ar.ql; rw [cv]; omega
    rw [hw];refine .aB (Ξ:=λz=>z=y) (.aj rfl) λz aW=>?_;subst aW;exact .aB (Zn z (by have:=(ar.decls z hm).n; omega)) λc aa=>Par.bH (λ_=>.aj rfl) (λaf=>.aj ⟨rfl,aa (by simpa using af)⟩)
   ·rcases x with _ | r
    ·have aQ:∀ d∈s.Decls,∀ x∈d.fi,kj x:=J;refine .aB (Par.scan s.eR (by have:=ar.aF; omega) (λr=>∀ a∈r.gi,(∀ p∈a.Parts,kj p.Sym)/\kj a.Prec) (λr=>r=false) (λi y aK h1 hi hm=>?_) (λs av=>by simp [av])) λx J=>?_
     ·refine Par.bt (λ_=>?_) (λh=>absurd h1 h);rw [hi];have hw:aG (i+1)=i+1:=by have:=ar.aF; rw [cv]; omega
      rw [hw];refine .aB (Ξ:=λz=>z=y) (.aj rfl) λz aW=>?_;subst aW;have oH:=(ar.rules z hm);refine .aB (Ξ:=λ_=>True) (λ_ _=>trivial) λc _=>Par.bH (λ_=>.aj rfl) (λ_=>?_);refine .aB (Par.scan z.gi (by have:=oH.n; omega) (λa=>(∀ p∈a.Parts,kj p.Sym)/\kj a.Prec) (λr=>r=false) (λk y aK h1 hi hm=>?_) (λs av=>by simp [av])) λx J=>?_
      ·refine Par.bt (λ_=>?_) (λh=>absurd h1 h);rw [hi];have hw:aG (k+1)=k+1:=by have:=oH.n; rw [cv]; omega
       rw [hw];refine .aB (Ξ:=λz=>z=y) (.aj rfl) λz aW=>?_;subst aW;exact .aB (Zo z (by have:=(oH.alts z hm).n; omega)) λc aa=>Par.bH (λ_=>.aj rfl) (λaf=>.aj ⟨rfl,aa (by simpa using af)⟩)
      ·rcases x with _ | r
       ·exact .aj ⟨rfl,J⟩
       ·exact .aj J
     ·rcases x with _ | r
      ·exact .aj λ_=>⟨aQ,J⟩
      ·exact .aj λh=>by have:r=false:=J; rw [this] at h; cases h
    ·exact .aj λh=>by have:r=false:=J; rw [this] at h; cases h
  ·exact .aj λh=>by have:r=false:=J; rw [this] at h; cases h
structure ze (T:List b4) (G:List Bool):Prop where
 NU:G.length=T.length
 lo:3<=T.length
 hi:T.length<=lim
 Dg:∀ t∈T,t.Name.size<=dA/\(t.Lit=true->t.Name.size=1)
 le:∀ t∈T,t.cb<=50000
structure tJ (T:List b4) (G:List Bool):Prop where
 aQ:∀ (i:Nat) (t:b4),i<3->T[i]?=some t->t.cb<=0
 un:∀ (i j:Nat) (s t:b4),T[i]?=some s->T[j]?=some t->0<s.cb->s.cb=t.cb->i=j
 gr:∀ (i:Nat) (t:b4),3<=i->T[i]?=some t->(G[i]?=some true->0<t.cb)/\(G[i]?=some false->t.cb=0)
structure fa (m:fh):Prop where
 a:ze m.ba.bo m.ed
 b:m.eM=0->tJ m.ba.bo m.ed
 e_:∀ y∈m.dq,y.size<=dA
theorem vR {α:Type}{l:List α}{i:Int}{y:α}(h:idx l i=some y):0<=i/\i.toNat<l.length/\l[i.toNat]?=some y:=by
 unfold idx at h
 split at h
 ·rename_i aK;exact ⟨aK,(List.getElem?_eq_some_iff.1 h).1,h⟩
 ·cases h
theorem ze.set {T:List b4}{G:List Bool}(h:ze T G) {k:Nat}{t t':b4}(hk:T[k]?=some t) (aC:t'.Name=t.Name) (ah:t'.Lit=t.Lit) (hu:t'.cb<=50000) {Mk:List Bool}(dh:Mk.length=G.length):ze (T.set k t') Mk:=by
 have hm:=List.mem_of_getElem? hk;have key:∀ {P:b4->Prop},(∀ s∈T,P s)->P t'->∀ s∈T.set k t',P s:=λh1 af s av=>by
  rcases List.mem_or_eq_of_mem_set av with h | h
  ·exact h1 s h
  ·rw [h]; exact af
 exact ⟨by rw [dh,List.length_set]; exact h.NU,by rw [List.length_set]; exact h.lo,by rw [List.length_set]; exact h.hi,key h.Dg (by rw [aC,ah]; exact h.Dg t hm),key h.le hu⟩
theorem tJ.GX {T:List b4}{G:List Bool}(h:tJ T G) {k:Nat}{t t':b4}(hk:T[k]?=some t) (hu:t'.cb=t.cb):tJ (T.set k t') G:=by
 have aP:=(List.getElem?_eq_some_iff.1 hk).1;have key:∀ (i:Nat) (s:b4),(T.set k t')[i]?=some s->∃ cz,T[i]?=some cz/\cz.cb=s.cb:=by
  intro i s av;rw [p3 aP] at av;by_cases e:i=k
  ·rw [if_pos e] at av;cases av;exact ⟨t,by rw [e]; exact hk,hu.symm⟩
  ·rw [if_neg e] at av;exact ⟨s,av,rfl⟩
 refine ⟨λi s hi av=>?_,λi j s s2 av j_ aK he=>?_,λi s hi av=>?_⟩
 ·obtain ⟨cz,h1,af⟩:=key i s av;rw [<- af]; exact h.aQ i cz hi h1
 ·obtain ⟨cz,h1,af⟩:=key i s av;obtain ⟨aah,aE,bm⟩:=key j s2 j_;exact h.un i j cz aah h1 aE (by omega) (by omega)
 ·obtain ⟨cz,h1,af⟩:=key i s av;rw [<- af]; exact h.gr i cz hi h1
theorem tJ.aat {T:List b4}{G:List Bool}(h:tJ T G) {k:Nat}{t t':b4}(hk:T[k]?=some t) (aE:3<=k) (aN:k<G.length) (aK:0<t'.cb) (aC:∀ (i:Nat) (s:b4),T[i]?=some s->s.cb≠t'.cb):tJ (T.set k t') (G.set k true):=by
 have aP:=(List.getElem?_eq_some_iff.1 hk).1;refine ⟨λi s hi av=>?_,λi j s s2 av j_ aq he=>?_,λi s hi av=>?_⟩
 ·rw [p3 aP,if_neg (by omega)] at av;exact h.aQ i s hi av
 ·rw [p3 aP] at av j_;by_cases b9:i=k
  ·rw [if_pos b9] at av; cases av;by_cases b3:j=k
   ·omega
   ·rw [if_neg b3] at j_;exact absurd he.symm (aC j s2 j_)
  ·rw [if_neg b9] at av;by_cases b3:j=k
   ·rw [if_pos b3] at j_; cases j_;exact absurd he (aC i s av)
   ·rw [if_neg b3] at j_;exact h.un i j s s2 av j_ aq he
 ·rw [p3 aP] at av;rw [p3 aN];by_cases b9:i=k
  ·rw [if_pos b9] at av ⊢;cases av;exact ⟨λ_=>aK,λh=>by cases h⟩
  ·rw [if_neg b9] at av ⊢;exact h.gr i s hi av
theorem tl (m:fh) (a:Int) (n:ByteArray):Par (oe m a n) λm'=>rV m m'/\m'.eM≠0:=.of (t148 m a n)
theorem fa.fail {m m':fh}(h:fa m) (av:rV m m'/\m'.eM≠0):fa m':=⟨by rw [av.1.g,av.1.gr]; exact h.a,λe=>absurd e av.2,by rw [av.1.e_]; exact h.e_⟩
theorem Zl (m:fh) (x:Sym) (aE:3<=m.ba.bo.length) (h:m.ba.bo.length<=lim):Par (uG m x) λr=>r=-1\/(1<=r/\r≠2):=by
 have ah:lim=1000000000000\/lim<=1000000000000000:=by unfold lim; omega
 unfold uG;refine .aB (Ξ:=ie (λ_=>True) (λr:Int=>1<=r/\r≠2)) ?_ λr hr=>?_
 ·refine Par.loop (λs=>1<=s/\s<=m.ba.bo.length) ⟨by decide,by omega⟩ λs av=>?_
  ·refine Par.bt (λaP=>?_) (λ_=>.aj trivial);refine .aB (Ξ:=λc=>c=true->s≠2) ?_ λc aa=>Par.bH (λaI=>.aj ⟨av.1,aa aI⟩) (λ_=>.aj ⟨by rw [cv]; omega,by rw [cv]; omega⟩);refine .go λy _=>Par.bH (λ_=>.go λz _=>Par.bH (λ_=>.aj λaI=>by simpa using aI) (λ_=>.aj λh=>by cases h)) (λ_=>.aj λh=>by cases h)
 ·rcases r with _ | r
  ·exact .aj (.inl rfl)
  ·exact .aj (.inr hr)
theorem Ql (m:fh) (n:Int) (aE:3<=m.ba.bo.length) (h:m.ba.bo.length<=lim):Par (wb m n) λr=>r<0->∀ (i:Nat) (t:b4),3<=i->m.ba.bo[i]?=some t->t.cb≠n:=by
 have ah:lim=1000000000000\/lim<=1000000000000000:=by unfold lim; omega
 unfold wb;refine .aB (Ξ:=ie (λ_=>∀ (i:Nat) (t:b4),3<=i->m.ba.bo[i]?=some t->t.cb≠n) (λr:Int=>0<=r)) ?_ λr hr=>?_
 ·refine Par.loop (λs=>3<=s/\s<=m.ba.bo.length/\∀ (i:Nat) (t:b4),3<=i->(i:Int)<s->m.ba.bo[i]?=some t->t.cb≠n) ⟨by decide,by omega,λi t h1 af=>by omega⟩ λs av=>?_;obtain ⟨h1,af,av⟩:=av;refine Par.bt (λaP=>?_) (λdF=>.aj λi t hi au=>av i t hi ?_ au)
  ·refine .go λy ao=>?_;obtain ⟨_,_,ao⟩:=vR ao;have hw:aG (s+1)=s+1:=by rw [cv]; omega
   rw [hw];refine Par.bt (λe=>.aj (show (0:Int)<=s by omega)) (λe=>.aj ⟨by omega,by omega,λi t hi zO au=>?_⟩);by_cases b3:i=s.toNat
   ·subst b3;rw [ao] at au; cases au; exact e
   ·exact av i t hi (by omega) au
  ·have:=(List.getElem?_eq_some_iff.1 au).1;omega
 ·rcases r with _ | r
  ·exact .aj λ_=>hr
  ·exact .aj λh=>by have:(0:Int)<=r:=hr; omega
theorem Ed {α:Type}{l:List α}{x:α}(i:Nat) {y:α}(h:(l++[x])[i]?=some y):(i<l.length/\l[i]?=some y)\/(i=l.length/\y=x):=by
 by_cases hi:i<l.length
 ·rw [List.getElem?_append_left hi] at h;exact .inl ⟨hi,h⟩
 ·rw [List.getElem?_append_right (by omega)] at h;by_cases e:i - l.length=0
  ·rw [e] at h;simp at h;exact .inr ⟨by omega,h.symm⟩
  ·have:([x]:List α)[i - l.length]?=none:=by rw [List.getElem?_eq_none]; simp; omega
   rw [this] at h; cases h
theorem Qk (m:fh) (x:Sym) (hm:fa m) (J:kj x) (av:x.Name.size<=dA):Par (wa m x) λr=>fa r.2/\(r.1=1\/3<=r.1):=by
 unfold wa;have ah:lim<=1000000000000000:=by unfold lim; omega
 refine .aB (Zl m x hm.a.lo hm.a.hi) λr hr=>Par.bt (λh=>.aj ⟨hm,?_⟩) (λ_=>?_)
 ·show r=1\/3<=r;omega
 refine .aB (Ξ:=λj:fh × Int=>j.1.ba=m.ba/\j.1.ed=m.ed/\j.1.dq=m.dq/\fa j.1/\j.2<=50000/\(j.1.eM=0->(x.Lit=true->0<j.2/\∀ (i:Nat) (t:b4),m.ba.bo[i]?=some t->t.cb≠j.2)/\(x.Lit=false->j.2=0))) ?_ λj ag=>?_
 ·refine Par.bH (λoE=>?_) (λoE=>.aj ⟨rfl,rfl,rfl,hm,by show (0:Int)<=_; decide,λ_=>⟨λh=>(by rw [oE] at h; cases h),λ_=>rfl⟩⟩);obtain ⟨_,h1,af,_⟩:=J.lit oE;refine .aB (Ξ:=λc=>c=lQ x.Name 0) (λc aa=>?_) λc aa=>?_
  ·unfold kJ at aa
   split at aa
   ·exact (Option.some.inj aa).symm
   ·cases aa
  subst aa;have hw:aG (lQ x.Name 0)=lQ x.Name 0:=by rw [cv]; omega
  rw [hw];refine .aB (Ql m (lQ x.Name 0) hm.a.lo hm.a.hi) λo aX=>?_;refine .aB (Ξ:=λj:fh=>j.ba=m.ba/\j.ed=m.ed/\j.dq=m.dq/\fa j/\(j.eM=0->m.eM=0/\o<0)) (Par.bt (λh=>.aB (tl m x.At x.Name) λm' aI=>.aj ⟨aI.1.g,aI.1.gr,aI.1.e_,hm.fail aI,λe=>absurd e aI.2⟩) (λh=>.aj ⟨rfl,rfl,rfl,hm,λe=>⟨e,by omega⟩⟩)) λj ag=>.aj ⟨ag.1,ag.2.1,ag.2.2.1,ag.2.2.2.1,by show lQ x.Name 0<=_; omega,λe=>⟨λ_=>⟨h1,λi t au=>?_⟩,λh=>(by rw [oE] at h; cases h)⟩⟩;obtain ⟨b9,b3⟩:=ag.2.2.2.2 e;by_cases aE:3<=i
  ·exact aX b3 i t aE au
  ·have:=(hm.b b9).aQ i t (by omega) au;show t.cb≠lQ x.Name 0;omega
 ·obtain ⟨aN,sc,vB,cX,hle,he⟩:=ag;have Oj:j.1.eM=0->tJ m.ba.bo m.ed:=λe=>by have:=cX.b e; rwa [aN,sc] at this
  refine Par.ap λs9=>Par.ap λ_=>.aj ?_;rw [aN] at s9;rw [aN,sc,vB];simp only [List.length_cons,List.length_nil] at s9;have aE:=hm.a.lo;have JJ:=hm.a.NU;refine ⟨⟨⟨by simp [JJ],by show 3<=(m.ba.bo++[_]).length; simp; omega,by show (m.ba.bo++[_]).length<=_; simp; omega,λt au=>?_,λt au=>?_⟩,λfU=>?_,hm.e_⟩,?_⟩
  ·rcases List.mem_append.1 au with au | au
   ·exact hm.a.Dg t au
   ·rw [List.mem_singleton.1 au];exact ⟨av,λh=>(J.lit h).1⟩
  ·rcases List.mem_append.1 au with au | au
   ·exact hm.a.le t au
   ·rw [List.mem_singleton.1 au]; exact hle
  ·have Nl:j.1.eM=0:=fU;have ar:=Oj Nl;obtain ⟨JC,Cn⟩:=he Nl;refine ⟨λi t hi au=>?_,λi k s t av au aK heq=>?_,λi t hi au=>?_⟩
   ·rcases Ed i au with ⟨h1,af⟩ | ⟨h1,_⟩
    ·exact ar.aQ i t hi af
    ·omega
   ·rcases Ed i av with ⟨h1,af⟩ | ⟨h1,af⟩
    ·rcases Ed k au with ⟨bm,b7⟩ | ⟨bm,b7⟩
     ·exact ar.un i k s t af b7 aK heq
     ·subst b7;have heq:s.cb=j.2:=heq;cases oE:x.Lit with
      | true=>exact absurd heq ((JC oE).2 i s af)
      | false=>have:=Cn oE; omega
    ·subst af;rcases Ed k au with ⟨bm,b7⟩ | ⟨bm,b7⟩
     ·have heq:j.2=t.cb:=heq;have aK:0<j.2:=aK;cases oE:x.Lit with
      | true=>exact absurd heq.symm ((JC oE).2 k t b7)
      | false=>have:=Cn oE; omega
     ·omega
   ·have VZ:(m.ed++[x.Lit])[i]?=if i=m.ba.bo.length then some x.Lit else m.ed[i]?:=by
     by_cases e:i=m.ba.bo.length
     ·rw [if_pos e,e,<- JJ,List.getElem?_append_right (Nat.le_refl _)]; simp
     ·have:=(List.getElem?_eq_some_iff.1 au).1;simp at this;rw [if_neg e,List.getElem?_append_left (by omega)]
    show ((m.ed++[x.Lit])[i]?=some true->0<t.cb)/\((m.ed++[x.Lit])[i]?=some false->t.cb=0);rw [VZ];rcases Ed i au with ⟨h1,af⟩ | ⟨h1,af⟩
    ·rw [if_neg (by omega)];exact ar.gr i t hi af
    ·rw [if_pos h1];subst af;exact ⟨λh=>(JC (Option.some.inj h)).1,λh=>Cn (Option.some.inj h)⟩
  ·right;show 3<=aG (((m.ba.bo++[_]).length:Int) - 1);simp only [List.length_append,List.length_cons,List.length_nil];rw [cv]; omega
theorem xK {α:Type}{l:List α}{i:Int}{y:α}(h:idx l i=some y):y∈l:=List.mem_of_getElem? (vR h).2.2
theorem fa.GX {m:fh}(h:fa m) {k:Nat}{t t':b4}(hk:m.ba.bo[k]?=some t) (aC:t'.Name=t.Name) (ah:t'.Lit=t.Lit) (hu:t'.cb=t.cb):ze (m.ba.bo.set k t') m.ed/\(m.eM=0->tJ (m.ba.bo.set k t') m.ed) :=
 ⟨h.a.set hk aC ah (by rw [hu]; exact h.a.le t (List.mem_of_getElem? hk)) rfl,λe=>(h.b e).GX hk hu⟩
theorem fa.IP {m m':fh}(h:fa m) (av:rV m m'/\m'.eM≠0):fa (⟨(⟨m.ba.bo,m'.ba.dD,m'.ba.bu,m'.ba.hp,m'.ba.j3⟩:bA),m'.ed,m'.fD,m'.dq,m'.eM,m'.kn,m'.ko,m'.fj,m'.df⟩:fh) :=
 ⟨by show ze m.ba.bo m'.ed; rw [av.1.gr]; exact h.a,λe=>absurd e av.2,by show ∀ y∈m'.dq,_; rw [av.1.e_]; exact h.e_⟩
theorem Zk (m:fh) (d:Decl) (x:Sym) (hm:fa m) (J:kj x) (av:x.Name.size<=dA):Par (v8 m d x) fa:=by
 unfold v8;refine Par.bH (λ_=>?_) (λ_=>?_)
 ·refine .aB (Ξ:=λ_=>True) (λ_ _=>trivial) λk _=>.aB (Ξ:=fa) ?_ λm' hm=>.aj hm;refine Par.bt (λ_=>Par.ap λ_=>.aj ⟨hm.a,hm.b,hm.e_⟩) (λ_=>?_);refine .go λy _=>.aB (Ξ:=fa) (Par.bH (λ_=>.aB (tl m _ _) λm' h=>.aj (hm.fail h)) (λ_=>.aj hm)) λm' hm=>.aj hm
 ·refine .aB (Qk m x hm J av) λr hr=>?_;obtain ⟨hr,i'⟩:=hr;refine .go λy ao=>?_;refine .aB (Ξ:=fa) ?_ λhd pF=>?_
  ·refine Par.bH (λ_=>?_) (λ_=>.aj hr);refine .aB (Ξ:=fa) (Par.bH (λ_=>.aB (tl r.2 _ _) λm' h=>.aj (hr.IP h)) (λ_=>.aj hr)) λfY vn=>?_;refine .go λz aW=>?_;obtain ⟨_,_,aW⟩:=vR aW;rw [List.set_set];obtain ⟨h1,af⟩:=vn.GX (t':=(⟨z.Name,z.Lit,z.cb,fY.fj,aG (d.Kind - 1),z.Tag⟩:b4)) aW rfl rfl rfl;exact .aj ⟨h1,af,vn.e_⟩
  refine .go λy _=>?_;refine .aB (Ξ:=fa) ?_ λiN vo=>?_
  ·refine Par.bt (λpP=>?_) (λ_=>.aj pF);refine .aB (Ξ:=λc:Bool=>c=false->r.1≠1/\∀ (i:Nat) (t:b4),3<=i->hd.ba.bo[i]?=some t->t.cb≠x.cb) ?_ λc aa=>?_
   ·refine Par.bt (λ_=>.aj λh=>by cases h) (λh1=>.go λgr _=>Par.bH (λ_=>.aj λh=>by cases h) (λ_=>.aB (Ql hd x.cb pF.a.lo pF.a.hi) λo aX=>.aj λh=>⟨h1,aX (by have:=of_decide_eq_false h; omega)⟩))
   refine .aB (Ξ:=λj=>fa j/\(j.eM=0->r.1≠1/\∀ (i:Nat) (t:b4),3<=i->j.ba.bo[i]?=some t->t.cb≠x.cb)) (Par.bH (λ_=>.aB (tl hd _ _) λm' h=>.aj ⟨pF.IP h,λe=>absurd e h.2⟩) (λh=>.aj ⟨pF,λ_=>aa h⟩)) λh2 tY=>?_;obtain ⟨tY,aC⟩:=tY;refine .go λz aW=>.go λgr sc=>.aj ?_;obtain ⟨aK,aP,aW⟩:=vR aW;obtain ⟨_,Xp,sc⟩:=vR sc;have hle:=J.num;refine ⟨tY.a.set (t':=(⟨z.Name,z.Lit,x.cb,z.Level,z.jg,z.Tag⟩:b4)) aW rfl rfl hle.2 (by simp),λe=>?_,tY.e_⟩;obtain ⟨aE,bm⟩:=aC e;have ar:=tY.b e;refine ar.aat (t':=(⟨z.Name,z.Lit,x.cb,z.Level,z.jg,z.Tag⟩:b4)) aW (by omega) Xp pP λi t au=>?_;by_cases adV:3<=i
   ·grind
   ·have:=ar.aQ i t (by omega) au
    grind
  refine .go λy _=>.aB (Ξ:=fa) ?_ λj ag=>.aj ag;refine Par.bH (λ_=>?_) (λ_=>.aj vo);refine .aB (Ξ:=λ_=>True) (λ_ _=>trivial) λc _=>?_;refine .aB (Ξ:=fa) (Par.bH (λ_=>.aB (tl iN _ _) λm' h=>.aj (vo.IP h)) (λ_=>.aj vo)) λnD BY=>?_;refine .go λz aW=>?_;obtain ⟨_,_,aW⟩:=vR aW;obtain ⟨h1,af⟩:=BY.GX (t':=(⟨z.Name,z.Lit,z.cb,z.Level,z.jg,d.Tag⟩:b4)) aW rfl rfl rfl;exact .aj ⟨h1,af,BY.e_⟩
theorem Qm (m:fh) (x:Sym) (hm:fa m) (J:kj x) (av:x.Name.size<=dA):Par (tn m x) λr=>fa r.2:=by
 unfold tn;refine Par.bH (λ_=>.aB (Qk m x hm J av) λr hr=>.aj hr.1) (λ_=>.aB (Ξ:=λ_=>True) (λ_ _=>trivial) λk _=>Par.bH (λ_=>.aj hm) (λ_=>.aB (Ξ:=λ_=>True) (λ_ _=>trivial) λt _=>Par.bH (λ_=>.aB (tl m _ _) λm' h=>.aj (hm.fail h)) (λ_=>.aj hm)))
theorem Zm (m:fh) (left:ByteArray) (a:Alt) (hm:fa m) (ar:yO a) (aJ:(∀ p∈a.Parts,kj p.Sym)/\kj a.Prec):Par (v_ m left a) fa:=by
 have aC:=ar.n;unfold v_;refine .aB (Ξ:=λ_=>True) (λ_ _=>trivial) λaR _=>?_;refine .aB (Ξ:=λr:fh × List Int × ByteArray × Int=>fa r.1) ?_ λa8 aE=>?_
 ·refine Par.loop (λs=>fa s.1/\0<=s.2.2.2.2) ⟨hm,Int.le_refl 0⟩ λs av=>?_;obtain ⟨m1,rt,bH,at_,i⟩:=s;obtain ⟨av,aK⟩:=av;simp only at av aK ⊢;refine Par.bt (λaP=>?_) (λ_=>.aj av);refine .aB (Ξ:=λj:fh × List Int × ByteArray × Int=>fa j.1) ?_ λj ag=>.aj ⟨ag,by show 0<=aG (i+1); rw [cv]; omega⟩;refine .go λy ao=>.aB (Ξ:=λj:fh × List Int × ByteArray × Int=>fa j.1) ?_ λj ag=>.aj ag;have FP:=(xK ao);refine .aB (Ξ:=λj:fh × List Int × ByteArray × Int=>fa j.1) ?_ λj ag=>.aj ag;refine Par.bH (λ_=>?_) (λ_=>?_)
  ·exact .aB (Qm m1 y.Sym av (aJ.1 y FP) (ar.parts y FP).1) λr hr=>Par.ap λ_=>.aj hr
  ·exact .aB (Ξ:=λ_=>True) (λ_ _=>trivial) λj _=>.aj ⟨av.a,av.b,av.e_⟩
 ·refine .aB (Ξ:=λ_=>True) (λ_ _=>trivial) λgB _=>?_;refine .aB (Ξ:=λj:fh × Int=>fa j.1) ?_ λj ag=>Par.ap λ_=>Par.ap λ_=>.aj ⟨ag.a,ag.b,ag.e_⟩;refine Par.bH (λ_=>?_) (λ_=>.aj aE);refine .aB (Ξ:=λ_=>True) (λ_ _=>trivial) λc _=>.aB (Ξ:=λj:fh × Int=>fa j.1) ?_ λj ag=>.aj ag;exact Par.bH (λ_=>.aB (Qm a8.1 a.Prec aE aJ.2 ar.prec) λr hr=>.aj hr) (λ_=>.aB (tl a8.1 _ _) λm' h=>.aj (aE.fail h))
structure u7 (g:bA):Prop where
 aQ:∀ (i:Nat) (t:b4),i<3->g.bo[i]?=some t->t.cb<=0
 pos:∀ (i:Nat) (t:b4),3<=i->g.bo[i]?=some t->0<t.cb/\t.cb<=100000
 un:∀ (i j:Nat) (s t:b4),g.bo[i]?=some s->g.bo[j]?=some t->0<s.cb->s.cb=t.cb->i=j
 Dg:∀ t∈g.bo,t.Name.size<=dA/\(t.Lit=true->t.Name.size=1)
 e1:∀ x∈g.dD,x.Name.size<=4 * dA
theorem Zi (s:Source) (ar:u' s):Par (v7 s) λr=>r.2.1=0->u7 r.1:=by
 have W1:=ar.ql;have CG:=ar.aF;unfold v7;refine .aB (Zj s ar) λc aa=>Par.bH (λ_=>.aj λh=>absurd h (by decide)) (λku=>?_);have ok:Mt s:=aa (by simpa using ku);refine .aB (Ξ:=λl=>l=List.replicate 3 false) (λa e=>by unfold oO at e; split at e <;> cases e; rfl) λa8 hl=>?_;subst hl
 -- declarations
 refine .aB (Ξ:=λr:fh × ByteArray=>fa r.1) ?_ λb1 b7=>?_
 ·refine Par.loop (λz=>fa z.1/\0<=z.2.2) ⟨⟨⟨rfl,Nat.le_refl 3,by show 3<=lim; unfold lim; omega,λt au=>?_,λt au=>?_⟩,λ_=>⟨λi t hi au=>?_,λi j a b aJ ar aK he=>?_,λi t hi au=>?_⟩,λy ao=>by cases ao⟩,Int.le_refl 0⟩ λz aW=>?_
  ·have au:t∈[_,_,_]:=au;simp only [List.mem_cons,List.not_mem_nil,or_false] at au;rcases au with rfl | rfl | rfl <;> exact ⟨by decide,λh=>by cases h⟩
  ·have au:t∈[_,_,_]:=au;simp only [List.mem_cons,List.not_mem_nil,or_false] at au;rcases au with rfl | rfl | rfl <;> decide
  ·have au:t∈[_,_,_]:=List.mem_of_getElem? au;simp only [List.mem_cons,List.not_mem_nil,or_false] at au;rcases au with rfl | rfl | rfl <;> decide
  ·have aJ:a∈[_,_,_]:=List.mem_of_getElem? aJ;simp only [List.mem_cons,List.not_mem_nil,or_false] at aJ;rcases aJ with rfl | rfl | rfl <;> exact absurd aK (by decide)
  ·have:=(List.getElem?_eq_some_iff.1 au).1;have:i<3:=this;omega
  ·obtain ⟨m,st,i⟩:=z;obtain ⟨hm,aK⟩:=aW;simp only at hm aK ⊢;refine Par.bt (λaP=>?_) (λ_=>.aj hm);refine .go λd aQ=>?_;have j8:=xK aQ;refine .aB (Ξ:=λ_=>True) (λ_ _=>trivial) λ_ _=>.aB (Ξ:=λ_=>True) (λ_ _=>trivial) λjb _=>?_;refine .aB (Ξ:=λr:fh × ByteArray=>fa r.1) ?_ λr hr=>.aj ⟨hr,by show 0<=aG (i+1); rw [cv]; omega⟩;refine Par.loop (λz=>fa z.1/\0<=z.2.2) ⟨⟨hm.a,hm.b,hm.e_⟩,Int.le_refl 0⟩ λz aW=>?_;obtain ⟨m,st,k⟩:=z;obtain ⟨hm,I1⟩:=aW;simp only at hm I1 ⊢;have zH:=(ar.decls d j8).n;refine Par.bt (λxt=>?_) (λ_=>.aj hm);refine .aB (Ξ:=λr:fh × ByteArray=>fa r.1) ?_ λr hr=>.aj ⟨hr,by show 0<=aG (k+1); rw [cv]; omega⟩;refine Par.bH (λ_=>.go λx J=>?_) (λ_=>?_)
   ·have zZ:=xK J;exact .aB (Zk m d x hm (ok.decls d j8 x zZ) ((ar.decls d j8).syms x zZ)) λm' hZ=>.aj hZ
   ·refine .aB (Ξ:=fa) (Par.bH (λ_=>.go λ_ _=>.go λ_ _=>.aB (tl m _ _) λm' h=>.aj (hm.fail h)) (λ_=>.aj hm)) λm' hZ=>.go λ_ _=>.aj hZ
 -- what stands on the left
 refine .aB (Ξ:=fa) ?_ λgD I5=>?_
 ·refine Par.loop (λz=>fa z.1/\0<=z.2) ⟨b7,Int.le_refl 0⟩ λz aW=>?_;obtain ⟨m,i⟩:=z;obtain ⟨hm,aK⟩:=aW;simp only at hm aK ⊢;refine Par.bt (λaP=>?_) (λ_=>.aj hm);refine .aB (Ξ:=fa) ?_ λr hr=>.aj ⟨hr,by show 0<=aG (i+1); rw [cv]; omega⟩;refine .go λr hr=>.aB (Ξ:=λ_=>True) (λ_ _=>trivial) λ_ _=>?_;refine .aB (Ξ:=fa) (Par.bH (λ_=>.aB (tl m _ _) λm' h=>.aj (hm.fail h)) (λ_=>.aj hm)) λmV pG=>?_;refine .aB (Ξ:=λ_=>True) (λ_ _=>trivial) λ_ _=>?_;refine .aB (Ξ:=λl:List ByteArray=>∀ y∈l,y.size<=dA) (Par.bH (λ_=>Par.ap λ_=>.aj λy ao=>?_) (λ_=>.aj pG.e_)) λl ah=>.aj ⟨pG.a,pG.b,ah⟩;rcases List.mem_append.1 ao with ao | ao
  ·exact pG.e_ y ao
  ·rw [List.mem_singleton.1 ao]; exact (ar.rules r (xK hr)).left
 -- types and starts
 refine .aB (Ξ:=fa) ?_ λhP tZ=>?_
 ·refine Par.loop (λz=>fa z.1) I5 λz hm=>?_;obtain ⟨m,i⟩:=z;simp only at hm ⊢;refine Par.bt (λaP=>?_) (λ_=>.aj hm);refine .aB (Ξ:=fa) ?_ λr hr=>.aj hr;refine Par.loop (λz=>fa z.1) hm λz hm=>?_;obtain ⟨m,k⟩:=z;simp only at hm ⊢;refine .go λd _=>Par.bt (λaP=>?_) (λ_=>.aj hm);refine .aB (Ξ:=fa) ?_ λr hr=>.aj hr;refine .go λ_ _=>.go λ_ _=>.aB (Ξ:=λ_=>True) (λ_ _=>trivial) λ_ _=>?_;exact .aB (Ξ:=fa) (Par.bH (λ_=>.aB (tl m _ _) λm' h=>.aj (hm.fail h)) (λ_=>.aj hm)) λm' hZ=>.aj hZ
 refine .aB (Ξ:=λ_=>True) (λ_ _=>trivial) λxR _=>.aB (Ξ:=λ_=>True) (λ_ _=>trivial) λmA _=>?_
 -- the alternatives
 refine .aB (Ξ:=fa) ?_ λcj o8=>?_
 ·refine Par.loop (λz=>fa z.1/\0<=z.2) ⟨⟨tZ.a,tZ.b,tZ.e_⟩,Int.le_refl 0⟩ λz aW=>?_;obtain ⟨m,i⟩:=z;obtain ⟨hm,aK⟩:=aW;simp only at hm aK ⊢;refine Par.bt (λaP=>?_) (λ_=>.aj hm);refine .aB (Ξ:=fa) ?_ λr hr=>.aj ⟨hr,by show 0<=aG (i+1); rw [cv]; omega⟩;refine Par.loop (λz=>fa z.1/\0<=z.2) ⟨hm,Int.le_refl 0⟩ λz aW=>?_;obtain ⟨m,k⟩:=z;obtain ⟨hm,I1⟩:=aW;simp only at hm I1 ⊢;refine .go λd aQ=>Par.bt (λxt=>?_) (λ_=>.aj hm);have j8:=xK aQ;have zH:=(ar.rules d j8).n;refine .go λd1 Fy=>.go λd2 zG=>.go λa aJ=>?_;rw [aQ] at Fy zG;cases Fy; cases zG;have Oh:=xK aJ;exact .aB (Zm m d.Left a hm ((ar.rules d j8).alts a Oh) (ok.rules d j8 a Oh)) λm' hZ=>.aj ⟨hZ,by show 0<=aG (k+1); rw [cv]; omega⟩
 refine Par.q8 (λh=>.aj λaI=>absurd aI h) (λhe=>?_);have Kd:=o8.b he
 -- nonterminals
 refine .aB (Ξ:=λl:List fy=>1<=l.length/\∀ x∈l,x.Name.size<=4 * dA) ?_ λu2 I7=>?_
 ·refine Par.loop (λz=>1<=z.1.length/\∀ x∈z.1,x.Name.size<=4 * dA) ⟨Nat.le_refl 1,λx J=>?_⟩ λz aW=>?_
  ·rw [List.mem_singleton.1 J]; decide
  ·refine Par.bH (λ_=>.go λy ao=>.go λ_ _=>.aB (Ξ:=λ_=>True) (λ_ _=>trivial) λ_ _=>Par.ap λ_=>.aj ⟨by show 1<=(z.1++[_]).length; simp,λx J=>?_⟩) (λ_=>.aj aW);rcases List.mem_append.1 J with J | J
   ·exact aW.2 x J
   ·rw [List.mem_singleton.1 J];have:=o8.e_ y (xK ao);show y.size<=4 * dA;omega
 refine .aB (Ξ:=λl:List fy=>l.length<=24->∀ x∈l,x.Name.size<=4 * dA) ?_ λln N0=>?_
 ·refine Par.loop (λz=>(z.1.length<=24->∀ x∈z.1,x.Name.size<=4 * dA)/\0<=z.2/\z.2<=z.1.length) ⟨λ_=>I7.2,by show (0:Int)<=1; decide,by have:=I7.1; show (1:Int)<=(u2.length:Int); omega⟩ λz aW=>?_;obtain ⟨l,i⟩:=z;obtain ⟨ah,aK,hi⟩:=aW;simp only at ah aK hi ⊢;refine Par.bt (λhle=>.go λy ao=>?_) (λ_=>.aj ah);refine Par.cat (Par.ap λs9=>.aj ⟨λhlen x J=>?_,by show 0<=aG (i+1); unfold lim at s9; simp only [List.length_cons,List.length_nil] at s9; rw [cv]; omega,by show aG (i+1)<=(((l++[_]).length:Nat):Int); unfold lim at s9; simp only [List.length_cons,List.length_nil,List.length_append] at s9 ⊢; rw [cv]; omega⟩);have hlen:(l++[_]).length<=24:=hlen;simp only [List.length_append,List.length_cons,List.length_nil] at hlen;rcases List.mem_append.1 J with J | J
  ·exact ah (by omega) x J
  ·rw [List.mem_singleton.1 J];have fr:=(t153 i aK (by omega)).eq ao;show (_++y).size<=4 * dA;rw [ByteArray.size_append];show 1+y.size<=4 * dA;simp only [dA]; omega
 -- numbers
 have cX:=o8.a;have s9:cj.ba.bo.length<=1000000000000000:=by have:=cX.hi; unfold lim at this; omega
 refine .aB (Ξ:=λl:List b4=>∃ (i next:Int),l.length=cj.ba.bo.length/\(l.length:Int)<=i/\(∀ (j:Nat) (t:b4),l[j]?=some t->∃ t0,cj.ba.bo[j]?=some t0/\t.Name=t0.Name/\t.Lit=t0.Lit/\((t.cb=t0.cb/\(¬ (3<=j/\(j:Int)<i)\/cj.ed[j]?=some true))\/(57346<=t.cb/\t.cb<next/\3<=j/\(j:Int)<i)))/\(∀ (j k:Nat) (s t:b4),l[j]?=some s->l[k]?=some t->57346<=s.cb->s.cb=t.cb->j=k)/\57346<=next/\next<=57343+i/\i<=l.length) ?_ λmB N1=>?_
 ·refine Par.loop (λz=>z.1.length=cj.ba.bo.length/\(∀ (j:Nat) (t:b4),z.1[j]?=some t->∃ t0,cj.ba.bo[j]?=some t0/\t.Name=t0.Name/\t.Lit=t0.Lit/\((t.cb=t0.cb/\(¬ (3<=j/\(j:Int)<z.2.2)\/cj.ed[j]?=some true))\/(57346<=t.cb/\t.cb<z.2.1/\3<=j/\(j:Int)<z.2.2)))/\(∀ (j k:Nat) (s t:b4),z.1[j]?=some s->z.1[k]?=some t->57346<=s.cb->s.cb=t.cb->j=k)/\57346<=z.2.1/\z.2.1<=57343+z.2.2/\3<=z.2.2/\z.2.2<=z.1.length) ⟨rfl,λj t au=>⟨t,au,rfl,rfl,.inl ⟨rfl,.inl (by show ¬ (3<=j/\(j:Int)<3); omega)⟩⟩,λj k s t av au aK he=>?_,by show (57346:Int)<=57346; decide,by show (57346:Int)<=57343+3; decide,Int.le_refl 3,by have:=cX.lo; show (3:Int)<=(cj.ba.bo.length:Nat); omega⟩ λz aW=>?_
  ·have:=cX.le s (List.mem_of_getElem? av); omega
  obtain ⟨l,next,i⟩:=z;obtain ⟨ah,eX,ra,mj,s_,W',uh⟩:=aW;simp only at ah eX ra mj s_ W' uh ⊢;have hw:aG (i+1)=i+1:=by rw [cv]; omega
  have X3:aG (next+1)=next+1:=by rw [cv]; omega
  rw [hw,X3];refine Par.bt (λaP=>?_) (λdF=>.aj ⟨i,next,ah,by omega,eX,ra,mj,s_,uh⟩);have Fz:i.toNat<l.length:=by omega
  refine .aB (Ξ:=λj:List b4 × Int=>j.1.length=cj.ba.bo.length/\(∀ (k:Nat) (t:b4),j.1[k]?=some t->∃ t0,cj.ba.bo[k]?=some t0/\t.Name=t0.Name/\t.Lit=t0.Lit/\((t.cb=t0.cb/\(¬ (3<=k/\(k:Int)<i+1)\/cj.ed[k]?=some true))\/(57346<=t.cb/\t.cb<j.2/\3<=k/\(k:Int)<i+1)))/\(∀ (a k:Nat) (s t:b4),j.1[a]?=some s->j.1[k]?=some t->57346<=s.cb->s.cb=t.cb->a=k)/\57346<=j.2/\j.2<=57343+(i+1)) ?_ λj ag=>.aj ⟨ag.1,ag.2.1,ag.2.2.1,ag.2.2.2.1,ag.2.2.2.2,by show 3<=i+1; omega,by show i+1<=(j.1.length:Nat); rw [ag.1,<- ah]; omega⟩;refine .go λgr sc=>.aB (Ξ:=λj:List b4 × Int=>j.1.length=cj.ba.bo.length/\(∀ (k:Nat) (t:b4),j.1[k]?=some t->∃ t0,cj.ba.bo[k]?=some t0/\t.Name=t0.Name/\t.Lit=t0.Lit/\((t.cb=t0.cb/\(¬ (3<=k/\(k:Int)<i+1)\/cj.ed[k]?=some true))\/(57346<=t.cb/\t.cb<j.2/\3<=k/\(k:Int)<i+1)))/\(∀ (a k:Nat) (s t:b4),j.1[a]?=some s->j.1[k]?=some t->57346<=s.cb->s.cb=t.cb->a=k)/\57346<=j.2/\j.2<=57343+(i+1)) ?_ λj ag=>.aj ag;obtain ⟨_,_,sc⟩:=vR sc;refine Par.bH (λaN=>.go λy ao=>.aj ?_) (λaN=>.aj ⟨ah,λk t au=>?_,ra,mj,by omega⟩)
  ·obtain ⟨_,_,ao⟩:=vR ao;obtain ⟨t0,fU,b9,b3,e7⟩:=eX _ y ao;have aey:y.cb<next:=by
    rcases e7 with ⟨e7,_⟩ | e7
    ·have:=cX.le t0 (List.mem_of_getElem? fU); omega
    ·exact e7.2.1
   have mi:∀ (k:Nat) (t:b4),l[k]?=some t->t.cb<next:=λk t au=>by
    obtain ⟨t1,f0,_,_,f3⟩:=eX k t au;rcases f3 with ⟨f3,_⟩ | f3
    ·have:=cX.le t1 (List.mem_of_getElem? f0); omega
    ·exact f3.2.1
   refine ⟨by show (l.set _ _).length=_; rw [List.length_set]; exact ah,λk t au=>?_,λa k s t av au aK he=>?_,by show 57346<=next+1; omega,by show next+1<=_; omega⟩
   ·have au:(l.set i.toNat _)[k]?=some t:=au;rw [p3 Fz] at au;by_cases e:k=i.toNat
    ·rw [if_pos e] at au;cases au;subst e;exact ⟨t0,fU,b9,b3,.inr ⟨mj,by show next<next+1; omega,by omega,by omega⟩⟩
    ·rw [if_neg e] at au;obtain ⟨t1,f0,f1,f2,f3⟩:=eX k t au;refine ⟨t1,f0,f1,f2,?_⟩;rcases f3 with ⟨f3,f4⟩ | f3
     ·exact .inl ⟨f3,f4.imp (λh=>by omega) id⟩
     ·exact .inr ⟨f3.1,by show t.cb<next+1; omega,f3.2.2.1,by omega⟩
   ·have av:(l.set i.toNat _)[a]?=some s:=av;have au:(l.set i.toNat _)[k]?=some t:=au;rw [p3 Fz] at av au;by_cases e:a=i.toNat
    ·rw [if_pos e] at av;cases av;by_cases b5:k=i.toNat
     ·omega
     ·rw [if_neg b5] at au;have h1:=mi k t au;have he:next=t.cb:=he;omega
    ·rw [if_neg e] at av;by_cases b5:k=i.toNat
     ·rw [if_pos b5] at au;cases au;have h1:=mi a s av;have he:s.cb=next:=he;omega
     ·rw [if_neg b5] at au;exact ra a k s t av au aK he
  ·obtain ⟨t1,f0,f1,f2,f3⟩:=eX k t au;refine ⟨t1,f0,f1,f2,?_⟩;rcases f3 with ⟨f3,f4⟩ | f3
   ·by_cases e:k=i.toNat
    ·refine .inl ⟨f3,.inr ?_⟩;rw [e,sc];simpa using aN
    ·exact .inl ⟨f3,f4.imp (λh=>by omega) id⟩
   ·exact .inr ⟨f3.1,f3.2.1,f3.2.2.1,by omega⟩
 -- limits
 refine .aB (Ξ:=λc=>c=false->mB.length<=40/\ln.length<=24) ?_ λvg I2=>?_
 ·exact Par.bt (λ_=>.aj λh=>by cases h) (λh1=>Par.bt (λ_=>.aj λh=>by cases h) (λaf=>.aj λh=>by omega))
 refine .aB (Ξ:=λc=>c=false->vg=false) ?_ λA7 I3=>?_
 ·refine Par.loop (λz=>z.1=false->vg=false) id λz aW=>?_;refine Par.bH (λ_=>?_) (λ_=>.aj aW);exact .aB (Ξ:=λc=>c=false->vg=false) (Par.bH (λ_=>.aj λh=>by cases h) (λh=>.go λ_ _=>.aj λ_=>aW h)) λc aa=>.aj aa
 refine Par.bH (λ_=>.aj λh=>absurd h (by decide)) (λaa=>.aj λ_=>?_);obtain ⟨gJ,gv⟩:=I2 (I3 aa);obtain ⟨i,next,ah,dF,eX,ra,mj,s_,uh⟩:=N1;refine ⟨λj t ag au=>?_,λj t ag au=>?_,λj k s t av au aK Cn=>?_,λt au=>?_,N0 gv⟩
 ·obtain ⟨t0,fU,_,_,e7⟩:=eX j t au;rcases e7 with ⟨e7,_⟩ | e7
  ·rw [e7]; exact Kd.aQ j t0 ag fU
  ·omega
 ·have eF:j<mB.length:=(List.getElem?_eq_some_iff.1 au).1;obtain ⟨t0,fU,_,_,e7⟩:=eX j t au;rcases e7 with ⟨e7,nr⟩ | e7
  ·rcases nr with nr | nr
   ·omega
   ·have h1:=(Kd.gr j t0 ag fU).1 nr;have af:=cX.le t0 (List.mem_of_getElem? fU);omega
  ·omega
 ·by_cases VC:57346<=s.cb
  ·exact ra j k s t av au VC Cn
  ·obtain ⟨fl,fU,_,_,e7⟩:=eX j s av;obtain ⟨t0,f0,_,_,f3⟩:=eX k t au;rcases e7 with ⟨e7,_⟩ | e7
   ·rcases f3 with ⟨f3,_⟩ | f3
    ·exact Kd.un j k fl t0 fU f0 (by omega) (by omega)
    ·omega
   ·omega
 ·obtain ⟨j,ag,rfl⟩:=List.mem_iff_getElem.1 au;obtain ⟨t0,fU,b9,b3,_⟩:=eX j _ (List.getElem?_eq_getElem ag);have:=cX.Dg t0 (List.mem_of_getElem? fU);rw [b9,b3]; exact this
def sy (a b:cH):Bool:=decide (a.At<b.At)||(decide (a.At=b.At)&&decide (a.b'<b.b'))
theorem F' {a b:cH}:sy a b=true↔(a.At<b.At\/(a.At=b.At/\a.b'<b.b')):=by simp [sy]
theorem KZ {a b:cH}:sy a b=false↔¬ (a.At<b.At\/(a.At=b.At/\a.b'<b.b')):=by
 rw [<- F']; simp
theorem Qg:Ord sy where
 swo:=⟨λx=>by rw [KZ]; omega,λx y z h1 af=>by rw [F'] at *; omega,λx y z h1 af=>by rw [KZ] at *; omega⟩
 jz x y h1 af:=by
  rw [KZ] at h1 af;obtain ⟨aR,x2⟩:=x;obtain ⟨bF,y2⟩:=y;simp only at h1 af;have:aR=bF:=by omega
  have:x2=y2:=by omega
  subst_vars; rfl
theorem S7 {α:Type} [DecidableEq α] {lt:α->α->Bool}(h:Ord lt) {l:List α}(aC:l.Nodup):fg lt (ia lt l):=by
 have h1:=FZ h.swo l;have af:(ia lt l).Nodup:=(th lt l).nodup_iff.2 aC;refine List.Pairwise.imp (λ{a b} Cb=>?_) (h1.and af);cases bO:lt a b with
 | true=>rfl
 | false=>exact absurd (h.jz _ _ bO (by simpa using Cb.1)) Cb.2
def tF (T:List b4) (p:cH):Prop:=∃ (k:Nat) (t:b4),T[k]?=some t/\0<t.cb/\p=⟨t.cb,(k:Int)⟩
theorem tF.val {T:List b4}{p:cH}(h:tF T p):∃ (k:Nat) (t:b4),T[k]?=some t/\p.b'=(k:Int)/\p.At=t.cb/\0<t.cb:=by
 obtain ⟨k,t,h1,af,rfl⟩:=h;exact ⟨k,t,h1,rfl,rfl,af⟩
theorem Ig (a b:Int):∃ v,tp a b=some v/\(v<0↔a<b)/\(v=0↔a=b):=by
 have e:∀ a,wh a=some false:=λa=>by simp [wh]
 unfold tp;simp only [e,Option.bind_some,cond_false];by_cases h1:a<b
 ·exact ⟨-1,by simp [h1],by omega,by omega⟩
 ·by_cases af:b<a
  ·exact ⟨1,by simp [h1,af],by omega,by omega⟩
  ·exact ⟨0,by simp [h1,af],by omega,by omega⟩
theorem TI (g:bA) (aN:u7 g) (ah:g.bo.length<=1000):Tot (AE g) λl=>fg sy l/\l.length<=1000/\∀ p,p∈l↔tF g.bo p:=by
 unfold AE;refine .aB (Ξ:=λl:List cH=>(l.length<=1000/\∀ p,p∈l↔tF g.bo p)/\l.Pairwise λa b=>a.b'<b.b') ?_ λl ah=>?_
 ·refine Tot.upto (λs=>s.2) g.bo.length (λk s=>(s.1.length<=k/\∀ p,p∈s.1↔(tF g.bo p/\p.b'<(k:Int)))/\s.1.Pairwise λa b=>a.b'<b.b') rfl (by omega) ⟨⟨Nat.le_refl 0,λp=>⟨λh=>(by cases h),λh=>by obtain ⟨k,t,_,e,_⟩:=h.1.val; omega⟩⟩,.nil⟩ λk s hk he bc=>?_;obtain ⟨l,i⟩:=s;obtain ⟨⟨h1,af⟩,b7⟩:=bc;simp only at he h1 af b7 ⊢;subst he;rw [eA k (by omega)];refine Tot.bt (λaP=>?_) (λdF=>.aj ⟨⟨by omega,λp=>(af p).trans ⟨λh=>h.1,λh=>⟨h,?_⟩⟩⟩,b7⟩)
  ·have aP:k<g.bo.length:=by omega
   rw [dT aP];have mR:g.bo[k]?=some g.bo[k]:=List.getElem?_eq_getElem aP;refine .aB (Ξ:=λo:List cH=>(o.length<=k+1/\∀ p,p∈o↔(tF g.bo p/\p.b'<((k+1:Nat):Int)))/\o.Pairwise λa b=>a.b'<b.b') ?_ λo aX=>.aj ⟨aP,rfl,aX⟩;simp only [Option.bind_some];refine .aB (Ξ:=λo:List cH=>(o.length<=k+1/\∀ p,p∈o↔(tF g.bo p/\p.b'<((k+1:Nat):Int)))/\o.Pairwise λa b=>a.b'<b.b') ?_ λo aX=>.aj aX;refine Tot.bt (λaq=>.bJ<|.aj ⟨⟨by simp; omega,λp=>?_⟩,?_⟩) (λaq=>.aj ⟨⟨by omega,λp=>?_⟩,b7⟩)
   ·rw [List.mem_append,List.mem_singleton,af];constructor
    ·rintro (h | rfl)
     ·exact ⟨h.1,by omega⟩
     ·exact ⟨⟨k,_,mR,aq,rfl⟩,by show (k:Int)<((k+1:Nat):Int); omega⟩
    ·rintro ⟨h,hv⟩;obtain ⟨j,t,aE,bm,rfl⟩:=h;simp only at hv;by_cases e:j=k
     ·subst e;rw [mR] at aE; cases aE;exact .inr rfl
     ·exact .inl ⟨⟨j,t,aE,bm,rfl⟩,by show (j:Int)<k; omega⟩
   ·refine List.pairwise_append.2 ⟨b7,List.pairwise_singleton ..,λa aJ b ar=>?_⟩;rw [List.mem_singleton.1 ar];exact ((af a).1 aJ).2
   ·rw [af];constructor
    ·rintro ⟨h,hv⟩;exact ⟨h,by omega⟩
    ·rintro ⟨h,hv⟩;obtain ⟨j,t,aE,bm,rfl⟩:=h;simp only at hv;refine ⟨⟨j,t,aE,bm,rfl⟩,?_⟩;show (j:Int)<k;by_cases e:j=k
     ·subst e;rw [mR] at aE; cases aE;exact absurd bm aq
     ·omega
  ·obtain ⟨j,t,aE,_,rfl⟩:=h;have:=(List.getElem?_eq_some_iff.1 aE).1;show (j:Int)<k;omega
 ·obtain ⟨ah,J_⟩:=ah;have av:p4 (λa b=>DO a b) l=some (ia sy l):=by
   refine aaL Qg (λa aJ b ar=>?_) (by omega);obtain ⟨v,hv,h1,af⟩:=Ig a.At b.At;refine ⟨v,by unfold DO; rw [hv]; rfl,h1.trans ?_⟩;rw [F'];constructor
   ·exact .inl
   ·rintro (h | ⟨h,aI⟩)
    ·exact h
    ·exfalso;obtain ⟨i,s,b9,b3,rfl⟩:=(ah.2 a).1 aJ;obtain ⟨j,t,e7,nr,rfl⟩:=(ah.2 b).1 ar;simp only at h aI;have:=aN.un i j s t b9 e7 b3 h;omega
  rw [av];refine .aj ⟨S7 Qg (J_.imp λ{a b} h e=>by subst e; omega),by rw [(th sy l).length_eq]; exact ah.1,λp=>((th sy l).mem_iff).trans (ah.2 p)⟩
theorem abp:DU=some true:=by kernel_rfl
theorem Qw {α:Type}(keep:α->Bool) (val:α->Int) {l:List α}(ah:l.length<=1000):lN (jT keep val l):=by
 refine ⟨λp aq=>?_,?_⟩
 all_goals grind [K2,ZK]
theorem zr (l:List Row) (ah:l.length<=200) (hr:∀ r∈l,lN r.hh/\r.hh.length<=1000):Tot (yk l) λr=>r.1=l.map (·.Def)/\∀ a n,rD r.2 a n=some (q' (l.map (·.hh)) a n):=by
 unfold yk;refine .aB (Ξ:=λs:List Int × List (List cH)=>s.1=l.map (·.Def)/\s.2=l.map (·.hh)) ?_ λs av=>?_
 ·refine Tot.upto (λs=>s.2.2) l.length (λk s=>s.1=(l.take k).map (·.Def)/\s.2.1=(l.take k).map (·.hh)) rfl (by omega) ⟨rfl,rfl⟩ λk s hk he bc=>?_;obtain ⟨A,B,i⟩:=s;obtain ⟨h1,af⟩:=bc;simp only at he h1 af ⊢;subst he h1 af;rw [eA k (by omega)];refine Tot.bt (λaP=>?_) (λdF=>.aj ?_)
  ·have aP:k<l.length:=by omega
   rw [dT aP];refine Tot.aV (.bJ<|.bJ<|.aj ⟨aP,rfl,?_,?_⟩)
   all_goals grind [lG]
  grind
 ·obtain ⟨h1,af⟩:=av;rw [af];have c6:qc (l.map (·.hh)):=⟨by simp; omega,λr dH=>by
   grind⟩
  have eX:ER (l.map (·.hh)):=⟨by simp; omega,λr dH=>by
   grind⟩
  refine .aB (TR _ eX) λc aa=>.aj ⟨h1,λa n=>?_⟩;obtain ⟨hT,o,hO,fN⟩:=aa.2 c6;exact Vn c6 hO fN (fN.inv c6 (List.pairwise_reverse.2 hO.AU)) hT a n
structure wG (g:bA) (d:gW) (t:Tables):Prop where
 Nk:t.Def=d.cA.map λr=>hE (red r)
 gd:t.jA=(List.range g.dD.length).map λa=>hE (pos (gb d a))
 ac:∀ a n,rD t.cA a n=some (q' (d.cA.map λr=>(sD r).hh) a n)
 go:∀ a n,rD t.eo a n=some (q' ((List.range g.dD.length).map λa=>(qL (gb d a)).hh) a n)
 le:t.Left=g.bu.map (·.Left)
 jQ:t.kH=g.bu.map λp=>(p.dw.length:Int)
 Y3:fg sy t.ji/\t.ji.length<=1000/\∀ p,p∈t.ji↔tF g.bo p
theorem nS (g:bA) (n:Nat) (d:gW) (aQ:yV g n d) (hk:u7 g):Tot (yg g d) (wG g d):=by
 have aN:=aQ.o6;have au:=aN.lk;have ri:=aN.e1;have rk:=aN.jd;have mj:=aQ.gN;have vr:=aQ.a;have Cy:=aQ.o;unfold yg;refine .aB (TL g n d aQ) λaR h1=>?_;subst h1;refine .aB (zr _ (by simp; omega) λr hr=>?_) λx2 af=>.aB (TM g n d aQ) λa8 aE=>?_
 ·obtain ⟨q,a_,rfl⟩:=List.mem_map.1 hr;have ah:=(aQ.k5 q a_).1;have:=AT (oM (hE (red q))) o5 q;exact ⟨Qw _ _ (by omega),by show (jT _ _ q).length<=_; omega⟩
 subst aE;refine .aB (zr _ (by simp; omega) λr hr=>?_) λbg bm=>?_
 ·obtain ⟨a,_,rfl⟩:=List.mem_map.1 hr;have ah:=BH d a;have:=AT (pg (hE (pos (gb d a)))) id (gb d a);exact ⟨Qw _ _ (by omega),by show (jT _ _ (gb d a)).length<=_; omega⟩
 refine .aB (Ξ:=λs:List Int × List Int=>s.1=g.bu.map (·.Left)/\s.2=g.bu.map λp=>(p.dw.length:Int)) ?_ λbz dr=>.aB (TI g hk (by omega)) λeH pF=>.aj ?_
 ·refine Tot.upto (λs=>s.2.2) g.bu.length (λk s=>s.1=(g.bu.take k).map (·.Left)/\s.2.1=(g.bu.take k).map λp=>(p.dw.length:Int)) rfl (by omega) ⟨rfl,rfl⟩ λk s JT he bc=>?_;obtain ⟨A,B,i⟩:=s;obtain ⟨h1,af⟩:=bc;simp only at he h1 af ⊢;subst he h1 af;rw [eA k (by omega)];refine Tot.bt (λaP=>?_) (λdF=>.aj ?_)
  ·have aP:k<g.bu.length:=by omega
   rw [dT aP];refine Tot.aV (.bJ<|.bJ<|.aj ⟨aP,rfl,?_,?_⟩)
   all_goals grind [lG]
  grind
 ·refine ⟨?_,?_,λa m=>?_,λa m=>?_,dr.1,dr.2,pF⟩
  ·show x2.1=_;rw [af.1,List.map_map];rfl
  ·show bg.1=_;rw [bm.1,List.map_map];rfl
  ·show rD x2.2 a m=_;rw [af.2,List.map_map];rfl
  ·show rD bg.2 a m=_;rw [bm.2,List.map_map];rfl
theorem get_at {α:Type}{keep:α->Bool}{val:α->Int}{l:List α}{k:Nat}{x:α}(ah:l.length<=1000) (hk:l[k]?=some x):k9 (jT keep val l) (k:Int)=if keep x=true then (val x,true) else (0,false):=by
 have h1:=Vp (keep:=keep) (val:=val) (by omega) hk
 grind [Vm,AT]
theorem Vo {α:Type}{keep:α->Bool}{val:α->Int}{l:List α}{i:Int}(h:i<0\/(l.length:Int)<=i):k9 (jT keep val l) i=(0,false):=by
 grind [get_none,K2]
def D2 (r:List Act) (k:Int):Option Act:=if (k9 (sD r).hh k).2=true then yb (k9 (sD r).hh k).1 else some (if hE (red r)<0 then ⟨0,0⟩ else ⟨2,hE (red r)⟩)
theorem UZ {g:bA}{d:gW}{t:Tables}(h:wG g d t) (s k:Int):wi t s k=match idx d.cA s with | some r=>D2 r k | none=>some ⟨0,0⟩:=by
 unfold wi;rw [h.ac,Option.bind_some];have Ou:t.Def.length=d.cA.length:=by rw [h.Nk]; simp
 cases av:idx d.cA s with
 | none =>
  grind [idx,q']
 | some r =>
  have ar:=ka av;have aY:idx (d.cA.map λr=>(sD r).hh) s=some (sD r).hh:=by
   grind [idx]
  have ad7:idx t.Def s=some (hE (red r)):=by
   rw [h.Nk]
   grind [idx]
  grind [q',D2]
theorem ZW {g:bA}{n:Nat}(aN:f' g) (aC:n<=150) {r:List Act}(ah:r.length<=1000) {k:Nat}{x:Act}(hk:r[k]?=some x) (J:oV g n x):D2 r (k:Int)=some (if oM (hE (red r)) x=true then x else if hE (red r)<0 then ⟨0,0⟩ else ⟨2,hE (red r)⟩):=by
 unfold D2;have e:k9 (sD r).hh (k:Int)=if oM (hE (red r)) x=true then (o5 x,true) else (0,false):=get_at ah hk
 grind [oM,T7]
def D3 (c:List Int) (s:Int):Int:=if (k9 (qL c).hh s).2=true then (k9 (qL c).hh s).1 else hE (pos c)
theorem UR {g:bA}{d:gW}{t:Tables}(h:wG g d t) (s a:Int):Aq t s a=some (if 0<=a/\a<g.dD.length then D3 (gb d a.toNat) s else -1):=by
 unfold Aq;rw [h.go,Option.bind_some];have JJ:t.jA.length=g.dD.length:=by rw [h.gd]; simp
 by_cases aJ:0<=a/\a<(g.dD.length:Int)
 ·obtain ⟨k,rfl⟩:∃ k:Nat,a=(k:Int):=⟨a.toNat,by omega⟩;have hk:k<g.dD.length:=by omega
  have aY:idx ((List.range g.dD.length).map λa=>(qL (gb d a)).hh) (k:Int)=some (qL (gb d k)).hh:=by
   unfold idx;rw [if_pos (by omega),Int.toNat_natCast,List.getElem?_map,List.getElem?_range hk]; rfl
  have js:idx t.jA (k:Int)=some (hE (pos (gb d k))):=by
   rw [h.gd];unfold idx;rw [if_pos (by omega),Int.toNat_natCast,List.getElem?_map,List.getElem?_range hk]; rfl
  rw [if_pos aJ,Int.toNat_natCast];unfold q' D3;rw [aY];simp only;by_cases af:(k9 (qL (gb d k)).hh s).2=true
  ·simp [af]
  ·have af:(k9 (qL (gb d k)).hh s).2=false:=by simpa using af
   have d1:decide ((k:Int)<0)=false:=decide_eq_false (by omega);have d2:decide ((t.jA.length:Int)<=(k:Int))=false:=decide_eq_false (by omega);rw [af,d1,d2,js];simp
 ·have aY:idx ((List.range g.dD.length).map λa=>(qL (gb d a)).hh) a=none:=by
   unfold idx;split
   ·rw [List.getElem?_eq_none];simp; omega
   ·rfl
  rw [if_neg aJ];unfold q';rw [aY];simp only [cond_false];by_cases aK:a<0
  ·simp [aK]
  ·have h1:(t.jA.length:Int)<=a:=by omega
   simp [aK,h1]
theorem ZX {c:List Int}(ah:c.length<=1000) {q:Nat}{v:Int}(a_:c[q]?=some v):D3 c (q:Int)=if pg (hE (pos c)) v=true then v else hE (pos c):=by
 unfold D3;have e:k9 (qL c).hh (q:Int)=if pg (hE (pos c)) v=true then (v,true) else (0,false):=get_at ah a_
 rw [e];by_cases h:pg (hE (pos c)) v=true
 ·rw [if_pos h,if_pos rfl,if_pos h]
 ·rw [if_neg h,if_neg (by simp),if_neg h]
theorem Y_ {g:bA}{n:Nat}(aN:f' g) {r:List Act}(ah:r.length=g.bo.length) (h:∀ a∈r,oV g n a):oX (red r) (hE (red r)):=(K' (QD aN ah h)).2.2
theorem YR {r:List Act}{v:Int}(h:v∈red r):∃ a∈r,a.Kind=2/\a.N=v:=by
 unfold red at h;obtain ⟨a,aJ,rfl⟩:=List.mem_map.1 h;rw [List.mem_filter] at aJ;exact ⟨a,aJ.1,of_decide_eq_true aJ.2,rfl⟩
theorem P' {g:bA}{n:Nat}(aN:f' g) {r:List Act}(ah:r.length=g.bo.length) (h:∀ a∈r,oV g n a):hE (red r)=-1\/(0<=hE (red r)/\∃ a∈r,a.Kind=2/\a.N=hE (red r)):=by
 rcases Y_ aN ah h with ⟨_,e⟩ | ⟨hm,_⟩
 ·exact .inl e
 ·obtain ⟨a,aJ,hk,e⟩:=YR hm;have:=((h a aJ).ob hk).1;exact .inr ⟨by omega,a,aJ,hk,e⟩
theorem SC {g:bA}{n:Nat}{x:Act}(J:oV g n x) {D:Int}(js:D=-1\/0<=D):(if oM D x=true then x else if D<0 then ⟨0,0⟩ else ⟨2,D⟩)=(if x.Kind=0/\D≠-1 then ⟨2,D⟩ else x):=by
 obtain ⟨k,m⟩:=x;have aK:=J.gN;simp only at aK;unfold oM;by_cases fU:k=0
 ·subst fU;have:=aK rfl;subst this;rcases js with rfl | js
  ·simp
  ·have h1:¬ D<0:=by omega
   have af:D≠-1:=by omega
   simp [h1,af]
 ·by_cases b3:k=2
  ·subst b3;by_cases Nr:m=D
   ·subst Nr;have af:=(J.ob rfl).1;have af:0<m:=af;have h1:¬ m<0:=by omega
    simp [h1]
   ·simp [Nr]
  ·simp [fU,b3]
structure o0 where
 act:Int->Int->Act
 go:Int->Int->Int
 left:Int->Int
 len:Int->Nat
structure iD where
 st:List Int
 nd:List Node
 iK:Int
 p:hQ
 pop:Bool
inductive Mp where
 | fin (p:hQ)
 | go (p:hQ) (aeQ:Int) (r:iD)
def gp (st:List Int) (nd:List Node):Int:=st.getD nd.length 0
def iB (tk:List Int) (a:Int):Int:=if (tk.length:Int)<=a then 0 else tk.getD a.toNat 0
def qK (c:iD) (n:Nat) (s:Int) (x:Node):iD:=⟨c.st.take (c.nd.length+1 - n)++[s],c.nd.take (c.nd.length - n)++[x],c.iK,{ c.p with Steps:=c.p.Steps+1,Deep:=max c.p.Deep ((c.nd.length:Int)+1 - n) },false⟩
def sx (c:iD) (k:Int):Node:=⟨k,-1,c.p.At,tr eh []⟩
def p1 (B:o0) (c:iD):Mp :=
 if (B.act (gp c.st c.nd) 1).Kind=1 then .go c.p ((c.nd.length:Int)+1) (qK c 0 (B.act (gp c.st c.nd) 1).N (sx c 1))
 else if c.nd.length=0 then .fin { c.p with Kind:=2 }
 else .go c.p ((c.nd.length:Int) - 1) ⟨c.st.take c.nd.length,c.nd.take (c.nd.length - 1),c.iK,{ c.p with Steps:=c.p.Steps+1 },true⟩
def uZ (c:iD):iD:=⟨c.st,c.nd,3,{ c.p with eB:=c.p.eB++[⟨c.p.At,decide (c.iK=0)⟩] },true⟩
def D_ (c:iD) (s k:Int):iD:={ qK c 0 s (sx c k) with iK:=max (c.iK - 1) 0,p:={ (qK c 0 s (sx c k)).p with At:=c.p.At+1 } }
def GG (B:o0) (c:iD) (p:Int):iD:={ qK c (B.len p) (B.go (c.st.getD (c.nd.length - B.len p) 0) (B.left p)) ⟨1000+B.left p,p,-1,tr eh (c.nd.drop (c.nd.length - B.len p))⟩ with p:={ (qK c (B.len p) 0 default).p with bu:=c.p.bu++[p] } }
def iQ (B:o0) (tk:List Int) (c:iD):Mp :=
 if c.pop=true then p1 B c
 else if (B.act (gp c.st c.nd) (iB tk c.p.At)).Kind=1 then .go c.p ((c.nd.length:Int)+1) (D_ c (B.act (gp c.st c.nd) (iB tk c.p.At)).N (iB tk c.p.At))
 else if (B.act (gp c.st c.nd) (iB tk c.p.At)).Kind=2 then .go c.p ((c.nd.length:Int)+1 - B.len (B.act (gp c.st c.nd) (iB tk c.p.At)).N) (GG B c (B.act (gp c.st c.nd) (iB tk c.p.At)).N)
 else if (B.act (gp c.st c.nd) (iB tk c.p.At)).Kind=3 then .fin { c.p with Kind:=1,Tree:=c.nd.getD (c.nd.length - 1) default }
 else if c.iK=3 then (if iB tk c.p.At=0 then .fin { c.p with Kind:=2 } else .go c.p c.nd.length { c with p:={ c.p with Steps:=c.p.Steps+1,gP:=c.p.gP++[c.p.At],At:=c.p.At+1 } })
 else p1 B (uZ c)
inductive jj (B:o0) (tk:List Int) (D S:Int):iD->hQ->Prop
 | fin {c:iD}{p:hQ}(h:iQ B tk c=.fin p):jj B tk D S c p
 | lim {c r:iD}{p:hQ}{n:Int}(h:iQ B tk c=.go p n r) (ah:p.Steps=S\/D<n):jj B tk D S c { p with Kind:=3 }
 | go {c r:iD}{p P:hQ}{n:Int}(h:iQ B tk c=.go p n r) (ah:¬ (p.Steps=S\/D<n)) (hr:jj B tk D S r P):jj B tk D S c P
inductive tK:Nat->Node->Prop
 | mk {n:Nat}{s p a:Int}{L:List Node}(ah:L.length<=100000) (h:∀ x∈L,tK n x):tK (n+1) ⟨s,p,a,tr eh L⟩
theorem tK.up {n:Nat}{x:Node}(h:tK n x):∀ {m:Nat},n<=m->tK m x:=by
 induction h with
 | mk ah _ aO =>
  intro m hm;obtain ⟨m,rfl⟩:∃ k,m=k+1:=⟨m - 1,by omega⟩;exact .mk ah λx J=>aO x J (by omega)
theorem tK.leaf {n:Nat}(h:1<=n) (k a b:Int):tK n ⟨k,a,b,tr eh []⟩:=by
 obtain ⟨n,rfl⟩:∃ m,n=m+1:=⟨n - 1,by omega⟩;exact .mk (by simp) (by simp)
structure q3 (B:o0) (V:Int->Prop) (Q:List Int->List Node->Prop):Prop where
 len:∀ {st:List Int}{nd:List Node},Q st nd->st.length=nd.length+1
 v:∀ {st:List Int}{nd:List Node},Q st nd->∀ q∈st,V q
 dO:∀ {st:List Int}{nd:List Node}{k:Int}{x:Node},Q st nd->(B.act (gp st nd) k).Kind=1->x.Sym=k->Q (st++[(B.act (gp st nd) k).N]) (nd++[x])
 A0:∀ {st:List Int}{nd:List Node}{k:Int},Q st nd->(B.act (gp st nd) k).Kind=2->B.len (B.act (gp st nd) k).N<=nd.length
 rd:∀ {st:List Int}{nd:List Node}{k p:Int}{x:Node},Q st nd->B.act (gp st nd) k=⟨2,p⟩->x.Sym=1000+B.left p->Q (st.take (nd.length+1 - B.len p)++[B.go (st.getD (nd.length - B.len p) 0) (B.left p)]) (nd.take (nd.length - B.len p)++[x])
 pop:∀ {st:List Int}{nd:List Node},Q st nd->nd.length≠0->Q (st.take nd.length) (nd.take (nd.length - 1))
 ac:∀ {st:List Int}{nd:List Node}{k:Int},Q st nd->(B.act (gp st nd) k).Kind=3->nd.length≠0
theorem q3.top {B:o0}{V:Int->Prop}{Q:List Int->List Node->Prop}(h:q3 B V Q) {st:List Int}{nd:List Node}(a_:Q st nd):idx st (nd.length:Int)=some (gp st nd)/\V (gp st nd):=by
 have ah:=h.len a_;have h1:nd.length<st.length:=by omega
 have:gp st nd=st[nd.length]:=by simp [gp,List.getD_eq_getElem?_getD,h1]
 exact ⟨by rw [this]; simp [idx,h1],h.v a_ _ (by rw [this]; exact List.getElem_mem h1)⟩
structure jX (Q:List Int->List Node->Prop) (tk:List Int) (D S:Int) (c:iD):Prop where
 q:Q c.st c.nd
 nd:(c.nd.length:Int)<=D
 IB:D<=100000
 aV:S<=1000000
 LS:tk.length<=1000000000000
 k0:c.p.Kind=0
 fl:0<=c.p.Steps
 LM:c.p.Steps<=S
 a0:0<=c.p.At
 dB:c.p.At<=tk.length+c.p.Steps
 f0:0<=c.iK
 f3:c.iK<=3
 pl:c.p.bu.length<=c.p.Steps
 PH:c.p.gP.length<=c.p.Steps
 ul:c.p.eB.length<=c.p.Steps+1
 Ei:c.iK≠3->c.p.eB.length<=c.p.Steps
 c7:∀ x∈c.nd,tK c.p.Steps.toNat x
 Gs:c.pop=true->c.iK=3
 d0:(c.nd.length:Int)<=c.p.Deep
 Iz:c.p.Deep<=D
theorem jX.put {B:o0}{V:Int->Prop}{Q:List Int->List Node->Prop}{tk:List Int}{D S:Int}{c:iD}(h:jX Q tk D S c) {n:Nat}{s:Int}{x:Node}(aC:n<=c.nd.length) (a_:Q (c.st.take (c.nd.length+1 - n)++[s]) (c.nd.take (c.nd.length - n)++[x])) (J:tK (c.p.Steps.toNat+1) x) (ah:¬ (c.p.Steps=S\/D<(c.nd.length:Int)+1 - n)):jX Q tk D S (qK c n s x):=by
 have ⟨_,_,_,_,_,_,_,_,_,_,_,_,_,_,_,_,_,_,_,_⟩:=h;have e:(c.nd.take (c.nd.length - n)++[x]).length=c.nd.length - n+1:=by simp
 refine ⟨a_,?_,by assumption,by assumption,by assumption,by assumption,?_,?_,by assumption,?_,by assumption,by assumption,?_,?_,?_,λaU=>?_,λy ao=>?_,λh=>(by cases h),?_,?_⟩
 all_goals simp only [qK]
 ·rw [e]; omega
 ·omega
 ·omega
 ·omega
 ·omega
 ·omega
 ·omega
 ·have:=h.Ei aU; omega
 ·have b3:(c.p.Steps+1).toNat=c.p.Steps.toNat+1:=by omega
  rw [b3];rcases List.mem_append.1 ao with ao | ao
  ·exact (h.c7 y (List.mem_of_mem_take ao)).up (by omega)
  ·rw [List.mem_singleton.1 ao]; exact J
 ·rw [e]; omega
 ·omega
theorem jX.up {Q:List Int->List Node->Prop}{tk:List Int}{D S:Int}{c:iD}(h:jX Q tk D S c) (aU:c.iK≠3):jX Q tk D S (uZ c):=by
 have ⟨_,_,_,_,_,_,_,_,_,_,_,_,_,_,_,_,_,_,_,_⟩:=h;refine ⟨by assumption,by assumption,by assumption,by assumption,by assumption,by assumption,by assumption,by assumption,by assumption,by assumption,?_,?_,by assumption,by assumption,?_,λaI=>?_,by assumption,λ_=>rfl,by assumption,by assumption⟩
 ·show (0:Int)<=3; decide
 ·show (3:Int)<=3; decide
 ·have:=h.Ei aU;simp only [uZ,List.length_append,List.length_singleton]; omega
 ·exact absurd rfl aI
variable {B:o0}{V:Int->Prop}{Q:List Int->List Node->Prop}{tk:List Int}{D S:Int}{c:iD}
theorem Qu (bT:q3 B V Q) (h:jX Q tk D S c) (aU:c.iK=3) {p:hQ}{n:Int}{r:iD}(e:p1 B c=.go p n r) (ah:¬ (p.Steps=S\/D<n)):p=c.p/\jX Q tk D S r/\r.p.Steps=c.p.Steps+1:=by
 have ⟨_,_,_,_,_,_,_,_,_,_,_,_,_,_,_,_,_,_,_,_⟩:=h;have fN:=bT.len h.q;unfold p1 at e
 split at e
 ·rename_i hk;cases e;have a_:=bT.dO (x:=sx c 1) h.q hk rfl;refine ⟨rfl,h.put (B:=B) (V:=V) (Nat.zero_le _) ?_ (.leaf (by omega) ..) (by simpa using ah),rfl⟩;rw [Nat.sub_zero,Nat.sub_zero,List.take_length,<- fN,List.take_length];exact a_
 ·split at e
  ·cases e
  ·rename_i aK;cases e;have b9:(c.nd.take (c.nd.length - 1)).length=c.nd.length - 1:=by simp
   refine ⟨rfl,⟨bT.pop h.q aK,?_,by assumption,by assumption,by assumption,by assumption,?_,?_,by assumption,?_,by assumption,by assumption,?_,?_,?_,λaI=>absurd aU aI,λy ao=>?_,λ_=>aU,?_,by assumption⟩,rfl⟩
   all_goals simp only
   ·rw [b9]; omega
   ·omega
   ·omega
   ·omega
   ·omega
   ·omega
   ·omega
   ·exact (h.c7 y (List.mem_of_mem_take ao)).up (by omega)
   ·rw [b9]; omega
theorem Dc (bT:q3 B V Q) (h:jX Q tk D S c) {p:hQ}{n:Int}{r:iD}(e:iQ B tk c=.go p n r) (ah:¬ (p.Steps=S\/D<n)):jX Q tk D S r/\r.p.Steps=c.p.Steps+1:=by
 have ⟨_,_,_,_,_,_,_,_,_,_,_,_,_,_,_,_,_,_,_,_⟩:=h;have fN:=bT.len h.q;unfold iQ at e
 split at e
 ·rename_i aq;exact (Qu bT h (h.Gs aq) e ah).2
 ·split at e
  ·rename_i hk;cases e;have a_:=bT.dO (x:=sx c (iB tk c.p.At)) h.q hk rfl;have:=h.put (B:=B) (V:=V) (n:=0) (s:=(B.act (gp c.st c.nd) (iB tk c.p.At)).N) (x:=sx c (iB tk c.p.At)) (Nat.zero_le _) (by rw [Nat.sub_zero,Nat.sub_zero,List.take_length,<- fN,List.take_length]; exact a_) (.leaf (by omega) ..) (by simpa using ah);refine ⟨⟨this.q,this.nd,this.IB,this.aV,this.LS,this.k0,this.fl,this.LM,?_,?_,?_,?_,this.pl,this.PH,this.ul,λ_=>?_,this.c7,λh=>(by cases h),this.d0,this.Iz⟩,rfl⟩
   all_goals simp only [D_,qK]
   all_goals omega
  ·split at e
   ·rename_i hk;have hle:=bT.A0 h.q hk;cases e;generalize aq:(B.act (gp c.st c.nd) (iB tk c.p.At)).N=a at *;have a_:=bT.rd (x:=⟨1000+B.left a,a,-1,tr eh (c.nd.drop (c.nd.length - B.len a))⟩) h.q (show B.act (gp c.st c.nd) (iB tk c.p.At)=⟨2,a⟩ by rw [<- aq,<- hk]) rfl;have:=h.put (B:=B) (V:=V) hle a_ (.mk (by simp; omega) λx J=>h.c7 x (List.mem_of_mem_drop J)) ah;have ⟨_,_,_,_,_,_,_,_,_,_,_,_,_,_,_,_,_,_,_,_⟩:=this;refine ⟨⟨this.q,this.nd,this.IB,this.aV,this.LS,this.k0,this.fl,this.LM,this.a0,this.dB,this.f0,this.f3,?_,this.PH,this.ul,this.Ei,this.c7,this.Gs,this.d0,this.Iz⟩,rfl⟩;simp only [GG,qK,List.length_append,List.length_singleton];omega
   ·split at e
    ·cases e
    ·split at e
     ·rename_i aU
      split at e
      ·cases e
      ·rename_i aK;cases e;refine ⟨⟨h.q,h.nd,h.IB,h.aV,h.LS,h.k0,?_,?_,?_,?_,h.f0,h.f3,?_,?_,?_,λaI=>absurd aU aI,λx J=>(h.c7 x J).up ?_,λaI=>aU,h.d0,h.Iz⟩,rfl⟩
       all_goals simp only [List.length_append,List.length_singleton]
       all_goals omega
     ·rename_i aU;obtain ⟨h1,af,aE⟩:=Qu bT (h.up aU) rfl e ah;exact ⟨af,aE⟩
theorem Qt {p:hQ}(e:p1 B c=.fin p):p.Kind=2:=by
 unfold p1 at e
 split at e
 ·cases e
 ·split at e
  ·cases e; rfl
  ·cases e
theorem YS {p:hQ}(e:iQ B tk c=.fin p):p.Kind=1\/p.Kind=2:=by
 unfold iQ at e
 split at e
 ·exact .inr (Qt e)
 ·split at e
  ·cases e
  ·split at e
   ·cases e
   ·split at e
    ·cases e; exact .inl rfl
    ·split at e
     ·split at e
      ·cases e; exact .inr rfl
      ·cases e
     ·exact .inr (Qt e)
theorem jj.kind {P:hQ}(h:jj B tk D S c P):P.Kind=1\/P.Kind=2\/P.Kind=3:=by
 induction h with
 | fin h=>exact (YS h).imp id .inl
 | lim=>exact .inr (.inr rfl)
 | go _ _ _ aO=>exact aO
end Go.Proofs
