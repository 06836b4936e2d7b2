/- Parts of the proof that the last text states. -/
import Derived.KernelRfl
import Derived.Test.YtfndjemfpidfpaaGreatDoorE8
namespace Go.Proofs
open Go Go.Own Go.Sort
set_option maxRecDepth 100000
set_option linter.unusedVariables false
theorem MS (g:bt) (t:Int):zP g t=some (match idx g.aX t with | some k=>(k.Level,k.e2) | none=>(0,0)):=by
 unfold zP;by_cases aI:t<0
 ·rw [vh (.inl aI)]; simp [aI]
 ·by_cases h1:(g.aX.length:Int)<=t
  ·rw [vh (.inr h1)]; simp [h1]
  ·obtain ⟨k,hk,_⟩:=lh (l:=g.aX) (i:=t) (by omega) (by omega);simp [aI,h1,hk]
theorem TP (g:bt) (p:Int):CU g p=some (zu g p):=by
 unfold CU zu;by_cases aI:p<0
 ·rw [vh (.inl aI)]; simp [aI]
 ·by_cases h1:(g.a8.length:Int)<=p
  ·rw [vh (.inr h1)]; simp [h1]
  ·obtain ⟨k,hk,_⟩:=lh (l:=g.a8) (i:=p) (by omega) (by omega);simp only [aI,h1,hk,decide_false,cond_false,Option.bind_some,MS]
   first | done | (cases idx g.aX k.Prec <;> rfl)
theorem TF (g:bt) (p t:Int):dec g p t=0\/dec g p t=1\/dec g p t=2\/dec g p t=3:=by
 unfold dec;split
 ·repeat' split
  all_goals simp
 ·exact .inl rfl
theorem TN (g:bt) (p t:Int):CM g p t=some (dec g p t):=by
 unfold CM;rw [TP,MS];unfold dec;generalize zu g p=x;cases hk:idx g.aX t with
 | none =>
  simp only [Option.bind_some];by_cases h1:x.1=0 <;> simp [h1]
 | some k =>
  simp only [Option.bind_some];by_cases h1:x.1=0
  ·simp [h1]
  ·by_cases af:k.Level=0
   ·simp [h1,af]
   ·rw [if_neg (by omega)];simp only [h1,af,decide_false,cond_false,Option.bind_some];by_cases aF:x.1<k.Level
    ·simp [aF]
    ·by_cases bk:k.Level<x.1
     ·have:¬ k.Level=x.1:=by omega
      simp [aF,bk,this]
     ·have:k.Level=x.1:=by omega
      rw [if_neg aF,if_neg bk];by_cases b2:k.e2=1
      ·simp [this,b2]
      ·by_cases du:k.e2=2
       ·simp [this,du]
       ·simp [this,b2,du]
theorem Mb {p:Int}{r:List Int}(h:fo ib (p::r)):∀ x∈r,p<x:=λx J=>O_.1 ((List.pairwise_cons.1 h).1 x J)
theorem yM (p:Int) (r:List Int) (ah:r.length<=1000) (h:fo ib (p::r)):vB (p::r)=some p:=by
 suffices av:Tot (vB (p::r)) λz=>z=p by
  obtain ⟨z,aT,e⟩:=av; rw [aT,e]
 have aK:=Mb h;unfold vB;refine Tot.bA (λh=>by rw [List.length_cons] at h; omega) (λ_=>?_);have e0:idx (p::r) 0=some p:=rfl;rw [e0];refine Tot.sm (.aC (Ξ:=λz:Int=>z=p) ?_ λz aT=>.al aT);refine Tot.count (λs=>s.2) ((p::r).length:Int) (λs=>s.1=p/\1<=s.2) ⟨rfl,Int.le_refl _⟩ (by rw [List.length_cons]; show ((r.length+1:Nat):Int) - 1<_; omega) λs av=>?_;obtain ⟨z,i⟩:=s;obtain ⟨h1,af⟩:=av;simp only at h1 af ⊢;subst h1;have Wx:(z::r).length=r.length+1:=rfl;refine Tot.bA (λEL=>?_) (λ_=>.al rfl);obtain ⟨y,ai,hm⟩:=lh (l:=z::r) (i:=i) (by omega) EL;rw [ai];have XK:z<=y:=by
  rcases List.mem_cons.1 hm with rfl | hm
  ·exact Int.le_refl _
  ·have:=aK y hm; omega
 refine Tot.sm (.al ⟨⟨Int.min_eq_left XK,?_⟩,?_,?_⟩)
 ·show 1<=aS (i+1);rw [cP]; omega
 ·show i<aS (i+1);rw [cP]; omega
 ·show aS (i+1)<=_;rw [cP]; omega
def Hr (g:bt) (c:Cell):Bool:=match c.a8 with
 | []=>false
 | p::_=>decide (c.lu=true\/(0<=c.jc/\dec g p c.Tok=0))
theorem TJ (g:bt) (aL:fp g) {n:Nat}(c:Cell) (h:mJ g n c):CH g c=some (r9 g c,Hr g c):=by
 have ah:=h.len aL;have aw:=h.p;unfold CH r9 Hr;cases cX:c.a8 with
 | nil =>
  simp only;cases h1:c.lu <;> simp
 | cons p r =>
  rw [cX,List.length_cons] at ah;rw [cX] at aw;have dl:decide (((p::r).length:Int)=0)=false:=decide_eq_false (by simp; omega);simp only [dl,cond_false,yM p r (by omega) aw,Option.bind_some,TN];have aP:=TF g p c.Tok;generalize dec g p c.Tok=v at *;cases h1:c.lu
  ·by_cases af:c.jc<0
   ·have aF:¬ 0<=c.jc:=by omega
    simp [af,aF]
   ·have aF:0<=c.jc:=by omega
    rcases aP with rfl | rfl | rfl | rfl <;> simp [af,aF]
  ·simp
theorem TM:∀ k:Fin 24,CL [-1] ((k.val+1:Nat):Int)=some (List.replicate (k.val+1) (-1)):=by decide +kernel
theorem pz (g:bt) (aL:fp g) {m:List State}(hm:jJ g m):Tot (zF g m) λd=>d.fl=(List.range m.length).map (λ_=>List.replicate g.aX.length (⟨0,0⟩:Act))/\d.eQ=(List.range m.length).map λq=>sf g m q:=by
 have au:=aL.iC;have aA:=aL.ev;have qG:=hm.h3;unfold zF;refine .aC (Ξ:=λr:List (List Act) × List (List Int)=>r.1=(List.range m.length).map (λ_=>List.replicate g.aX.length (⟨0,0⟩:Act))/\r.2=(List.range m.length).map λq=>sf g m q) ?_ λr ak=>.al ak;refine Tot.upto (λs=>s.2.2) m.length (λk s=>s.1=(List.range k).map (λ_=>List.replicate g.aX.length (⟨0,0⟩:Act))/\s.2.1=(List.range k).map λq=>sf g m q) rfl (by omega) ⟨rfl,rfl⟩ λk s hk he a'=>?_;obtain ⟨A,G,i⟩:=s;obtain ⟨h1,af⟩:=a';simp only at he h1 af ⊢;subst he h1 af;rw [ek k (by omega)];refine Tot.bA (λaK=>?_) (λdx=>.al ?_)
 ·have aK:k<m.length:=by omega
  have bQ:idx m (k:Int)=some m[k]:=dT aK;have pT:=List.getElem_mem aK;rw [bQ];generalize m[k]=st at *;have sw:=hm.tW st pT;have e7:=hm.nd st pT;have Ed:=TM ⟨g.bF.length - 1,by omega⟩;simp only [show g.bF.length - 1+1=g.bF.length by omega] at Ed;simp only [Option.bind_some,Ed];refine .aC (Ξ:=λL:List Int=>L=sf g m k) ?_ λL ji=>?_
  ·refine Tot.upto (λs=>s.2) st.cE.length (λj s=>s.1.length=g.bF.length/\∀ a:Nat,a<g.bF.length->(∃ v∈st.cE.take j,v.Sym=1000+(a:Int)/\s.1[a]?=some v.nA)\/((∀ v∈st.cE.take j,v.Sym≠1000+(a:Int))/\s.1[a]?=some (-1))) rfl (by omega) ⟨by simp,λa aQ=>.inr ⟨by simp,by simp [aQ]⟩⟩ λj s ag he a'=>?_;obtain ⟨L,i⟩:=s;obtain ⟨h1,af⟩:=a';simp only at he h1 af ⊢;subst he;rw [ek j (by omega)];refine Tot.bA (λjv=>?_) (λdx=>.al ?_)
   ·have jv:j<st.cE.length:=by omega
    have W6:=nU jv;have vc:=hm.sym aL pT (List.getElem_mem jv);have ad6:∀ v∈st.cE.take j,v.Sym≠(st.cE[j]).Sym:=λv hv e=>by
     obtain ⟨i,hi,rfl⟩:=List.mem_iff_getElem.1 hv;rw [List.length_take] at hi;rw [List.getElem_take] at e;have:=List.pairwise_iff_getElem.1 e7 i j (by rw [List.length_map]; omega) (by rw [List.length_map]; omega) (by omega);rw [List.getElem_map,List.getElem_map] at this;exact this e
    simp only [dT jv,Option.bind_some];generalize st.cE[j]=v at *;refine .aC (Ξ:=λL:List Int=>L.length=g.bF.length/\∀ a:Nat,a<g.bF.length->(∃ v∈st.cE.take (j+1),v.Sym=1000+(a:Int)/\L[a]?=some v.nA)\/((∀ v∈st.cE.take (j+1),v.Sym≠1000+(a:Int))/\L[a]?=some (-1))) ?_ λL ji=>.al ⟨jv,rfl,ji⟩;rw [W6];have mem:∀ w,w∈st.cE.take j++[v]↔w∈st.cE.take j\/w=v:=λw=>by simp
    refine .aC (Ξ:=λL:List Int=>L.length=g.bF.length/\∀ a:Nat,a<g.bF.length->(∃ w∈st.cE.take j++[v],w.Sym=1000+(a:Int)/\L[a]?=some w.nA)\/((∀ w∈st.cE.take j++[v],w.Sym≠1000+(a:Int))/\L[a]?=some (-1))) (Tot.bA (λh=>?_) (λh=>.al ⟨h1,λa aQ=>?_⟩)) λL ji=>.al ji
    ·have ao:=vc.2.2 h;have hw:aS (v.Sym - 1000)=v.Sym - 1000:=by rw [cP]; omega
     rw [hw];obtain ⟨y,ai,_⟩:=lh (l:=L) (i:=v.Sym - 1000) (by omega) (by omega);rw [ai];refine Tot.sm (.al ⟨by rw [List.length_set]; exact h1,λa aQ=>?_⟩);rw [rY (by omega)];by_cases e:a=(v.Sym - 1000).toNat
     ·rw [if_pos e];exact .inl ⟨v,(mem v).2 (.inr rfl),by omega,rfl⟩
     ·rw [if_neg e];rcases af a aQ with ⟨w,rH,tL,Jl⟩ | ⟨rH,tL⟩
      ·exact .inl ⟨w,(mem w).2 (.inl rH),tL,Jl⟩
      ·refine .inr ⟨λw hw=>?_,tL⟩;rcases (mem w).1 hw with hw | rfl
       ·exact rH w hw
       ·omega
    ·rcases af a aQ with ⟨w,rH,tL,Jl⟩ | ⟨rH,tL⟩
     ·exact .inl ⟨w,(mem w).2 (.inl rH),tL,Jl⟩
     ·refine .inr ⟨λw hw=>?_,tL⟩;rcases (mem w).1 hw with hw | rfl
      ·exact rH w hw
      ·omega
   ·have e:st.cE.take j=st.cE:=List.take_of_length_le (by omega);rw [e] at af;show L=sf g m k;refine List.ext_getElem? λa=>?_;unfold sf;by_cases aQ:a<g.bF.length
    ·rw [List.getElem?_map,List.getElem?_range aQ];have BC:=(go_eq hm k (1000+(a:Int))).2;show _=some (go m k (1000+(a:Int)));rcases af a aQ with ⟨v,oc,sC,Xc⟩ | ⟨oc,sC⟩
     ·rw [Xc];rcases BC with ⟨_,bk⟩ | ⟨F5,w,bk,b2,du,jh⟩
      ·exact absurd sC (bk st bQ v oc)
      ·rw [bQ] at bk; cases bk;have:v=w:=by
        obtain ⟨i,hi,rfl⟩:=List.mem_iff_getElem.1 oc;obtain ⟨xl,adP,rfl⟩:=List.mem_iff_getElem.1 b2;have key:i=xl:=by
         by_cases c1:i<xl
         ·have:=List.pairwise_iff_getElem.1 e7 i xl (by rw [List.length_map]; omega) (by rw [List.length_map]; omega) c1;rw [List.getElem_map,List.getElem_map] at this;exact absurd (sC.trans du.symm) this
         ·by_cases c2:xl<i
          ·have:=List.pairwise_iff_getElem.1 e7 xl i (by rw [List.length_map]; omega) (by rw [List.length_map]; omega) c2;rw [List.getElem_map,List.getElem_map] at this;exact absurd (du.trans sC.symm) this
          ·omega
        subst key; rfl
       rw [jh,this]
     ·rw [sC];rcases BC with ⟨bk,_⟩ | ⟨F5,w,bk,b2,du,jh⟩
      ·rw [bk]
      ·rw [bQ] at bk; cases bk;exact absurd du (oc w b2)
    ·rw [List.getElem?_eq_none (by omega),List.getElem?_eq_none (by simp; omega)]
  ·subst ji;refine .aC (Ξ:=λ_=>True) (Tot.ap (by simp [lim]; omega) trivial) λ_ _=>?_;refine .aC (Ξ:=λr=>r=List.replicate g.aX.length (⟨0,0⟩:Act)) (Tot.mk (by simp [lim]; omega) (by simp)) λs5 fc=>?_;subst fc;refine .aC (Ξ:=λ_=>True) (Tot.ap (by simp [lim]; omega) trivial) λ_ _=>.al ⟨aK,rfl,?_,?_⟩
   ·show _=(List.range (k+1)).map _;rw [List.range_succ,List.map_append]; rfl
   ·show _=(List.range (k+1)).map _;rw [List.range_succ,List.map_append]; rfl
 ·have:k=m.length:=by omega
  subst this;exact ⟨rfl,rfl⟩
theorem Sf {cs:List Cell}{k:Nat}(h:k<cs.length) (q:Nat):kO (cs.take (k+1)) q=kO (cs.take k) q++(if cs[k].State=(q:Int) then [cs[k]] else []):=by
 unfold kO;rw [aaj h];by_cases e:cs[k].State=(q:Int) <;> simp [e]
theorem SX (g:bt) (l:List Cell) (c:Cell):k9 g (l++[c])=k9 g l++uG g c:=by
 unfold k9;rw [List.flatMap_append]; simp
theorem rj (g:bt) (m:List State) (cs:List Cell) (dh:Gy g m cs):Tot (xO g m cs) λr=>Ax g m cs r.1/\r.2=k9 g cs:=by
 obtain ⟨aL,hm,aa⟩:=dh;have au:=aL.iC;have qG:=hm.h3;have IE:=aa.n;unfold xO;refine .aC (pz g aL hm) λd aP=>?_;obtain ⟨EF,V'⟩:=aP;refine .aC (Ξ:=λr:List (List Act) × List eW=>r.1=(List.range m.length).map (λq=>rowOf g (kO cs q))/\r.2=k9 g cs) ?_ λr ak=>.al ⟨⟨ak.1,V'⟩,ak.2⟩;rw [EF];refine Tot.upto (λs=>s.2.2) cs.length (λk s=>s.1=(List.range m.length).map (λq=>rowOf g (kO (cs.take k) q))/\s.2.1=k9 g (cs.take k)) rfl (by omega) ⟨by simp [kO,rowOf],by simp [k9]⟩ λk s hk he a'=>?_;obtain ⟨A,C,i⟩:=s;obtain ⟨h1,af⟩:=a';simp only at he h1 af ⊢;subst he h1 af;rw [ek k (by omega)];refine Tot.bA (λaK=>?_) (λdx=>.al ?_)
 ·have aK:k<cs.length:=by omega
  have hJ:=nU aK;have fR:=Sf aK;have dD:=aa.ok _ (List.getElem_mem aK);have hZ:(k9 g (cs.take k)).length<=360000:=by
   have h1:=Hs aL (l:=cs.take k) λc l3=>aa.ok c (List.mem_of_mem_take l3);rw [List.length_take] at h1;omega
  rw [dT aK];generalize cs[k]=c at *;have bQ:=dD.s;have u4:=PW g (kO (cs.take k) c.State.toNat);have TS:idx ((List.range m.length).map λq=>rowOf g (kO (cs.take k) q)) c.State=some (rowOf g (kO (cs.take k) c.State.toNat)):=by
   unfold idx;rw [if_pos bQ.1,List.getElem?_map,List.getElem?_range (by omega)]; rfl
  obtain ⟨a0,qy,_⟩:=lh (l:=rowOf g (kO (cs.take k) c.State.toNat)) (i:=c.Tok) dD.t.1 (by rw [u4]; exact dD.t.2);have M1:((List.range m.length).map λq=>rowOf g (kO (cs.take k) q)).set c.State.toNat ((rowOf g (kO (cs.take k) c.State.toNat)).set c.Tok.toNat (r9 g c))=(List.range m.length).map λq=>rowOf g (kO (cs.take (k+1)) q):=by
   refine List.ext_getElem? λq=>?_;rw [rY (by simp; omega),List.getElem?_map,List.getElem?_map];by_cases e:q=c.State.toNat
   ·rw [if_pos e,e,List.getElem?_range (by omega)];show _=some (rowOf g (kO (cs.take (k+1)) c.State.toNat));rw [fR,if_pos (by omega),PX]
   ·rw [if_neg e];by_cases ba:q<m.length
    ·rw [List.getElem?_range ba];show some (rowOf g (kO (cs.take k) q))=some (rowOf g (kO (cs.take (k+1)) q));rw [fR,if_neg (by omega),List.append_nil]
    ·rw [List.getElem?_eq_none (by simp; omega)]; rfl
  have Ex:=dD.len aL;simp only [Option.bind_some,TJ g aL c dD,TS,qy];refine .aC (Ξ:=λr:List (List Act) × List eW=>r.1=(List.range m.length).map (λq=>rowOf g (kO (cs.take (k+1)) q))/\r.2=k9 g (cs.take (k+1))) ?_ λr ak=>.al ⟨aK,rfl,ak⟩;rw [hJ,SX,<- hJ];cases cX:c.a8 with
  | nil =>
   refine Tot.bA (λ_=>.al ⟨M1,?_⟩) (λh=>absurd rfl h);show k9 g (cs.take k)=_;unfold uG;rw [cX,List.append_nil]
  | cons p r =>
   have Ip:=dD.p;rw [cX] at Ip Ex;rw [List.length_cons] at Ex;have pP:=Mb Ip;refine Tot.bA (λh=>by rw [List.length_cons] at h; omega) (λ_=>?_);rw [yM p r (by omega) Ip];refine Tot.sm (.aC (Ξ:=λl:List eW=>l=k9 g (cs.take k)++r.map (λx=>(⟨c.State,c.Tok,p,x⟩:eW))) ?_ λl ah=>?_)
   ·refine Tot.upto (λs=>s.2) (p::r).length (λj s=>s.1=k9 g (cs.take k)++(r.take (j - 1)).map (λx=>(⟨c.State,c.Tok,p,x⟩:eW))) rfl (by rw [List.length_cons]; omega) (by simp) λj s ag he a'=>?_;obtain ⟨L,i⟩:=s;simp only at he a' ⊢;subst he a';rw [ek j (by rw [List.length_cons] at ag; omega)];refine Tot.bA (λjv=>?_) (λdx=>.al ?_)
    ·have jv:j<(p::r).length:=by omega
     rw [dT jv];simp only [Option.bind_some];refine .aC (Ξ:=λl:List eW=>l=k9 g (cs.take k)++(r.take (j+1 - 1)).map (λx=>(⟨c.State,c.Tok,p,x⟩:eW))) ?_ λl ah=>.al ⟨jv,rfl,ah⟩;cases j with
     | zero =>
      refine .aC (Ξ:=λl:List eW=>l=k9 g (cs.take k)++(r.take (0+1 - 1)).map (λx=>(⟨c.State,c.Tok,p,x⟩:eW))) (Tot.oJ (λh=>absurd rfl h) (λ_=>.al ?_)) λl ah=>.al ah;simp
     | succ j =>
      rw [List.length_cons] at jv;have N6:j<r.length:=by omega
      have cN:=pP _ (List.getElem_mem N6);rw [List.getElem_cons_succ];have hs:=nU N6;refine .aC (Ξ:=λl:List eW=>l=k9 g (cs.take k)++(r.take (j+1+1 - 1)).map (λx=>(⟨c.State,c.Tok,p,x⟩:eW))) (Tot.oJ (λ_=>?_) (λh=>by omega)) λl ah=>.al ah;refine .aC (Ξ:=λ_=>True) (Tot.ap (by simp [lim]; omega) trivial) λ_ _=>.al ?_;rw [Nat.add_sub_cancel,Nat.add_sub_cancel,hs,List.map_append,List.append_assoc]; rfl
    ·rw [List.length_cons] at dx ag;have e:r.take (j - 1)=r:=List.take_of_length_le (by omega);rw [e]; rfl
   ·subst ah;refine .aC (Ξ:=λl:List eW=>l=k9 g (cs.take k)++uG g c) ?_ λl ah=>.al ⟨M1,ah⟩;unfold uG Hr;rw [cX];simp only;refine Tot.bA (λh=>?_) (λh=>.al ?_)
    ·rw [if_pos h];refine .aC (Ξ:=λ_=>True) (Tot.ap (by simp [lim]; omega) trivial) λ_ _=>.al (by rw [List.append_assoc])
    ·rw [if_neg h,List.append_nil]
 ·have e:cs.take k=cs:=List.take_of_length_le (by omega);rw [e];exact ⟨rfl,rfl⟩
theorem G9 {α:Type}(key:α->Int) (n:Nat):∀ (l:List α),(∀ x∈l,0<=key x/\key x<n)->((List.range n).map λq:Nat=>l.countP λx=>decide (key x=(q:Int))).sum=l.length
 | [],_=>by
  have:∀ n:Nat,((List.range n).map λ_:Nat=>0).sum=0:=λn=>by
   induction n with
   | zero=>rfl
   | succ n aJ=>rw [List.range_succ,List.map_append,List.sum_append,aJ]; rfl
  simpa using this n
 | x::l,h=>by
  have aJ:=G9 key n l λy ai=>h y (List.mem_cons_of_mem _ ai);have J:=h x (List.mem_cons_self ..);have e:∀ k:Nat,((List.range k).map λq:Nat=>(x::l).countP λx=>decide (key x=(q:Int))).sum=((List.range k).map λq:Nat=>l.countP λx=>decide (key x=(q:Int))).sum+if key x<(k:Int) then 1 else 0:=λk=>by
   induction k with
   | zero=>rw [if_neg (by omega)]; rfl
   | succ k XT =>
    rw [List.range_succ,List.map_append,List.map_append,List.sum_append,List.sum_append,XT];simp only [List.map_cons,List.map_nil,List.sum_cons,List.sum_nil,List.countP_cons,decide_eq_true_eq];have eP:(if key x<(k:Int) then 1 else 0)+(if key x=(k:Int) then 1 else 0)=(if key x<((k+1:Nat):Int) then (1:Nat) else 0):=by
     split <;> split <;> split <;> omega
    omega
  rw [e n,aJ,if_pos J.2,List.length_cons]
theorem RM {row:List Act}{t:Nat}{a b:Act}(h:row[t]?=some b) (ao:b.Kind=0) (aQ:a.Kind≠0):(row.set t a).countP (λx=>decide (x.Kind≠0))=row.countP (λx=>decide (x.Kind≠0))+1:=by
 induction row generalizing t with
 | nil=>simp at h
 | cons x r aJ =>
  cases t with
  | zero =>
   simp only [List.getElem?_cons_zero,Option.some.injEq] at h;subst h;simp [ao,aQ]
  | succ t =>
   simp only [List.getElem?_cons_succ] at h;simp only [List.set_cons_succ,List.countP_cons,aJ h];omega
theorem Zo (g:bt) {n:Nat}:∀ (l:List Cell),(∀ c∈l,mJ g n c)->(l.map (·.Tok)).Nodup->(rowOf g l).countP (λx=>decide (x.Kind≠0))=l.length/\∀ t:Nat,t<g.aX.length->(∀ c∈l,c.Tok≠(t:Int))->∃ b,(rowOf g l)[t]?=some b/\b.Kind=0:=λl=>by
 suffices av:∀ k,k<=l.length->(∀ c∈l,mJ g n c)->(l.map (·.Tok)).Nodup->(rowOf g (l.take k)).countP (λx=>decide (x.Kind≠0))=k/\∀ t:Nat,t<g.aX.length->(∀ c∈l.take k,c.Tok≠(t:Int))->∃ b,(rowOf g (l.take k))[t]?=some b/\b.Kind=0 by
  intro h1 af;have:=av l.length (Nat.le_refl _) h1 af;rw [List.take_length] at this;exact this
 intro k hk aa aP
 induction k with
 | zero =>
  refine ⟨?_,λt au _=>⟨⟨0,0⟩,?_,rfl⟩⟩
  ·show ((List.replicate g.aX.length (⟨0,0⟩:Act)).countP _)=0;rw [List.countP_eq_zero];intro a aQ;rw [List.eq_of_mem_replicate aQ]; decide
  ·show (List.replicate g.aX.length (⟨0,0⟩:Act))[t]?=_;rw [List.getElem?_replicate,if_pos au]
 | succ k aJ =>
  obtain ⟨i1,i2⟩:=aJ (by omega);have aK:k<l.length:=by omega
  have uY:=aa _ (List.getElem_mem aK);have au:=uY.t;rw [nU aK,PX];have cN:∀ c∈l.take k,c.Tok≠((l[k].Tok.toNat:Nat):Int):=λc l3 e=>by
   obtain ⟨j,ag,rfl⟩:=List.mem_iff_getElem.1 l3;rw [List.length_take] at ag;rw [List.getElem_take] at e;have e:l[j].Tok=l[k].Tok:=by omega
   have:=(List.pairwise_iff_getElem.1 aP) j k (by simp; omega) (by simp; omega) (by omega);simp only [List.getElem_map] at this;exact this e
  obtain ⟨b,ao,wM⟩:=i2 l[k].Tok.toNat (by omega) cN;refine ⟨?_,λt Ji EC=>?_⟩
  ·rw [RM ao wM (LY uY).2,i1]
  ·have h1:l[k].Tok≠(t:Int):=EC _ (List.mem_append_right _ (List.mem_singleton.2 rfl));obtain ⟨b,ao,wM⟩:=i2 t Ji λc l3=>EC c (List.mem_append_left _ l3);refine ⟨b,?_,wM⟩;rw [List.getElem?_set_ne (by omega)]; exact ao
theorem RL {g:bt}{m:List State}{cs:List Cell}{d:kG}(h:Ax g m cs d) (aa:DE g m.length cs):(d.fl.map λr=>r.countP λx=>decide (x.Kind≠0)).sum=cs.length:=by
 rw [h.a,List.map_map];have e:(List.range m.length).map ((λr:List Act=>r.countP λx=>decide (x.Kind≠0)) ∘ λq=>rowOf g (kO cs q))=(List.range m.length).map λq:Nat=>cs.countP λx=>decide (x.State=(q:Int)):=by
  refine List.map_congr_left λq _=>?_;show (rowOf g (kO cs q)).countP _=_;rw [(Zo g (kO cs q) (λc l3=>aa.ok c (List.mem_filter.1 l3).1) ?_).1,List.countP_eq_length_filter]
  ·rfl
  ·refine List.pairwise_map.2 ?_;have h1:(kO cs q).Pairwise v_:=aa.YA.filter _;refine h1.imp_of_mem λ{a b} aQ ao wK=>?_;have aQ:=of_decide_eq_true (List.mem_filter.1 aQ).2;have ao:=of_decide_eq_true (List.mem_filter.1 ao).2;rcases wK with wK | wK
   ·omega
   ·have:=wK.2; omega
 rw [e];exact G9 (λc:Cell=>c.State) m.length cs λc l3=>(aa.ok c l3).s
theorem Ul {g:bt}(aM:fp g) {m:List State}(hm:jJ g m) {q:Nat}(ba:q<m.length):(sf g m q).countP (λv=>decide (0<=v))=m[q].cE.countP λv=>decide (1000<=v.Sym):=by
 unfold sf;rw [List.countP_map,List.countP_eq_length_filter,List.countP_eq_length_filter];have bQ:=List.getElem_mem ba;have hi:idx m (q:Int)=some m[q]:=dT ba;have e7:=hm.nd _ bQ;have Yr:((m[q].cE.filter λv=>decide (1000<=v.Sym)).map λv=>v.Sym).Nodup:=by
  have:=e7;rw [List.Nodup,List.pairwise_map] at this ⊢;exact this.filter _
 have Yq:(((List.range g.bF.length).filter ((λv:Int=>decide (0<=v)) ∘ λa:Nat=>go m q (1000+(a:Int)))).map λa:Nat=>1000+(a:Int)).Nodup:=by
  refine List.pairwise_map.2 (((List.nodup_range (n:=g.bF.length)).filter _).imp λ{a b} h e=>h (by omega))
 have key:∀ s:Int,s∈(((List.range g.bF.length).filter ((λv:Int=>decide (0<=v)) ∘ λa:Nat=>go m q (1000+(a:Int)))).map λa:Nat=>1000+(a:Int))↔s∈((m[q].cE.filter λv=>decide (1000<=v.Sym)).map λv=>v.Sym):=λs=>by
  rw [List.mem_map,List.mem_map];constructor
  ·rintro ⟨a,aQ,rfl⟩;obtain ⟨h1,af⟩:=List.mem_filter.1 aQ;have af:0<=go m q (1000+(a:Int)):=of_decide_eq_true af;rcases (go_eq hm q (1000+(a:Int))).2 with ⟨aF,_⟩ | ⟨st,v,aF,bk,b2,du⟩
   ·omega
   ·rw [hi] at aF; cases aF;exact ⟨v,List.mem_filter.2 ⟨bk,decide_eq_true (by omega)⟩,b2⟩
  ·rintro ⟨v,hv,rfl⟩;obtain ⟨h1,af⟩:=List.mem_filter.1 hv;have af:=of_decide_eq_true af;have av:=Pa.1 (hm.aW _ bQ v h1).s;have c0:=aM.iC;have kV:v.Sym<1000+g.bF.length:=by
    rcases av with av | av
    ·exact absurd av.2 (by omega)
    ·exact av.2
   refine ⟨(v.Sym - 1000).toNat,List.mem_filter.2 ⟨List.mem_range.2 (by omega),decide_eq_true ?_⟩,by omega⟩;have e:1000+(((v.Sym - 1000).toNat:Nat):Int)=v.Sym:=by omega
   show 0<=go m (q:Int) (1000+(((v.Sym - 1000).toNat:Nat):Int));rw [e];exact ((go_eq hm q v.Sym).2.yes hm hi h1 rfl).1
 have ax:=vr Yq λs av=>(key s).1 av;have a2:=vr Yr λs av=>(key s).2 av;rw [List.length_map,List.length_map] at ax a2;exact Nat.le_antisymm ax a2
theorem aaO {g:bt}{m:List State}{cs:List Cell}{d:kG}(h:Ax g m cs d) (aM:fp g) (hm:jJ g m):(d.eQ.map λr=>r.countP λv=>decide (0<=v)).sum=(m.map λs=>s.cE.countP λv=>decide (1000<=v.Sym)).sum:=by
 rw [h.o,List.map_map];congr 1;refine List.ext_getElem (by simp) λq h1 af=>?_;simp only [List.getElem_map,List.getElem_range,Function.comp_apply];exact Ul aM hm (by simpa using af)
theorem HC (g:bt) (x:Item):∃ c,xN g x=some c/\(c=true↔gu g x):=by
 unfold xN;by_cases aI:0<=x.Prod
 ·by_cases h1:x.Prod<g.a8.length
  ·obtain ⟨q,ba,_⟩:=lh aI h1;by_cases af:0<=x.cU
   ·refine ⟨decide (x.cU<=(q.ez.length:Int)),by simp [aI,h1,af,ba],?_⟩;rw [decide_eq_true_eq];exact ⟨λh=>⟨q,ba,af,h⟩,λ⟨ga,w5,_,h⟩=>by rw [ba] at w5; cases w5; exact h⟩
   ·exact ⟨false,by simp [aI,h1,af],λh=>(by cases h),λ⟨_,_,h,_⟩=>absurd h af⟩
  ·exact ⟨false,by simp [aI,h1],λh=>(by cases h),λ⟨_,h,_⟩=>absurd (mx h).2.1 h1⟩
 ·exact ⟨false,by simp [aI],λh=>(by cases h),λ⟨_,h,_⟩=>absurd (mx h).1 aI⟩
theorem TQ (g:bt) (x:Item):CV g x=some (eN g x):=by
 unfold CV eN;obtain ⟨c,aa,hi⟩:=HC g x;rw [aa];simp only [Option.bind_some];cases c with
 | false =>
  have aA:¬ gu g x:=λh=>by have:=hi.2 h; cases this
  simp only [Bool.not_false,cond_true,Option.bind_some];cases ba:idx g.a8 x.Prod with
  | none=>rfl
  | some q =>
   have:idx q.ez x.cU=none:=vh (by
    by_cases aI:0<=x.cU
    ·right;by_cases h1:x.cU<=q.ez.length
     ·exact absurd ⟨q,ba,aI,h1⟩ aA
     ·omega
    ·left; omega)
   simp [this]
 | true =>
  obtain ⟨q,ba,aI,h1⟩:=hi.1 rfl;simp only [Bool.not_true,cond_false,ba,Option.bind_some];by_cases he:x.cU=q.ez.length
  ·rw [vh (.inr (by omega))];simp [he]
  ·obtain ⟨s,av,_⟩:=lh (l:=q.ez) (i:=x.cU) aI (by omega);simp [he,av]
theorem SH (a b:Item):∃ v,CW a b=some v/\(v<0↔fS a b=true):=by
 have Nq:∀ x,zA x=some false:=λx=>by simp [zA]
 have nE:∀ a b:Int,zX a b=some (if a<b then -1 else if b<a then 1 else 0):=by
  intro a b;unfold zX;rw [Nq,Nq];by_cases h1:a<b
  ·simp [h1]
  ·by_cases af:b<a <;> simp [h1,af]
 have UL:∀ a b:Int,C0 [a,b]=some (if a=0 then b else a):=by
  intro a b;unfold C0;have gL:∀ (f:Int->Option (Int ⊕ (Unit ⊕ Int))),f 0=(if a=0 then some (.inl 1) else some (.inr (.inr a)))->f 1=(if b=0 then some (.inl 2) else some (.inr (.inr b)))->f 2=some (.inr (.inl ()))->cc f 0=some (if a=0 then (if b=0 then .inl () else .inr b) else .inr a):=by
   intro f x y z;show iter f (999999999999999997+1+1+1) _=_;by_cases aQ:a=0
   ·by_cases ao:b=0 <;> simp only [iter,x,y,z,aQ,ao,if_true,if_false]
   ·simp only [iter,x,aQ,if_false]
  rw [gL _ ?_ ?_ ?_]
  ·by_cases aQ:a=0
   ·by_cases ao:b=0 <;> simp [aQ,ao]
   ·simp [aQ]
  ·show (bif decide ((0:Int)<2) then _ else _)=_;have e:idx [a,b] 0=some a:=rfl;simp only [e,Option.bind_some];by_cases aQ:a=0 <;> simp [aQ];rfl
  ·show (bif decide ((1:Int)<2) then _ else _)=_;have e:idx [a,b] 1=some b:=rfl;simp only [e,Option.bind_some];by_cases ao:b=0 <;> simp [ao];rfl
  ·rfl
 unfold CW;simp only [nE,Option.bind_some,UL];refine ⟨_,rfl,?_⟩;rw [Fk];by_cases h1:a.Prod<b.Prod
 ·simp [h1]
 ·by_cases af:b.Prod<a.Prod
  ·simp [h1,af]; omega
  ·have:a.Prod=b.Prod:=by omega
   by_cases aF:a.cU<b.cU
   ·simp [this,aF]
   ·by_cases bk:b.cU<a.cU <;> simp [this,aF,bk]
theorem AS (g:bt) (aL:fp g) (l:List Item) (ah:l.length<=1000000):Tot (xJ g l) λr=>fo fS r/\∀ x,x∈r↔j3 g l x:=by
 have ze:=aL.k2;have n':=aL.ev;unfold xJ;refine .aC (Ξ:=λout=>out.length<=l.length/\∀ x,x∈out↔x∈l/\gu g x) ?_ λx2 af=>?_
 ·refine Tot.count (λs=>s.2) l.length (λs=>∃ k:Nat,k<=l.length/\s.2=(k:Int)/\s.1.length<=k/\∀ x,x∈s.1↔x∈l.take k/\gu g x) ⟨0,Nat.zero_le _,rfl,Nat.le_refl 0,λx=>by simp⟩ (by show (l.length:Int) - 0<_; omega) λs av=>?_;obtain ⟨out,ke⟩:=s;obtain ⟨k,hk,rfl,hlen,hm⟩:=av;simp only at hlen hm ⊢;rw [ya k (by omega)];refine Tot.bA (λaK=>?_) (λdx=>.al ?_)
  ·have aK:k<l.length:=by omega
   rw [dT aK];refine .aC (Ξ:=λo:List Item=>o.length<=k+1/\∀ x,x∈o↔x∈l.take (k+1)/\gu g x) ?_ λo aM=>.al ⟨⟨k+1,by omega,rfl,aM⟩,by show (k:Int)<((k+1:Nat):Int); omega,by show ((k+1:Nat):Int)<=_; omega⟩;obtain ⟨c,aa,hi⟩:=HC g l[k];rw [nU aK];refine Tot.sm ?_;rw [aa];refine Tot.sm (.aC (Ξ:=λo:List Item=>o.length<=k+1/\∀ x,x∈o↔x∈l.take k++[l[k]]/\gu g x) (Tot.bC (λh=>?_) (λh=>.al ⟨by omega,λx=>?_⟩)) λo aM=>.al aM)
   ·refine .aC (Ξ:=λ_=>True) (Tot.ap (by simp [lim]; omega) trivial) λ_ _=>.al ⟨by simp; omega,λx=>?_⟩;rw [List.mem_append,List.mem_append,List.mem_singleton,hm x];constructor
    ·rintro (⟨h1,af⟩ | rfl)
     ·exact ⟨.inl h1,af⟩
     ·exact ⟨.inr rfl,hi.1 h⟩
    ·rintro ⟨h1 | rfl,af⟩
     ·exact .inl ⟨h1,af⟩
     ·exact .inr rfl
   ·rw [List.mem_append,List.mem_singleton,hm x];constructor
    ·rintro ⟨h1,af⟩;exact ⟨.inl h1,af⟩
    ·rintro ⟨h1 | rfl,af⟩
     ·exact ⟨h1,af⟩
     ·rw [hi.2 af] at h; cases h
  ·have:k=l.length:=by omega
   subst this;rw [List.take_length] at hm;exact ⟨hlen,hm⟩
 obtain ⟨pO,I1⟩:=af;refine .aC (Ξ:=λm=>m=List.replicate g.bF.length false) (Tot.mk (by simp [lim]; omega) (by simp)) λdF wJ=>?_;subst wJ
 -- the worklist
 refine .aC (Ξ:=λout:List Item=>out.length<=2000000/\∀ x,x∈out↔j3 g l x) ?_ λout na=>?_
 ·refine Tot.loop (λs=>∃ k:Nat,k<=s.1.length/\s.2.2=(k:Int)/\s.2.1.length=g.bF.length/\s.1.length<=l.length+60 * gG s.2.1/\(∀ x∈s.1,j3 g l x)/\(∀ x∈l,gu g x->x∈s.1)/\(∀ j x,j<k->s.1[j]?=some x->1000<=eN g x->s.2.1.getD (eN g x - 1000).toNat false=true)/\∀ (p:Nat) (q:Prod),g.a8[p]?=some q->s.2.1.getD q.Left.toNat false=true->(⟨p,0⟩:Item)∈s.1)
   (λs=>l.length+2000 - s.2.2.toNat) ⟨0,Nat.zero_le _,rfl,List.length_replicate ..,by show x2.length<=_; omega,λx J=>.base ((I1 x).1 J).1 ((I1 x).1 J).2,λx J hi=>(I1 x).2 ⟨J,hi⟩,λj x ag=>absurd ag (Nat.not_lt_zero _),λp q aw h=>?_⟩ (by show l.length+2000 - _<1000000000000000000; omega) λs av=>?_
  ·rw [List.getD_eq_getElem?_getD,List.getElem?_replicate] at h
   split at h <;> simp at h
  obtain ⟨out,met,ke⟩:=s;obtain ⟨k,hk,hS,sw,hlen,gi,qE,y4,EN⟩:=av;simp only at hk hS sw hlen gi qE y4 EN ⊢;subst hS;have hZ:=Ht met;rw [ya k (by omega)];refine Tot.bA (λaK=>?_) (λdx=>.al ⟨by omega,λx=>⟨gi x,λJ=>?_⟩⟩)
  ·have aK:k<out.length:=by omega
   rw [dT aK];have sG:=gi _ (List.getElem_mem aK);generalize J:out[k]=x at *;have pZ:out[k]?=some x:=by rw [List.getElem?_eq_getElem aK,J]
   have WH:=Pp aL x;have hw:aS (eN g x - 1000)=eN g x - 1000:=by rw [cP]; omega
   -- what a round comes to
   refine .aC (Ξ:=λj:List Item × List Bool=>∃ e,j.1=out++e/\j.2.length=g.bF.length/\j.1.length<=l.length+60 * gG j.2/\(∀ x∈e,j3 g l x)/\(∀ i,met.getD i false=true->j.2.getD i false=true)/\(1000<=eN g x->j.2.getD (eN g x - 1000).toNat false=true)/\∀ (p:Nat) (q:Prod),g.a8[p]?=some q->j.2.getD q.Left.toNat false=true->(⟨p,0⟩:Item)∈j.1) ?_ λj ag=>?_
   ·refine Tot.sm ?_;rw [TQ g x];refine Tot.sm ?_;rw [hw];have N9:1000<=eN g x->idx met (eN g x - 1000)=some (met.getD (eN g x - 1000).toNat false):=by
     intro h;obtain ⟨_,av,_⟩:=Fz aL (x:=x) (by omega);have au:=aL.iC;have:(eN g x - 1000).toNat<met.length:=by rcases av with av | av <;> omega
     unfold idx;rw [if_pos (by omega),List.getD_eq_getElem?_getD,List.getElem?_eq_getElem this]; rfl
    refine .aC (Ξ:=λc:Bool=>(c=true->eN g x<1000\/met.getD (eN g x - 1000).toNat false=true)/\(c=false->1000<=eN g x/\met.getD (eN g x - 1000).toNat false=false)) (Tot.bA (λh=>.al ⟨λ_=>.inl (by omega),λh=>(by cases h)⟩) (λh=>?_)) λc aa=>Tot.bC (λh=>.al ⟨[],by simp,sw,hlen,λx J=>by simp at J,λ_ h=>h,λh1=>(aa.1 h).resolve_left (by omega),EN⟩) (λh=>?_)
    ·rw [N9 (by omega)];exact Tot.sm (.al ⟨λh=>.inr h,λaR=>⟨by omega,aR⟩⟩)
    obtain ⟨aI,aV⟩:=aa.2 h;rw [N9 aI];have pP:(eN g x - 1000).toNat<met.length:=by
     obtain ⟨_,av,_⟩:=Fz aL (x:=x) (by omega);have au:=aL.iC;rcases av with av | av <;> omega
    refine Tot.sm (.aC (Ξ:=λo:List Item=>∃ e,o=out++e/\e.length<=g.a8.length/\(∀ x∈e,j3 g l x)/\∀ (p:Nat) (q:Prod),g.a8[p]?=some q->q.Left=eN g x - 1000->(⟨p,0⟩:Item)∈e) ?_ λo aM=>?_)
    ·refine Tot.count (λs=>s.2) g.a8.length (λs=>∃ k:Nat,k<=g.a8.length/\s.2=(k:Int)/\∃ e,s.1=out++e/\e.length<=k/\(∀ x∈e,j3 g l x)/\∀ (p:Nat) (q:Prod),p<k->g.a8[p]?=some q->q.Left=eN g x - 1000->(⟨p,0⟩:Item)∈e) ⟨0,Nat.zero_le _,rfl,[],by simp,Nat.le_refl 0,λx J=>by simp at J,λp q aw=>absurd aw (Nat.not_lt_zero _)⟩ (by show (g.a8.length:Int) - 0<_; omega) λs av=>?_;obtain ⟨o,xl⟩:=s;obtain ⟨i,hi,rfl,e,rfl,We,Bx,By⟩:=av;simp only;rw [ya i (by omega)];refine Tot.bA (λwW=>?_) (λdx=>.al ⟨e,rfl,by omega,Bx,λp q aw=>By p q ?_ aw⟩)
     ·have wW:i<g.a8.length:=by omega
      have BP:g.a8[i]?=some g.a8[i]:=List.getElem?_eq_getElem wW;rw [dT wW];refine .aC (Ξ:=λo:List Item=>∃ e,o=out++e/\e.length<=i+1/\(∀ x∈e,j3 g l x)/\∀ (p:Nat) (q:Prod),p<i+1->g.a8[p]?=some q->q.Left=eN g x - 1000->(⟨p,0⟩:Item)∈e) ?_ λo aM=>.al ⟨⟨i+1,by omega,rfl,aM⟩,by show (i:Int)<((i+1:Nat):Int); omega,by show ((i+1:Nat):Int)<=_; omega⟩;refine Tot.sm (.aC (Ξ:=λo:List Item=>∃ e,o=out++e/\e.length<=i+1/\(∀ x∈e,j3 g l x)/\∀ (p:Nat) (q:Prod),p<i+1->g.a8[p]?=some q->q.Left=eN g x - 1000->(⟨p,0⟩:Item)∈e) (Tot.bA (λh=>?_) (λh=>.al ⟨e,rfl,by omega,Bx,λp q aw oa ba=>?_⟩)) λo aM=>.al aM)
      ·refine .aC (Ξ:=λ_=>True) (Tot.ap (by simp [lim]; omega) trivial) λ_ _=>.al ⟨e++[⟨i,0⟩],by simp,by simp; omega,λy ai=>?_,λp q aw oa ba=>?_⟩
       ·rcases List.mem_append.1 ai with ai | ai
        ·exact Bx y ai
        ·rw [List.mem_singleton.1 ai];exact .step sG BP (by omega) aI
       ·by_cases bP:p=i
        ·subst bP; simp
        ·have:=By p q (by omega) oa ba;simp [this]
      ·by_cases bP:p=i
       ·subst bP;rw [BP] at oa; cases oa;exact absurd ba h
       ·exact By p q (by omega) oa ba
     ·have:=(List.getElem?_eq_some_iff.1 aw).1;omega
    ·obtain ⟨e,rfl,We,Bx,By⟩:=aM;have gB:=uI met (eN g x - 1000).toNat pP aV;have IM:∀ i,(met.set (eN g x - 1000).toNat true).getD i false=true↔(i=(eN g x - 1000).toNat\/met.getD i false=true):=by
      intro i;rw [List.getD_eq_getElem?_getD,List.getElem?_set];by_cases bP:(eN g x - 1000).toNat=i
      ·subst bP; simp [pP]
      ·simp [bP,Ne.symm bP,List.getD_eq_getElem?_getD]
     refine .al ⟨e,rfl,by show (met.set _ _).length=_; rw [List.length_set]; exact sw,by show (out++e).length<=_+60 * gG (met.set _ _); rw [gB,List.length_append]; omega,Bx,λi hi=>(IM i).2 (.inr hi),λ_=>(IM _).2 (.inl rfl),λp q oa ba=>?_⟩;rcases (IM _).1 ba with h1 | h1
     ·have Jb:=(aL.gN q (List.mem_of_getElem? oa)).left;exact List.mem_append_right _ (By p q oa (by omega))
     ·exact List.mem_append_left _ (EN p q oa h1)
   ·obtain ⟨e,he,h1,af,aF,bk,b2,du⟩:=ag;refine .al ⟨⟨k+1,by show _<=j.1.length; rw [he,List.length_append]; omega,rfl,h1,af,λy ai=>?_,λy ai hi=>by show y∈j.1; rw [he]; exact List.mem_append_left _ (qE y ai hi),λi y hi ai aI=>?_,du⟩,?_⟩
    ·have ai:y∈out++e:=he ▸ ai;rcases List.mem_append.1 ai with ai | ai
     ·exact gi y ai
     ·exact aF y ai
    ·have zl:(out++e)[i]?=some y:=he ▸ ai;clear ai;by_cases bP:i=k
     ·rw [bP,List.getElem?_append_left aK,pZ] at zl;cases zl;exact b2 aI
     ·rw [List.getElem?_append_left (by omega)] at zl;exact bk _ (y4 i y (by omega) zl aI)
    ·show l.length+2000 - ((k+1:Nat):Int).toNat<l.length+2000 - ((k:Nat):Int).toNat;have:=Ht met;omega
  ·have di:k=out.length:=by omega
   induction J with
   | base h hi=>exact qE _ h hi
   | @step x q p h aw aA aI aJ =>
    obtain ⟨j,ag,e⟩:=List.mem_iff_getElem.1 aJ;have:=y4 j x (by omega) (by rw [List.getElem?_eq_getElem ag,e]) aI;have cu:(1000+q.Left - 1000).toNat=q.Left.toNat:=by omega
    rw [aA,cu] at this;exact EN p q aw this
 obtain ⟨I8,w2⟩:=na;rw [ZY rU (λa _ b _=>SH a b) (by omega)];refine Tot.sm ?_;have w4:=(zn fS out).length_eq;have:yO (jX fS out)=some (dedup (jX fS out)):=by unfold yO; rw [if_pos (by omega)]
 rw [this];refine Tot.sm (.al ?_);obtain ⟨h1,af⟩:=TG rU out;exact ⟨h1,λx=>(af x).trans (w2 x)⟩
theorem ZD (g:bt) (aL:fp g) (l:List Item) (ah:l.length<=1000000):∃ r,xJ g l=some r/\vD g l=some r/\r.length<=540/\∀ x∈r,gu g x:=by
 obtain ⟨r,ak,h1,af⟩:=AS g aL l ah;obtain ⟨dr,ec,k',HU⟩:=D8 g aL l ah;have:r=dr:=h1.uniq rU k' λx=>(af x).trans (HU x).symm;subst this;exact ⟨r,ak,ec,r' aL h1 λx J=>((af x).1 J).gu,λx J=>((af x).1 J).gu⟩
open Go Go.Own
structure jN (x:Sym):Prop where
 lit:x.Lit=true->x.Name.size=1/\0<ih x.Name 0/\ih x.Name 0<=255/\x.bW=0
 num:0<=x.bW/\x.bW<=50000
theorem Kw (x:Sym) (a b:Bool):Par (tY x a b) λr=>r=true->jN x:=by
 unfold tY;refine Par.bC (λah=>?_) (λah=>?_)
 ·refine .aC (Ξ:=λc=>c=false->x.Name.size=1/\x.bW=0) ?_ λc aa=>Par.bC (λ_=>.al λh=>by cases h) (λaf=>?_)
  ·refine Par.bC (λ_=>.al λh=>by cases h) (λ_=>Par.oJ (λ_=>.al λh=>by cases h) (λh1=>.al λaf=>⟨by omega,?_⟩));simpa using af
  ·obtain ⟨h1,aF⟩:=aa af;refine .aC (Ξ:=λc=>c=ih x.Name 0) (λc aa=>?_) λc aa=>?_
   ·unfold hg at aa
    split at aa
    ·exact (Option.some.inj aa).symm
    ·cases aa
   ·subst aa;refine .aC (Ξ:=λr=>r.2=true->0<ih x.Name 0/\ih x.Name 0<=255) ?_ λr ak=>.al λh=>⟨λ_=>⟨h1,(ak h).1,(ak h).2,aF⟩,by omega⟩;unfold zD;refine Par.bA (λh=>.al λ_=>by omega) (λ_=>Par.bA (λh=>.al λ_=>by omega) (λ_=>Par.bA (λh=>.al λ_=>by omega) (λ_=>?_)));refine .aC (Ξ:=λc=>c=true->ih x.Name 0=92\/ih x.Name 0=39) (Par.bA (λh=>.al λ_=>.inl h) (λ_=>.al λh=>.inr (of_decide_eq_true h))) λc aa=>Par.bC (λh=>.al λ_=>by rcases aa h with h | h <;> omega) (λ_=>?_);refine .aC (Ξ:=λr:Int × Bool=>r.2=true->0<ih x.Name 0/\ih x.Name 0<=255) (Par.bA (λh=>.al λaR=>?_) (λ_=>.al λh=>by cases h)) λr ak=>.al ak;have:ih x.Name 0<=126:=of_decide_eq_true aR;omega
 ·refine .aC (Ξ:=λc=>c=true->0<=x.bW/\x.bW<=50000) ?_ λc aa=>.al λh=>⟨λaR=>(by rw [ah] at aR; cases aR),aa h⟩;refine .aC (Ξ:=λ_=>True) (λ_ _=>trivial) λc _=>Par.bC (λ_=>Par.bA (λh=>.al λ_=>by omega) (λ_=>Par.bC (λ_=>Par.bA (λh=>.al λaR=>⟨by omega,of_decide_eq_true aR⟩) (λ_=>.al λh=>by cases h)) (λ_=>.al λh=>by cases h))) (λ_=>.al λh=>by cases h)
theorem PH (x:Sym):Par (tZ x) λr=>r=true->jN x:=by
 unfold tZ;refine .aC (Ξ:=λr=>r=true->jN x) ?_ λr ak=>.al ak;refine Par.bC (λ_=>Par.bC (λh=>.al λaR=>?_) (λ_=>.al λh=>by cases h)) (λ_=>.al λh=>by cases h);have h1:x.Lit=false:=by simpa using h
 have af:x.bW=0:=of_decide_eq_true aR;exact ⟨λh=>(by rw [h1] at h; cases h),by omega⟩
theorem YT (d:Decl) (aA:d.eJ.length<=1000000):Par (xE d) λr=>r=true->∀ x∈d.eJ,jN x:=by
 unfold xE;refine .aC (Ξ:=λ_=>True) (λ_ _=>trivial) λc _=>Par.bC (λ_=>.al λh=>by cases h) (λ_=>?_);refine .aC (Par.scan d.eJ (by omega) (λx=>jN x) (λr=>r=false) (λs y aI h1 hi hm=>?_) (λs av=>by simp [av])) λx J=>?_
 ·refine Par.bA (λ_=>?_) (λh=>absurd h1 h);rw [hi];have hw:aS (s+1)=s+1:=by rw [cP]; omega
  rw [hw];exact .aC (Ξ:=λz=>z=y) (.al rfl) λz aT=>by
   subst aT;exact .aC (Kw _ _ _) λc aa=>Par.bC (λ_=>.al rfl) (λaf=>.al ⟨rfl,aa (by simpa using af)⟩)
 ·rcases x with _ | r
  ·exact .al λ_=>J
  ·exact .al λh=>by have:r=false:=J; rw [this] at h; cases h
theorem YU (a:Alt) (aA:a.Parts.length<=1000000):Par (xF a) λr=>r=true->(∀ p∈a.Parts,jN p.Sym)/\jN a.Prec:=by
 unfold xF;refine .aC (Par.scan a.Parts (by omega) (λp=>jN p.Sym) (λr=>r=false) (λs y aI h1 hi hm=>?_) (λs av=>by simp [av])) λx J=>?_
 ·refine Par.bA (λ_=>?_) (λh=>absurd h1 h);rw [hi];have hw:aS (s+1)=s+1:=by rw [cP]; omega
  rw [hw];refine .aC (Ξ:=λz=>z=y) (.al rfl) λz aT=>?_;subst aT;refine .aC (Ξ:=λc=>c=false->jN z.Sym) ?_ λc aa=>Par.bC (λ_=>.al rfl) (λaf=>.al ⟨rfl,aa af⟩);refine Par.bA (λhe=>?_) (λcN=>?_)
  ·refine .aC (Kw _ _ _) λc aa=>Par.bC (λ_=>.al λh=>by cases h) (λaf=>?_);have dD:=aa (by simpa using af);exact λ_ _ _=>dD
  ·refine Par.oJ (λ_=>?_) (λh=>absurd h cN);refine .aC (PH _) λc aa=>Par.bC (λ_=>.al λh=>by cases h) (λaf=>?_);have dD:=aa (by simpa using af);exact λ_ _ _=>dD
 ·rcases x with _ | r
  ·have J:∀ p∈a.Parts,jN p.Sym:=J;refine .aC (Ξ:=λc=>c=true->jN a.Prec) ?_ λc aa=>.al λh=>⟨J,aa h⟩;refine .aC (PH _) λc aa=>Par.bC (λaf=>.al λ_=>aa af) (λ_=>.aC (Kw _ _ _) λc aa=>.al aa)
  ·exact .al λh=>by have:r=false:=J; rw [this] at h; cases h
structure LP (s:Source):Prop where
 decls:∀ d∈s.Decls,∀ x∈d.eJ,jN x
 rules:∀ r∈s.ef,∀ a∈r.fm,(∀ p∈a.Parts,jN p.Sym)/\jN a.Prec
theorem YW (s:Source) (ao:s7 s):Par (xP s) λr=>r=true->LP s:=by
 unfold xP;refine .aC (Ξ:=iI (λ_=>True) (λr=>r=false)) ?_ λx J=>?_
 ·refine Par.loop (λ_=>True) trivial λj _=>?_;refine Par.bA (λ_=>.aC (Ξ:=λ_=>True) (λ_ _=>trivial) λ_ _=>Par.bC (λ_=>.al rfl) (λ_=>.al trivial)) (λ_=>.al trivial)
 ·rcases x with _ | r
  ·refine .aC (Par.scan s.Decls (by have:=ao.yP; omega) (λd=>∀ x∈d.eJ,jN x) (λr=>r=false) (λi y aI h1 hi hm=>?_) (λs av=>by simp [av])) λx J=>?_
   ·refine Par.bA (λ_=>?_) (λh=>absurd h1 h);rw [hi];have hw:aS (i+1)=i+1:=by have:=ao.yP; rw [cP]; omega
    rw [hw];refine .aC (Ξ:=λz=>z=y) (.al rfl) λz aT=>?_;subst aT;exact .aC (YT z (by have:=(ao.decls z hm).n; omega)) λc aa=>Par.bC (λ_=>.al rfl) (λaf=>.al ⟨rfl,aa (by simpa using af)⟩)
   ·rcases x with _ | r
    ·have aP:∀ d∈s.Decls,∀ x∈d.eJ,jN x:=J;refine .aC (Par.scan s.ef (by have:=ao.aN; omega) (λr=>∀ a∈r.fm,(∀ p∈a.Parts,jN p.Sym)/\jN a.Prec) (λr=>r=false) (λi y aI h1 hi hm=>?_) (λs av=>by simp [av])) λx J=>?_
     ·refine Par.bA (λ_=>?_) (λh=>absurd h1 h);rw [hi];have hw:aS (i+1)=i+1:=by have:=ao.aN; rw [cP]; omega
      rw [hw];refine .aC (Ξ:=λz=>z=y) (.al rfl) λz aT=>?_;subst aT;have u4:=(ao.rules z hm);refine .aC (Ξ:=λ_=>True) (λ_ _=>trivial) λc _=>Par.bC (λ_=>.al rfl) (λ_=>?_);refine .aC (Par.scan z.fm (by have:=u4.n; omega) (λa=>(∀ p∈a.Parts,jN p.Sym)/\jN a.Prec) (λr=>r=false) (λk y aI h1 hi hm=>?_) (λs av=>by simp [av])) λx J=>?_
      ·refine Par.bA (λ_=>?_) (λh=>absurd h1 h);rw [hi];have hw:aS (k+1)=k+1:=by have:=u4.n; rw [cP]; omega
       rw [hw];refine .aC (Ξ:=λz=>z=y) (.al rfl) λz aT=>?_;subst aT;exact .aC (YU z (by have:=(u4.alts z hm).n; omega)) λc aa=>Par.bC (λ_=>.al rfl) (λaf=>.al ⟨rfl,aa (by simpa using af)⟩)
      ·rcases x with _ | r
       ·exact .al ⟨rfl,J⟩
       ·exact .al J
     ·rcases x with _ | r
      ·exact .al λ_=>⟨aP,J⟩
      ·exact .al λh=>by have:r=false:=J; rw [this] at h; cases h
    ·exact .al λh=>by have:r=false:=J; rw [this] at h; cases h
  ·exact .al λh=>by have:r=false:=J; rw [this] at h; cases h
structure yA (T:List Tok) (G:List Bool):Prop where
 Nj:G.length=T.length
 lo:3<=T.length
 hi:T.length<=lim
 l6:∀ t∈T,(t.Name.size<=hb/\(t.Lit=true->t.Name.size=1))/\j6 t.Lit t.Name
 le:∀ t∈T,t.bW<=50000
structure s8 (T:List Tok) (G:List Bool):Prop where
 aP:∀ (i:Nat) (t:Tok),i<3->T[i]?=some t->t.bW<=0
 un:∀ (i j:Nat) (s t:Tok),T[i]?=some s->T[j]?=some t->0<s.bW->s.bW=t.bW->i=j
 gg:∀ (i:Nat) (t:Tok),3<=i->T[i]?=some t->(G[i]?=some true->0<t.bW)/\(G[i]?=some false->t.bW=0)
structure e3 (m:e'):Prop where
 a:yA m.az.aX m.cg
 b:m.cM=0->s8 m.az.aX m.cg
 eY:∀ y∈m.bX,j6 false y
theorem vf {α:Type}{l:List α}{i:Int}{y:α}(h:idx l i=some y):0<=i/\i.toNat<l.length/\l[i.toNat]?=some y:=by
 unfold idx at h
 split at h
 ·rename_i aI;exact ⟨aI,(List.getElem?_eq_some_iff.1 h).1,h⟩
 ·cases h
theorem yA.set {T:List Tok}{G:List Bool}(h:yA T G) {k:Nat}{t t':Tok}(hk:T[k]?=some t) (aA:t'.Name=t.Name) (ah:t'.Lit=t.Lit) (hu:t'.bW<=50000) {Lz:List Bool}(c':Lz.length=G.length):yA (T.set k t') Lz:=by
 have hm:=List.mem_of_getElem? hk;have key:∀ {P:Tok->Prop},(∀ s∈T,P s)->P t'->∀ s∈T.set k t',P s:=λh1 af s av=>by
  rcases List.mem_or_eq_of_mem_set av with h | h
  ·exact h1 s h
  ·rw [h]; exact af
 exact ⟨by rw [c',List.length_set]; exact h.Nj,by rw [List.length_set]; exact h.lo,by rw [List.length_set]; exact h.hi,key h.l6 (by rw [aA,ah]; exact h.l6 t hm),key h.le hu⟩
theorem s8.FY {T:List Tok}{G:List Bool}(h:s8 T G) {k:Nat}{t t':Tok}(hk:T[k]?=some t) (hu:t'.bW=t.bW):s8 (T.set k t') G:=by
 have aK:=(List.getElem?_eq_some_iff.1 hk).1;have key:∀ (i:Nat) (s:Tok),(T.set k t')[i]?=some s->∃ cY,T[i]?=some cY/\cY.bW=s.bW:=by
  intro i s av;rw [rY aK] at av;by_cases e:i=k
  ·rw [if_pos e] at av;cases av;exact ⟨t,by rw [e]; exact hk,hu.symm⟩
  ·rw [if_neg e] at av;exact ⟨s,av,rfl⟩
 refine ⟨λi s hi av=>?_,λi j s s2 av kV aI he=>?_,λi s hi av=>?_⟩
 ·obtain ⟨cY,h1,af⟩:=key i s av;rw [<- af]; exact h.aP i cY hi h1
 ·obtain ⟨cY,h1,af⟩:=key i s av;obtain ⟨ZC,aF,bk⟩:=key j s2 kV;exact h.un i j cY ZC h1 aF (by omega) (by omega)
 ·obtain ⟨cY,h1,af⟩:=key i s av;rw [<- af]; exact h.gg i cY hi h1
theorem s8.ZL {T:List Tok}{G:List Bool}(h:s8 T G) {k:Nat}{t t':Tok}(hk:T[k]?=some t) (aF:3<=k) (aL:k<G.length) (aI:0<t'.bW) (aA:∀ (i:Nat) (s:Tok),T[i]?=some s->s.bW≠t'.bW):s8 (T.set k t') (G.set k true):=by
 have aK:=(List.getElem?_eq_some_iff.1 hk).1;refine ⟨λi s hi av=>?_,λi j s s2 av kV aw he=>?_,λi s hi av=>?_⟩
 ·rw [rY aK,if_neg (by omega)] at av;exact h.aP i s hi av
 ·rw [rY aK] at av kV;by_cases bP:i=k
  ·rw [if_pos bP] at av; cases av;by_cases cu:j=k
   ·omega
   ·rw [if_neg cu] at kV;exact absurd he.symm (aA j s2 kV)
  ·rw [if_neg bP] at av;by_cases cu:j=k
   ·rw [if_pos cu] at kV; cases kV;exact absurd he (aA i s av)
   ·rw [if_neg cu] at kV;exact h.un i j s s2 av kV aw he
 ·rw [rY aK] at av;rw [rY aL];by_cases bP:i=k
  ·rw [if_pos bP] at av ⊢;cases av;exact ⟨λ_=>aI,λh=>by cases h⟩
  ·rw [if_neg bP] at av ⊢;exact h.gg i s hi av
theorem sM (m:e') (a:Int) (n:ByteArray):Par (nm m a n) λbn=>ra m bn/\bn.cM≠0:=.of (t74 m a n)
theorem e3.fail {m bn:e'}(h:e3 m) (av:ra m bn/\bn.cM≠0):e3 bn:=⟨by rw [av.1.g,av.1.gg]; exact h.a,λe=>absurd e av.2,by rw [av.1.eY]; exact h.eY⟩
theorem YY (m:e') (x:Sym) (aF:3<=m.az.aX.length) (h:m.az.aX.length<=lim):Par (ua m x) λr=>r=-1\/(1<=r/\r≠2):=by
 have ah:lim=1000000000000\/lim<=1000000000000000:=by unfold lim; omega
 unfold ua;refine .aC (Ξ:=iI (λ_=>True) (λr:Int=>1<=r/\r≠2)) ?_ λr ak=>?_
 ·refine Par.loop (λs=>1<=s/\s<=m.az.aX.length) ⟨by decide,by omega⟩ λs av=>?_
  ·refine Par.bA (λaK=>?_) (λ_=>.al trivial);refine .aC (Ξ:=λc=>c=true->s≠2) ?_ λc aa=>Par.bC (λaR=>.al ⟨av.1,aa aR⟩) (λ_=>.al ⟨by rw [cP]; omega,by rw [cP]; omega⟩);refine .go λy _=>Par.bC (λ_=>.go λz _=>Par.bC (λ_=>.al λaR=>by simpa using aR) (λ_=>.al λh=>by cases h)) (λ_=>.al λh=>by cases h)
 ·rcases r with _ | r
  ·exact .al (.inl rfl)
  ·exact .al (.inr ak)
theorem PF (m:e') (n:Int) (aF:3<=m.az.aX.length) (h:m.az.aX.length<=lim):Par (vy m n) λr=>r<0->∀ (i:Nat) (t:Tok),3<=i->m.az.aX[i]?=some t->t.bW≠n:=by
 have ah:lim=1000000000000\/lim<=1000000000000000:=by unfold lim; omega
 unfold vy;refine .aC (Ξ:=iI (λ_=>∀ (i:Nat) (t:Tok),3<=i->m.az.aX[i]?=some t->t.bW≠n) (λr:Int=>0<=r)) ?_ λr ak=>?_
 ·refine Par.loop (λs=>3<=s/\s<=m.az.aX.length/\∀ (i:Nat) (t:Tok),3<=i->(i:Int)<s->m.az.aX[i]?=some t->t.bW≠n) ⟨by decide,by omega,λi t h1 af=>by omega⟩ λs av=>?_;obtain ⟨h1,af,av⟩:=av;refine Par.bA (λaK=>?_) (λdx=>.al λi t hi au=>av i t hi ?_ au)
  ·refine .go λy ai=>?_;obtain ⟨_,_,ai⟩:=vf ai;have hw:aS (s+1)=s+1:=by rw [cP]; omega
   rw [hw];refine Par.bA (λe=>.al (show (0:Int)<=s by omega)) (λe=>.al ⟨by omega,by omega,λi t hi pP au=>?_⟩);by_cases cu:i=s.toNat
   ·subst cu;rw [ai] at au; cases au; exact e
   ·exact av i t hi (by omega) au
  ·have:=(List.getElem?_eq_some_iff.1 au).1;omega
 ·rcases r with _ | r
  ·exact .al λ_=>ak
  ·exact .al λh=>by have:(0:Int)<=r:=ak; omega
theorem Dg {α:Type}{l:List α}{x:α}(i:Nat) {y:α}(h:(l++[x])[i]?=some y):(i<l.length/\l[i]?=some y)\/(i=l.length/\y=x):=by
 by_cases hi:i<l.length
 ·rw [List.getElem?_append_left hi] at h;exact .inl ⟨hi,h⟩
 ·rw [List.getElem?_append_right (by omega)] at h;by_cases e:i - l.length=0
  ·rw [e] at h;simp at h;exact .inr ⟨by omega,h.symm⟩
  ·have:([x]:List α)[i - l.length]?=none:=by rw [List.getElem?_eq_none]; simp; omega
   rw [this] at h; cases h
theorem PE (m:e') (x:Sym) (hm:e3 m) (J:jN x) (av:j6 x.Lit x.Name):Par (vx m x) λr=>e3 r.2/\(r.1=1\/3<=r.1):=by
 unfold vx;have ah:lim<=1000000000000000:=by unfold lim; omega
 refine .aC (YY m x hm.a.lo hm.a.hi) λr ak=>Par.bA (λh=>.al ⟨hm,?_⟩) (λ_=>?_)
 ·show r=1\/3<=r;omega
 refine .aC (Ξ:=λj:e' × Int=>j.1.az=m.az/\j.1.cg=m.cg/\j.1.bX=m.bX/\e3 j.1/\j.2<=50000/\(j.1.cM=0->(x.Lit=true->0<j.2/\∀ (i:Nat) (t:Tok),m.az.aX[i]?=some t->t.bW≠j.2)/\(x.Lit=false->j.2=0))) ?_ λj ag=>?_
 ·refine Par.bC (λoS=>?_) (λoS=>.al ⟨rfl,rfl,rfl,hm,by show (0:Int)<=_; decide,λ_=>⟨λh=>(by rw [oS] at h; cases h),λ_=>rfl⟩⟩);obtain ⟨_,h1,af,_⟩:=J.lit oS;refine .aC (Ξ:=λc=>c=ih x.Name 0) (λc aa=>?_) λc aa=>?_
  ·unfold hg at aa
   split at aa
   ·exact (Option.some.inj aa).symm
   ·cases aa
  subst aa;have hw:aS (ih x.Name 0)=ih x.Name 0:=by rw [cP]; omega
  rw [hw];refine .aC (PF m (ih x.Name 0) hm.a.lo hm.a.hi) λo aM=>?_;refine .aC (Ξ:=λj:e'=>j.az=m.az/\j.cg=m.cg/\j.bX=m.bX/\e3 j/\(j.cM=0->m.cM=0/\o<0)) (Par.bA (λh=>.aC (sM m x.At x.Name) λbn aR=>.al ⟨aR.1.g,aR.1.gg,aR.1.eY,hm.fail aR,λe=>absurd e aR.2⟩) (λh=>.al ⟨rfl,rfl,rfl,hm,λe=>⟨e,by omega⟩⟩)) λj ag=>.al ⟨ag.1,ag.2.1,ag.2.2.1,ag.2.2.2.1,by show ih x.Name 0<=_; omega,λe=>⟨λ_=>⟨h1,λi t au=>?_⟩,λh=>(by rw [oS] at h; cases h)⟩⟩;obtain ⟨bP,cu⟩:=ag.2.2.2.2 e;by_cases aF:3<=i
  ·exact aM cu i t aF au
  ·have:=(hm.b bP).aP i t (by omega) au;show t.bW≠ih x.Name 0;omega
 ·obtain ⟨aL,ry,u1,c0,hle,he⟩:=ag;have wM:j.1.cM=0->s8 m.az.aX m.cg:=λe=>by have:=c0.b e; rwa [aL,ry] at this
  refine Par.ap λsv=>Par.ap λ_=>.al ?_;rw [aL] at sv;rw [aL,ry,u1];simp only [List.length_cons,List.length_nil] at sv;have aF:=hm.a.lo;have NX:=hm.a.Nj;refine ⟨⟨⟨by simp [NX],by show 3<=(m.az.aX++[_]).length; simp; omega,by show (m.az.aX++[_]).length<=_; simp; omega,λt au=>?_,λt au=>?_⟩,λe0=>?_,hm.eY⟩,?_⟩
  ·rcases List.mem_append.1 au with au | au
   ·exact hm.a.l6 t au
   ·rw [List.mem_singleton.1 au];exact ⟨⟨av.1,λh=>(J.lit h).1⟩,av⟩
  ·rcases List.mem_append.1 au with au | au
   ·exact hm.a.le t au
   ·rw [List.mem_singleton.1 au]; exact hle
  ·have MR:j.1.cM=0:=e0;have ao:=wM MR;obtain ⟨IH,Bw⟩:=he MR;refine ⟨λi t hi au=>?_,λi k s t av au aI heq=>?_,λi t hi au=>?_⟩
   ·rcases Dg i au with ⟨h1,af⟩ | ⟨h1,_⟩
    ·exact ao.aP i t hi af
    ·omega
   ·rcases Dg i av with ⟨h1,af⟩ | ⟨h1,af⟩
    ·rcases Dg k au with ⟨bk,b2⟩ | ⟨bk,b2⟩
     ·exact ao.un i k s t af b2 aI heq
     ·subst b2;have heq:s.bW=j.2:=heq;cases oS:x.Lit with
      | true=>exact absurd heq ((IH oS).2 i s af)
      | false=>have:=Bw oS; omega
    ·subst af;rcases Dg k au with ⟨bk,b2⟩ | ⟨bk,b2⟩
     ·have heq:j.2=t.bW:=heq;have aI:0<j.2:=aI;cases oS:x.Lit with
      | true=>exact absurd heq.symm ((IH oS).2 k t b2)
      | false=>have:=Bw oS; omega
     ·omega
   ·have U1:(m.cg++[x.Lit])[i]?=if i=m.az.aX.length then some x.Lit else m.cg[i]?:=by
     by_cases e:i=m.az.aX.length
     ·rw [if_pos e,e,<- NX,List.getElem?_append_right (Nat.le_refl _)]; simp
     ·have:=(List.getElem?_eq_some_iff.1 au).1;simp at this;rw [if_neg e,List.getElem?_append_left (by omega)]
    show ((m.cg++[x.Lit])[i]?=some true->0<t.bW)/\((m.cg++[x.Lit])[i]?=some false->t.bW=0);rw [U1];rcases Dg i au with ⟨h1,af⟩ | ⟨h1,af⟩
    ·rw [if_neg (by omega)];exact ao.gg i t hi af
    ·rw [if_pos h1];subst af;exact ⟨λh=>(IH (Option.some.inj h)).1,λh=>Bw (Option.some.inj h)⟩
  ·right;show 3<=aS (((m.az.aX++[_]).length:Int) - 1);simp only [List.length_append,List.length_cons,List.length_nil];rw [cP]; omega
open Go Go.Own Go.Lib
theorem Mj {a b:ByteArray}(h:a.data.toList=b.data.toList):a=b:=by
 cases a; cases b; congr; exact Array.ext' h
theorem Sk (a b:ByteArray):(a++b).data.toList=a.data.toList++b.data.toList:=by rw [ByteArray.data_append,Array.toList_append]
theorem rf (a:ByteArray):a.size=a.data.toList.length:=(Array.length_toList ..).symm
theorem Sj {a:ByteArray}(h:a.size=0):a=⟨#[]⟩:=Mj (List.eq_nil_of_length_eq_zero (by rw [<- rf,h]))
theorem Mk (a b:ByteArray):(a++b).size=a.size+b.size:=ByteArray.size_append
theorem Pd (u:Nat):1<=(decDigits u).length:=by rw [decDigits_length]; exact nDigits_pos u
theorem Co {u:Nat}(h:u<18446744073709551616):(decDigits u).length<=20:=by
 rw [decDigits_length];rcases Nat.eq_zero_or_pos u with rfl | h1
 ·rw [nDigits_small (by omega)]; omega
 ·have:=numDigits_eq u h1 h
  split at this <;> omega
theorem MP (u:Nat) (hu:u<18446744073709551616) (f:Int × ByteArray->Option ((Int × ByteArray) ⊕ ByteArray))
  (aV:f=λ(ee:Int × ByteArray) =>
((bif decide (0<ee.1) then some true else some (decide (ee.2=⟨#[]⟩)))).bind λrj =>
(bif rj then
(o7 ee.1 10).bind λcz =>
(er (strOfNums [uk (IntKind.u64.wrap (48+cz))]) ee.2).bind λbY =>
(o5 ee.1 10).bind λdF =>
some (.inl (dF,bY))
else
some (.inr ee.2))):cc (R:=ByteArray) f ((u:Int),⟨#[]⟩)=some ⟨(decDigits u).toArray⟩:=by
 suffices h:Tot (cc (R:=ByteArray) f ((u:Int),⟨#[]⟩)) λr=>r=⟨(decDigits u).toArray⟩ by
  obtain ⟨r,ak,e⟩:=h; rw [ak,e]
 refine Tot.loop (λs=>∃ m:Nat,s.1=m/\m<18446744073709551616/\((s.2.size=0/\m=u)\/(0<s.2.size/\(if m=0 then [] else decDigits m)++s.2.data.toList=decDigits u)))
  (λs=>if s.1=0 then (if s.2.size=0 then 1 else 0) else (decDigits s.1.toNat).length+1) ⟨u,rfl,hu,.inl ⟨rfl,rfl⟩⟩ ?_ ?_
 ·show (if (u:Int)=0 then _ else _)<1000000000000000000
  have:=Co hu;split
  ·split <;> omega
  ·simp only [Int.toNat_natCast]; omega
 ·rintro ⟨x,s⟩ ⟨m,J,hm,av⟩;simp only at J av;subst J;rw [aV];by_cases BC:0<m\/s.size=0
  ·have aa:(bif decide (0<((m:Int),s).1) then some true else some (decide (((m:Int),s).2=⟨#[]⟩)))=some true:=by
    simp only;by_cases aI:0<(m:Int)
    ·rw [decide_eq_true aI]; rfl
    ·rw [decide_eq_false aI];show some (decide (s=⟨#[]⟩))=some true;rw [decide_eq_true (Sj (by omega))]
   simp only [aa,Option.bind_some,cond_true];have EO:(m:Int).tmod 10=((m % 10:Nat):Int):=by
    rw [Int.tmod_eq_emod_of_nonneg (by omega)]; omega
   have hdiv:IntKind.u64.wrap ((m:Int).tdiv 10)=((m / 10:Nat):Int):=by
    rw [Int.tdiv_eq_ediv_of_nonneg (by omega),IntKind.wrap_u64]; omega
   have V9:uk (IntKind.u64.wrap (48+(m:Int).tmod 10))=((48+m % 10:Nat):Int):=by
    show IntKind.u8.wrap _=_;rw [EO,IntKind.wrap_u64,IntKind.wrap_u8]; omega
   have fw:(strOfNums [((48+m % 10:Nat):Int)]).data.toList=[UInt8.ofNat (48+m % 10)]:=rfl;have dO:(strOfNums [((48+m % 10:Nat):Int)]).size=1:=strOfNums_size _
   -- what is there behind the step
   have si:(if m / 10=0 then [] else decDigits (m / 10))++(UInt8.ofNat (48+m % 10)::s.data.toList)=decDigits u:=by
    have br:(if m / 10=0 then [] else decDigits (m / 10))++[UInt8.ofNat (48+m % 10)]=decDigits m:=by
     by_cases wI:m<10
     ·rw [if_pos (by omega),decDigits,dif_pos wI,Nat.mod_eq_of_lt wI]; rfl
     ·rw [if_neg (by omega)]
      conv=>rhs; rw [decDigits,dif_neg wI]
    rw [show UInt8.ofNat (48+m % 10)::s.data.toList=[UInt8.ofNat (48+m % 10)]++s.data.toList from rfl,<- List.append_assoc,br]
    rcases av with ⟨aI,rfl⟩ | ⟨aI,h1⟩
    ·rw [List.eq_nil_of_length_eq_zero (l:=s.data.toList) (by rw [<- rf]; exact aI),List.append_nil]
    ·rw [if_neg (by omega)] at h1; exact h1
   have ad_:s.size+1<=20:=by
    have h1:=congrArg List.length si;have af:=Co hu;rw [List.length_append,List.length_cons,<- rf] at h1;omega
   refine .bi (.o7 (by omega) (.bi ?_));rw [V9];refine .cat (by rw [dO]; omega) (.bi (.o5 (by omega) (.al ?_)));rw [hdiv];refine ⟨⟨m / 10,rfl,by omega,.inr ⟨by rw [Mk,dO]; omega,?_⟩⟩,?_⟩
   ·show _++(strOfNums [((48+m % 10:Nat):Int)]++s).data.toList=_;rw [Sk,fw]; exact si
   ·show (if ((m / 10:Nat):Int)=0 then (if (strOfNums [((48+m % 10:Nat):Int)]++s).size=0 then 1 else 0) else (decDigits ((m / 10:Nat):Int).toNat).length+1)<(if (m:Int)=0 then (if s.size=0 then 1 else 0) else (decDigits (m:Int).toNat).length+1)
    rw [Mk,dO];simp only [Int.toNat_natCast];by_cases aI:m=0
    ·have:s.size=0:=by omega
     subst aI;simp [this]
    ·have BG:¬ (m:Int)=0:=by omega
     rw [if_neg BG];by_cases wI:m<10
     ·rw [if_pos (show ((m / 10:Nat):Int)=0 by omega),if_neg (by omega)];have:=Pd m; omega
     ·rw [if_neg (show ¬ ((m / 10:Nat):Int)=0 by omega)];have:decDigits m=decDigits (m / 10)++[UInt8.ofNat (48+m % 10)]:=by conv=>lhs; rw [decDigits,dif_neg wI]
      rw [this,List.length_append]; simp
  ·have aI:m=0:=by omega
   subst aI;have Og:0<s.size:=by omega
   have cN:¬ s=⟨#[]⟩:=λe=>by rw [e] at Og; exact absurd Og (by decide)
   simp only [Int.natCast_zero,Int.lt_irrefl,decide_false,cond_false,Option.bind_some,decide_eq_false cN];refine .al ?_;rcases av with ⟨h,_⟩ | ⟨_,h⟩
   ·omega
   ·rw [if_pos rfl] at h;exact Mj h
theorem gT (n:Int) (h:-9223372036854775808<=n/\n<=9223372036854775807):nS n=some ⟨(kW n).toArray⟩:=by
 rw [B7 h];unfold nS Lib.itoa;by_cases aI:n<0
 ·have e:IntKind.u64.wrap (-(IntKind.u64.wrap n))=((n.natAbs:Nat):Int):=by
   rw [IntKind.wrap_u64,IntKind.wrap_u64]; omega
  simp only [decide_eq_true aI,cond_true,Option.bind_some,e,if_pos aI];rw [MP n.natAbs (by omega) _ rfl,Option.bind_some];have dO:({ data:=(decDigits n.natAbs).toArray }:ByteArray).size<=20:=by rw [rf]; exact Co (by omega)
  have:er ⟨#[45]⟩ ⟨(decDigits n.natAbs).toArray⟩=some ⟨(45::decDigits n.natAbs).toArray⟩:=by
   unfold er;rw [if_pos (by have:(⟨#[45]⟩:ByteArray).size=1:=rfl; omega)];rfl
  rw [this]; rfl
 ·have e:IntKind.u64.wrap n=((n.toNat:Nat):Int):=by rw [IntKind.wrap_u64]; omega
  simp only [decide_eq_false aI,cond_false,Option.bind_some,e,if_neg aI];rw [MP n.toNat (by omega) _ rfl]; rfl
theorem xo (n:Int) (h:-9223372036854775808<=n/\n<=9223372036854775807):(kW n).length<=21:=by
 rw [B7 h];unfold Lib.itoa;split
 ·have:=Co (u:=n.natAbs) (by omega); simp only [List.length_cons]; omega
 ·have:=Co (u:=n.toNat) (by omega); omega
theorem Hm (n:Int) (h:-9223372036854775808<=n/\n<=9223372036854775807):nf n=some ⟨(kW n).toArray⟩:=by unfold nf; rw [if_pos h]
abbrev i64 (n:Int):Prop:=-9223372036854775808<=n/\n<=9223372036854775807
theorem MQ (u:Nat):∀ b∈decDigits u,48<=b.toNat/\b.toNat<=57:=by
 induction u using Nat.strongRecOn with
 | ind u aJ =>
  intro b ao;have aP:∀ k:Nat,k<10->48<=(UInt8.ofNat (48+k)).toNat/\(UInt8.ofNat (48+k)).toNat<=57:=λk hk=>by
   rw [UInt8.toNat_ofNat'];omega
  rw [decDigits] at ao
  split at ao
  ·rename_i h;rw [List.mem_singleton.1 ao]; exact aP u h
  ·rcases List.mem_append.1 ao with ao | ao
   ·exact aJ (u / 10) (by omega) b ao
   ·rw [List.mem_singleton.1 ao]; exact aP _ (by omega)
theorem JP {n:Int}(h:i64 n):∀ b∈kW n,b=45\/(48<=b.toNat/\b.toNat<=57):=by
 rw [B7 h];intro b ao;unfold Lib.itoa at ao
 split at ao
 ·rcases List.mem_cons.1 ao with rfl | ao
  ·exact .inl rfl
  ·exact .inr (MQ _ b ao)
 ·exact .inr (MQ _ b ao)
theorem OP {n:Int}(h:i64 n):kW n≠[]:=by
 rw [B7 h];unfold Lib.itoa;split
 ·exact λe=>by cases e
 ·intro e;have:=Pd n.toNat;rw [e] at this;exact absurd this (by decide)
abbrev nD (n:Int):ByteArray:=⟨(kW n).toArray⟩
theorem G6 (n:Int):cV (nD n)=kW n:=by show (kW n).toArray.toList=_; simp
theorem hP.dg {n:Int}(h:i64 n):hP (nD n):=λb ao=>by
 rw [G6] at ao;rcases JP h b ao with rfl | h1
 ·decide
 ·refine ⟨?_,?_,?_,?_⟩ <;> (rintro rfl; exact absurd h1 (by decide))
theorem A2 (n:Int) (h:i64 n):nf n=some (nD n):=Hm n h
structure pg (g:bt):Prop where
 l6:∀ t∈g.aX,hP t.Name/\(t.Lit=true->∀ b∈cV t.Name,112<=b.toNat/\b.toNat<=115)
 ev:∀ x∈g.bF,hP x.Name
theorem vg {α:Type}{l:List α}{i:Int}{y:α}(h:idx l i=some y):y∈l:=List.mem_of_getElem? (vf h).2.2
theorem e3.FY {m:e'}(h:e3 m) {k:Nat}{t t':Tok}(hk:m.az.aX[k]?=some t) (aA:t'.Name=t.Name) (ah:t'.Lit=t.Lit) (hu:t'.bW=t.bW):yA (m.az.aX.set k t') m.cg/\(m.cM=0->s8 (m.az.aX.set k t') m.cg) :=
 ⟨h.a.set hk aA ah (by rw [hu]; exact h.a.le t (List.mem_of_getElem? hk)) rfl,λe=>(h.b e).FY hk hu⟩
theorem e3.HH {m bn:e'}(h:e3 m) (av:ra m bn/\bn.cM≠0):e3 (⟨(⟨m.az.aX,bn.az.bF,bn.az.a8,bn.az.ca,bn.az.cm⟩:bt),bn.cg,bn.cx,bn.bX,bn.cM,bn.c_,bn.c8,bn.b_,bn.bU⟩:e') :=
 ⟨by show yA m.az.aX bn.cg; rw [av.1.gg]; exact h.a,λe=>absurd e av.2,by show ∀ y∈bn.bX,_; rw [av.1.eY]; exact h.eY⟩
theorem YX (m:e') (d:Decl) (x:Sym) (hm:e3 m) (J:jN x) (av:j6 x.Lit x.Name):Par (vE m d x) e3:=by
 unfold vE;refine Par.bC (λ_=>?_) (λ_=>?_)
 ·refine .aC (Ξ:=λ_=>True) (λ_ _=>trivial) λk _=>.aC (Ξ:=e3) ?_ λbn hm=>.al hm;refine Par.bA (λ_=>Par.ap λ_=>.al ⟨hm.a,hm.b,hm.eY⟩) (λ_=>?_);refine .go λy _=>.aC (Ξ:=e3) (Par.bC (λ_=>.aC (sM m _ _) λbn h=>.al (hm.fail h)) (λ_=>.al hm)) λbn hm=>.al hm
 ·refine .aC (PE m x hm J av) λr ak=>?_;obtain ⟨ak,iR⟩:=ak;refine .go λy ai=>?_;refine .aC (Ξ:=e3) ?_ λfe lB=>?_
  ·refine Par.bC (λ_=>?_) (λ_=>.al ak);refine .aC (Ξ:=e3) (Par.bC (λ_=>.aC (sM r.2 _ _) λbn h=>.al (ak.HH h)) (λ_=>.al ak)) λc6 uO=>?_;refine .go λz aT=>?_;obtain ⟨_,_,aT⟩:=vf aT;rw [List.set_set];obtain ⟨h1,af⟩:=uO.FY (t':=(⟨z.Name,z.Lit,z.bW,c6.b_,aS (d.Kind - 1),z.Tag⟩:Tok)) aT rfl rfl rfl;exact .al ⟨h1,af,uO.eY⟩
  refine .go λy _=>?_;refine .aC (Ξ:=e3) ?_ λeM uP=>?_
  ·refine Par.bA (λoU=>?_) (λ_=>.al lB);refine .aC (Ξ:=λc:Bool=>c=false->r.1≠1/\∀ (i:Nat) (t:Tok),3<=i->fe.az.aX[i]?=some t->t.bW≠x.bW) ?_ λc aa=>?_
   ·refine Par.bA (λ_=>.al λh=>by cases h) (λh1=>.go λgg _=>Par.bC (λ_=>.al λh=>by cases h) (λ_=>.aC (PF fe x.bW lB.a.lo lB.a.hi) λo aM=>.al λh=>⟨h1,aM (by have:=of_decide_eq_false h; omega)⟩))
   refine .aC (Ξ:=λj=>e3 j/\(j.cM=0->r.1≠1/\∀ (i:Nat) (t:Tok),3<=i->j.az.aX[i]?=some t->t.bW≠x.bW)) (Par.bC (λ_=>.aC (sM fe _ _) λbn h=>.al ⟨lB.HH h,λe=>absurd e h.2⟩) (λh=>.al ⟨lB,λ_=>aa h⟩)) λdE tm=>?_;obtain ⟨tm,aA⟩:=tm;refine .go λz aT=>.go λgg ry=>.al ?_;obtain ⟨aI,aK,aT⟩:=vf aT;obtain ⟨_,Wz,ry⟩:=vf ry;have hle:=J.num;refine ⟨tm.a.set (t':=(⟨z.Name,z.Lit,x.bW,z.Level,z.e2,z.Tag⟩:Tok)) aT rfl rfl hle.2 (by simp),λe=>?_,tm.eY⟩;obtain ⟨aF,bk⟩:=aA e;have ao:=tm.b e;refine ao.ZL (t':=(⟨z.Name,z.Lit,x.bW,z.Level,z.e2,z.Tag⟩:Tok)) aT (by omega) Wz oU λi t au=>?_;by_cases adh:3<=i
   ·grind
   ·have:=ao.aP i t (by omega) au
    grind
  refine .go λy _=>.aC (Ξ:=e3) ?_ λj ag=>.al ag;refine Par.bC (λ_=>?_) (λ_=>.al uP);refine .aC (Ξ:=λ_=>True) (λ_ _=>trivial) λc _=>?_;refine .aC (Ξ:=e3) (Par.bC (λ_=>.aC (sM eM _ _) λbn h=>.al (uP.HH h)) (λ_=>.al uP)) λkd Bb=>?_;refine .go λz aT=>?_;obtain ⟨_,_,aT⟩:=vf aT;obtain ⟨h1,af⟩:=Bb.FY (t':=(⟨z.Name,z.Lit,z.bW,z.Level,z.e2,d.Tag⟩:Tok)) aT rfl rfl rfl;exact .al ⟨h1,af,Bb.eY⟩
theorem PG (m:e') (x:Sym) (hm:e3 m) (J:jN x) (av:j6 x.Lit x.Name):Par (sN m x) λr=>e3 r.2:=by
 unfold sN;refine Par.bC (λ_=>.aC (PE m x hm J av) λr ak=>.al ak.1) (λ_=>.aC (Ξ:=λ_=>True) (λ_ _=>trivial) λk _=>Par.bC (λ_=>.al hm) (λ_=>.aC (Ξ:=λ_=>True) (λ_ _=>trivial) λt _=>Par.bC (λ_=>.aC (sM m _ _) λbn h=>.al (hm.fail h)) (λ_=>.al hm)))
theorem YZ (m:e') (left:ByteArray) (a:Alt) (hm:e3 m) (ao:yf a) (aQ:(∀ p∈a.Parts,jN p.Sym)/\jN a.Prec):Par (vF m left a) e3:=by
 have aA:=ao.n;unfold vF;refine .aC (Ξ:=λ_=>True) (λ_ _=>trivial) λaY _=>?_;refine .aC (Ξ:=λr:e' × List Int × ByteArray × Int=>e3 r.1) ?_ λa6 aF=>?_
 ·refine Par.loop (λs=>e3 s.1/\0<=s.2.2.2.2) ⟨hm,Int.le_refl 0⟩ λs av=>?_;obtain ⟨m1,rt,bC,at_,i⟩:=s;obtain ⟨av,aI⟩:=av;simp only at av aI ⊢;refine Par.bA (λaK=>?_) (λ_=>.al av);refine .aC (Ξ:=λj:e' × List Int × ByteArray × Int=>e3 j.1) ?_ λj ag=>.al ⟨ag,by show 0<=aS (i+1); rw [cP]; omega⟩;refine .go λy ai=>.aC (Ξ:=λj:e' × List Int × ByteArray × Int=>e3 j.1) ?_ λj ag=>.al ag;have OD:=(vg ai);refine .aC (Ξ:=λj:e' × List Int × ByteArray × Int=>e3 j.1) ?_ λj ag=>.al ag;refine Par.bC (λ_=>?_) (λ_=>?_)
  ·exact .aC (PG m1 y.Sym av (aQ.1 y OD) (ao.parts y OD).1) λr ak=>Par.ap λ_=>.al ak
  ·exact .aC (Ξ:=λ_=>True) (λ_ _=>trivial) λj _=>.al ⟨av.a,av.b,av.eY⟩
 ·refine .aC (Ξ:=λ_=>True) (λ_ _=>trivial) λgN _=>?_;refine .aC (Ξ:=λj:e' × Int=>e3 j.1) ?_ λj ag=>Par.ap λ_=>Par.ap λ_=>.al ⟨ag.a,ag.b,ag.eY⟩;refine Par.bC (λ_=>?_) (λ_=>.al aF);refine .aC (Ξ:=λ_=>True) (λ_ _=>trivial) λc _=>.aC (Ξ:=λj:e' × Int=>e3 j.1) ?_ λj ag=>.al ag;exact Par.bC (λ_=>.aC (PG a6.1 a.Prec aF aQ.2 ao.prec) λr ak=>.al ak) (λ_=>.aC (sM a6.1 _ _) λbn h=>.al (aF.fail h))
structure ph (g:bt):Prop where
 aP:∀ (i:Nat) (t:Tok),i<3->g.aX[i]?=some t->t.bW<=0
 pos:∀ (i:Nat) (t:Tok),3<=i->g.aX[i]?=some t->0<t.bW/\t.bW<=100000
 un:∀ (i j:Nat) (s t:Tok),g.aX[i]?=some s->g.aX[j]?=some t->0<s.bW->s.bW=t.bW->i=j
 l6:∀ t∈g.aX,t.Name.size<=hb/\(t.Lit=true->t.Name.size=1)
 ev:∀ x∈g.bF,x.Name.size<=4 * hb
theorem YV (s:Source) (ao:s7 s):Par (vC s) λr=>r.2.1=0->ph r.1/\pg r.1:=by
 have V_:=ao.yP;have zh:=ao.aN;unfold vC;refine .aC (YW s ao) λc aa=>Par.bC (λ_=>.al λh=>absurd h (by decide)) (λlD=>?_);have ok:LP s:=aa (by simpa using lD);refine .aC (Ξ:=λl=>l=List.replicate 3 false) (λa e=>by unfold nQ at e; split at e <;> cases e; rfl) λa6 kz=>?_;subst kz
 -- declarations
 refine .aC (Ξ:=λr:e' × ByteArray=>e3 r.1) ?_ λcv b2=>?_
 ·refine Par.loop (λz=>e3 z.1/\0<=z.2.2) ⟨⟨⟨rfl,Nat.le_refl 3,by show 3<=lim; unfold lim; omega,λt au=>?_,λt au=>?_⟩,λ_=>⟨λi t hi au=>?_,λi j a b aQ ao aI he=>?_,λi t hi au=>?_⟩,λy ai=>by cases ai⟩,Int.le_refl 0⟩ λz aT=>?_
  ·have au:t∈[_,_,_]:=au;simp only [List.mem_cons,List.not_mem_nil,or_false] at au;rcases au with rfl | rfl | rfl <;> exact ⟨⟨by decide,λh=>by cases h⟩,by decide,by decide,λh=>by cases h⟩
  ·have au:t∈[_,_,_]:=au;simp only [List.mem_cons,List.not_mem_nil,or_false] at au;rcases au with rfl | rfl | rfl <;> decide
  ·have au:t∈[_,_,_]:=List.mem_of_getElem? au;simp only [List.mem_cons,List.not_mem_nil,or_false] at au;rcases au with rfl | rfl | rfl <;> decide
  ·have aQ:a∈[_,_,_]:=List.mem_of_getElem? aQ;simp only [List.mem_cons,List.not_mem_nil,or_false] at aQ;rcases aQ with rfl | rfl | rfl <;> exact absurd aI (by decide)
  ·have:=(List.getElem?_eq_some_iff.1 au).1;have:i<3:=this;omega
  ·obtain ⟨m,st,i⟩:=z;obtain ⟨hm,aI⟩:=aT;simp only at hm aI ⊢;refine Par.bA (λaK=>?_) (λ_=>.al hm);refine .go λd aP=>?_;have ju:=vg aP;refine .aC (Ξ:=λ_=>True) (λ_ _=>trivial) λ_ _=>.aC (Ξ:=λ_=>True) (λ_ _=>trivial) λjz _=>?_;refine .aC (Ξ:=λr:e' × ByteArray=>e3 r.1) ?_ λr ak=>.al ⟨ak,by show 0<=aS (i+1); rw [cP]; omega⟩;refine Par.loop (λz=>e3 z.1/\0<=z.2.2) ⟨⟨hm.a,hm.b,hm.eY⟩,Int.le_refl 0⟩ λz aT=>?_;obtain ⟨m,st,k⟩:=z;obtain ⟨hm,HR⟩:=aT;simp only at hm HR ⊢;have Bv:=(ao.decls d ju).n;refine Par.bA (λwX=>?_) (λ_=>.al hm);refine .aC (Ξ:=λr:e' × ByteArray=>e3 r.1) ?_ λr ak=>.al ⟨ak,by show 0<=aS (k+1); rw [cP]; omega⟩;refine Par.bC (λ_=>.go λx J=>?_) (λ_=>?_)
   ·have sG:=vg J;exact .aC (YX m d x hm (ok.decls d ju x sG) ((ao.decls d ju).syms x sG)) λbn hT=>.al hT
   ·refine .aC (Ξ:=e3) (Par.bC (λ_=>.go λ_ _=>.go λ_ _=>.aC (sM m _ _) λbn h=>.al (hm.fail h)) (λ_=>.al hm)) λbn hT=>.go λ_ _=>.al hT
 -- what stands on the left
 refine .aC (Ξ:=e3) ?_ λcy HV=>?_
 ·refine Par.loop (λz=>e3 z.1/\0<=z.2) ⟨b2,Int.le_refl 0⟩ λz aT=>?_;obtain ⟨m,i⟩:=z;obtain ⟨hm,aI⟩:=aT;simp only at hm aI ⊢;refine Par.bA (λaK=>?_) (λ_=>.al hm);refine .aC (Ξ:=e3) ?_ λr ak=>.al ⟨ak,by show 0<=aS (i+1); rw [cP]; omega⟩;refine .go λr ak=>.aC (Ξ:=λ_=>True) (λ_ _=>trivial) λ_ _=>?_;refine .aC (Ξ:=e3) (Par.bC (λ_=>.aC (sM m _ _) λbn h=>.al (hm.fail h)) (λ_=>.al hm)) λgK oO=>?_;refine .aC (Ξ:=λ_=>True) (λ_ _=>trivial) λ_ _=>?_;refine .aC (Ξ:=λl:List ByteArray=>∀ y∈l,j6 false y) (Par.bC (λ_=>Par.ap λ_=>.al λy ai=>?_) (λ_=>.al oO.eY)) λl ah=>.al ⟨oO.a,oO.b,ah⟩;rcases List.mem_append.1 ai with ai | ai
  ·exact oO.eY y ai
  ·rw [List.mem_singleton.1 ai]; exact (ao.rules r (vg ak)).left
 -- types and starts
 refine .aC (Ξ:=e3) ?_ λgb tn=>?_
 ·refine Par.loop (λz=>e3 z.1) HV λz hm=>?_;obtain ⟨m,i⟩:=z;simp only at hm ⊢;refine Par.bA (λaK=>?_) (λ_=>.al hm);refine .aC (Ξ:=e3) ?_ λr ak=>.al ak;refine Par.loop (λz=>e3 z.1) hm λz hm=>?_;obtain ⟨m,k⟩:=z;simp only at hm ⊢;refine .go λd _=>Par.bA (λaK=>?_) (λ_=>.al hm);refine .aC (Ξ:=e3) ?_ λr ak=>.al ak;refine .go λ_ _=>.go λ_ _=>.aC (Ξ:=λ_=>True) (λ_ _=>trivial) λ_ _=>?_;exact .aC (Ξ:=e3) (Par.bC (λ_=>.aC (sM m _ _) λbn h=>.al (hm.fail h)) (λ_=>.al hm)) λbn hT=>.al hT
 refine .aC (Ξ:=λ_=>True) (λ_ _=>trivial) λxq _=>.aC (Ξ:=λ_=>True) (λ_ _=>trivial) λj2 _=>?_
 -- the alternatives
 refine .aC (Ξ:=e3) ?_ λbm nE=>?_
 ·refine Par.loop (λz=>e3 z.1/\0<=z.2) ⟨⟨tn.a,tn.b,tn.eY⟩,Int.le_refl 0⟩ λz aT=>?_;obtain ⟨m,i⟩:=z;obtain ⟨hm,aI⟩:=aT;simp only at hm aI ⊢;refine Par.bA (λaK=>?_) (λ_=>.al hm);refine .aC (Ξ:=e3) ?_ λr ak=>.al ⟨ak,by show 0<=aS (i+1); rw [cP]; omega⟩;refine Par.loop (λz=>e3 z.1/\0<=z.2) ⟨hm,Int.le_refl 0⟩ λz aT=>?_;obtain ⟨m,k⟩:=z;obtain ⟨hm,HR⟩:=aT;simp only at hm HR ⊢;refine .go λd aP=>Par.bA (λwX=>?_) (λ_=>.al hm);have ju:=vg aP;have Bv:=(ao.rules d ju).n;refine .go λd1 NQ=>.go λd2 y3=>.go λa aQ=>?_;rw [aP] at NQ y3;cases NQ; cases y3;have NK:=vg aQ;exact .aC (YZ m d.Left a hm ((ao.rules d ju).alts a NK) (ok.rules d ju a NK)) λbn hT=>.al ⟨hT,by show 0<=aS (k+1); rw [cP]; omega⟩
 refine Par.oJ (λh=>.al λaR=>absurd aR h) (λhe=>?_);have Jg:=nE.b he
 -- nonterminals
 refine .aC (Ξ:=λl:List e5=>1<=l.length/\∀ x∈l,x.Name.size<=4 * hb/\hP x.Name) ?_ λq7 HY=>?_
 ·refine Par.loop (λz=>1<=z.1.length/\∀ x∈z.1,x.Name.size<=4 * hb/\hP x.Name) ⟨Nat.le_refl 1,λx J=>?_⟩ λz aT=>?_
  ·rw [List.mem_singleton.1 J]; decide
  ·refine Par.bC (λ_=>.go λy ai=>.go λ_ _=>.aC (Ξ:=λ_=>True) (λ_ _=>trivial) λ_ _=>Par.ap λ_=>.al ⟨by show 1<=(z.1++[_]).length; simp,λx J=>?_⟩) (λ_=>.al aT);rcases List.mem_append.1 J with J | J
   ·exact aT.2 x J
   ·rw [List.mem_singleton.1 J];have:=nE.eY y (vg ai);exact ⟨by have:=this.1; show y.size<=4 * hb; simp only [hb]; omega,this.2.1⟩
 refine .aC (Ξ:=λl:List e5=>l.length<=24->∀ x∈l,x.Name.size<=4 * hb/\hP x.Name) ?_ λkE HZ=>?_
 ·refine Par.loop (λz=>(z.1.length<=24->∀ x∈z.1,x.Name.size<=4 * hb/\hP x.Name)/\0<=z.2/\z.2<=z.1.length) ⟨λ_=>HY.2,by show (0:Int)<=1; decide,by have:=HY.1; show (1:Int)<=(q7.length:Int); omega⟩ λz aT=>?_;obtain ⟨l,i⟩:=z;obtain ⟨ah,aI,hi⟩:=aT;simp only at ah aI hi ⊢;refine Par.bA (λhle=>.go λy ai=>?_) (λ_=>.al ah);refine Par.cat (Par.ap λsv=>.al ⟨λhlen x J=>?_,by show 0<=aS (i+1); unfold lim at sv; simp only [List.length_cons,List.length_nil] at sv; rw [cP]; omega,by show aS (i+1)<=(((l++[_]).length:Nat):Int); unfold lim at sv; simp only [List.length_cons,List.length_nil,List.length_append] at sv ⊢; rw [cP]; omega⟩);have hlen:(l++[_]).length<=24:=hlen;simp only [List.length_append,List.length_cons,List.length_nil] at hlen;rcases List.mem_append.1 J with J | J
  ·exact ah (by omega) x J
  ·rw [List.mem_singleton.1 J];have dO:=(t10 i aI (by omega)).eq ai;have zl:y=nD i:=by
    rw [gT i ⟨by omega,by omega⟩] at ai;cases ai; rfl
   refine ⟨?_,hP.app (by decide) (by rw [zl]; exact hP.dg ⟨by omega,by omega⟩)⟩;show (_++y).size<=4 * hb;rw [ByteArray.size_append];show 1+y.size<=4 * hb;simp only [hb]; omega
 -- numbers
 have c0:=nE.a;have sv:bm.az.aX.length<=1000000000000000:=by have:=c0.hi; unfold lim at this; omega
 refine .aC (Ξ:=λl:List Tok=>∃ (i next:Int),l.length=bm.az.aX.length/\(l.length:Int)<=i/\(∀ (j:Nat) (t:Tok),l[j]?=some t->∃ t0,bm.az.aX[j]?=some t0/\t.Name=t0.Name/\t.Lit=t0.Lit/\((t.bW=t0.bW/\(¬ (3<=j/\(j:Int)<i)\/bm.cg[j]?=some true))\/(57346<=t.bW/\t.bW<next/\3<=j/\(j:Int)<i)))/\(∀ (j k:Nat) (s t:Tok),l[j]?=some s->l[k]?=some t->57346<=s.bW->s.bW=t.bW->j=k)/\57346<=next/\next<=57343+i/\i<=l.length) ?_ λlR Np=>?_
 ·refine Par.loop (λz=>z.1.length=bm.az.aX.length/\(∀ (j:Nat) (t:Tok),z.1[j]?=some t->∃ t0,bm.az.aX[j]?=some t0/\t.Name=t0.Name/\t.Lit=t0.Lit/\((t.bW=t0.bW/\(¬ (3<=j/\(j:Int)<z.2.2)\/bm.cg[j]?=some true))\/(57346<=t.bW/\t.bW<z.2.1/\3<=j/\(j:Int)<z.2.2)))/\(∀ (j k:Nat) (s t:Tok),z.1[j]?=some s->z.1[k]?=some t->57346<=s.bW->s.bW=t.bW->j=k)/\57346<=z.2.1/\z.2.1<=57343+z.2.2/\3<=z.2.2/\z.2.2<=z.1.length) ⟨rfl,λj t au=>⟨t,au,rfl,rfl,.inl ⟨rfl,.inl (by show ¬ (3<=j/\(j:Int)<3); omega)⟩⟩,λj k s t av au aI he=>?_,by show (57346:Int)<=57346; decide,by show (57346:Int)<=57343+3; decide,Int.le_refl 3,by have:=c0.lo; show (3:Int)<=(bm.az.aX.length:Nat); omega⟩ λz aT=>?_
  ·have:=c0.le s (List.mem_of_getElem? av); omega
  obtain ⟨l,next,i⟩:=z;obtain ⟨ah,fB,qB,l4,qG,Wm,IQ⟩:=aT;simp only at ah fB qB l4 qG Wm IQ ⊢;have hw:aS (i+1)=i+1:=by rw [cP]; omega
  have Xk:aS (next+1)=next+1:=by rw [cP]; omega
  rw [hw,Xk];refine Par.bA (λaK=>?_) (λdx=>.al ⟨i,next,ah,by omega,fB,qB,l4,qG,IQ⟩);have NZ:i.toNat<l.length:=by omega
  refine .aC (Ξ:=λj:List Tok × Int=>j.1.length=bm.az.aX.length/\(∀ (k:Nat) (t:Tok),j.1[k]?=some t->∃ t0,bm.az.aX[k]?=some t0/\t.Name=t0.Name/\t.Lit=t0.Lit/\((t.bW=t0.bW/\(¬ (3<=k/\(k:Int)<i+1)\/bm.cg[k]?=some true))\/(57346<=t.bW/\t.bW<j.2/\3<=k/\(k:Int)<i+1)))/\(∀ (a k:Nat) (s t:Tok),j.1[a]?=some s->j.1[k]?=some t->57346<=s.bW->s.bW=t.bW->a=k)/\57346<=j.2/\j.2<=57343+(i+1)) ?_ λj ag=>.al ⟨ag.1,ag.2.1,ag.2.2.1,ag.2.2.2.1,ag.2.2.2.2,by show 3<=i+1; omega,by show i+1<=(j.1.length:Nat); rw [ag.1,<- ah]; omega⟩;refine .go λgg ry=>.aC (Ξ:=λj:List Tok × Int=>j.1.length=bm.az.aX.length/\(∀ (k:Nat) (t:Tok),j.1[k]?=some t->∃ t0,bm.az.aX[k]?=some t0/\t.Name=t0.Name/\t.Lit=t0.Lit/\((t.bW=t0.bW/\(¬ (3<=k/\(k:Int)<i+1)\/bm.cg[k]?=some true))\/(57346<=t.bW/\t.bW<j.2/\3<=k/\(k:Int)<i+1)))/\(∀ (a k:Nat) (s t:Tok),j.1[a]?=some s->j.1[k]?=some t->57346<=s.bW->s.bW=t.bW->a=k)/\57346<=j.2/\j.2<=57343+(i+1)) ?_ λj ag=>.al ag;obtain ⟨_,_,ry⟩:=vf ry;refine Par.bC (λaL=>.go λy ai=>.al ?_) (λaL=>.al ⟨ah,λk t au=>?_,qB,l4,by omega⟩)
  ·obtain ⟨_,_,ai⟩:=vf ai;obtain ⟨t0,e0,bP,cu,eP⟩:=fB _ y ai;have BE:y.bW<next:=by
    rcases eP with ⟨eP,_⟩ | eP
    ·have:=c0.le t0 (List.mem_of_getElem? e0); omega
    ·exact eP.2.1
   have lF:∀ (k:Nat) (t:Tok),l[k]?=some t->t.bW<next:=λk t au=>by
    obtain ⟨t1,f0,_,_,f3⟩:=fB k t au;rcases f3 with ⟨f3,_⟩ | f3
    ·have:=c0.le t1 (List.mem_of_getElem? f0); omega
    ·exact f3.2.1
   refine ⟨by show (l.set _ _).length=_; rw [List.length_set]; exact ah,λk t au=>?_,λa k s t av au aI he=>?_,by show 57346<=next+1; omega,by show next+1<=_; omega⟩
   ·have au:(l.set i.toNat _)[k]?=some t:=au;rw [rY NZ] at au;by_cases e:k=i.toNat
    ·rw [if_pos e] at au;cases au;subst e;exact ⟨t0,e0,bP,cu,.inr ⟨l4,by show next<next+1; omega,by omega,by omega⟩⟩
    ·rw [if_neg e] at au;obtain ⟨t1,f0,f1,f2,f3⟩:=fB k t au;refine ⟨t1,f0,f1,f2,?_⟩;rcases f3 with ⟨f3,f4⟩ | f3
     ·exact .inl ⟨f3,f4.imp (λh=>by omega) id⟩
     ·exact .inr ⟨f3.1,by show t.bW<next+1; omega,f3.2.2.1,by omega⟩
   ·have av:(l.set i.toNat _)[a]?=some s:=av;have au:(l.set i.toNat _)[k]?=some t:=au;rw [rY NZ] at av au;by_cases e:a=i.toNat
    ·rw [if_pos e] at av;cases av;by_cases b0:k=i.toNat
     ·omega
     ·rw [if_neg b0] at au;have h1:=lF k t au;have he:next=t.bW:=he;omega
    ·rw [if_neg e] at av;by_cases b0:k=i.toNat
     ·rw [if_pos b0] at au;cases au;have h1:=lF a s av;have he:s.bW=next:=he;omega
     ·rw [if_neg b0] at au;exact qB a k s t av au aI he
  ·obtain ⟨t1,f0,f1,f2,f3⟩:=fB k t au;refine ⟨t1,f0,f1,f2,?_⟩;rcases f3 with ⟨f3,f4⟩ | f3
   ·by_cases e:k=i.toNat
    ·refine .inl ⟨f3,.inr ?_⟩;rw [e,ry];simpa using aL
    ·exact .inl ⟨f3,f4.imp (λh=>by omega) id⟩
   ·exact .inr ⟨f3.1,f3.2.1,f3.2.2.1,by omega⟩
 -- limits
 refine .aC (Ξ:=λc=>c=false->lR.length<=40/\kE.length<=24) ?_ λAU HS=>?_
 ·exact Par.bA (λ_=>.al λh=>by cases h) (λh1=>Par.bA (λ_=>.al λh=>by cases h) (λaf=>.al λh=>by omega))
 refine .aC (Ξ:=λc=>c=false->AU=false) ?_ λAm HT=>?_
 ·refine Par.loop (λz=>z.1=false->AU=false) id λz aT=>?_;refine Par.bC (λ_=>?_) (λ_=>.al aT);exact .aC (Ξ:=λc=>c=false->AU=false) (Par.bC (λ_=>.al λh=>by cases h) (λh=>.go λ_ _=>.al λ_=>aT h)) λc aa=>.al aa
 refine Par.bC (λ_=>.al λh=>absurd h (by decide)) (λaa=>.al λ_=>?_);obtain ⟨iT,gC⟩:=HS (HT aa);obtain ⟨i,next,ah,dx,fB,qB,l4,qG,IQ⟩:=Np;refine ⟨⟨λj t ag au=>?_,λj t ag au=>?_,λj k s t av au aI Bw=>?_,λt au=>?_,λx J=>(HZ gC x J).1⟩,λt au=>?_,λx J=>(HZ gC x J).2⟩
 ·obtain ⟨t0,e0,_,_,eP⟩:=fB j t au;rcases eP with ⟨eP,_⟩ | eP
  ·rw [eP]; exact Jg.aP j t0 ag e0
  ·omega
 ·have eV:j<lR.length:=(List.getElem?_eq_some_iff.1 au).1;obtain ⟨t0,e0,_,_,eP⟩:=fB j t au;rcases eP with ⟨eP,kt⟩ | eP
  ·rcases kt with kt | kt
   ·omega
   ·have h1:=(Jg.gg j t0 ag e0).1 kt;have af:=c0.le t0 (List.mem_of_getElem? e0);omega
  ·omega
 ·by_cases UB:57346<=s.bW
  ·exact qB j k s t av au UB Bw
  ·obtain ⟨eB,e0,_,_,eP⟩:=fB j s av;obtain ⟨t0,f0,_,_,f3⟩:=fB k t au;rcases eP with ⟨eP,_⟩ | eP
   ·rcases f3 with ⟨f3,_⟩ | f3
    ·exact Jg.un j k eB t0 e0 f0 (by omega) (by omega)
    ·omega
   ·omega
 ·obtain ⟨j,ag,rfl⟩:=List.mem_iff_getElem.1 au;obtain ⟨t0,e0,bP,cu,_⟩:=fB j _ (List.getElem?_eq_getElem ag);have:=c0.l6 t0 (List.mem_of_getElem? e0);rw [bP,cu]; exact this.1
 ·obtain ⟨j,ag,rfl⟩:=List.mem_iff_getElem.1 au;obtain ⟨t0,e0,bP,cu,_⟩:=fB j _ (List.getElem?_eq_getElem ag);have:=c0.l6 t0 (List.mem_of_getElem? e0);rw [bP,cu]; exact this.2.2
theorem j8 {a b:ByteArray}(h:a.size+b.size<=4611686018427387904):er a b=some (a++b):=by unfold er; rw [if_pos h]
abbrev room:Nat:=140737488355328
theorem AP {a b:ByteArray}(h:a.size+b.size<=140737488355328):mS a b=some (a++b):=by unfold mS; rw [if_pos h]
theorem dg (n:Int) (h:-9223372036854775808<=n/\n<=9223372036854775807):∃ r,nf n=some r/\nS n=some r/\r.size<=21:=by
 refine ⟨_,Hm n h,gT n h,?_⟩;have:=xo n h;rw [rf]; exact this
def gM (t:ByteArray):ByteArray:=(⟨#[9]⟩++t)++⟨#[10]⟩
theorem O7 (t:ByteArray):(gM t).size=t.size+2:=by
 unfold gM;rw [ByteArray.size_append,ByteArray.size_append];show 1+t.size+1=_;omega
theorem Ec (g:bt) (s t:ByteArray) (h:s.size+t.size+2<=140737488355328):p6 ⟨g,s⟩ t=some ⟨g,s++gM t⟩:=by
 have h1:(⟨#[9]⟩:ByteArray).size=1:=rfl;have af:(⟨#[10]⟩:ByteArray).size=1:=rfl;have ah:=O7 t;unfold p6;rw [j8 (by omega),Option.bind_some,j8 (by rw [ByteArray.size_append]; omega),Option.bind_some];show (mS s (gM t)).bind _=_;rw [AP (by omega)];rfl
def wd (x:_anon101):ByteArray:=(⟨(kW x.qz).toArray⟩:ByteArray)++x.qA
theorem uJ {n:Int}(h:i64 n):(⟨(kW n).toArray⟩:ByteArray).size<=21:=by rw [rf]; exact xo n h
theorem words (L:List _anon101) (aA:L.length<=10) (h:∀ x∈L,i64 x.qz/\x.qA.size<=30) :
  Tot (cc (R:=List ByteArray) (λ(ct:List ByteArray × Int) =>
  (bif decide (ct.2<(L.length:Int)) then
  (idx L ct.2).bind λc7 =>
  (nf c7.qz).bind λe_ =>
  (er e_ c7.qA).bind λdM =>
  (ea ct.1 [dM]).bind λdC =>
  some (.inl (ct.1++[dM],aS (ct.2+1)))
  else
  some (.inr ct.1))) (([]:List ByteArray),0))
  λr=>r=L.map wd:=by
 refine Tot.upto (λs=>s.2) L.length (λk s=>s.1=(L.take k).map wd) rfl (by omega) rfl λk s hk he a'=>?_;obtain ⟨a,i⟩:=s;simp only at he a' ⊢;subst he a';refine Tot.bC (λaK=>?_) (λdx=>.al ?_)
 ·have aK:=of_decide_eq_true aK;have aK:k<L.length:=by omega
  obtain ⟨aY,x2⟩:=h L[k] (List.getElem_mem aK);have aT:=uJ aY;rw [dT aK];simp only [Option.bind_some];rw [Hm _ aY];simp only [Option.bind_some];rw [j8 (by omega)];simp only [Option.bind_some];have aQ:∀ (a:List ByteArray) (b:ByteArray),a.length<=10->ea a [b]=some (a++[b]):=λa b h=>by
   unfold ea; rw [if_pos (by unfold lim; simp; omega)]
  rw [aQ _ _ (by simp; omega)];simp only [Option.bind_some];refine .al ⟨aK,ek k (by omega),?_⟩;show _++[wd L[k]]=_;rw [nU aK,List.map_append];rfl
 ·have:=of_decide_eq_false dx;show List.map wd (L.take k)=_;rw [List.take_of_length_le (by omega)]
theorem X7 (l:List ByteArray) (aA:l.length<=10) (h:∀ x∈l,x.size<=100) (gv:Int) (aI:0<=gv/\gv<=1000) :
  Tot (cc (R:=Int) (λ(ct:Int × Int) =>
  (bif decide (ct.2<(l.length:Int)) then
  (idx l ct.2).bind λc7 =>
  (bif decide (aS (9223372036854775807 - ct.1)<(c7.size:Int)) then
  none
  else
  some (.inl (aS (ct.1+(c7.size:Int)),aS (ct.2+1))))
  else
  some (.inr ct.1))) (gv,0))
  λr=>0<=r/\r<=2000:=by
 refine Tot.upto (λs=>s.2) l.length (λk s=>0<=s.1/\s.1<=1000+k * 100) rfl (by omega) ⟨aI.1,by show gv<=_; omega⟩ λk s hk he a'=>?_;obtain ⟨a,i⟩:=s;simp only at he a' ⊢;subst he;refine Tot.bC (λaK=>?_) (λdx=>.al ⟨a'.1,by omega⟩);have aK:=of_decide_eq_true aK;have aK:k<l.length:=by omega
 have J:=h l[k] (List.getElem_mem aK);rw [dT aK];simp only [Option.bind_some];have fj:aS (9223372036854775807 - a)=9223372036854775807 - a:=by rw [cP]; omega
 have e9:aS (a+(l[k].size:Int))=a+l[k].size:=by rw [cP]; omega
 rw [fj,decide_eq_false (by omega)];simp only [cond_false];refine .al ⟨aK,ek k (by omega),?_,?_⟩
 ·show 0<=aS _; rw [e9]; omega
 ·show aS _<=_; rw [e9]; omega
def dw (sep:ByteArray):ByteArray->List ByteArray->ByteArray
 | b,[]=>b
 | b,x::l=>dw sep (b++sep++x) l
theorem OR (sep x:ByteArray):∀ (l:List ByteArray) (b:ByteArray),dw sep b (l++[x])=dw sep b l++sep++x
 | [],b=>rfl
 | y::l,b=>by simp only [List.cons_append,dw]; exact OR sep x l _
theorem OS (l:List ByteArray) (aA:l.length<=10) (h:∀ x∈l,x.size<=100) (sep gf:ByteArray) (av:sep.size<=10) (ao:gf.size<=1000) :
  Tot (cc (R:=ByteArray) (λ(ic:ByteArray × Int) =>
  (bif decide (ic.2<(l.length:Int)) then
  (idx l ic.2).bind λgw =>
  (mS ic.1 sep).bind λeT =>
  (mS eT gw).bind λhf =>
  some (.inl (hf,aS (ic.2+1)))
  else
  some (.inr ic.1))) (gf,0))
  λr=>r=dw sep gf l/\gf.size<=r.size/\r.size<=3000:=by
 refine Tot.upto (λs=>s.2) l.length (λk s=>s.1=dw sep gf (l.take k)/\gf.size<=s.1.size/\s.1.size<=1000+k * 110) rfl (by omega) ⟨rfl,Nat.le_refl _,by show gf.size<=_; omega⟩ λk s hk he a'=>?_;obtain ⟨a,i⟩:=s;simp only at he a' ⊢;subst he;obtain ⟨i1,i2,i3⟩:=a';refine Tot.bC (λaK=>?_) (λdx=>.al ?_)
 ·have aK:=of_decide_eq_true aK;have aK:k<l.length:=by omega
  have J:=h l[k] (List.getElem_mem aK);rw [dT aK];simp only [Option.bind_some];rw [AP (by omega)];simp only [Option.bind_some];rw [AP (by rw [ByteArray.size_append]; omega)];simp only [Option.bind_some];refine .al ⟨aK,ek k (by omega),?_,?_,?_⟩
  ·show a++sep++l[k]=_;rw [nU aK,OR,i1]
  ·show _<=(a++sep++l[k]).size;rw [ByteArray.size_append,ByteArray.size_append]; omega
  ·show (a++sep++l[k]).size<=_;rw [ByteArray.size_append,ByteArray.size_append]; omega
 ·have:=of_decide_eq_false dx;rw [List.take_of_length_le (by omega)] at i1;exact ⟨i1,i2,by omega⟩
theorem AR (x:ByteArray) (l:List ByteArray) (ah:l.length=5) (J:x.size<=100) (h:∀ y∈l,y.size<=100) (aI:0<x.size) :
  zG (x::l) ⟨#[44,32]⟩=some (dw ⟨#[44,32]⟩ x l):=by
 have av:(⟨#[44,32]⟩:ByteArray).size=2:=rfl;have aA:((x::l).length:Int)=6:=by simp [ah]
 have hi:idx (x::l) 0=some x:=rfl;have fv:∀ y∈x::l,y.size<=100:=λy ai=>by
  rcases List.mem_cons.1 ai with rfl | ai
  ·exact J
  ·exact h y ai
 have hw:aS (((x::l).length:Int) - 1)=5:=by rw [aA]; rfl
 have ba:z1 9223372036854775807 5=some 1844674407370955161:=by decide +kernel
 have d1:decide (((x::l).length:Int)=0)=false:=decide_eq_false (by omega);have d2:decide (((x::l).length:Int)=1)=false:=decide_eq_false (by omega);have d3:decide (0<((⟨#[44,32]⟩:ByteArray).size:Int))=true:=rfl;have d4:decide ((1844674407370955161:Int)<=((⟨#[44,32]⟩:ByteArray).size:Int))=false:=rfl;have d5:aS (0+aS (((⟨#[44,32]⟩:ByteArray).size:Int) * 5))=10:=by decide +kernel
 unfold zG;rw [d1,d2,d3,hw,ba];simp only [cond_true,cond_false,Option.bind_some,d4,d5];obtain ⟨n,qG,rA⟩:=X7 (x::l) (by simp [ah]) fv 10 (by omega);rw [qG];simp only [Option.bind_some];have aL:wy () n=some ⟨#[]⟩:=by unfold wy; rw [if_pos (by omega)]
 have gi:nt (x::l) 1 ((x::l).length:Int)=some l:=by
  unfold nt;rw [if_pos (by omega),aA];show some ((l.drop 0).take 5)=_;rw [List.drop_zero,List.take_of_length_le (by omega)]
 have aT:(⟨#[]⟩:ByteArray).size=0:=rfl;rw [aL];simp only [Option.bind_some,hi];rw [AP (by omega)];simp only [Option.bind_some,gi];have he:(⟨#[]⟩:ByteArray)++x=x:=by
  apply ByteArray.ext;rw [ByteArray.data_append];simp
 rw [he];obtain ⟨r,ak,bP,cu,eP⟩:=OS l (by omega) h ⟨#[44,32]⟩ x (by omega) (by omega);rw [ak];simp only [Option.bind_some];have ao:pw r=some r:=by unfold pw; rw [if_neg (by omega)]
 rw [ao,<- bP];rfl
open Go Go.Own Go.Sort Go.Lib
theorem hP.no {u:ByteArray}(h:hP u):10∉cV u/\58∉cV u/\103∉cV u/\108∉cV u:=⟨λJ=>(h _ J).1 rfl,λJ=>(h _ J).2.1 rfl,λJ=>(h _ J).2.2.1 rfl,λJ=>(h _ J).2.2.2 rfl⟩
theorem Zg:(List.range 4).all (λb=>match zQ ((b+112:Nat):Int) with | some x=>Nat.ble x.size 4&&(cV x).all λy=>decide (wh y) | _=>false)=true:=by kernel_rfl
theorem Yp (b:Int) (aI:112<=b) (h1:b<=115):∃ r,zQ b=some r/\r.size<=4/\hP r:=by
 have h:=List.all_eq_true.1 Zg (b.toNat - 112) (by simp; omega);have e:((b.toNat - 112+112:Nat):Int)=b:=by omega
 rw [e] at h;cases h1:zQ b with
 | none=>rw [h1] at h; cases h
 | some x =>
  rw [h1] at h;simp only [Bool.and_eq_true,Nat.ble_eq] at h;exact ⟨x,rfl,h.1,λy ai=>of_decide_eq_true (List.all_eq_true.1 h.2 y ai)⟩
theorem Cn (g:bt) (aM:fp g) (aL:ph g) (aA:pg g) (s:Int) (h:oE g.aX.length (g.bF.length - 1) s):∃ r,qU g s=some r/\r.size<=4 * hb+4/\hP r:=by
 have c0:=aM.iC;have bc:=aM.ev;unfold qU;rcases h with ⟨aI,h1⟩ | ⟨aI,h1⟩
 ·have c1:decide (0<=s)=true:=decide_eq_true aI;have c2:decide (s<(g.aX.length:Int))=true:=decide_eq_true h1;obtain ⟨t,au,oX⟩:=lh aI h1;have BL:=aA.l6 t oX;have IN:=aL.l6 t oX;simp only [c1,c2,cond_true,au,Option.bind_some];cases ah:t.Lit with
  | true =>
   have av:=IN.2 ah;have ao:ih t.Name ((0:Nat):Int)=_:=G8 t.Name 0 (by omega);have hm:=BL.2 ah _ (List.getElem_mem (l:=cV t.Name) (n:=0) (by rw [lZ]; omega));obtain ⟨dr,f1,f2,f3⟩:=Yp (ih t.Name 0) (by rw [show (0:Int)=((0:Nat):Int) from rfl,ao]; omega) (by rw [show (0:Int)=((0:Nat):Int) from rfl,ao]; omega)
   have e0:hg t.Name 0=some (ih t.Name 0):=by unfold hg; rw [if_pos (by omega)]
   simp only [cond_true,e0,Option.bind_some,f1];exact ⟨_,rfl,by omega,f3⟩
  | false =>
   simp only [cond_false];exact ⟨_,rfl,by have:=IN.1; omega,BL.1⟩
 ·have c1:decide (0<=s)=true:=decide_eq_true (by omega);have c2:decide (s<(g.aX.length:Int))=false:=decide_eq_false (by omega);have kQ:decide (1000<=s)=true:=decide_eq_true aI;have hw:aS (s - 1000)=s - 1000:=by rw [cP]; omega
  have c4:decide (s - 1000<(g.bF.length:Int))=true:=decide_eq_true (by omega);obtain ⟨t,au,oX⟩:=lh (l:=g.bF) (i:=s - 1000) (by omega) (by omega);simp only [c1,c2,kQ,cond_true,cond_false,hw,c4,au,Option.bind_some];exact ⟨_,rfl,by have:=aL.ev t oX; omega,aA.ev t oX⟩
def ug (t:ByteArray):ByteArray:=⟨#[9]⟩++t
theorem tb (t:ByteArray):cV (ug t)=9::cV t:=by unfold ug; rw [mj]; rfl
theorem St (s t:ByteArray) (k:Nat):cV (s++gM t)=cV s++fZ [(k,ug t)]:=by
 rw [mj];unfold gM;rw [mj];rfl
theorem Yn (g:bt) (aM:fp g) (aL:ph g) (aA:pg g) (x:Item) (J:gu g x):Tot (xK g x) λu=>qp 4 (cV (ug u))/\10∉cV (ug u)/\u.size<=60000:=by
 suffices av:Tot (xK g x) λu=>(∃ a w,cV u=a++32::58::32::w/\(∀ b∈a,wh b)/\∀ b∈w,b≠10/\b≠103/\b≠108)/\u.size<=60000 by
  refine av.use λu ⟨⟨a,w,hw,aQ,ao⟩,dO⟩=>?_;have fv:∀ b∈cV (ug u),b≠10/\b≠103/\b≠108:=λb tC=>by
   rw [tb,hw] at tC;simp only [List.mem_cons,List.mem_append] at tC;rcases tC with rfl | tC | rfl | rfl | rfl | tC
   ·decide
   ·exact ⟨(aQ b tC).1,(aQ b tC).2.2.1,(aQ b tC).2.2.2⟩
   ·decide
   ·decide
   ·decide
   ·exact ao b tC
  refine ⟨⟨?_,λ_=>⟨λh=>(fv _ h).2.2 rfl,?_⟩,λh=>(fv _ h).2.1 rfl⟩,λh=>(fv _ h).1 rfl,dO⟩
  ·rw [tb]; simp
  ·rw [tb,hw];exact ⟨9::a,w,by simp [C']⟩
 have c0:=aM.iC;have bc:=aM.ev;obtain ⟨c,aa,h1⟩:=HC g x;unfold xK;rw [aa,h1.2 J];obtain ⟨q,ba,aI,af⟩:=J;have lf:=vg ba;have aw:=aM.gN q lf;have ad8:=aM.aN q lf;rw [ba];simp only [Option.bind_some,Bool.not_true,cond_false];have ah:=aw.left;have hw:aS (1000+q.Left)=1000+q.Left:=by rw [cP]; omega
 rw [hw];obtain ⟨l6,a1,z2,z3⟩:=Cn g aM aL aA (1000+q.Left) (.inr (by omega));simp only [hb] at z2;have kV:(⟨#[32,58]⟩:ByteArray).size=2:=rfl;have w7:(⟨#[32]⟩:ByteArray).size=1:=rfl;have Oh:(⟨#[32,46]⟩:ByteArray).size=2:=rfl;rw [a1];simp only [Option.bind_some];rw [j8 (by omega)];simp only [Option.bind_some]
 let W (k:Nat) (u:ByteArray):Prop:=∃ w,cV u=cV l6++32::58::w/\(∀ b∈w,b≠10/\b≠103/\b≠108)/\((k=0/\w=[])\/∃ w',w=32::w');have GK:∀ {k:Nat}{u v:ByteArray}(r:km),W k u->cV v=32::r->(∀ b∈r,b≠10/\b≠103/\b≠108)->W (k+1) (u++v):=λ{k u v} r ⟨w,h1,af,aF⟩ hv ak=>by
  refine ⟨w++32::r,?_,λb ao=>?_,.inr ?_⟩
  ·rw [mj,h1,hv]; simp
  ·rcases List.mem_append.1 ao with ao | ao
   ·exact af b ao
   ·rcases List.mem_cons.1 ao with rfl | ao
    ·decide
    ·exact ak b ao
  ·rcases aF with ⟨_,rfl⟩ | ⟨w',rfl⟩
   ·exact ⟨r,rfl⟩
   ·exact ⟨w'++32::r,rfl⟩
 have abh:∀ {k:Nat}{u:ByteArray},W k u->0<k->W (k+1) u:=λ{k u} ⟨w,h1,af,aF⟩ hk=>⟨w,h1,af,.inr (aF.resolve_left λh=>by omega)⟩;refine Tot.aC (Ξ:=λu=>W q.ez.length u/\u.size<=50000) ?_ λu hu=>?_
 ·refine Tot.upto (λs=>s.2) q.ez.length (λk s=>W k s.1/\s.1.size<=4006+k * 4010) rfl (by omega) ⟨⟨[],by rw [mj],λb ao=>(by cases ao),.inl ⟨rfl,rfl⟩⟩,by show (l6++_).size<=_; rw [ByteArray.size_append]; omega⟩ λk s hk he a'=>?_;obtain ⟨s,i⟩:=s;obtain ⟨nH,dO⟩:=a';simp only at he nH dO ⊢;subst he;rw [ek k (by omega)];refine Tot.bC (λaK=>?_) (λdx=>.al ⟨?_,?_⟩)
  ·have aK:=of_decide_eq_true aK;have aK:k<q.ez.length:=by omega
   rw [dT aK];obtain ⟨r,ox,qW,o6⟩:=Cn g aM aL aA q.ez[k] (aw.right _ (List.getElem_mem aK));simp only [hb] at qW;have key:∃ u,((bif decide ((k:Int)=x.cU) then ((er s (⟨#[32,46]⟩)).bind λe_=>some e_) else some s)=some u)/\u.size<=s.size+2/\∃ j,W j u:=by
    by_cases aP:(k:Int)=x.cU
    ·exact ⟨_,by rw [decide_eq_true aP,cond_true,j8 (by omega)]; rfl,by rw [ByteArray.size_append]; omega,_,GK [46] nH rfl (by decide)⟩
    ·exact ⟨_,by rw [decide_eq_false aP,cond_false],by omega,_,nH⟩
   obtain ⟨u,hu,iu,j,Vu⟩:=key;rw [hu];simp only [Option.bind_some,ox];rw [j8 (by omega)];have W4:((⟨#[32]⟩:ByteArray)++r).size=1+r.size:=by rw [ByteArray.size_append,w7]
   simp only [Option.bind_some];rw [j8 (by omega)];simp only [Option.bind_some];refine .al ⟨aK,rfl,?_,?_⟩
   ·obtain ⟨w,h1,af,aF⟩:=GK (v:=⟨#[32]⟩++r) (cV r) Vu (by rw [mj]; rfl) λb ao=>⟨(o6 b ao).1,(o6 b ao).2.2.1,(o6 b ao).2.2.2⟩;exact ⟨w,h1,af,.inr (aF.resolve_left λh=>by omega)⟩
   ·show (u++_).size<=_;rw [ByteArray.size_append,W4];omega
  ·have:=of_decide_eq_false dx;have e:k=q.ez.length:=by omega
   rw [<- e]; exact nH
  ·show s.size<=_;omega
 ·obtain ⟨nH,dO⟩:=hu;have fin:∀ u,(∃ k,W (k+1) u)->∃ a w,cV u=a++32::58::32::w/\(∀ b∈a,wh b)/\∀ b∈w,b≠10/\b≠103/\b≠108:=λu ⟨k,w,h1,af,aF⟩=>by
   obtain ⟨w',rfl⟩:=aF.resolve_left λh=>by omega
   exact ⟨cV l6,w',h1,z3,λb ao=>af b (List.mem_cons_of_mem _ ao)⟩
  by_cases aP:x.cU=(q.ez.length:Int)
  ·rw [decide_eq_true aP,cond_true,j8 (by omega)];exact .al ⟨fin _ ⟨_,GK [46] nH rfl (by decide)⟩,by rw [ByteArray.size_append]; omega⟩
  ·rw [decide_eq_false aP,cond_false];refine .al ⟨fin _ ⟨q.ez.length - 1,?_⟩,by omega⟩;have e:q.ez.length - 1+1=q.ez.length:=by omega
   rw [e]; exact nH
abbrev sY (k:Nat) (b1:List fq):Prop:=∀ x∈b1,x.1=k/\qp k (cV x.2)/\10∉cV x.2
theorem sY.add {k:Nat}{b1:List fq}(h:sY k b1) {t:ByteArray}(h1:qp k (cV t)) (af:10∉cV t):sY k (b1++[(k,t)]):=λx J=>by
 rcases List.mem_append.1 J with J | J
 ·exact h x J
 ·rw [List.mem_singleton.1 J]; exact ⟨rfl,h1,af⟩
structure Av (g:bt) (c:eW):Prop where
 t:0<=c.Tok/\c.Tok<g.aX.length
 d:-9223372036854775808<=c.Drop/\c.Drop<=9223372036854775807
abbrev lz (g:bt) (s:ByteArray) (z k j n:Nat) (a:eH):Prop:=∃ u b1,a=⟨g,u⟩/\cV u=cV s++fZ b1/\sY j b1/\b1.length=n/\u.size<=s.size+k * z
theorem lz.gM {g:bt}{s:ByteArray}{z k j n:Nat}{u:ByteArray}{b1:List fq}{t:ByteArray}(h1:cV u=cV s++fZ b1) (af:sY j b1) (aF:b1.length=n) (bk:u.size<=s.size+k * z) (mA:qp j (cV (ug t))) (fX:10∉cV (ug t)) (aT:t.size+2<=z):lz g s z (k+1) j (n+1) ⟨g,u++gM t⟩:=by
 refine ⟨_,b1++[(j,ug t)],rfl,?_,af.add mA fX,by simp [aF],?_⟩
 ·rw [St u t j,h1,uF,List.append_assoc]
 ·rw [ByteArray.size_append,O7,Nat.add_mul]; omega
theorem lz.no {g:bt}{s:ByteArray}{z k j n:Nat}{a:eH}(h:lz g s z k j n a):lz g s z (k+1) j n a:=by
 obtain ⟨u,b1,h1,af,aF,bk,b2⟩:=h;exact ⟨u,b1,h1,af,aF,bk,by rw [Nat.add_mul]; omega⟩
theorem aaI (g:bt) (aM:fp g) (aL:ph g) (aA:pg g) (r:List Item) (ak:∀ x∈r,gu g x) (zh:r.length<=540) (s:ByteArray) (av:s.size<=1000000000000) :
  Tot (cc (R:=eH) (λ(c5:eH × Int) =>
  (bif decide (c5.2<(r.length:Int)) then
  (idx r c5.2).bind λbY =>
  (xK c5.1.az bY).bind λdF =>
  (p6 c5.1 dF).bind λc7 =>
  some (.inl (c7,aS (c5.2+1)))
  else
  some (.inr c5.1))) ((⟨g,s⟩:eH),0)) λa=>lz g s 60002 r.length 4 r.length a:=by
 refine Tot.upto (λs=>s.2) r.length (λk a=>lz g s 60002 k 4 k a.1) rfl (by omega) ⟨s,[],rfl,by simp [fZ],λx J=>(by cases J),rfl,by omega⟩ λk a hk he a'=>?_;obtain ⟨a,i⟩:=a;obtain ⟨u,b1,h1,af,aF,bk,b2⟩:=a';simp only at he h1 af aF bk b2 ⊢;subst he h1;refine Tot.bC (λaK=>?_) (λdx=>.al ?_)
 ·have aK:=of_decide_eq_true aK;have aK:k<r.length:=by omega
  have y_:k * 60002<=540 * 60002:=Nat.mul_le_mul_right _ (by omega);rw [dT aK];obtain ⟨t,bP,mA,fX,zo⟩:=Yn g aM aL aA r[k] (ak _ (List.getElem_mem aK));simp only [Option.bind_some,bP];rw [Ec g u t (by omega)];exact .al ⟨aK,ek k (by omega),lz.gM af aF bk b2 mA fX (by omega)⟩
 ·have:=of_decide_eq_false dx;have e:k=r.length:=by omega
  rw [<- e];exact ⟨u,b1,rfl,af,aF,bk,b2⟩
theorem AY {α:Type}{l:List α}{k:Nat}(h:k<l.length) (p:α->Bool):(l.take (k+1)).countP p=(l.take k).countP p+if p l[k] then 1 else 0:=by
 rw [nU h,List.countP_append];simp [List.countP_cons]
theorem aaF (g:bt) (aM:fp g) (aL:ph g) (aA:pg g) (q:Int) (l:List eW) (ak:∀ x∈l,Av g x) (ad1:l.length<=360000) (s:ByteArray) (av:s.size<=1000000000000) :
  Tot (cc (R:=eH) (λ(eC:eH × Int) =>
  (bif decide (eC.2<(l.length:Int)) then
  ((idx l eC.2).bind λeg =>
  ((bif decide (eg.State=q) then
  (qU eC.1.az eg.Tok).bind λgp =>
  (er (⟨#[99,111,110,102,108,105,99,116,32]⟩) gp).bind λgw =>
  (er gw (⟨#[58,32]⟩)).bind λeT =>
  (nf eg.Drop).bind λhf =>
  (er eT hf).bind λgx =>
  (er gx (⟨#[32,108,101,102,116,32,111,117,116]⟩)).bind λl' =>
  (p6 eC.1 l').bind λiD =>
  some iD
  else
  some eC.1)).bind λeM =>
  some eM).bind λl5 =>
  some (.inl (l5,aS (eC.2+1)))
  else
  some (.inr eC.1))) ((⟨g,s⟩:eH),0)) λa=>lz g s 5000 l.length 1 (l.countP λx=>decide (x.State=q)) a:=by
 refine Tot.upto (λs=>s.2) l.length (λk a=>lz g s 5000 k 1 ((l.take k).countP λx=>decide (x.State=q)) a.1) rfl (by omega) ⟨s,[],rfl,by simp [fZ],λx J=>(by cases J),rfl,by omega⟩ λk a hk he a'=>?_;obtain ⟨a,i⟩:=a;obtain ⟨u,b1,h1,af,aF,bk,b2⟩:=a';simp only at he h1 af aF bk b2 ⊢;subst he h1;refine Tot.bC (λaK=>?_) (λdx=>.al ?_)
 ·have aK:=of_decide_eq_true aK;have aK:k<l.length:=by omega
  rw [AY aK];rw [dT aK];have J:=ak l[k] (List.getElem_mem aK);obtain ⟨l6,bP,eP,kt⟩:=Cn g aM aL aA l[k].Tok (.inl J.t);have d1:=A2 l[k].Drop J.d;have d3:(nD l[k].Drop).size<=21:=by rw [rf]; exact xo _ J.d
  have d4:=hP.dg J.d;simp only [hb] at eP;have y_:k * 5000<=360000 * 5000:=Nat.mul_le_mul_right _ (by omega);simp only [Option.bind_some,bP,d1];generalize nD l[k].Drop=D at *;by_cases ba:l[k].State=q
  ·rw [decide_eq_true ba];simp only [cond_true,if_true];have bV:(⟨#[99,111,110,102,108,105,99,116,32]⟩:ByteArray).size=9:=rfl;have y2:(⟨#[58,32]⟩:ByteArray).size=2:=rfl;have ed:(⟨#[32,108,101,102,116,32,111,117,116]⟩:ByteArray).size=9:=rfl;rw [j8 (by omega)];simp only [Option.bind_some];rw [j8 (by rw [ByteArray.size_append]; omega)];simp only [Option.bind_some];rw [j8 (by rw [ByteArray.size_append,ByteArray.size_append]; omega)];simp only [Option.bind_some];rw [j8 (by rw [ByteArray.size_append,ByteArray.size_append,ByteArray.size_append]; omega)];simp only [Option.bind_some];rw [Ec g u _ (by rw [ByteArray.size_append,ByteArray.size_append,ByteArray.size_append,ByteArray.size_append]; omega)];simp only [Option.bind_some];refine .al ⟨aK,ek k (by omega),lz.gM af aF bk b2 ?_ ?_ ?_⟩
   ·rw [tb];simp only [mj];exact ⟨cV l6++[58,32]++cV D++[32,108,101,102,116,32,111,117,116],by simp,by simp [Ad]; rfl⟩
   ·rw [tb];simp only [mj];have h3:=kt.no.1;have lL:=d4.no.1;intro h;simp [h3,lL] at h
   ·simp only [ByteArray.size_append];omega
  ·rw [decide_eq_false ba];simp only [cond_false,Option.bind_some];exact .al ⟨aK,ek k (by omega),lz.no ⟨u,b1,rfl,af,aF,by simpa using bk,b2⟩⟩
 ·have:=of_decide_eq_false dx;have e:l.take k=l:=List.take_of_length_le (by omega);rw [e] at bk;have e:k=l.length:=by omega
  rw [<- e];exact ⟨u,b1,rfl,af,aF,bk,b2⟩
theorem RE {g:bt}{n:Nat}{a:Act}(h:q8 g n a) (aA:n<=150) (aw:g.a8.length<=100):(a.Kind=0->xL a=some ⟨#[]⟩)/\(a.Kind≠0->∃ v,xL a=some v/\v.size<=31/\hP v/\0<v.size):=by
 have hk:=h.k;have bc:i64 a.N:=by
  by_cases k0:a.Kind=0
  ·have:=h.gv k0; exact ⟨by omega,by omega⟩
  ·by_cases mA:a.Kind=1
   ·have:=h.h3 mA; exact ⟨by omega,by omega⟩
   ·by_cases fX:a.Kind=2
    ·have:=h.lL fX; have aF:=this.1; have bk:=this.2; exact ⟨by omega,by omega⟩
    ·by_cases zo:a.Kind=3
     ·have:=h.Yl zo; exact ⟨by omega,by omega⟩
     ·have:=h.Yo (by omega); exact ⟨by omega,by omega⟩
 have ac9:(nD a.N).size<=21:=by rw [rf]; exact xo _ bc
 unfold xL;refine ⟨λk=>by rw [k]; rfl,λk=>?_⟩;have:a.Kind=1\/a.Kind=2\/a.Kind=3\/a.Kind=4:=by omega
 rcases this with k | k | k | k
 ·rw [k,A2 _ bc];refine ⟨_,?_,?_,hP.app (a:=⟨#[32,115,104,105,102,116,32]⟩) (by decide) (hP.dg bc),?_⟩
  ·show (er _ _).bind _=_;rw [j8 (by show 7+_<=_; omega)]; rfl
  ·rw [ByteArray.size_append]; show 7+_<=_; omega
  ·rw [ByteArray.size_append]; show 0<7+_; omega
 ·rw [k,A2 _ bc];refine ⟨_,?_,?_,hP.app (a:=⟨#[32,114,101,100,117,99,101,32]⟩) (by decide) (hP.dg bc),?_⟩
  ·show (er _ _).bind _=_;rw [j8 (by show 8+_<=_; omega)]; rfl
  ·rw [ByteArray.size_append]; show 8+_<=_; omega
  ·rw [ByteArray.size_append]; show 0<8+_; omega
 ·rw [k]; exact ⟨_,rfl,by decide,by decide,by decide⟩
 ·rw [k]; exact ⟨_,rfl,by decide,by decide,by decide⟩
theorem aaE (g:bt) (aM:fp g) (aL:ph g) (aA:pg g) (n:Nat) (n':n<=150) (r:List Act) (ah:r.length=g.aX.length) (ak:∀ x∈r,q8 g n x) (s:ByteArray) (av:s.size<=1000000000000) :
  Tot (cc (R:=eH) (λ(kg:eH × Int) =>
  (bif decide (kg.2<(r.length:Int)) then
  ((idx r kg.2).bind λhD =>
  (xL hD).bind λiE =>
  ((bif !decide (iE=⟨#[]⟩) then
  (qU kg.1.az kg.2).bind λcS =>
  (er cS iE).bind λhE =>
  (p6 kg.1 hE).bind λmH =>
  some mH
  else
  some kg.1)).bind λkd =>
  some kd).bind λB_ =>
  some (.inl (B_,aS (kg.2+1)))
  else
  some (.inr kg.1))) ((⟨g,s⟩:eH),0)) λa=>lz g s 5000 r.length 3 (r.countP λx=>decide (x.Kind≠0)) a:=by
 have c0:=aM.iC;have cX:=aM.k2;refine Tot.upto (λs=>s.2) r.length (λk a=>lz g s 5000 k 3 ((r.take k).countP λx=>decide (x.Kind≠0)) a.1) rfl (by omega) ⟨s,[],rfl,by simp [fZ],λx J=>(by cases J),rfl,by omega⟩ λk a hk he a'=>?_;obtain ⟨a,i⟩:=a;obtain ⟨u,b1,h1,af,aF,bk,b2⟩:=a';simp only at he h1 af aF bk b2 ⊢;subst he h1;refine Tot.bC (λaK=>?_) (λdx=>.al ?_)
 ·have aK:=of_decide_eq_true aK;have aK:k<r.length:=by omega
  rw [AY aK];rw [dT aK];have J:=ak r[k] (List.getElem_mem aK);obtain ⟨a0,ax⟩:=RE J n' (by omega);obtain ⟨l6,bP,eP,kt⟩:=Cn g aM aL aA (k:Int) (.inl ⟨by omega,by omega⟩);simp only [hb] at eP;have y_:k * 5000<=40 * 5000:=Nat.mul_le_mul_right _ (by omega);simp only [Option.bind_some,bP];by_cases ba:r[k].Kind=0
  ·rw [a0 ba];simp only [Option.bind_some,decide_true,Bool.not_true,cond_false];exact .al ⟨aK,ek k (by omega),lz.no ⟨u,b1,rfl,af,aF,by simpa [ba] using bk,b2⟩⟩
  ·obtain ⟨v,v2,v3,v4,v5⟩:=ax ba;have w:(!decide (v=⟨#[]⟩))=true:=by
    rw [decide_eq_false]; rfl;intro e;rw [e] at v5;exact absurd v5 (by decide)
   rw [v2];simp only [Option.bind_some];rw [w];simp only [cond_true];rw [j8 (by omega)];simp only [Option.bind_some];rw [Ec g u _ (by rw [ByteArray.size_append]; omega)];simp only [Option.bind_some];have br:(if decide (r[k].Kind≠0)=true then 1 else 0)=1:=by rw [if_pos (decide_eq_true ba)]
   rw [br];have BL:hP (l6++v):=kt.app v4;refine .al ⟨aK,ek k (by omega),lz.gM af aF bk b2 ?_ ?_ ?_⟩
   ·rw [tb];have eR:=BL.no;exact ⟨⟨_,rfl⟩,λh=>eR.2.2.2 ((List.mem_cons.1 h).resolve_left (by decide)),λh=>eR.2.2.1 ((List.mem_cons.1 h).resolve_left (by decide)),λh=>eR.2.1 ((List.mem_cons.1 h).resolve_left (by decide))⟩
   ·rw [tb];exact λh=>BL.no.1 ((List.mem_cons.1 h).resolve_left (by decide))
   ·rw [ByteArray.size_append];omega
 ·have:=of_decide_eq_false dx;have e:r.take k=r:=List.take_of_length_le (by omega);rw [e] at bk;have e:k=r.length:=by omega
  rw [<- e];exact ⟨u,b1,rfl,af,aF,bk,b2⟩
theorem aaH (g:bt) (aM:fp g) (aL:ph g) (aA:pg g) (n:Nat) (n':n<=150) (r:List Int) (ah:r.length=g.bF.length) (ak:∀ v∈r,-1<=v/\v<n) (s:ByteArray) (av:s.size<=1000000000000) :
  Tot (cc (R:=eH) (λ(kh:eH × Int) =>
  (bif decide (kh.2<(r.length:Int)) then
  ((idx r kh.2).bind λsW =>
  ((bif decide (0<=sW) then
  (qU kh.1.az (aS (1000+kh.2))).bind λum =>
  (er um (⟨#[32,103,111,116,111,32]⟩)).bind λr2 =>
  (nf sW).bind λmb =>
  (er r2 mb).bind λsX =>
  (p6 kh.1 sX).bind λq6 =>
  some q6
  else
  some kh.1)).bind λCb =>
  some Cb).bind λB' =>
  some (.inl (B',aS (kh.2+1)))
  else
  some (.inr kh.1))) ((⟨g,s⟩:eH),0)) λa=>lz g s 5000 r.length 2 (r.countP λv=>decide (0<=v)) a:=by
 have c0:=aM.iC;have bc:=aM.ev;refine Tot.upto (λs=>s.2) r.length (λk a=>lz g s 5000 k 2 ((r.take k).countP λv=>decide (0<=v)) a.1) rfl (by omega) ⟨s,[],rfl,by simp [fZ],λx J=>(by cases J),rfl,by omega⟩ λk a hk he a'=>?_;obtain ⟨a,i⟩:=a;obtain ⟨u,b1,h1,af,aF,bk,b2⟩:=a';simp only at he h1 af aF bk b2 ⊢;subst he h1;refine Tot.bC (λaK=>?_) (λdx=>.al ?_)
 ·have aK:=of_decide_eq_true aK;have aK:k<r.length:=by omega
  rw [AY aK];rw [dT aK];have J:=ak r[k] (List.getElem_mem aK);have hi:i64 r[k]:=⟨by omega,by omega⟩;have d1:=A2 r[k] hi;have d3:(nD r[k]).size<=21:=by rw [rf]; exact xo _ hi
  have d4:=hP.dg hi;have hw:aS (1000+(k:Int))=1000+(k:Int):=by rw [cP]; omega
  obtain ⟨l6,bP,eP,kt⟩:=Cn g aM aL aA (1000+(k:Int)) (.inr ⟨by omega,by omega⟩);simp only [hb] at eP;have y_:k * 5000<=24 * 5000:=Nat.mul_le_mul_right _ (by omega);simp only [Option.bind_some,hw,bP,d1];generalize nD r[k]=D at *;by_cases ba:0<=r[k]
  ·have y0:(⟨#[32,103,111,116,111,32]⟩:ByteArray).size=6:=rfl;rw [decide_eq_true ba];simp only [cond_true,if_true];rw [j8 (by omega)];simp only [Option.bind_some];rw [j8 (by rw [ByteArray.size_append]; omega)];simp only [Option.bind_some];rw [Ec g u _ (by rw [ByteArray.size_append,ByteArray.size_append]; omega)];simp only [Option.bind_some];refine .al ⟨aK,ek k (by omega),lz.gM af aF bk b2 ?_ ?_ ?_⟩
   ·rw [tb];simp only [mj];refine ⟨⟨_,rfl⟩,?_,9::cV l6,cV D,by simp [xY]; rfl⟩;have h3:=kt.no.2.2.2;have lL:=d4.no.2.2.2;intro h;simp [h3,lL] at h
   ·rw [tb];simp only [mj];have h3:=kt.no.1;have lL:=d4.no.1;intro h;simp [h3,lL] at h
   ·simp only [ByteArray.size_append];omega
  ·rw [decide_eq_false ba];simp only [cond_false,Option.bind_some];exact .al ⟨aK,ek k (by omega),lz.no ⟨u,b1,rfl,af,aF,by simpa using bk,b2⟩⟩
 ·have:=of_decide_eq_false dx;have e:r.take k=r:=List.take_of_length_le (by omega);rw [e] at bk;have e:k=r.length:=by omega
  rw [<- e];exact ⟨u,b1,rfl,af,aF,bk,b2⟩
theorem td (l:List eW) (ah:l.length<=1000000):Tot (xG l) λr=>i64 r.1/\i64 r.2:=by
 unfold xG;refine Tot.aC (Ξ:=λr=>0<=r/\r<=1000000) ?_ λr ak=>.al ⟨⟨by show _<=r; omega,by show r<=_; omega⟩,?_⟩
 ·refine Tot.upto (λs=>s.2) l.length (λk s=>0<=s.1/\s.1<=k) rfl (by omega) ⟨Int.le_refl _,by show (0:Int)<=_; omega⟩ λk s hk he a'=>?_;obtain ⟨a,i⟩:=s;simp only at he a' ⊢;subst he;refine Tot.bC (λaK=>?_) (λdx=>.al ⟨a'.1,by omega⟩);have aK:=of_decide_eq_true aK;have aK:k<l.length:=by omega
  rw [dT aK];simp only [Option.bind_some];have w:aS (a+1)=a+1:=by rw [cP]; omega
  by_cases ba:l[k].hn=-1
  ·rw [decide_eq_true ba];simp only [cond_true,Option.bind_some];exact .al ⟨aK,ek k (by omega),by show 0<=aS _; rw [w]; omega,by show aS _<=_; rw [w]; omega⟩
  ·rw [decide_eq_false ba];simp only [cond_false,Option.bind_some];exact .al ⟨aK,ek k (by omega),a'.1,by show a<=_; omega⟩
 ·show i64 (aS _);rw [cP]
  constructor <;> omega
abbrev q_ (b1:List fq):Prop:=∀ x∈b1,qp x.1 (cV x.2)/\10∉cV x.2
theorem sY.ok {k:Nat}{b1:List fq}(h:sY k b1):q_ b1:=λx J=>by
 obtain ⟨rfl,h1⟩:=h x J;exact h1
theorem sY.eb {k:Nat}{b1:List fq}(h:sY k b1) (j:Nat):eb j b1=if k=j then b1.length else 0:=by
 unfold Go.Proofs.eb;split
 ·rename_i e;refine List.countP_eq_length.2 λx J=>?_;rw [(h x J).1,e]; simp
 ·rename_i e;refine List.countP_eq_zero.2 λx J=>?_;rw [(h x J).1]; simpa using e
theorem q_.app {a b:List fq}(aQ:q_ a) (ao:q_ b):q_ (a++b):=λx J=>by
 rcases List.mem_append.1 J with h | h
 ·exact aQ x h
 ·exact ao x h
def j1 (k:Nat):ByteArray:=⟨#[115,116,97,116,101,32]⟩++nD (k:Int)
theorem Z4 (k:Nat) (hk:k<=1000):qp 0 (cV (j1 k))/\10∉cV (j1 k):=by
 have hi:i64 (k:Int):=⟨by omega,by omega⟩;unfold j1;rw [mj,G6];refine ⟨⟨kW k,OP hi,rfl⟩,λh=>?_⟩;rcases List.mem_append.1 h with h | h
 ·exact absurd h (by decide)
 ·rcases JP hi _ h with h | h
  ·exact absurd h (by decide)
  ·exact absurd h (by decide)
theorem aaK (g:bt) (aM:fp g) (aL:ph g) (aA:pg g) (m:List State) (hm:jJ g m) (d:kG) (aP:DF g m.length d) (l:List eW) (aa:∀ x∈l,Av g x) (ah:l.length<=360000) (k:Nat) (aK:k<m.length) (t:ByteArray) (au:t.size<=300000000000) :
  Tot (xI ⟨g,t⟩ (k:Int) m[k] d l) λa=>∃ u b1,a=⟨g,u⟩/\cV u=cV t++fZ ((0,j1 k)::b1)/\(∀ x∈b1,x.1≠0)/\q_ b1/\eb 1 b1=(l.countP λx=>decide (x.State=(k:Int)))/\eb 2 b1=((d.eQ[k]'(by rw [aP.o]; exact aK)).countP λv=>decide (0<=v))/\eb 3 b1=((d.fl[k]'(by rw [aP.a]; exact aK)).countP λx=>decide (x.Kind≠0))/\u.size<=t.size+1840000000:=by
 have BH:=hm.h3;have c0:=aM.iC;have bc:=aM.ev;have bQ:=hm.o1 m[k] (List.getElem_mem aK);have dh:idx d.fl (k:Int)=some (d.fl[k]'(by rw [aP.a]; exact aK)):=dT (by rw [aP.a]; exact aK);have hO:idx d.eQ (k:Int)=some (d.eQ[k]'(by rw [aP.o]; exact aK)):=dT (by rw [aP.o]; exact aK);obtain ⟨ax,a2⟩:=aP.oH _ (List.getElem_mem (by rw [aP.a]; exact aK):d.fl[k]'(by rw [aP.a]; exact aK)∈d.fl);obtain ⟨FA,Kp⟩:=aP.YN _ (List.getElem_mem (by rw [aP.o]; exact aK):d.eQ[k]'(by rw [aP.o]; exact aK)∈d.eQ);generalize d.fl[k]'(by rw [aP.a]; exact aK)=Rv at *;generalize d.eQ[k]'(by rw [aP.o]; exact aK)=Rw at *;have y8:i64 (k:Int):=⟨by omega,by omega⟩;have aY:=A2 (k:Int) y8;have a6:(nD (k:Int)).size<=21:=by rw [rf]; exact xo _ y8
 have di:m[k].Kernel.length<=1000000:=by have:=bQ.len aM; omega
 obtain ⟨r,ox,iW,qW,o6⟩:=ZD g aM m[k].Kernel di;have bV:(⟨#[115,116,97,116,101,32]⟩:ByteArray).size=6:=rfl;have y2:(⟨#[10]⟩:ByteArray).size=1:=rfl;unfold xI;simp only [Option.bind_some,aY,ox];rw [j8 (by omega)];simp only [Option.bind_some];rw [j8 (by rw [ByteArray.size_append]; omega)];simp only [Option.bind_some];rw [AP (by rw [ByteArray.size_append,ByteArray.size_append]; omega)];simp only [Option.bind_some];have dO:(t++((⟨#[115,116,97,116,101,32]⟩:ByteArray)++nD (k:Int)++⟨#[10]⟩)).size<=t.size+28:=by
  rw [ByteArray.size_append,ByteArray.size_append,ByteArray.size_append]; omega
 have wM:cV (t++((⟨#[115,116,97,116,101,32]⟩:ByteArray)++nD (k:Int)++⟨#[10]⟩))=cV t++fZ [(0,j1 k)]:=by
  rw [mj,mj]; rfl
 generalize (t++((⟨#[115,116,97,116,101,32]⟩:ByteArray)++nD (k:Int)++⟨#[10]⟩))=t1 at *;refine Tot.aC (aaI g aM aL aA r o6 qW t1 (by omega)) λ_ ⟨K6,I,bP,f1,fF,h3,s1⟩=>?_;subst bP;have gO:r.length * 60002<=540 * 60002:=Nat.mul_le_mul_right _ qW;refine Tot.aC (aaF g aM aL aA (k:Int) l aa ah K6 (by omega)) λ_ ⟨vM,C,cu,f2,fQ,lL,s2⟩=>?_;subst cu;have iz:l.length * 5000<=360000 * 5000:=Nat.mul_le_mul_right _ ah;refine Tot.aC (Ξ:=λr=>r=Rv) ⟨_,dh,rfl⟩ λ_ aU=>?_;subst aU;refine Tot.aC (aaE g aM aL aA m.length (by omega) _ ax a2 vM (by omega)) λ_ ⟨Ak,A,eP,f3,je,Pc,ee⟩=>?_;subst eP;rw [ax] at ee;have lk:g.aX.length * 5000<=40 * 5000:=Nat.mul_le_mul_right _ (by omega);refine Tot.aC (Ξ:=λr=>r=Rw) ⟨_,hO,rfl⟩ λ_ aU=>?_;subst aU;refine Tot.aC (aaH g aM aL aA m.length (by omega) _ FA Kp Ak (by omega)) λ_ ⟨Dr,G,kt,f4,sb,Ym,dd⟩=>?_;subst kt;rw [FA] at dd;have aer:g.bF.length * 5000<=24 * 5000:=Nat.mul_le_mul_right _ (by omega);refine .al ⟨Dr,I++C++A++G,rfl,?_,λx J=>?_,((fF.ok.app fQ.ok).app je.ok).app sb.ok,?_,?_,?_,by omega⟩
 ·rw [f4,f3,f2,f1,wM];rw [show ((0,j1 k)::(I++C++A++G))=[(0,j1 k)]++I++C++A++G by simp];simp only [uF,List.append_assoc]
 ·simp only [List.mem_append] at J;rcases J with ((J | J) | J) | J
  ·rw [(fF x J).1]; decide
  ·rw [(fQ x J).1]; decide
  ·rw [(je x J).1]; decide
  ·rw [(sb x J).1]; decide
 ·simp only [uH,fF.eb,fQ.eb,je.eb,sb.eb,<- lL]; simp
 ·simp only [uH,fF.eb,fQ.eb,je.eb,sb.eb,<- Ym]; simp
 ·simp only [uH,fF.eb,fQ.eb,je.eb,sb.eb,<- Pc]; simp
theorem K2 {α:Type}{l:List α}{k:Nat}(h:k<l.length) (f:α->Nat):((l.take (k+1)).map f).sum=((l.take k).map f).sum+f l[k]:=by
 rw [nU h,List.map_append,List.sum_append]; simp
theorem aaL (g:bt) (aM:fp g) (aL:ph g) (aA:pg g) (m:List State) (hm:jJ g m) (d:kG) (aP:DF g m.length d) (l:List eW) (aa:∀ x∈l,Av g x) (ah:l.length<=360000) :
  Tot (cc (R:=eH) (λ(s1:eH × Int) =>
  (bif decide (s1.2<(m.length:Int)) then
  (idx m s1.2).bind λcv =>
  (xI s1.1 s1.2 cv d l).bind λbZ =>
  some (.inl (bZ,aS (s1.2+1)))
  else
  some (.inr s1.1))) ((⟨g,⟨#[]⟩⟩:eH),0))
  λa=>∃ u b1,a=⟨g,u⟩/\cV u=fZ b1/\q_ b1/\mg j1 0 b1/\eb 0 b1=m.length/\eb 1 b1=((List.range m.length).map λq:Nat=>l.countP λx=>decide (x.State=(q:Int))).sum/\eb 2 b1=(d.eQ.map λr=>r.countP λv=>decide (0<=v)).sum/\eb 3 b1=(d.fl.map λr=>r.countP λx=>decide (x.Kind≠0)).sum/\u.size<=150 * 1840000000:=by
 have BH:=hm.h3;have dh:=aP.a;have hO:=aP.o;refine Tot.upto (λs=>s.2) m.length (λk a=>∃ u b1,a.1=⟨g,u⟩/\cV u=fZ b1/\q_ b1/\mg j1 0 b1/\eb 0 b1=k/\eb 1 b1=((List.range k).map λq:Nat=>l.countP λx=>decide (x.State=(q:Int))).sum/\eb 2 b1=((d.eQ.take k).map λr=>r.countP λv=>decide (0<=v)).sum/\eb 3 b1=((d.fl.take k).map λr=>r.countP λx=>decide (x.Kind≠0)).sum/\u.size<=k * 1840000000) rfl (by omega) ⟨_,[],rfl,rfl,λx J=>(by cases J),trivial,rfl,rfl,rfl,rfl,Nat.zero_le _⟩ λk a hk he a'=>?_;obtain ⟨a,i⟩:=a;obtain ⟨u,b1,h1,af,aF,bk,oI,c1,c2,kQ,aT⟩:=a';simp only at he h1 ⊢;subst he h1;have y_:k * 1840000000<=150 * 1840000000:=Nat.mul_le_mul_right _ (by omega);refine Tot.bC (λaK=>?_) (λdx=>.al ?_)
 ·have aK:=of_decide_eq_true aK;have aK:k<m.length:=by omega
  rw [dT aK];refine Tot.sm (Tot.aC (aaK g aM aL aA m hm d aP l aa ah k aK u (by omega)) λ_ ⟨v,S,bP,cu,eP,kt,pC,TO,Ed,adb⟩=>?_);subst bP;obtain ⟨st1,st2⟩:=Z4 k (by omega);have YJ:q_ ((0,j1 k)::S):=λx J=>by
   rcases List.mem_cons.1 J with rfl | J
   ·exact ⟨st1,st2⟩
   ·exact kt x J
  have Hn:∀ j,eb (j+1) ((0,j1 k)::S)=eb (j+1) S:=λj=>by simp [eb]
  have SN:eb 0 ((0,j1 k)::S)=1:=by
   have:eb 0 S=0:=List.countP_eq_zero.2 λx J=>by simpa using eP x J
   show List.countP _ (_::_)=1;rw [List.countP_cons];have h:List.countP (λx:fq=>x.1 == 0) S=0:=this;rw [h]; simp
  refine .al ⟨aK,ek k (by omega),v,b1++(0,j1 k)::S,rfl,?_,aF.app YJ,bk.app ?_,?_,?_,?_,?_,?_⟩
  ·rw [cu,af,uF]
  ·rw [oI,Nat.zero_add];refine ⟨rfl,?_⟩;have:=mg.no (st:=j1) (j:=k+1) (b:=[]) eP trivial
   rwa [List.append_nil] at this
  ·rw [uH,oI,SN]
  ·rw [uH,c1,Hn,pC,List.range_succ,List.map_append,List.sum_append]; simp
  ·rw [uH,c2,Hn,TO,K2 (by omega)]
  ·rw [uH,kQ,Hn,Ed,K2 (by omega)]
  ·rw [Nat.add_mul]; omega
 ·have:=of_decide_eq_false dx;have e:k=m.length:=by omega
  rw [List.take_of_length_le (by omega)] at c2 kQ;rw [e] at oI c1;exact ⟨u,b1,rfl,af,aF,bk,oI,c1,c2,kQ,Nat.le_trans aT y_⟩
def nx (u:ByteArray):Prop:=∀ b∈cV u,b≠10/\b≠103
instance (u:ByteArray):Decidable (nx u):=by unfold nx; exact inferInstance
theorem nx.app {a b:ByteArray}(aQ:nx a) (ao:nx b):nx (a++b):=λx J=>by
 rw [mj] at J;rcases List.mem_append.1 J with h | h
 ·exact aQ x h
 ·exact ao x h
theorem nx.dg {n:Int}(h:i64 n):nx (nD n):=λb ao=>⟨(hP.dg h b ao).1,(hP.dg h b ao).2.2.1⟩
def vP (g:bt) (m:List State) (p q:Int):List _anon101:=[(⟨(g.aX.length:Int),⟨#[32,116,111,107,101,110,115]⟩⟩:_anon101),(⟨(g.bF.length:Int),⟨#[32,110,111,110,116,101,114,109,105,110,97,108,115]⟩⟩:_anon101),(⟨(g.a8.length:Int),⟨#[32,112,114,111,100,117,99,116,105,111,110,115]⟩⟩:_anon101),(⟨(m.length:Int),⟨#[32,115,116,97,116,101,115]⟩⟩:_anon101),(⟨p,⟨#[32,115,104,105,102,116,47,114,101,100,117,99,101]⟩⟩:_anon101),(⟨q,⟨#[32,114,101,100,117,99,101,47,114,101,100,117,99,101]⟩⟩:_anon101)]
def lK (g:bt) (m:List State) (p q:Int):ByteArray:=match (vP g m p q).map wd with
 | []=>⟨#[]⟩
 | x::l=>dw ⟨#[44,32]⟩ x l
theorem Yb (g:bt) (aM:fp g) (m:List State) (hm:jJ g m) {p q:Int}(h1:i64 p) (af:i64 q):qp 4 (cV (lK g m p q))/\10∉cV (lK g m p q):=by
 have c0:=aM.iC;have bc:=aM.ev;have cX:=aM.k2;have tr:=hm.h3;have i0:i64 (g.aX.length:Int):=⟨by omega,by omega⟩;have i1:i64 (g.bF.length:Int):=⟨by omega,by omega⟩;have i2:i64 (g.a8.length:Int):=⟨by omega,by omega⟩;have i3:i64 (m.length:Int):=⟨by omega,by omega⟩;have lG:nx (lK g m p q):=by
  unfold lK vP;simp only [List.map_cons,List.map_nil,dw,wd];have y:nx ⟨#[44,32]⟩:=by decide
  exact ((((((((((nx.dg i0).app (by decide)).app y).app ((nx.dg i1).app (by decide))).app y).app ((nx.dg i2).app (by decide))).app y).app ((nx.dg i3).app (by decide))).app y).app ((nx.dg h1).app (by decide))).app y |>.app ((nx.dg af).app (by decide))
 have br:∃ b,(cV (lK g m p q)).head?=some b/\(b=45\/(48<=b.toNat/\b.toNat<=57)):=by
  have cN:=OP i0;cases e:kW (g.aX.length:Int) with
  | nil=>exact absurd e cN
  | cons b r =>
   refine ⟨b,?_,JP i0 b (by rw [e]; exact List.mem_cons_self ..)⟩;unfold lK vP;simp only [List.map_cons,List.map_nil,dw,wd,mj,G6];rw [e];simp only [List.cons_append,List.head?_cons]
 obtain ⟨b,ao,hY⟩:=br;refine ⟨⟨?_,?_,λh=>(lG _ h).2 rfl⟩,λh=>(lG _ h).1 rfl⟩
 ·rw [ao];intro h;simp only [Option.some.injEq] at h;subst h;rcases hY with h | h
  ·exact absurd h (by decide)
  ·exact absurd h (by decide)
 ·rw [ao];intro h;simp only [Option.some.injEq] at h;subst h;rcases hY with h | h
  ·exact absurd h (by decide)
  ·exact absurd h (by decide)
theorem aaM (g:bt) (aM:fp g) (aL:ph g) (aA:pg g) (m:List State) (hm:jJ g m) (d:kG) (aP:DF g m.length d) (l:List eW) (aa:∀ x∈l,Av g x/\0<=x.State/\x.State<m.length) (ah:l.length<=360000) :
  Tot (xR g m d l) λu=>∃ b1 p q,xG l=some (p,q)/\i64 p/\i64 q/\cV u=fZ (b1++[(4,lK g m p q)])/\q_ (b1++[(4,lK g m p q)])/\mg j1 0 b1/\eb 0 b1=m.length/\eb 1 b1=l.length/\eb 2 b1=(d.eQ.map λr=>r.countP λv=>decide (0<=v)).sum/\eb 3 b1=(d.fl.map λr=>r.countP λx=>decide (x.Kind≠0)).sum/\u.size<=1000000000000:=by
 unfold xR;refine Tot.aC (aaL g aM aL aA m hm d aP l (λx J=>(aa x J).1) ah) λ_ ⟨u,b1,e0,bP,cu,eP,k0,mA,fX,zo,aT⟩=>?_;subst e0;rw [G9 (λx:eW=>x.State) m.length l λx J=>(aa x J).2] at mA;obtain ⟨⟨p,q⟩,f1,h1,af⟩:=td l (by omega);refine Tot.aC (Ξ:=λr=>r=(p,q)) ⟨_,f1,rfl⟩ λ_ ak=>?_;subst ak;replace h1:i64 p:=h1;replace af:i64 q:=af;have c0:=aM.iC;have bc:=aM.ev;have cX:=aM.k2;have tr:=hm.h3;have i0:i64 (g.aX.length:Int):=⟨by omega,by omega⟩;have i1:i64 (g.bF.length:Int):=⟨by omega,by omega⟩;have i2:i64 (g.a8.length:Int):=⟨by omega,by omega⟩;have i3:i64 (m.length:Int):=⟨by omega,by omega⟩;refine Tot.aC (words (vP g m p q) (by show 6<=10; omega) (λx J=>by
  unfold vP at J;simp only [List.mem_cons,List.not_mem_nil,or_false] at J;rcases J with rfl | rfl | rfl | rfl | rfl | rfl
  ·exact ⟨i0,by show 7<=30; omega⟩
  ·exact ⟨i1,by show 13<=30; omega⟩
  ·exact ⟨i2,by show 12<=30; omega⟩
  ·exact ⟨i3,by show 7<=30; omega⟩
  ·exact ⟨h1,by show 13<=30; omega⟩
  ·exact ⟨af,by show 14<=30; omega⟩)) λX tt=>?_
 have Kb:∀ l:List fq,l.length<=(fZ l).length:=λl=>by
  induction l with
  | nil=>exact Nat.le_refl _
  | cons x l aJ=>simp only [fZ,List.length_append,List.length_cons]; omega
 have oU:0<u.size:=by
  have ax:=Kb b1;have a2:eb 0 b1<=b1.length:=List.countP_le_length;have a3:=hm.gv;rw [<- bP,lZ] at ax;omega
 have ao:pw u=some u:=by unfold pw; rw [if_neg (by omega)]
 refine Tot.aC (Ξ:=λr=>r=u) ⟨u,ao,rfl⟩ λ_ ak=>?_;subst ak;have W5:∀ x∈vP g m p q,(wd x).size<=100/\0<(wd x).size:=λx J=>by
  have gC:i64 x.qz/\x.qA.size<=30/\0<x.qA.size:=by
   unfold vP at J;simp only [List.mem_cons,List.not_mem_nil,or_false] at J;rcases J with rfl | rfl | rfl | rfl | rfl | rfl
   ·exact ⟨i0,by show 7<=30; omega,by show 0<7; omega⟩
   ·exact ⟨i1,by show 13<=30; omega,by show 0<13; omega⟩
   ·exact ⟨i2,by show 12<=30; omega,by show 0<12; omega⟩
   ·exact ⟨i3,by show 7<=30; omega,by show 0<7; omega⟩
   ·exact ⟨h1,by show 13<=30; omega,by show 0<13; omega⟩
   ·exact ⟨af,by show 14<=30; omega,by show 0<14; omega⟩
  have:=uJ gC.1;unfold wd;rw [ByteArray.size_append];omega
 have NG:X.length=6:=by rw [tt,List.length_map]; rfl
 obtain ⟨dR,L,rfl⟩:∃ dR L,X=dR::L:=by
  cases X with
  | nil=>cases NG
  | cons a b=>exact ⟨a,b,rfl⟩
 have fv:∀ y∈dR::L,y.size<=100/\0<y.size:=λy ai=>by
  rw [tt] at ai;obtain ⟨z,aT,rfl⟩:=List.mem_map.1 ai;exact W5 z aT
 have U9:L.length=5:=by simpa using NG
 have iw:=fv dR (List.mem_cons_self ..);have Ny:∀ y∈L,y.size<=100:=λy ai=>(fv y (List.mem_cons_of_mem _ ai)).1;have BE:lK g m p q=dw ⟨#[44,32]⟩ dR L:=by unfold lK; rw [<- tt]
 rw [AR dR L U9 iw.1 Ny iw.2];obtain ⟨_,_,g1,_,g3⟩:=OS L (by omega) Ny ⟨#[44,32]⟩ dR (by show 2<=10; omega) (by omega);rw [g1,<- BE] at g3;rw [<- BE];have t1:(⟨#[10]⟩:ByteArray).size=1:=rfl;simp only [Option.bind_some];rw [j8 (by omega)];simp only [Option.bind_some];rw [j8 (by rw [ByteArray.size_append]; omega)];obtain ⟨FA,Kp⟩:=Yb g aM m hm h1 af;refine .al ⟨b1,p,q,f1,h1,af,?_,cu.app λx J=>?_,eP,k0,mA,fX,zo,?_⟩
 ·rw [mj,mj,bP,uF,List.append_assoc]; rfl
 ·rw [List.mem_singleton.1 J]; exact ⟨FA,Kp⟩
 ·rw [ByteArray.size_append,ByteArray.size_append]; omega
theorem Ho (s t:ByteArray) (av:s.size<=1000000000000) (au:t.size<=1000):Tot (qS s t) λr=>(r=true↔cV t <:+: cV s):=by
 unfold qS;refine .aC (Ξ:=λx:Unit ⊕ Bool=>match x with | .inl _=>¬ cV t <:+: cV s | .inr b=>b=true/\cV t <:+: cV s) ?_ λx J=>?_
 ·refine Tot.upto (λs=>s) (s.size+1) (λk _=>∀ j,j<k->¬ (j+t.size<=s.size/\((cV s).drop j).take t.size=cV t)) rfl (by omega) (λj ag=>by omega) λk i hk he a'=>?_;have he:i=(k:Int):=he;subst he;have hw:aS ((k:Int)+(t.size:Int))=((k+t.size:Nat):Int):=by rw [cP]; omega
  rw [hw];refine Tot.bA (λhle=>?_) (λIN=>.al ?_)
  ·have hle:k+t.size<=s.size:=by omega
   refine .aC (Ξ:=λx=>cV x=((cV s).drop k).take t.size) (Tot.cut (by omega) ?_) λx J=>?_
   ·rw [A0];have bP:((k:Int)).toNat=k:=rfl;have cu:(((k+t.size:Nat):Int)).toNat - ((k:Int)).toNat=t.size:=by omega
    rw [cu,bP]
   ·refine Tot.bA (λh=>.al ⟨rfl,?_⟩) (λh=>.al ⟨by omega,ek k (by omega),λj ag=>?_⟩)
    ·rw [OG];refine ⟨k,by rw [lZ,lZ]; omega,?_⟩;rw [lZ,<- J,h]
    ·by_cases e:j=k
     ·subst e;rintro ⟨_,af⟩;exact h (D1 (J.trans af))
     ·exact a' j (by omega)
  ·show ¬ cV t <:+: cV s;rw [OG];rintro ⟨i,h1,af⟩;rw [lZ,lZ] at h1;rw [lZ] at af;exact a' i (by omega) ⟨by omega,af⟩
 ·rcases x with x | x
  ·have J:¬ cV t <:+: cV s:=J;show Tot (some false) _;exact .al ⟨λh=>(by cases h),λh=>absurd h J⟩
  ·have J:x=true/\cV t <:+: cV s:=J;show Tot (some x) _;exact .al ⟨λ_=>J.2,λ_=>J.1⟩
theorem SO (s:ByteArray) (b1:List fq) (av:s.size<=1000000000000) (h:cV s=fZ b1) (hk:∀ x∈b1,10∉cV x.2):zS s=some (b1.map (·.2),true):=by
 suffices br:Tot (zS s) λr=>r=(b1.map (·.2),true) by
  obtain ⟨r,ak,e⟩:=br; rw [ak,e]
 unfold zS;have hlen:(fZ b1).length=s.size:=by rw [<- h,lZ]
 have Kb:∀ l:List fq,l.length<=(fZ l).length:=λl=>by
  induction l with
  | nil=>exact Nat.le_refl _
  | cons x l aJ=>simp only [fZ,List.length_append,List.length_cons]; omega
 refine .aC (Ξ:=λr:List ByteArray × Int=>r=(b1.map (·.2),(s.size:Int))) ?_ λr ak=>?_
 ·refine Tot.upto (λs=>s.2.2) s.size (λk z=>∃ A B p q,b1=A++B/\z.1=A.map (·.2)/\z.2.1=((fZ A).length:Int)/\k=(fZ A).length+p.length/\((B=[]/\p=[])\/∃ x r4,B=x::r4/\cV x.2=p++q)) rfl (by omega) ⟨[],b1,[],(b1.head?.map λx=>cV x.2).getD [],rfl,rfl,rfl,rfl,?_⟩ λk z EK he a'=>?_
  ·cases b1 with
   | nil=>exact .inl ⟨rfl,rfl⟩
   | cons x l=>exact .inr ⟨x,l,rfl,rfl⟩
  obtain ⟨out,at',i⟩:=z;obtain ⟨A,B,p,q,c0,h1,af,aF,fB⟩:=a';simp only at he h1 af ⊢;subst he h1 af;rw [ek k (by omega)];refine Tot.bA (λaK=>?_) (λdx=>.al ?_)
  ·have aK:k<s.size:=by omega
   rcases fB with ⟨rfl,rfl⟩ | ⟨x,r4,rfl,J⟩
   ·exfalso;rw [List.append_nil] at c0;rw [<- c0] at aF;simp only [List.length_nil] at aF;omega
   ·have NM:cV s=fZ A++(p++(q++10::fZ r4)):=by
     rw [h,c0,uF];simp only [fZ,J,List.append_assoc]
    have sG:x∈b1:=by rw [c0]; simp
    have fR:hg s (k:Int)=some (ih s (k:Int)):=by unfold hg; rw [if_pos (by omega)]
    have pL:=G8 s k aK;rw [fR];simp only [Option.bind_some];have lE:(cV s)[k]?=(q++10::fZ r4)[0]?:=by
     rw [NM,List.getElem?_append_right (by omega),List.getElem?_append_right (by omega)];congr 1; omega
    have BB:(cV s)[k]?=some ((cV s)[k]'(by rw [lZ]; exact aK)):=List.getElem?_eq_getElem _;cases q with
    | nil =>
     rw [List.append_nil] at J;rw [BB] at lE;simp only [List.nil_append,List.getElem?_cons_zero,Option.some.injEq] at lE;rw [lE] at pL;rw [pL];have V7:j_ s ((fZ A).length:Int) (k:Int)=some x.2:=by
      unfold j_;rw [if_pos (by omega)];refine congrArg some (D1 ?_);rw [A0,NM];have bP:(((fZ A).length:Nat):Int).toNat=(fZ A).length:=rfl;have cu:((k:Nat):Int).toNat - (((fZ A).length:Nat):Int).toNat=p.length:=by omega
      rw [cu,bP,List.drop_append_of_le_length (Nat.le_refl _),List.drop_length,List.nil_append,List.take_append_of_le_length (Nat.le_refl _),List.take_length,J]
     rw [V7];have adq:A.length<=1000000000000:=by have:=Kb A; omega
     have Vw:ea (A.map (·.2)) [x.2]=some (A.map (·.2)++[x.2]):=by
      unfold ea;rw [if_pos (by unfold lim; simp; omega)]
     have d:decide ((((10:UInt8).toNat:Nat):Int)=10)=true:=rfl;rw [d,cond_true];simp only [Option.bind_some,Vw];refine .al ⟨aK,rfl,A++[x],r4,[],(r4.head?.map λx=>cV x.2).getD [],by rw [c0]; simp,by simp,?_,?_,?_⟩
     ·show (((k+1:Nat):Int))=_;rw [uF];simp only [fZ,J,List.length_append,List.length_cons,List.length_nil];omega
     ·rw [uF];simp only [fZ,J,List.length_append,List.length_cons,List.length_nil];omega
     ·cases r4 with
      | nil=>exact .inl ⟨rfl,rfl⟩
      | cons y l=>exact .inr ⟨y,l,rfl,rfl⟩
    | cons b ga =>
     rw [BB] at lE;simp only [List.cons_append,List.getElem?_cons_zero,Option.some.injEq] at lE;rw [lE] at pL;have Bi:b≠10:=λe=>hk x sG (by rw [J,e]; simp);have d:decide ((b.toNat:Int)=10)=false:=by
      refine decide_eq_false λe=>Bi ?_;have e:b.toNat=10:=by omega
      exact UInt8.toNat_inj.1 e
     rw [pL,d,cond_false];simp only [Option.bind_some];refine .al ⟨aK,rfl,A,x::r4,p++[b],ga,c0,rfl,rfl,?_,.inr ⟨x,r4,rfl,by rw [J]; simp⟩⟩;simp only [List.length_append,List.length_cons,List.length_nil];omega
  ·have y_:k=s.size:=by omega
   rcases fB with ⟨rfl,rfl⟩ | ⟨x,r4,rfl,J⟩
   ·rw [List.append_nil] at c0;rw [c0];rw [c0] at hlen;rw [hlen];exact rfl
   ·exfalso;rw [c0,uF] at hlen;simp only [fZ,J,List.length_append,List.length_cons] at hlen;omega
 ·subst ak;exact .al (by simp)
theorem SK (w:List ByteArray) (i:Int) (y:ByteArray) (h:idx w i=some y):∃ c,((idx w i).bind λdC=>(bif decide (6<(dC.size:Int)) then ((idx w i).bind λbE=>((j_ bE 0 6).bind λeg=>some (decide (eg=⟨#[115,116,97,116,101,32]⟩)))) else some false))=some c/\(c=true↔vj (cV y)):=by
 rw [h];simp only [Option.bind_some];unfold vj;by_cases aT:6<y.size
 ·have aa:j_ y 0 6=some (qx y 0 6):=by unfold j_; rw [if_pos (by omega)]
  rw [decide_eq_true (by omega:(6:Int)<(y.size:Int)),cond_true,aa];refine ⟨_,rfl,?_⟩;rw [decide_eq_true_iff];have e:cV (qx y 0 6)=(cV y).take 6:=by rw [A0]; rfl
  constructor
  ·intro br;exact ⟨by rw [lZ]; exact aT,by rw [<- e,br]; rfl⟩
  ·rintro ⟨_,br⟩;exact D1 (by rw [e,br]; rfl)
 ·rw [decide_eq_false (by omega:¬ (6:Int)<(y.size:Int)),cond_false];exact ⟨_,rfl,λh=>(by cases h),λh=>absurd (by have:=h.1; rwa [lZ] at this) aT⟩
theorem SL (w:List ByteArray) (i:Int) (y:ByteArray) (h:idx w i=some y):∃ c,((idx w i).bind λgx=>(bif decide (10<(gx.size:Int)) then ((idx w i).bind λiD=>((j_ iD 0 10).bind λcy=>some (decide (cy=⟨#[9,99,111,110,102,108,105,99,116,32]⟩)))) else some false))=some c/\(c=true↔vk (cV y)):=by
 rw [h];simp only [Option.bind_some];unfold vk;by_cases aT:10<y.size
 ·have aa:j_ y 0 10=some (qx y 0 10):=by unfold j_; rw [if_pos (by omega)]
  rw [decide_eq_true (by omega:(10:Int)<(y.size:Int)),cond_true,aa];refine ⟨_,rfl,?_⟩;rw [decide_eq_true_iff];have e:cV (qx y 0 10)=(cV y).take 10:=by rw [A0]; rfl
  constructor
  ·intro br;exact ⟨by rw [lZ]; exact aT,by rw [<- e,br]; rfl⟩
  ·rintro ⟨_,br⟩;exact D1 (by rw [e,br]; rfl)
 ·rw [decide_eq_false (by omega:¬ (10:Int)<(y.size:Int)),cond_false];exact ⟨_,rfl,λh=>(by cases h),λh=>absurd (by have:=h.1; rwa [lZ] at this) aT⟩
theorem SM (w:List ByteArray) (i:Int) (y:ByteArray) (ai:y.size<=1000000000000) (h:idx w i=some y):∃ c,(((idx w i).bind λk5=>((qS k5 (⟨#[32,58,32]⟩)).bind λjG=>(bif !jG then ((idx w i).bind λhE=>((qS hE (⟨#[32,58,46]⟩)).bind λmH=>(bif !mH then ((idx w i).bind λgb=>(bif decide (0<(gb.size:Int)) then ((idx w i).bind λq5=>((hg q5 0).bind λvR=>some (decide (vR=9)))) else some false)) else some false))) else some false))))=some c/\(c=true↔E8 (cV y)):=by
 rw [h];simp only [Option.bind_some];unfold E8;obtain ⟨ox,bP,f1⟩:=Ho y ⟨#[32,58,32]⟩ ai (by decide);obtain ⟨iW,cu,f2⟩:=Ho y ⟨#[32,58,46]⟩ ai (by decide);have f1:ox=true↔C' <:+: cV y:=f1;have f2:iW=true↔KN <:+: cV y:=f2;rw [bP,cu];simp only [Option.bind_some];cases ox with
 | true=>exact ⟨_,rfl,λh=>(by cases h),λh=>absurd (f1.1 rfl) h.1⟩
 | false =>
  have g1:¬ C' <:+: cV y:=λh=>by have:=f1.2 h; cases this
  simp only [Bool.not_false,cond_true];cases iW with
  | true=>exact ⟨_,rfl,λh=>(by cases h),λh=>absurd (f2.1 rfl) h.2.1⟩
  | false =>
   have g2:¬ KN <:+: cV y:=λh=>by have:=f2.2 h; cases this
   simp only [Bool.not_false,cond_true];by_cases aT:0<y.size
   ·have ao:hg y 0=some (ih y 0):=by unfold hg; rw [if_pos (by omega)]
    have qN:ih y 0=_:=G8 y 0 aT;rw [decide_eq_true (by omega:(0:Int)<(y.size:Int)),cond_true,ao];refine ⟨_,rfl,?_⟩;rw [decide_eq_true_iff,qN];have ah:0<(cV y).length:=by rw [lZ]; exact aT
    have br:(cV y).head?=some ((cV y)[0]):=by
     rw [List.head?_eq_getElem?];exact List.getElem?_eq_getElem ah
    constructor
    ·intro oP;refine ⟨g1,g2,ah,?_⟩;rw [br];have:(cV y)[0].toNat=9:=by omega
     exact congrArg some (UInt8.toNat_inj.1 this)
    ·rintro ⟨_,_,_,oP⟩;rw [br] at oP;rw [Option.some.inj oP]; rfl
   ·rw [decide_eq_false (by omega:¬ (0:Int)<(y.size:Int)),cond_false];exact ⟨_,rfl,λh=>(by cases h),λh=>absurd (by have:=h.2.2.1; rwa [lZ] at this) aT⟩
theorem Ty (j:Nat) (l:List fq):eb j l<=l.length:=List.countP_le_length
theorem Tz {b1:List fq}{k:Nat}(h:k<b1.length) (j:Nat):eb j (b1.take (k+1))=eb j (b1.take k)+if b1[k].1=j then 1 else 0:=by
 show (List.take (k+1) b1).countP _=_;rw [AY h];by_cases e:b1[k].1=j
 ·rw [if_pos e,if_pos (by rw [e]; simp)]; rfl
 ·rw [if_neg e,if_neg (by simpa using e)]; rfl
theorem O5:∀ (b1:List fq) (x:fq),x∈b1->x.2.size<=(fZ b1).length
 | [],x,h=>by cases h
 | y::l,x,h=>by
  have e:(fZ (y::l)).length=y.2.size+1+(fZ l).length:=by
   simp only [fZ,List.length_append,List.length_cons,lZ]; omega
  rcases List.mem_cons.1 h with rfl | h
  ·omega
  ·have:=O5 l x h; omega
theorem Ka:∀ (b1:List fq),b1.length<=(fZ b1).length
 | []=>Nat.le_refl _
 | y::l=>by
  have:=Ka l;simp only [fZ,List.length_append,List.length_cons]; omega
theorem aaG (b1:List fq) (dD:q_ b1) (bQ:mg j1 0 b1) (aT:(fZ b1).length<=1000000000000) (w:List ByteArray) (hw:w=b1.map (·.2)):Tot (cc (R:=(Int × Int × Int × Int) ⊕ (Bool)) (λ(cC:Int × Int × Int × Int × Int) =>
(bif decide (cC.2.2.2.2<(w.length:Int)) then
(((idx w cC.2.2.2.2).bind λdC=>(bif decide (6<(dC.size:Int)) then ((idx w cC.2.2.2.2).bind λbE=>((j_ bE 0 6).bind λeg=>some (decide (eg=⟨#[115,116,97,116,101,32]⟩)))) else some false))).bind λyL =>
(bif yL then
(idx w cC.2.2.2.2).bind λgp =>
(nS cC.1).bind λgw =>
(er (⟨#[115,116,97,116,101,32]⟩) gw).bind λeT =>
(bif !decide (gp=eT) then
some (.inr (.inr false))
else
some (.inl (aS (cC.1+1),cC.2.1,cC.2.2.1,cC.2.2.2.1,aS (cC.2.2.2.2+1))))
else
(((idx w cC.2.2.2.2).bind λgx=>(bif decide (10<(gx.size:Int)) then ((idx w cC.2.2.2.2).bind λiD=>((j_ iD 0 10).bind λcy=>some (decide (cy=⟨#[9,99,111,110,102,108,105,99,116,32]⟩)))) else some false))).bind λuE =>
((bif uE then
some (aS (cC.2.1+1),cC.2.2.1,cC.2.2.2.1)
else
(idx w cC.2.2.2.2).bind λe1 =>
(qS e1 (⟨#[32,103,111,116,111,32]⟩)).bind λma =>
((bif ma then
some (cC.2.2.1,aS (cC.2.2.2.1+1))
else
(((idx w cC.2.2.2.2).bind λk5=>((qS k5 (⟨#[32,58,32]⟩)).bind λjG=>(bif !jG then ((idx w cC.2.2.2.2).bind λhE=>((qS hE (⟨#[32,58,46]⟩)).bind λmH=>(bif !mH then ((idx w cC.2.2.2.2).bind λgb=>(bif decide (0<(gb.size:Int)) then ((idx w cC.2.2.2.2).bind λq5=>((hg q5 0).bind λvR=>some (decide (vR=9)))) else some false)) else some false))) else some false)))).bind λyN =>
((bif yN then
some (aS (cC.2.2.1+1))
else
some cC.2.2.1)).bind λCa =>
some (Ca,cC.2.2.2.1))).bind λgK =>
some (cC.2.1,gK.1,gK.2))).bind λom =>
some (.inl (cC.1,om.1,om.2.1,om.2.2,aS (cC.2.2.2.2+1))))
else
some (.inr (.inl (cC.1,cC.2.1,cC.2.2.1,cC.2.2.2.1))))) (0,0,0,0,0)) λr=>r=.inl ((eb 0 b1:Int),(eb 1 b1:Int),(eb 3 b1:Int),(eb 2 b1:Int)):=by
 have aA:=Ka b1;have Jm:w.length=b1.length:=by rw [hw,List.length_map]
 refine Tot.upto (λs=>s.2.2.2.2) b1.length (λk s=>s=((eb 0 (b1.take k):Int),(eb 1 (b1.take k):Int),(eb 3 (b1.take k):Int),(eb 2 (b1.take k):Int),(k:Int))/\mg j1 (eb 0 (b1.take k)) (b1.drop k)) rfl (by omega) ⟨rfl,bQ⟩ λk s hk he a'=>?_;obtain ⟨rfl,a_⟩:=a';rw [Jm];refine Tot.bA (λaK=>?_) (λdx=>.al ?_)
 ·have aK:k<b1.length:=by omega
  have hi:idx w (k:Int)=some b1[k].2:=by
   rw [dT (by omega)];simp only [hw,List.getElem_map]
  have hm:=List.getElem_mem aK;obtain ⟨dk,adw⟩:=dD _ hm;have ai:=O5 b1 _ hm;have q:=Tz aK;have ao:∀ j,eb j (b1.take k)<=1000000000000:=λj=>by
   have:=Ty j (b1.take k);rw [List.length_take] at this;omega
  have aP:b1.drop k=b1[k]::b1.drop (k+1):=List.drop_eq_getElem_cons aK;rw [aP] at a_;obtain ⟨yL,ax,a2⟩:=SK w (k:Int) b1[k].2 hi;obtain ⟨uE,fF,fQ⟩:=SL w (k:Int) b1[k].2 hi;obtain ⟨yN,d1,d2⟩:=SM w (k:Int) b1[k].2 (by omega) hi;obtain ⟨ma,g1,g2⟩:=Ho b1[k].2 ⟨#[32,103,111,116,111,32]⟩ (by omega) (by decide);have g2:ma=true↔xY <:+: cV b1[k].2:=g2;rw [ax];simp only [fF,d1];simp only [hi,Option.bind_some,g1];generalize J:b1[k]=x at *;obtain ⟨t,y⟩:=x;simp only at dk a2 fQ d2 g2 q a_ ⊢;have rH:aS ((k:Int)+1)=((k+1:Nat):Int):=ek k (by omega);rw [rH];have k_:∀ {c:Bool}{P:Prop},(c=true↔P)->¬ P->c=false:=λ{c P} h1 af=>by
   cases c
   ·rfl
   ·exact absurd (h1.1 rfl) af
  match t,dk,a_,q with
  | 0,dk,a_,q =>
   rw [a2.2 (X_ dk)];obtain ⟨iP,hI⟩:=a_;have ag:i64 (eb 0 (b1.take k):Int):=⟨by omega,by have:=ao 0; omega⟩;have adI:(⟨(kW (eb 0 (b1.take k):Int)).toArray⟩:ByteArray).size<=21:=by rw [rf]; exact xo _ ag
   have bV:(⟨#[115,116,97,116,101,32]⟩:ByteArray).size=6:=rfl;rw [cond_true,gT _ ag];simp only [Option.bind_some];rw [j8 (by omega)];simp only [Option.bind_some];have e:y=(⟨#[115,116,97,116,101,32]⟩:ByteArray)++nD (eb 0 (b1.take k):Int):=iP;rw [decide_eq_true e,Bool.not_true,cond_false];have jE:=q 0; have gO:=q 1; have iz:=q 2; have lk:=q 3;simp only [if_true,if_neg (by decide:¬ (0:Nat)=1),if_neg (by decide:¬ (0:Nat)=2),if_neg (by decide:¬ (0:Nat)=3),Nat.add_zero] at jE gO iz lk;refine .al ⟨aK,rfl,?_,?_⟩
   ·rw [ek _ (by have:=ao 0; omega),jE,gO,iz,lk]
   ·rw [jE]; exact hI
  | 1,dk,a_,q =>
   rw [k_ a2 (OT dk).1,fQ.2 (OT dk).2];simp only [cond_true,cond_false,Option.bind_some];have jE:=q 0; have gO:=q 1; have iz:=q 2; have lk:=q 3;simp only [if_true,if_neg (by decide:¬ (1:Nat)=0),if_neg (by decide:¬ (1:Nat)=2),if_neg (by decide:¬ (1:Nat)=3),Nat.add_zero] at jE gO iz lk;refine .al ⟨aK,rfl,?_,?_⟩
   ·rw [ek _ (by have:=ao 1; omega),jE,gO,iz,lk]
   ·rw [jE]; exact a_
  | 2,dk,a_,q =>
   rw [k_ a2 (J4 dk).1,k_ fQ (J4 dk).2.1,g2.2 (J4 dk).2.2];simp only [cond_true,cond_false,Option.bind_some];have jE:=q 0; have gO:=q 1; have iz:=q 2; have lk:=q 3;simp only [if_true,if_neg (by decide:¬ (2:Nat)=0),if_neg (by decide:¬ (2:Nat)=1),if_neg (by decide:¬ (2:Nat)=3),Nat.add_zero] at jE gO iz lk;refine .al ⟨aK,rfl,?_,?_⟩
   ·rw [ek _ (by have:=ao 2; omega),jE,gO,iz,lk]
   ·rw [jE]; exact a_
  | 3,dk,a_,q =>
   rw [k_ a2 (E' dk).1,k_ fQ (E' dk).2.1,k_ g2 (E' dk).2.2.1,d2.2 (E' dk).2.2.2];simp only [cond_true,cond_false,Option.bind_some];have jE:=q 0; have gO:=q 1; have iz:=q 2; have lk:=q 3;simp only [if_true,if_neg (by decide:¬ (3:Nat)=0),if_neg (by decide:¬ (3:Nat)=1),if_neg (by decide:¬ (3:Nat)=2),Nat.add_zero] at jE gO iz lk;refine .al ⟨aK,rfl,?_,?_⟩
   ·rw [ek _ (by have:=ao 3; omega),jE,gO,iz,lk]
   ·rw [jE]; exact a_
  | n+4,dk,a_,q =>
   have bk:=X' (by omega:4<=n+4) dk;rw [k_ a2 bk.1,k_ fQ bk.2.1,k_ g2 bk.2.2.1,k_ d2 bk.2.2.2];simp only [cond_false,Option.bind_some];have jE:=q 0; have gO:=q 1; have iz:=q 2; have lk:=q 3;simp only [if_neg (by omega:¬ n+4=0),if_neg (by omega:¬ n+4=1),if_neg (by omega:¬ n+4=2),if_neg (by omega:¬ n+4=3),Nat.add_zero] at jE gO iz lk;refine .al ⟨aK,rfl,?_,?_⟩
   ·rw [jE,gO,iz,lk]
   ·rw [jE]; exact a_
 ·have e:b1.take k=b1:=List.take_of_length_le (by omega);rw [e];exact rfl
end Go.Proofs
