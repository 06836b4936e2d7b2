/- Parts of the proof that the last text states. -/
import Derived.Test.YtfndjemfpidfpaaGreatDoorRows
import Derived.Test.YtfndjemfpidfpaaGreatDoorE9
namespace Go.Proofs
open Tryz
open Go Go.Own Go.Sort Go.Lib
set_option maxRecDepth 100000
set_option linter.unusedVariables false
theorem aaR:CN=some true:=by kernel_rfl
theorem Ur (s:Source) (ao:s7 s):Par (t_ s) λr=>r.2.2.2=true->ph r.1/\pg r.1:=by
 intro r ak au;unfold t_ at ak;obtain ⟨aY,h1,ak⟩:=Option.bind_eq_some_iff.1 ak;cases J:aY.2.2 with
 | false=>rw [J] at ak; cases ak; cases au
 | true =>
  rw [J] at ak;simp only [Bool.not_true,cond_false] at ak;obtain ⟨a6,_,ak⟩:=Option.bind_eq_some_iff.1 ak;obtain ⟨bT,_,ak⟩:=Option.bind_eq_some_iff.1 ak;cases ak;show ph aY.1/\pg aY.1;unfold zC at h1;obtain ⟨bV,g1,h1⟩:=Option.bind_eq_some_iff.1 h1;cases ai:bV.2 with
  | false=>rw [ai] at h1; cases h1; cases J
  | true =>
   rw [ai] at h1;simp only [Bool.not_true,cond_false] at h1;obtain ⟨ed,_,h1⟩:=Option.bind_eq_some_iff.1 h1;cases h1;show ph bV.1/\pg bV.1;unfold zH at g1;obtain ⟨z,mA,g1⟩:=Option.bind_eq_some_iff.1 g1;cases g1;exact YV s ao z mA (of_decide_eq_true ai)
theorem SV {g:bt}(aM:fp g) {n:Nat}{cs:List Cell}(h:∀ c∈cs,mJ g n c):∀ x∈k9 g cs,Av g x/\0<=x.State/\x.State<n:=by
 intro x J;unfold k9 at J;obtain ⟨c,aa,J⟩:=List.mem_flatMap.1 J;have ok:=h c aa;have cX:=aM.k2;have aP:∀ p∈c.a8,-9223372036854775808<=p/\p<=9223372036854775807:=λp aw=>by
  have:=ok.q p aw;have h1:=this.1; have af:=this.2;omega
 unfold uG at J;cases aw:c.a8 with
 | nil=>rw [aw] at J; cases J
 | cons p r =>
  rw [aw] at J aP;rcases List.mem_append.1 J with J | J
  ·obtain ⟨y,ai,rfl⟩:=List.mem_map.1 J;exact ⟨⟨ok.t,aP y (List.mem_cons_of_mem _ ai)⟩,ok.s⟩
  ·split at J
   ·obtain rfl:=List.mem_singleton.1 J;exact ⟨⟨ok.t,aP p (List.mem_cons_self ..)⟩,ok.s⟩
   ·cases J
theorem aaJ (m:List State) (aA:m.length<=150) (ah:∀ s∈m,s.cE.length<=64):Tot (cc (R:=Int) (λ(mF:Int × Int) =>
(bif decide (mF.2<(m.length:Int)) then
(cc (R:=Int) (λ(nr:Int × Int) =>
(idx m mF.2).bind λyb =>
(bif decide (nr.2<(yb.cE.length:Int)) then
((idx m mF.2).bind λvT =>
(idx vT.cE nr.2).bind λGq =>
((bif decide (1000<=Gq.Sym) then
some (aS (nr.1+1))
else
some nr.1)).bind λtR =>
some tR).bind λCc =>
some (.inl (Cc,aS (nr.2+1)))
else
some (.inr nr.1))) (mF.1,0)).bind λq6 =>
some (.inl (q6,aS (mF.2+1)))
else
some (.inr mF.1))) (0,0)) λr=>r=(((m.map λs=>s.cE.countP λv=>decide (1000<=v.Sym)).sum:Nat):Int):=by
 refine Tot.upto (λs=>s.2) m.length (λk s=>s.1=((((m.take k).map λs=>s.cE.countP λv=>decide (1000<=v.Sym)).sum:Nat):Int)/\((m.take k).map λs=>s.cE.countP λv=>decide (1000<=v.Sym)).sum<=k * 64) rfl (by omega) ⟨rfl,Nat.le_refl _⟩ λk s hk he a'=>?_;obtain ⟨a,i⟩:=s;obtain ⟨h1,af⟩:=a';simp only at he h1 ⊢;subst he h1;refine Tot.bA (λaK=>?_) (λdx=>.al ?_)
 ·have aK:k<m.length:=by omega
  have hi:idx m (k:Int)=some m[k]:=dT aK;have hm:=ah _ (List.getElem_mem aK);have av:=K2 aK λs:State=>s.cE.countP λv=>decide (1000<=v.Sym);have aa:m[k].cE.countP (λv=>decide (1000<=v.Sym))<=m[k].cE.length:=List.countP_le_length;simp only [hi,Option.bind_some];generalize m[k]=st at *;generalize ((m.take k).map λs:State=>s.cE.countP λv=>decide (1000<=v.Sym)).sum=S at *;refine Tot.aC (Ξ:=λr=>r=((S+st.cE.countP λv=>decide (1000<=v.Sym):Nat):Int)) ?_ λr ak=>?_
  ·refine Tot.upto (λs=>s.2) st.cE.length (λj s=>s.1=((S+(st.cE.take j).countP λv=>decide (1000<=v.Sym):Nat):Int)) rfl (by omega) rfl λj s ag he a'=>?_;obtain ⟨a,i⟩:=s;simp only at he a' ⊢;subst he a';refine Tot.bA (λjv=>?_) (λdx=>.al ?_)
   ·have jv:j<st.cE.length:=by omega
    have tD:(st.cE.take j).countP (λv=>decide (1000<=v.Sym))<=(st.cE.take j).length:=List.countP_le_length;rw [List.length_take] at tD;rw [dT jv,AY jv];simp only [Option.bind_some];by_cases ba:1000<=st.cE[j].Sym
    ·rw [decide_eq_true ba];simp only [cond_true,Option.bind_some,if_true];refine .al ⟨jv,ek j (by omega),?_⟩;rw [ek _ (by omega)];rfl
    ·rw [decide_eq_false ba];simp only [cond_false,Option.bind_some];exact .al ⟨jv,ek j (by omega),rfl⟩
   ·have e:st.cE.take j=st.cE:=List.take_of_length_le (by omega);rw [e];exact rfl
  ·subst ak;refine .al ⟨aK,ek k (by omega),?_,?_⟩
   ·rw [av]
   ·rw [av,Nat.add_mul]; omega
 ·have e:m.take k=m:=List.take_of_length_le (by omega);rw [e];exact rfl
theorem mg.last {b1:List fq}{y:ByteArray}(h:mg j1 0 b1):mg j1 0 (b1++[(4,y)]):=h.app trivial
theorem t3 (x:qi):zJ x=some true:=by
 suffices h:Tot (zJ x) λr=>r=true by
  obtain ⟨r,ak,e⟩:=h; rw [ak,e]
 unfold zJ;rw [aaR];simp only [Option.bind_some,Bool.not_true,cond_false];refine .aC (t6 x) λs av=>?_;obtain ⟨oI,aa,dh⟩:=kr s av;have c':=Ur s av oI aa;refine Tot.aC (Ξ:=λr=>r=oI) ⟨oI,aa,rfl⟩ λc e=>?_;subst e;refine Tot.bC (λ_=>.al rfl) (λh=>?_);have dh:=dh (by simpa using h);obtain ⟨U3,U2⟩:=c' (by simpa using h);refine .aC (rj _ _ _ dh) λr ak=>?_;obtain ⟨aP,ah⟩:=ak;have ao:=aP.aG dh;refine Tot.oJ (λh=>absurd (by rw [ao.a]) h) (λ_=>?_);have hZ:=Hs dh.uN dh.ce.ok;have IE:=dh.ce.n;have tr:=dh.Fl.h3;refine .aC (aaM _ dh.uN U3 U2 _ dh.Fl r.1 ao r.2 (by rw [ah]; exact SV dh.uN dh.ce.ok) (by rw [ah]; omega)) λu hu=>?_;obtain ⟨b1,p,q,f1,h1,af,bP,cu,eP,k0,mA,fX,zo,aT⟩:=hu;rw [SO u _ aT bP (λx J=>(cu x J).2)];simp only [Option.bind_some];have sJ:(fZ (b1++[(4,lK c.1 c.2.1 p q)])).length<=1000000000000:=by rw [<- bP,lZ]; exact aT
 refine Tot.aC (aaG _ cu eP.last sJ _ rfl) λiW hr=>?_;subst hr;dsimp only;refine Tot.aC (aaJ _ tr dh.Fl.tW) λaW WD=>?_;rw [f1];have c0:=dh.uN.iC;have bc:=dh.uN.ev;have cX:=dh.uN.k2;have i0:i64 (c.1.aX.length:Int):=⟨by omega,by omega⟩;have i1:i64 (c.1.bF.length:Int):=⟨by omega,by omega⟩;have i2:i64 (c.1.a8.length:Int):=⟨by omega,by omega⟩;have i3:i64 (c.2.1.length:Int):=⟨by omega,by omega⟩;simp only [Option.bind_some];rw [gT _ i0,gT _ i1,gT _ i2,gT _ i3,gT _ h1,gT _ af];simp only [Option.bind_some];have y0:(⟨#[32,116,111,107,101,110,115,44,32]⟩:ByteArray).size=9:=rfl;have bV:(⟨#[32,110,111,110,116,101,114,109,105,110,97,108,115,44,32]⟩:ByteArray).size=15:=rfl;have y2:(⟨#[32,112,114,111,100,117,99,116,105,111,110,115,44,32]⟩:ByteArray).size=14:=rfl;have ed:(⟨#[32,115,116,97,116,101,115,44,32]⟩:ByteArray).size=9:=rfl;have fU:(⟨#[32,115,104,105,102,116,47,114,101,100,117,99,101,44,32]⟩:ByteArray).size=15:=rfl;have dH:(⟨#[32,114,101,100,117,99,101,47,114,101,100,117,99,101]⟩:ByteArray).size=14:=rfl;have g0:=uJ i0;have g1:=uJ i1;have g2:=uJ i2;have g3:=uJ i3;have g4:=uJ h1;have g5:=uJ af;have BE:lK c.1 c.2.1 p q=(⟨(kW (c.1.aX.length:Int)).toArray⟩:ByteArray)++⟨#[32,116,111,107,101,110,115,44,32]⟩++(⟨(kW (c.1.bF.length:Int)).toArray⟩:ByteArray)++⟨#[32,110,111,110,116,101,114,109,105,110,97,108,115,44,32]⟩++(⟨(kW (c.1.a8.length:Int)).toArray⟩:ByteArray)++⟨#[32,112,114,111,100,117,99,116,105,111,110,115,44,32]⟩++(⟨(kW (c.2.1.length:Int)).toArray⟩:ByteArray)++⟨#[32,115,116,97,116,101,115,44,32]⟩++(⟨(kW p).toArray⟩:ByteArray)++⟨#[32,115,104,105,102,116,47,114,101,100,117,99,101,44,32]⟩++(⟨(kW q).toArray⟩:ByteArray)++⟨#[32,114,101,100,117,99,101,47,114,101,100,117,99,101]⟩:=by
  have Al:(⟨#[32,116,111,107,101,110,115,44,32]⟩:ByteArray)=(⟨#[32,116,111,107,101,110,115]⟩:ByteArray)++(⟨#[44,32]⟩:ByteArray):=rfl;have fj:(⟨#[32,110,111,110,116,101,114,109,105,110,97,108,115,44,32]⟩:ByteArray)=(⟨#[32,110,111,110,116,101,114,109,105,110,97,108,115]⟩:ByteArray)++(⟨#[44,32]⟩:ByteArray):=rfl;have e9:(⟨#[32,112,114,111,100,117,99,116,105,111,110,115,44,32]⟩:ByteArray)=(⟨#[32,112,114,111,100,117,99,116,105,111,110,115]⟩:ByteArray)++(⟨#[44,32]⟩:ByteArray):=rfl;have vN:(⟨#[32,115,116,97,116,101,115,44,32]⟩:ByteArray)=(⟨#[32,115,116,97,116,101,115]⟩:ByteArray)++(⟨#[44,32]⟩:ByteArray):=rfl;have vO:(⟨#[32,115,104,105,102,116,47,114,101,100,117,99,101,44,32]⟩:ByteArray)=(⟨#[32,115,104,105,102,116,47,114,101,100,117,99,101]⟩:ByteArray)++(⟨#[44,32]⟩:ByteArray):=rfl;rw [Al,fj,e9,vN,vO];unfold lK vP;simp only [List.map_cons,List.map_nil,dw,wd,ByteArray.append_assoc]
 rw [j8 (by omega)];simp only [Option.bind_some]
 iterate 10 (rw [j8 (by simp only [ByteArray.size_append]; omega)]; simp only [Option.bind_some])
 rw [<- BE];have hlen:((b1++[((4:Nat),lK c.1 c.2.1 p q)]).map (·.2)).length=b1.length+1:=by simp
 have adB:b1.length<=1000000000000:=by have:=Ka (b1++[((4:Nat),lK c.1 c.2.1 p q)]); rw [List.length_append] at this; omega
 have hw:aS ((((b1++[((4:Nat),lK c.1 c.2.1 p q)]).map (·.2)).length:Int) - 1)=(b1.length:Int):=by rw [hlen,cP]; omega
 have hi:idx ((b1++[((4:Nat),lK c.1 c.2.1 p q)]).map (·.2)) (b1.length:Int)=some (lK c.1 c.2.1 p q):=by
  rw [dT (by omega)];simp
 have aa:∀ j,j<4->eb j (b1++[((4:Nat),lK c.1 c.2.1 p q)])=eb j b1:=λj ag=>by
  rw [uH];have:eb j [((4:Nat),lK c.1 c.2.1 p q)]=0:=by
   unfold eb;rw [List.countP_eq_zero];intro z aT;rw [List.mem_singleton.1 aT];simp; omega
  rw [this]; rfl
 have aQ:=RL aP dh.ce;have Xm:=aaO aP dh.uN dh.Fl;rw [hw,hi,aa 0 (by decide),aa 1 (by decide),aa 2 (by decide),aa 3 (by decide),k0,mA,fX,zo,WD,aQ,Xm,hlen];simp only [Option.bind_some,cond_true,decide_true];rw [decide_eq_true (by omega:(0:Int)<((b1.length+1:Nat):Int))];exact .al rfl
open Go Go.Own
set_option maxHeartbeats 4000000
set_option synthInstance.maxHeartbeats 1000000
set_option synthInstance.maxSize 10000
instance:kp c3:=⟨λx=>[(.int .i64 x.Prod),(.int .i64 x.cU)],λ_=>rfl,λx v hv=>by simp only [List.mem_cons,List.not_mem_nil,or_false] at hv; rcases hv with rfl | rfl <;> rfl⟩
theorem JO:tP prog 3 .i64=true:=by kernel_rfl
theorem uf:o' prog 9=true:=by kernel_rfl
theorem AZ:jQ prog 4=true:=by kernel_rfl
theorem wE:jQ prog 9=true:=by kernel_rfl
theorem wD:jQ prog 3=true:=by kernel_rfl
theorem T7:iN prog 123 0 0 3=true:=by kernel_rfl
theorem M3:iN prog 123 2 2 121=true:=by kernel_rfl
theorem Tw:jQ prog 121=true:=by kernel_rfl
theorem Qp:fh prog 121 63 4=true:=by kernel_rfl
theorem yD:hX prog 63 4=true:=by kernel_rfl
theorem gD:prog.follows .mixedOrders=true:=by kernel_rfl
theorem Dd:fh prog 66 65 6=true:=by kernel_rfl
theorem Sb:hX prog 65 6=true:=by kernel_rfl
theorem Aq:(prog.info? 65).bind (·.zero)=some (.agg #[.string ⟨#[]⟩,.bool false,.int .i64 0,.int .i64 0,.string ⟨#[]⟩,.int .i64 0]):=by kernel_rfl
theorem KW:fh prog 36 123 4=true:=by kernel_rfl
theorem Mc:hX prog 123 4=true:=by kernel_rfl
theorem vK:fh prog 37 71 3=true:=by kernel_rfl
theorem Sc:hX prog 71 3=true:=by kernel_rfl
theorem Lm:(prog.info? 71).bind (·.zero)=some (.agg #[.string ⟨#[]⟩,.slice none 0 0,.int .i64 0]):=by kernel_rfl
theorem A8:iN prog 71 1 1 69=true:=by kernel_rfl
theorem Hx:jQ prog 69=true:=by kernel_rfl
theorem F2:fh prog 69 68 6=true:=by kernel_rfl
theorem Me:hX prog 68 6=true:=by kernel_rfl
theorem T9:iN prog 168 4 8 3=true:=by kernel_rfl
theorem Dn:hB prog 3 1=true:=by kernel_rfl
theorem T_:iN prog 168 5 9 3=true:=by kernel_rfl
theorem Ua:iN prog 168 6 10 9=true:=by kernel_rfl
theorem QE:hB prog 9 1=true:=by kernel_rfl
theorem x3:fh prog 28 163 2=true:=by kernel_rfl
theorem F0:fh prog 27 160 6=true:=by kernel_rfl
theorem M5:iN prog 160 2 2 3=true:=by kernel_rfl
theorem Li:(prog.info? 160).bind (·.zero)=some (.agg #[.string ⟨#[]⟩,.bool false,.int .i64 0,.int .i64 0,.int .i64 0,.string ⟨#[]⟩]):=by kernel_rfl
theorem KR:k3 prog 160 [(0,1),(1,1),(2,1),(3,1),(4,1),(5,1)]=true:=by kernel_rfl
theorem call74:gU prog 74=true:=by kernel_rfl
theorem aa5:jI prog 160 6=true:=by kernel_rfl
theorem q1:fh prog 79 4 1=true:=by kernel_rfl
theorem DA:(prog.info? 163).bind (·.zero)=some (.agg #[.string ⟨#[]⟩,.string ⟨#[]⟩]):=by kernel_rfl
theorem FX:k3 prog 163 [(0,1),(1,1)]=true:=by kernel_rfl
theorem Gx:jI prog 163 2=true:=by kernel_rfl
theorem GQ:jP prog 28 163 2 32=true:=by kernel_rfl
theorem M7:iN prog 163 1 1 9=true:=by kernel_rfl
theorem call104:gU prog 104=true:=by kernel_rfl
theorem M6:iN prog 160 3 3 3=true:=by kernel_rfl
theorem T8:iN prog 160 4 4 3=true:=by kernel_rfl
theorem aad:hB prog 4 1=true:=by kernel_rfl
theorem HI:iN prog 160 5 5 9=true:=by kernel_rfl
theorem x4:fh prog 47 9 1=true:=by kernel_rfl
theorem Gt:(prog.info? 145).bind (·.zero)=some (.agg #[.int .i64 0,.slice none 0 0,.int .i64 0,.string ⟨#[]⟩,.slice none 0 0,.int .i64 0]):=by kernel_rfl
theorem KQ:k3 prog 145 [(0,1),(1,1),(2,1),(3,1),(4,1),(5,1)]=true:=by kernel_rfl
theorem M4:iN prog 145 1 1 23=true:=by kernel_rfl
theorem MJ:jQ prog 23=true:=by kernel_rfl
theorem call106:gU prog 106=true:=by kernel_rfl
theorem Ar:jI prog 3 1=true:=by kernel_rfl
theorem oy:fh prog 23 3 1=true:=by kernel_rfl
theorem DX:jP prog 23 3 1 8=true:=by kernel_rfl
theorem Uc:iN prog 65 2 5 3=true:=by kernel_rfl
theorem Lq:jI prog 145 6=true:=by kernel_rfl
theorem F1:fh prog 29 145 6=true:=by kernel_rfl
theorem L3:jP prog 29 145 6 88=true:=by kernel_rfl
theorem aab:hB prog 29 1=true:=by kernel_rfl
theorem R9:hX prog 145 6=true:=by kernel_rfl
theorem vZ:(prog.info? 31).bind (·.zero)=some (.agg #[.slice none 0 0,.slice none 0 0,.slice none 0 0,.string ⟨#[]⟩,.string ⟨#[]⟩]):=by kernel_rfl
theorem D0:hX prog 39 4=true:=by kernel_rfl
theorem KS:k3 prog 31 [(0,1),(1,1),(2,1),(3,1),(4,1)]=true:=by kernel_rfl
theorem QB:hB prog 31 5=true:=by kernel_rfl
theorem hQ:hX prog 31 5=true:=by kernel_rfl
theorem Lj:(prog.info? 4).bind (·.zero)=some (.bool false):=by kernel_rfl
theorem G0:(prog.info? 4).map (·.bytes)=some 1:=by kernel_rfl
theorem aaX:(prog.info? 168).bind (·.zero)=some (.agg #[.slice none 0 0,.slice none 0 0,.slice none 0 0,.string ⟨#[]⟩,.string ⟨#[]⟩,.slice none 0 0,.slice none 0 0,.slice none 0 0,.int .i64 0,.int .i64 0,.string ⟨#[]⟩,.int .i64 0,.int .i64 0]):=by kernel_rfl
theorem ZG:k3 prog 168 [(0,5),(5,1),(6,1),(7,1),(8,1),(9,1),(10,1),(11,1),(12,1)]=true:=by kernel_rfl
theorem Q0:(prog.info? 123).bind (·.zero)=some (.agg #[.int .i64 0,.string ⟨#[]⟩,.slice none 0 0,.int .i64 0]):=by kernel_rfl
theorem call73:gU prog 73=true:=by kernel_rfl
theorem Gw:(prog.info? 63).bind (·.zero)=some (.agg #[.string ⟨#[]⟩,.bool false,.int .i64 0,.int .i64 0]):=by kernel_rfl
theorem Qc:k3 prog 63 [(0,1),(1,1),(2,1),(3,1)]=true:=by kernel_rfl
theorem Q6:jI prog 9 1=true:=by kernel_rfl
theorem L5:jP prog 47 9 1 16=true:=by kernel_rfl
theorem call77:gU prog 77=true:=by kernel_rfl
theorem R_:hX prog 163 2=true:=by kernel_rfl
theorem Ub:iN prog 39 3 3 9=true:=by kernel_rfl
theorem Ag:fh prog 53 112 2=true:=by kernel_rfl
theorem wq:hX prog 112 2=true:=by kernel_rfl
theorem Lp:jI prog 112 2=true:=by kernel_rfl
theorem L6:jP prog 53 112 2 16=true:=by kernel_rfl
theorem Gs:(prog.info? 112).bind (·.zero)=some (.agg #[.int .i64 0,.int .i64 0]):=by kernel_rfl
theorem P_:k3 prog 112 [(0,1),(1,1)]=true:=by kernel_rfl
theorem ue:fh prog 32 56 2=true:=by kernel_rfl
theorem M8:iN prog 56 0 0 53=true:=by kernel_rfl
theorem MK:jQ prog 53=true:=by kernel_rfl
theorem Gv:(prog.info? 56).bind (·.zero)=some (.agg #[.slice none 0 0,.slice none 0 0]):=by kernel_rfl
theorem Qa:k3 prog 56 [(0,1),(1,1)]=true:=by kernel_rfl
theorem Q2:jI prog 56 2=true:=by kernel_rfl
theorem RU:jP prog 32 56 2 48=true:=by kernel_rfl
theorem Ek:iN prog 56 1 1 54=true:=by kernel_rfl
theorem ML:jQ prog 54=true:=by kernel_rfl
theorem Lk:(prog.info? 58).bind (·.zero)=some (.agg #[.int .i64 0,.int .i64 0]):=by kernel_rfl
theorem Qb:k3 prog 58 [(0,1),(1,1)]=true:=by kernel_rfl
theorem Q3:jI prog 58 2=true:=by kernel_rfl
theorem Qs:fh prog 54 58 2=true:=by kernel_rfl
theorem L7:jP prog 54 58 2 16=true:=by kernel_rfl
theorem QC:hB prog 54 1=true:=by kernel_rfl
theorem aaZ:(prog.info? 84).bind (·.zero)=some (.agg #[.int .i64 0,.int .i64 0,.int .i64 0,.bool false,.slice none 0 0]):=by kernel_rfl
theorem Mf:hX prog 84 5=true:=by kernel_rfl
theorem ZO:fh prog 22 23 1=true:=by kernel_rfl
theorem aa6:jI prog 23 1=true:=by kernel_rfl
theorem RT:jP prog 22 23 1 24=true:=by kernel_rfl
theorem call55:gU prog 55=true:=by kernel_rfl
theorem call56:gU prog 56=true:=by kernel_rfl
theorem call54:gU prog 54=true:=by kernel_rfl
theorem call57:gU prog 57=true:=by kernel_rfl
theorem JN:tP prog 151 .u64=true:=by kernel_rfl
theorem aaY:(prog.info? 3).bind (·.zero)=some (.int .i64 0):=by kernel_rfl
theorem Sm:(prog.info? 3).map (·.bytes)=some 8:=by kernel_rfl
theorem Ap:(prog.info? 43).bind (·.zero)=some (.agg #[.slice none 0 0,.slice none 0 0]):=by kernel_rfl
theorem GS:hX prog 56 2=true:=by kernel_rfl
theorem aaf:hB prog 56 2=true:=by kernel_rfl
theorem Sa:hX prog 58 2=true:=by kernel_rfl
theorem aaa:hB prog 22 1=true:=by kernel_rfl
theorem Ln:(prog.info? 86).bind (·.zero)=some (.agg #[.int .i64 0,.int .i64 0]):=by kernel_rfl
theorem Qt:fh prog 89 86 2=true:=by kernel_rfl
theorem Sn:(prog.info? 86).map (·.bytes)=some 16:=by kernel_rfl
theorem aa7:jI prog 89 1=true:=by kernel_rfl
theorem Qq:fh prog 41 89 1=true:=by kernel_rfl
theorem RX:jP prog 41 89 1 24=true:=by kernel_rfl
theorem aae:hB prog 41 1=true:=by kernel_rfl
theorem wu:hX prog 43 2=true:=by kernel_rfl
theorem K3:hB prog 43 2=true:=by kernel_rfl
theorem aag:hB prog 86 2=true:=by kernel_rfl
theorem GU:hX prog 86 2=true:=by kernel_rfl
theorem Tx:jQ prog 89=true:=by kernel_rfl
theorem Lo:(prog.info? 92).bind (·.zero)=some (.agg #[.int .i64 0,.int .i64 0,.int .i64 0,.int .i64 0]):=by kernel_rfl
theorem Qf:k3 prog 92 [(0,1),(1,1),(2,1),(3,1)]=true:=by kernel_rfl
theorem Q7:jI prog 92 4=true:=by kernel_rfl
theorem Qr:fh prog 44 92 4=true:=by kernel_rfl
theorem L4:jP prog 44 92 4 32=true:=by kernel_rfl
theorem call66:gU prog 66=true:=by kernel_rfl
theorem call67:gU prog 67=true:=by kernel_rfl
theorem call68:gU prog 68=true:=by kernel_rfl
theorem T2 (s:ByteArray) (c:Int) (w:World):(callFunc 132 [Value.string s,.int .u8 c].toArray).run prog w=.ok (.value (.int .i64 (firstIdx s c.toNat.toUInt8))) w:=by
 have aA:Extern.findNext Tryz.f132=none:=by kernel_rfl
 have he:Extern.find Tryz.f132=some Extern.BytealgIndexByte.indexByte:=by kernel_rfl
 rw [run_callFunc_extern func132 rfl rfl aA he];have:=run_indexByte_string (P:=prog) s c w;simp [this]
theorem Sd:hX prog 92 4=true:=by kernel_rfl
theorem aa0:(prog.info? 97).bind (·.zero)=some (.agg #[.pointer none,.slice none 0 0]):=by kernel_rfl
theorem call47:gU prog 47=true:=by kernel_rfl
theorem call40:gU prog 40=true:=by kernel_rfl
theorem call26:gU prog 26=true:=by kernel_rfl
theorem O4:liesAt prog prog.depth 99 (7 / prog.cellsOf 99) 5 97 1=true:=by kernel_rfl
theorem call42:gU prog 42=true:=by kernel_rfl
theorem aa1:(prog.info? 99).bind (·.zero)=some (.agg #[.slice none 0 0,.slice none 0 0,.slice none 0 0,.string ⟨#[]⟩,.string ⟨#[]⟩,.pointer none,.slice none 0 0]):=by kernel_rfl
theorem ZH:k3 prog 99 [(0,5),(5,2)]=true:=by kernel_rfl
theorem call24:gU prog 24=true:=by kernel_rfl
theorem ye:(prog.info? 101).bind (·.zero)=some (.agg #[.int .i64 0,.string ⟨#[]⟩]):=by kernel_rfl
theorem Ae:k3 prog 101 [(0,1),(1,1)]=true:=by kernel_rfl
theorem aa3:jI prog 101 2=true:=by kernel_rfl
theorem KV:fh prog 102 101 2=true:=by kernel_rfl
theorem R8:hX prog 101 2=true:=by kernel_rfl
theorem Z_:hB prog 101 2=true:=by kernel_rfl
theorem Db:k3 prog 65 [(0,4),(4,1),(5,1)]=true:=by kernel_rfl
theorem DB:jI prog 65 6=true:=by kernel_rfl
theorem Ll:(prog.info? 68).bind (·.zero)=some (.agg #[.slice none 0 0,.string ⟨#[]⟩,.bool false,.int .i64 0,.int .i64 0,.int .i64 0]):=by kernel_rfl
theorem Qd:k3 prog 68 [(0,1),(1,4),(5,1)]=true:=by kernel_rfl
theorem Lr:jI prog 68 6=true:=by kernel_rfl
theorem Qe:k3 prog 71 [(0,1),(1,1),(2,1)]=true:=by kernel_rfl
theorem Q5:jI prog 71 3=true:=by kernel_rfl
theorem Gu:(prog.info? 39).bind (·.zero)=some (.agg #[.string ⟨#[]⟩,.slice none 0 0,.slice none 0 0,.string ⟨#[]⟩]):=by kernel_rfl
theorem P':k3 prog 39 [(0,1),(1,1),(2,1),(3,1)]=true:=by kernel_rfl
theorem Q4:jI prog 63 4=true:=by kernel_rfl
theorem RS:jP prog 121 63 4 40=true:=by kernel_rfl
theorem Z':hB prog 121 1=true:=by kernel_rfl
theorem ZF:k3 prog 123 [(0,1),(1,1),(2,1),(3,1)]=true:=by kernel_rfl
theorem aa4:jI prog 123 4=true:=by kernel_rfl
theorem RV:jP prog 36 123 4 56=true:=by kernel_rfl
theorem RW:jP prog 37 71 3 48=true:=by kernel_rfl
theorem aac:hB prog 37 1=true:=by kernel_rfl
theorem GR:jP prog 66 65 6 64=true:=by kernel_rfl
theorem L8:jP prog 69 68 6 72=true:=by kernel_rfl
theorem QD:hB prog 69 1=true:=by kernel_rfl
theorem R':hX prog 25 5=true:=by kernel_rfl
theorem ZT {g:FuncId}{caps:List ab} [dp caps] (aL:gU prog g=true) {l r:List Item}{hh:Item->Item->Option Int}(h:vL hh l=some r) (aa:∀ a b v,hh a b=some v->bO prog g (.agg (c3.cells a)::.agg (c3.cells b)::caps) (none::none::caps.map λ_=>none) (ae v)):bO prog 66 [ar c3 l,.dc (.func g) [] caps] [some (ar c3 r),none] (.bI []):=bO.ZV (e:=c3) Tryz.ZW Tryz.isAgg112 Tryz.sizeOf112 aL h aa
theorem M0 (x y:Item):jS [Value.int .i64 x.Prod,Value.int .i64 x.cU] [Value.int .i64 y.Prod,Value.int .i64 y.cU]=decide (x=y):=by
 obtain ⟨aY,x2⟩:=x;obtain ⟨bV,y2⟩:=y;simp [jS,HF]
theorem HG:n4 prog 112 [.i .i64,.i .i64]=true:=by kernel_rfl
theorem S1 {l r:List Item}(h:yO l=some r):bO prog 68 [ar c3 l] [none] (ar c3 r):=by
 refine bO.S3 (e:=c3) (f:=68) ?_ (λw p cap=>S2 w p cap) h;intro w b cap d aw hH ao aa EB;have heq:∀ (x y:Item) (w:World),Sem.run prog (binOp .eql 112 (.agg #[Value.int .i64 x.Prod,Value.int .i64 x.cU]) (.agg #[Value.int .i64 y.Prod,Value.int .i64 y.cU])) w=.ok (.bool (decide (x=y))) w:=λx y w=>by
  rw [<- M0];exact Two.TY (xs:=[Value.int .i64 x.Prod,Value.int .i64 x.cU]) (bs:=[Value.int .i64 y.Prod,Value.int .i64 y.cU]) (sh:=[.i .i64,.i .i64]) rfl rfl HG w
 have cN:∀ (x y:Item) (w:World),Sem.run prog (binOp .neq 112 (.agg #[Value.int .i64 x.Prod,Value.int .i64 x.cU]) (.agg #[Value.int .i64 y.Prod,Value.int .i64 y.cU])) w=.ok (.bool (!decide (x=y))) w:=λx y w=>by
  rw [<- M0];exact Two.Yt (xs:=[Value.int .i64 x.Prod,Value.int .i64 x.cU]) (bs:=[Value.int .i64 y.Prod,Value.int .i64 y.cU]) (sh:=[.i .i64,.i .i64]) rfl rfl HG w
 have rv:∀ (op:BinOp) (p q:Operand) (x y:Item) (w:World),Sem.run prog (eqGuard op 112 p q (.agg #[Value.int .i64 x.Prod,Value.int .i64 x.cU]) (.agg #[Value.int .i64 y.Prod,Value.int .i64 y.cU])) w=.ok () w:=λop p q x y w=>Two.Uk (sh:=[.i .i64,.i .i64]) HG op p q _ _ w;exact S4 (λx:Item=>Value.int .i64 x.Prod) (λx:Item=>Value.int .i64 x.cU) (Two.one _) (Two.one _) heq cN rv rfl w b cap d aw hH ao aa EB
theorem Ud:iN prog 99 1 5 97=true:=by kernel_rfl
instance:wc prog 3 .i64:={}
instance:wc prog 105 .u64:={}
instance:wc prog 5 .u8:={}
instance:eI prog 95 5 1:={}
instance:iF prog 9:={}
instance:db prog 63 1 1 4:={}
instance:fE prog 4:={}
instance:db prog 63 0 0 9:={}
instance:fE prog 9:={}
instance:db prog 63 2 2 3:={}
instance:fE prog 3:={}
instance:db prog 123 0 0 3:={}
instance:db prog 123 2 2 121:={}
instance:fE prog 121:={}
instance:eI prog 121 63 4:={}
instance:db prog 123 1 1 9:={}
instance:kn prog 63 4:={}
instance:DG prog:={}
instance:db prog 68 0 0 66:={}
instance:fE prog 66:={}
instance:eI prog 66 65 6:={}
instance:kn prog 65 6:={}
instance:h7 prog 65 (.agg #[.string ⟨#[]⟩,.bool false,.int .i64 0,.int .i64 0,.string ⟨#[]⟩,.int .i64 0]):={}
instance:db prog 65 1 4 9:={}
instance:db prog 65 0 0 63:={}
instance:db prog 68 1 1 63:={}
instance:db prog 39 0 0 9:={}
instance:db prog 39 1 1 36:={}
instance:fE prog 36:={}
instance:eI prog 36 123 4:={}
instance:kn prog 123 4:={}
instance:db prog 39 2 2 37:={}
instance:fE prog 37:={}
instance:eI prog 37 71 3:={}
instance:kn prog 71 3:={}
instance:h7 prog 71 (.agg #[.string ⟨#[]⟩,.slice none 0 0,.int .i64 0]):={}
instance:db prog 71 0 0 9:={}
instance:db prog 71 1 1 69:={}
instance:fE prog 69:={}
instance:eI prog 69 68 6:={}
instance:kn prog 68 6:={}
instance:db prog 168 4 8 3:={}
instance:db prog 168 5 9 3:={}
instance:db prog 168 6 10 9:={}
instance:db prog 168 2 6 28:={}
instance:fE prog 28:={}
instance:eI prog 28 163 2:={}
instance:db prog 163 0 0 9:={}
instance:db prog 168 0 0 31:={}
instance:db prog 31 0 0 27:={}
instance:fE prog 27:={}
instance:eI prog 27 160 6:={}
instance:db prog 160 0 0 9:={}
instance:db prog 160 1 1 4:={}
instance:db prog 160 2 2 3:={}
instance:h7 prog 160 (.agg #[.string ⟨#[]⟩,.bool false,.int .i64 0,.int .i64 0,.int .i64 0,.string ⟨#[]⟩]):={}
instance:kH prog 160 [(0,1),(1,1),(2,1),(3,1),(4,1),(5,1)]:={}
instance:db prog 63 3 3 3:={}
instance:kn prog 160 6:={}
instance:ko prog 27 160 6 64:={}
instance:db prog 168 1 5 79:={}
instance:fE prog 79:={}
instance:eI prog 79 4 1:={}
instance:ko prog 79 4 1 1:={}
instance:h7 prog 163 (.agg #[.string ⟨#[]⟩,.string ⟨#[]⟩]):={}
instance:kH prog 163 [(0,1),(1,1)]:={}
instance:ko prog 28 163 2 32:={}
instance:db prog 163 1 1 9:={}
instance:db prog 160 3 3 3:={}
instance:db prog 168 7 11 3:={}
instance:db prog 160 4 4 3:={}
instance:db prog 160 5 5 9:={}
instance:db prog 168 3 7 47:={}
instance:fE prog 47:={}
instance:eI prog 47 9 1:={}
instance:db prog 68 2 5 3:={}
instance:h7 prog 145 (.agg #[.int .i64 0,.slice none 0 0,.int .i64 0,.string ⟨#[]⟩,.slice none 0 0,.int .i64 0]):={}
instance:kH prog 145 [(0,1),(1,1),(2,1),(3,1),(4,1),(5,1)]:={}
instance:db prog 145 1 1 23:={}
instance:fE prog 23:={}
instance:eI prog 23 3 1:={}
instance:ko prog 23 3 1 8:={}
instance:db prog 65 2 5 3:={}
instance:db prog 145 3 3 9:={}
instance:db prog 145 5 5 3:={}
instance:db prog 168 8 12 3:={}
instance:db prog 31 2 2 29:={}
instance:fE prog 29:={}
instance:eI prog 29 145 6:={}
instance:ko prog 29 145 6 88:={}
instance:db prog 145 2 2 3:={}
instance:db prog 145 4 4 23:={}
instance:kn prog 145 6:={}
instance:h7 prog 31 (.agg #[.slice none 0 0,.slice none 0 0,.slice none 0 0,.string ⟨#[]⟩,.string ⟨#[]⟩]):={}
instance:kn prog 39 4:={}
instance:kH prog 31 [(0,1),(1,1),(2,1),(3,1),(4,1)]:={}
instance:kn prog 31 5:={}
instance:h7 prog 4 (.bool false):={}
instance:yl prog 4 1:={}
instance:h7 prog 168 (.agg #[.slice none 0 0,.slice none 0 0,.slice none 0 0,.string ⟨#[]⟩,.string ⟨#[]⟩,.slice none 0 0,.slice none 0 0,.slice none 0 0,.int .i64 0,.int .i64 0,.string ⟨#[]⟩,.int .i64 0,.int .i64 0]):={}
instance:kH prog 168 [(0,5),(5,1),(6,1),(7,1),(8,1),(9,1),(10,1),(11,1),(12,1)]:={}
instance:h7 prog 123 (.agg #[.int .i64 0,.string ⟨#[]⟩,.slice none 0 0,.int .i64 0]):={}
instance:h7 prog 63 (.agg #[.string ⟨#[]⟩,.bool false,.int .i64 0,.int .i64 0]):={}
instance:kH prog 63 [(0,1),(1,1),(2,1),(3,1)]:={}
instance:db prog 71 2 2 3:={}
instance:ko prog 47 9 1 16:={}
instance:db prog 31 1 1 28:={}
instance:kn prog 163 2:={}
instance:db prog 39 3 3 9:={}
instance:db prog 31 3 3 9:={}
instance:db prog 31 4 4 9:={}
instance:eI prog 53 112 2:={}
instance:db prog 112 0 0 3:={}
instance:db prog 112 1 1 3:={}
instance:kn prog 112 2:={}
instance:ko prog 53 112 2 16:={}
instance:db prog 145 0 0 3:={}
instance:h7 prog 112 (.agg #[.int .i64 0,.int .i64 0]):={}
instance:kH prog 112 [(0,1),(1,1)]:={}
instance:eI prog 32 56 2:={}
instance:db prog 56 0 0 53:={}
instance:fE prog 53:={}
instance:h7 prog 56 (.agg #[.slice none 0 0,.slice none 0 0]):={}
instance:kH prog 56 [(0,1),(1,1)]:={}
instance:ko prog 32 56 2 48:={}
instance:db prog 56 1 1 54:={}
instance:fE prog 54:={}
instance:h7 prog 58 (.agg #[.int .i64 0,.int .i64 0]):={}
instance:kH prog 58 [(0,1),(1,1)]:={}
instance:eI prog 54 58 2:={}
instance:ko prog 54 58 2 16:={}
instance:db prog 58 0 0 3:={}
instance:db prog 58 1 1 3:={}
instance:db prog 84 4 4 23:={}
instance:db prog 84 2 2 3:={}
instance:db prog 84 3 3 4:={}
instance:h7 prog 84 (.agg #[.int .i64 0,.int .i64 0,.int .i64 0,.bool false,.slice none 0 0]):={}
instance:kH prog 84 [(0,1),(1,1),(2,1),(3,1),(4,1)]:={}
instance:eI prog 75 114 3:={}
instance:db prog 114 0 0 3:={}
instance:db prog 114 2 2 23:={}
instance:db prog 114 1 1 3:={}
instance:kn prog 84 5:={}
instance:eI prog 33 84 5:={}
instance:ko prog 33 84 5 56:={}
instance:eI prog 22 23 1:={}
instance:h7 prog 149 (.agg #[.int .i64 0,.int .i64 0]):={}
instance:kH prog 149 [(0,1),(1,1)]:={}
instance:eI prog 146 149 2:={}
instance:ko prog 146 149 2 16:={}
instance:db prog 149 0 0 3:={}
instance:db prog 149 1 1 3:={}
instance:ko prog 22 23 1 24:={}
instance:h7 prog 23 (.slice none 0 0):={}
instance:yl prog 23 24:={}
instance:h7 prog 114 (.agg #[.int .i64 0,.int .i64 0,.slice none 0 0]):={}
instance:kH prog 114 [(0,1),(1,1),(2,1)]:={}
instance:kn prog 114 3:={}
instance:ko prog 75 114 3 40:={}
instance:wc prog 180 .u32:={}
instance:wc prog 151 .u64:={}
instance:h7 prog 3 (.int .i64 0):={}
instance:yl prog 3 8:={}
instance:h7 prog 43 (.agg #[.slice none 0 0,.slice none 0 0]):={}
instance:kn prog 56 2:={}
instance:kn prog 58 2:={}
instance:db prog 43 1 1 22:={}
instance:fE prog 22:={}
instance:db prog 43 0 0 41:={}
instance:fE prog 41:={}
instance:h7 prog 86 (.agg #[.int .i64 0,.int .i64 0]):={}
instance:eI prog 89 86 2:={}
instance:yl prog 86 16:={}
instance:eI prog 41 89 1:={}
instance:ko prog 41 89 1 24:={}
instance:kn prog 43 2:={}
instance:kH prog 86 [(0,1),(1,1)]:={}
instance:kn prog 86 2:={}
instance:db prog 84 1 1 3:={}
instance:db prog 84 0 0 3:={}
instance:fE prog 89:={}
instance:h7 prog 92 (.agg #[.int .i64 0,.int .i64 0,.int .i64 0,.int .i64 0]):={}
instance:kH prog 92 [(0,1),(1,1),(2,1),(3,1)]:={}
instance:eI prog 44 92 4:={}
instance:ko prog 44 92 4 32:={}
instance:db prog 86 0 0 3:={}
instance:db prog 86 1 1 3:={}
instance:kn prog 92 4:={}
instance:db prog 92 2 2 3:={}
instance:h7 prog 97 (.agg #[.pointer none,.slice none 0 0]):={}
instance:db prog 99 1 5 97:={}
instance:db prog 99 0 0 31:={}
instance:db prog 92 0 0 3:={}
instance:db prog 92 1 1 3:={}
instance:db prog 92 3 3 3:={}
instance:h7 prog 99 (.agg #[.slice none 0 0,.slice none 0 0,.slice none 0 0,.string ⟨#[]⟩,.string ⟨#[]⟩,.pointer none,.slice none 0 0]):={}
instance:kH prog 99 [(0,5),(5,2)]:={}
instance:h7 prog 101 (.agg #[.int .i64 0,.string ⟨#[]⟩]):={}
instance:kH prog 101 [(0,1),(1,1)]:={}
instance:eI prog 102 101 2:={}
instance:kn prog 101 2:={}
instance:db prog 101 0 0 3:={}
instance:db prog 101 1 1 9:={}
instance:kH prog 65 [(0,4),(4,1),(5,1)]:={}
instance:h7 prog 68 (.agg #[.slice none 0 0,.string ⟨#[]⟩,.bool false,.int .i64 0,.int .i64 0,.int .i64 0]):={}
instance:kH prog 68 [(0,1),(1,4),(5,1)]:={}
instance:kH prog 71 [(0,1),(1,1),(2,1)]:={}
instance:h7 prog 39 (.agg #[.string ⟨#[]⟩,.slice none 0 0,.slice none 0 0,.string ⟨#[]⟩]):={}
instance:kH prog 39 [(0,1),(1,1),(2,1),(3,1)]:={}
instance:ko prog 121 63 4 40:={}
instance:kH prog 123 [(0,1),(1,1),(2,1),(3,1)]:={}
instance:ko prog 36 123 4 56:={}
instance:db prog 25 0 0 3:={}
instance:db prog 25 2 2 23:={}
instance:ko prog 37 71 3 48:={}
instance:db prog 25 1 1 22:={}
instance:ko prog 66 65 6 64:={}
instance:db prog 25 3 3 23:={}
instance:ko prog 69 68 6 72:={}
instance:db prog 25 4 4 4:={}
instance:kn prog 25 5:={}
instance:iZ prog 22 (List Int) (b4 aZ):={}
instance:iZ prog 23 Int aZ:={}
instance:iZ prog 27 Tok bN:={}
instance:iZ prog 28 e5 bq:={}
instance:iZ prog 29 Prod cj:={}
instance:iZ prog 33 Cell ij:={}
instance:iZ prog 37 fP jR:={}
instance:iZ prog 44 eW fz:={}
instance:iZ prog 47 ByteArray cH:={}
instance:iZ prog 53 Item c3:={}
instance:iZ prog 54 Move hG:={}
instance:iZ prog 66 Part f_:={}
instance:iZ prog 69 Alt fH:={}
instance:iZ prog 75 kJ rm:={}
instance:iZ prog 79 Bool cr:={}
instance:iZ prog 89 Act dJ:={}
instance:iZ prog 95 Int pE:={}
instance:iZ prog 102 _anon101 se:={}
instance:iZ prog 121 Sym dQ:={}
instance:iZ prog 146 Trans pD:={}
instance abv {a0:Int}{r:ByteArray}:bz prog 10 (nS a0=some r) [ae a0] [none] (aq r):=⟨λh=>by unfold nS at h; exact bO.bj (N:=⟨32,[]⟩) [0,2,3,4,8,16,28] (.dw [0,3] (λ(iU:Int)=>[(3,.lit (.int .u64 iU))]) .e (.fx (λ(ee:Int × ByteArray)=>[(3,.lit (.int .u64 ee.1)),(4,aq ee.2)]) [0,3,4] 0 (λ(bT:ByteArray)=>[(4,aq bT)]) [0,4] (.fg 5 [0,3,4,16] (λ(rj:Bool)=>[(16,bd rj)]) .e) .e)) func10 rfl rfl rfl rfl rfl dK⟩
instance abM {a0:Int}{r:Bool}:bz prog 136 (CA a0=some r) [mi a0] [none] (bd r):=⟨λh=>by unfold CA at h; exact bO.bj (N:=⟨21,[]⟩) [0,2] (.fg 1 [2] (λ(rj:Bool)=>[(2,bd rj)]) .e) func136 rfl rfl rfl rfl rfl dK⟩
instance abN {a0:Int}{r:Bool}:bz prog 137 (CB a0=some r) [mi a0] [none] (bd r):=⟨λh=>by unfold CB at h; exact bO.bj (N:=⟨9,[]⟩) [0,2] (.fg 1 [2] (λ(c2:Bool)=>[(2,bd c2)]) .e) func137 rfl rfl rfl rfl rfl dK⟩
instance abH {a0:ByteArray}{ax:Int}{r:Int}:bz prog 124 (Cz a0 ax=some r) [aq a0,ae ax] [none,none] (ae r):=⟨λh=>by unfold Cz at h; exact bO.bj (N:=⟨43,[]⟩) [0,1,4,5,39] (.fx (λ(s1:Int)=>[(5,ae s1)]) [0,1,5] 0 (λ(x2:Int)=>[(5,ae x2)]) [5] (.fg 2 [0,1,5,39] (λ(px:Bool)=>[(39,bd px)]) .e) .e) func124 rfl rfl rfl rfl rfl dK⟩
instance abx {a0:ByteArray}{r:Bool}:bz prog 102 (vv a0=some r) [aq a0] [none] (bd r):=⟨λh=>by unfold vv at h; exact bO.bj (N:=⟨18,[]⟩) [0,2] (.fg 1 [2] (λ(c4:Bool)=>[(2,bd c4)]) .e) func102 rfl rfl rfl rfl rfl dK⟩
instance abL {a0:Int}{r:Int × Bool}:bz prog 135 (zD a0=some r) [mi a0] [none] (.bI [mi r.1,bd r.2]):=⟨λh=>by unfold zD at h; exact bO.bj (N:=⟨21,[]⟩) [0,2,3,4,5,7,9,11] (.b .e (.b .e (.b .e (.dw [0,11] (λ(vo:Bool)=>[(11,bd vo)]) .e (.b .e (.fg 11 [2,3] (λ(pA:Int × Bool)=>[(2,mi pA.1),(3,bd pA.2)]) .e)))))) func135 rfl rfl rfl rfl rfl dK⟩
instance abG {a0:Sym}{ax:Bool}{a2:Bool}{r:Bool}:bz prog 123 (tY a0 ax a2=some r) [.agg (dQ.cells a0),bd ax,bd a2] [none,none,none] (bd r):=⟨λh=>by unfold tY at h; exact bO.bj (N:=⟨53,[]⟩) [1,2,3,6,8,10,23] (.b (.fg 2 [3,23] (λ(c4:Bool)=>[(23,bd c4)]) .e) (.fg 6 [6] (λ(px:Bool)=>[(6,bd px)]) .e)) func123 rfl rfl rfl rfl rfl dK⟩
instance abw {a0:Decl}{r:Bool}:bz prog 101 (xE a0=some r) [.agg (dN.cells a0)] [none] (bd r):=⟨λh=>by unfold xE at h; exact bO.bj (N:=⟨75,[]⟩) [1,2,3,54,59,74] (.fg 1 [1,54] (λ(te:Bool)=>[(54,bd te)]) (.b .e (.hx (λ(lq:Int)=>[(3,ae lq)]) [1,3] 0 (λ(fM:Unit)=>[]) [] (λ(hl:Bool)=>[(2,bd hl)]) [2] (.b (.rd 6 [[],[0],[],[0,1,2],[0,1,2,3],[],[5],[5,6],[],[8],[8,9],aN 0 11 [],aN 0 12 []] .e) .e) .e .e))) func101 rfl rfl rfl rfl rfl dK⟩
instance abI {a0:Sym}{r:Bool}:bz prog 125 (tZ a0=some r) [.agg (dQ.cells a0)] [none] (bd r):=⟨λh=>by unfold tZ at h; exact bO.bj (N:=⟨16,[]⟩) [1,2] (.fg 1 [2] (λ(kQ:Bool)=>[(2,bd kQ)]) .e) func125 rfl rfl rfl rfl rfl dK⟩
instance abQ {a0:ByteArray}{ax:Int}{a2:ByteArray}{r:Bool}:bz prog 140 (xH a0 ax a2=some r) [aq a0,ae ax,aq a2] [none,none,none] (bd r):=⟨λh=>by unfold xH at h; exact bO.bj (N:=⟨25,[]⟩) [0,1,2,6] (.fg 1 [6] (λ(kQ:Bool)=>[(6,bd kQ)]) .e) func140 rfl rfl rfl rfl rfl dK⟩
instance abO {a0:ByteArray}{ax:Int}{r:Int}:bz prog 138 (CC a0 ax=some r) [aq a0,ae ax] [none,none] (ae r):=⟨λh=>by unfold CC at h; exact bO.bj (N:=⟨114,[]⟩) [0,1,4,5,6,7,8,9,31,40,46,58,59,69,75,78,92,96,105,110] (.fg 1 [0,1,9] (λ(c4:Bool)=>[(9,bd c4)]) (.b (.hx (λ(c5:Int)=>[(5,ae c5)]) [0,1,5] 1 (λ(cq:Unit)=>[]) [] (λ(cz:Int)=>[(4,ae cz)]) [4] (.fg 3 [0,1,5,31] (λ(td:Bool)=>[(31,bd td)]) (.b (.rd 5 [[],[],[0,1],[],[],[3,4],aN 0 6 []] (.b .e (.b (.fg 9 [0,1,5,58] (λ(pz:Bool)=>[(58,bd pz)]) .e) .e))) .e)) .e .e) (.b (.hx (λ(Aa:Int)=>[(6,ae Aa)]) [0,6] 3 (λ(iD:Unit)=>[]) [] (λ(cy:Int)=>[(4,ae cy)]) [4] .e .e .e) (.b (.fx (λ(Ab:Int)=>[(7,ae Ab)]) [0,7] 5 (λ(iE:Int)=>[(7,ae iE)]) [7] (.fg 21 [0,7,92] (λ(Hh:Bool)=>[(92,bd Hh)]) .e) .e) (.b (.hx (λ(Ac:Int)=>[(8,ae Ac)]) [0,8] 7 (λ(vR:Unit)=>[]) [] (λ(qg:Int)=>[(4,ae qg)]) [4] .e .e .e) .e))))) func138 rfl rfl rfl rfl rfl dK⟩
instance abJ {a0:ByteArray}{ax:Int}{r:Int}:bz prog 126 (zB a0 ax=some r) [aq a0,ae ax] [none,none] (ae r):=⟨λh=>by unfold zB at h; exact bO.bj (N:=⟨53,[]⟩) [0,1,4,5,6,7,21,26,31,34,39,45,51] (.fg 1 [0,1,21] (λ(c4:Bool)=>[(21,bd c4)]) (.b .e (.hx (λ(c5:Int × Int)=>[(5,ae c5.1),(6,ae c5.2)]) [0,5,6] 0 (λ(cq:Unit)=>[]) [] (λ(cz:Int)=>[(4,ae cz)]) [4] (.b (.b .e (.b .e (.dw [0,5,6] (λ(vn:Int)=>[(5,ae vn)]) .e (.dw [0,5,6] (λ(E_:Int)=>[(5,ae E_)]) .e .e)))) .e) .e .e))) func126 rfl rfl rfl rfl rfl dK⟩
instance aby {a0:Alt}{r:Bool}:bz prog 103 (xF a0=some r) [.agg (fH.cells a0)] [none] (bd r):=⟨λh=>by unfold xF at h; exact bO.bj (N:=⟨54,[]⟩) [1,2,3,4,9,45] (.hx (λ(s1:Int)=>[(3,ae s1)]) [1,3] 0 (λ(a6:Unit)=>[]) [1] (λ(bT:Bool)=>[(2,bd bT)]) [2] (.b (.bR 5 [[],[0],[0,1],[0,1,2],[0,1,2,3],aN 0 5 [],aN 0 6 [],aN 0 7 [],aN 0 8 [],aN 0 9 [],aN 0 10 [],aN 0 11 [],aN 0 12 [],aN 0 13 [],aN 0 14 [],aN 0 15 [],aN 0 16 [],aN 0 17 [],aN 0 18 [],aN 0 19 [],aN 0 20 [],aN 0 21 [],aN 0 19 [],aN 0 19 [22],aN 0 19 [22,23],aN 0 25 [],aN 0 26 [],aN 0 27 [],aN 0 28 []] [1,3,45] (λ(ri:Bool)=>[(45,bd ri)]) .e) .e) (.fg 7 [2] (λ(yM:Bool)=>[(2,bd yM)]) .e) .e) func103 rfl rfl rfl rfl rfl dK⟩
instance acI {a0:Source}{r:Bool}:bz prog 72 (xP a0=some r) [.agg (ik.cells a0)] [none] (bd r):=⟨λh=>by unfold xP at h; exact bO.bj (N:=⟨77,[]⟩) [1,2,3,4,5,6,7,13,22,27,36,41,58,63,72] (.hx (λ(s1:Int)=>[(3,ae s1)]) [1,3] 0 (λ(a6:Unit)=>[]) [1] (λ(bT:Bool)=>[(2,bd bT)]) [2] .e (.hx (λ(ct:Int)=>[(4,ae ct)]) [1,4] 2 (λ(bY:Unit)=>[]) [1] (λ(dF:Bool)=>[(2,bd dF)]) [2] .e (.hx (λ(C9:Int)=>[(5,ae C9)]) [1,5] 4 (λ(eg:Unit)=>[]) [1] (λ(fM:Bool)=>[(2,bd fM)]) [2] (.b (.fg 15 [1,5,6,58] (λ(Hc:Bool)=>[(58,bd Hc)]) (.b .e (.hx (λ(C_:Int)=>[(7,ae C_)]) [1,5,6,7] 6 (λ(cy:Unit)=>[]) [1,5] (λ(eO:Bool)=>[(2,bd eO)]) [2] .e .e .e))) .e) .e .e) .e) .e) func72 rfl rfl rfl rfl rfl dK⟩
instance acK {a0:de}{ax:Int}{a2:ByteArray}{r:de}:bz prog 74 (nm a0 ax a2=some r) [.obj (dy.cells a0),ae ax,aq a2] [some (.obj [ar bN r.az.aX,ar bq r.az.bF,ar cj r.az.a8,aq r.az.ca,aq r.az.cm,ar cr r.cg,ar bq r.cx,ar cH r.bX,ae r.cM,ae r.c_,aq r.c8,ae r.b_,ae r.bU]),none,none] (.bI []):=⟨λh=>by unfold nm at h; exact bO.bj (N:=⟨22,[0]⟩) [0,1,2,10] (.dw [0] (λ(iU:de)=>[(0,.obj (dy.cells iU))]) .e .e) func74 rfl rfl rfl rfl rfl dK⟩
instance acO {a0:de}{ax:ByteArray}{r:Int}:bz prog 78 (zR a0 ax=some r) [.cL ([ay bN a0.az.aX,ay bq a0.az.bF,ay cj a0.az.a8,aq a0.az.ca,aq a0.az.cm,ay cr a0.cg,ay bq a0.cx,ay cH a0.bX,ae a0.cM,ae a0.c_,aq a0.c8,ae a0.b_,ae a0.bU]),aq ax] [none,none] (ae r):=⟨λh=>by unfold zR at h; exact bO.bj (N:=⟨26,[]⟩) [0,1,4,5,12,24] (.hx (λ(s1:Int)=>[(5,ae s1)]) [0,1,5] 0 (λ(a6:Unit)=>[]) [] (λ(bT:Int)=>[(4,ae bT)]) [4] .e .e .e) func78 rfl rfl rfl rfl rfl dK⟩
instance acL {a0:de}{ax:Sym}{r:Int}:bz prog 75 (ua a0 ax=some r) [.cL ([ay bN a0.az.aX,ay bq a0.az.bF,ay cj a0.az.a8,aq a0.az.ca,aq a0.az.cm,ay cr a0.cg,ay bq a0.cx,ay cH a0.bX,ae a0.cM,ae a0.c_,aq a0.c8,ae a0.b_,ae a0.bU]),.agg (dQ.cells ax)] [none,none] (ae r):=⟨λh=>by unfold ua at h; exact bO.bj (N:=⟨47,[]⟩) [0,3,4,5,13,45] (.hx (λ(s1:Int)=>[(5,ae s1)]) [0,3,5] 0 (λ(a6:Unit)=>[]) [] (λ(bT:Int)=>[(4,ae bT)]) [4] (.b (.bR 4 [[],[0],[0,1],[0,1,2],[0,1,2,3],[],aN 0 6 [],aN 0 7 [],aN 0 8 [],[],[9],aN 0 11 [],aN 0 12 [],aN 0 13 [],aN 0 14 [],aN 0 15 [],aN 0 16 [],aN 0 17 [],aN 0 13 [],aN 0 19 [],aN 0 20 [],aN 0 21 [],aN 0 13 [],aN 0 13 [22],aN 0 24 [],aN 0 25 [],aN 0 26 [],aN 0 27 [],aN 0 28 [],aN 0 29 []] [0,3,5,45] (λ(gT:Bool)=>[(45,bd gT)]) .e) .e) .e .e) func75 rfl rfl rfl rfl rfl dK⟩
instance abA {a0:de}{ax:Int}{r:Int}:bz prog 105 (vy a0 ax=some r) [.cL ([ay bN a0.az.aX,ay bq a0.az.bF,ay cj a0.az.a8,aq a0.az.ca,aq a0.az.cm,ay cr a0.cg,ay bq a0.cx,ay cH a0.bX,ae a0.cM,ae a0.c_,aq a0.c8,ae a0.b_,ae a0.bU]),ae ax] [none,none] (ae r):=⟨λh=>by unfold vy at h; exact bO.bj (N:=⟨28,[]⟩) [0,1,4,5,13,26] (.hx (λ(s1:Int)=>[(5,ae s1)]) [0,1,5] 0 (λ(a6:Unit)=>[]) [] (λ(bT:Int)=>[(4,ae bT)]) [4] .e .e .e) func105 rfl rfl rfl rfl rfl dK⟩
instance abz {a0:de}{ax:Sym}{r:Int × de}:bz prog 104 (vx a0 ax=some r) [.obj (dy.cells a0),.agg (dQ.cells ax)] [some (.obj [ar bN r.2.az.aX,ar bq r.2.az.bF,ar cj r.2.az.a8,aq r.2.az.ca,aq r.2.az.cm,ar cr r.2.cg,ar bq r.2.cx,ar cH r.2.bX,ae r.2.cM,ae r.2.c_,aq r.2.c8,ae r.2.b_,ae r.2.bU]),none] (ae r.1):=⟨λh=>by unfold vx at h; exact bO.bj (N:=⟨66,[0]⟩) [0,3,4,5,6,11,19,29] (.b .e (.dw [0,3,6] (λ(hU:de × Int)=>[(0,.obj (dy.cells hU.1)),(3006,ae hU.2)]) (.b (.dw [0,3,6] (λ(jY:de)=>[(0,.obj (dy.cells jY))]) .e .e) .e) (.rd 9 [[],[],[1],[1,2],[1,2,3],[1,2,3,4],[],[6],aN 1 7 [],aN 0 9 [],aN 0 10 [],aN 0 11 [],aN 0 12 []] (.rd 10 [[],[],[1],[1,2],[1,2,3],[],[5],[5,6],aN 1 7 [],aN 0 9 [],aN 0 10 [],aN 0 11 []] .e)))) func104 rfl rfl rfl rfl rfl dK⟩
theorem Hv (v:Value) (a0:de) (ax:Int) (a2:ByteArray) (r:de) (h:nm a0 ax a2=some r):bO prog 74 [.obj [.lit v,ar bq a0.az.bF,ar cj a0.az.a8,aq a0.az.ca,aq a0.az.cm,ar cr a0.cg,ar bq a0.cx,ar cH a0.bX,ae a0.cM,ae a0.c_,aq a0.c8,ae a0.b_,ae a0.bU],ae ax,aq a2] [some (.obj [.lit v,ar bq r.az.bF,ar cj r.az.a8,aq r.az.ca,aq r.az.cm,ar cr r.cg,ar bq r.cx,ar cH r.bX,ae r.cM,ae r.c_,aq r.c8,ae r.b_,ae r.bU]),none,none] (.bI []):=by
 unfold nm at h;refine bO.go (N:=⟨22,[0]⟩) func74 q q q q (W.fin ?_);refine W.st [(0,.obj [.lit v,ar bq a0.az.bF,ar cj a0.az.a8,aq a0.az.ca,aq a0.az.cm,ar cr a0.cg,ar bq a0.cx,ar cH a0.bX,ae a0.cM,ae a0.c_,aq a0.c8,ae a0.b_,ae a0.bU]),(1,ae ax),(2,aq a2)] ?_;refine W.cn [0,1,2,10] ?_;refine aG h λiU ag h=>W.eE [0] [(0,.obj [.lit v,ar bq iU.az.bF,ar cj iU.az.a8,aq iU.az.ca,aq iU.az.cm,ar cr iU.cg,ar bq iU.cx,ar cH iU.bX,ae iU.cM,ae iU.c_,aq iU.c8,ae iU.b_,ae iU.bU])] ?_ ?_
 ·clear h; have h:=ag; clear ag;refine W.cI h q (λhj h=>?_) (λhj h=>?_)
  ·refine W.bR [0] (aj (O.aW .z4)<|aj (O.aW .z4)<|aj (O.aW .z4)<|cf q<|cf q<|aj (O.dP .z5)<|aj O.y2<|aD.qb (G2:=[(0,_),(12,.ptr ⟨0,[]⟩ 0),(13,.ptr ⟨0,[]⟩ 0),(14,_),(15,_)]) (cs2:=[.lit v,ar bq a0.az.bF,ar cj a0.az.a8,aq a0.az.ca,aq a0.az.cm,ar cr a0.cg,ar bq a0.cx,ar cH a0.bX,ae 3,ae a0.c_,aq a0.c8,ae a0.b_,ae a0.bU]) q (.ptr q) (.k q) q Dn q q q q (.b q (.p q q q q q q (.p q q q q q q (.n q q (.n q q .nil)))))<|aj (O.dP .z5)<|aj O.y2<|aD.qb (G2:=[(0,_),(13,.ptr ⟨0,[]⟩ 0),(15,_)]) (cs2:=[.lit v,ar bq a0.az.bF,ar cj a0.az.a8,aq a0.az.ca,aq a0.az.cm,ar cr a0.cg,ar bq a0.cx,ar cH a0.bX,ae 3,ae ax,aq a0.c8,ae a0.b_,ae a0.bU]) q (.ptr q) (.lit q) q Dn q q q q (.b q (.p q q q q q q (.n q q .nil)))<|aj (O.dP .z5)<|aj O.y2<|aD.fI (bx.q4 [0])<|bH q) ?_;exact sm h ▸ aB.da
  ·exact W.cZ<|sm h ▸ aB.da
 exact sm h ▸ aB.fin (Fin.ro .nil q (xB (by kernel_rfl)) (.al q q (.no (.no .nil))) q (.inl q))
theorem To (a0:de) (ax:Decl) (a2:Sym) (r:de) (h:vE a0 ax a2=some r):bO prog 73 [.obj (dy.cells a0),.agg (dN.cells ax),.agg (dQ.cells a2)] [some (.obj [ar bN r.az.aX,ar bq r.az.bF,ar cj r.az.a8,aq r.az.ca,aq r.az.cm,ar cr r.cg,ar bq r.cx,ar cH r.bX,ae r.cM,ae r.c_,aq r.c8,ae r.b_,ae r.bU]),none,none] (.bI []):=by
 unfold vE at h;refine bO.go (N:=⟨152,[0]⟩) func73 q q q q (W.fin ?_);refine W.st [(0,.obj (dy.cells a0)),(1,.agg (dN.cells ax)),(2,.agg (dQ.cells a2))] ?_;refine W.cB [0,4,5] (aj (O.box (.eK q q) q)<|aj (O.box (.eK q q) q)<|bH q) ?_;refine W.bS<|W.cn [0,4,5,11] ?_;refine W.cI h q (λkv h=>?_) (λkv h=>?_)
 ·refine aG h λx2 gC h=>W.cB [0,4,5,6] (aj (O.aW .z4)<|aj O.bV<|aj O.ed<|gn (cF.rZ (ys:=[.ptr ⟨0,[]⟩ 0,aq a2.Name]) q (.c (View.nR q q) (.s .nil)) (bz.go gC))<|aD.bj) ?_;refine W.bS<|W.cn [0,4,5,6,17] ?_;refine aG h λhU ag h=>W.eE [0] [(0,.obj (dy.cells hU))] ?_ ?_
  ·clear h; have h:=ag; clear ag;refine W.cI h q (λnK h=>?_) (λnK h=>?_)
   ·refine aG h λcv rM h=>W.rd [[],[],[1],[1,2],[1,2,3],[],[5],[],[7],[5,6,7,8],aN 5 5 [],aN 1 10 [],aN 0 12 [],aN 0 13 [],aN 0 14 []] [(0,_)] gD (by kernel_rfl) (aO 0 (O.aW .z4)<|aO 1 (O.aW .z4)<|aO 2 (O.dP .z5)<|aO 3 O.y2<|aO 4 (O.dH (y:=.bo bq.z ⟨0,[6]⟩ a0.cx.length))<|aO 5 O.bV<|aO 6 O.ed<|aO 7 O.bV<|aO 8 O.ed<|aO 9 (O.e4 (cs:=[aq a2.Name,aq ax.Tag]) FX DA q q q)<|b8.hK 10 (x:=ay bq [(⟨a2.Name,ax.Tag⟩:e5)]) (O.bs (ys:=[.agg [aq a2.Name,aq ax.Tag]]) bq [(⟨a2.Name,ax.Tag⟩:e5)] x3 q q q q q q Gx q q) q q q q .none<|aO 11 (O.ap (en:=bq) (r:=cv) .dU q .z2 .i GQ q rM)<|aO 12 (O.dP .z5)<|aO 13 O.y2<|b8.jr 14 (bx.sp [0])<|b8.fin q q q (.n q .nil)) ?_;exact sm h ▸ aB.da
   ·refine W.bS<|aG h λbZ oe h=>W.rd [[],[0],[0,1],[0,1,2],[],aN 0 5 [],aN 0 6 [],aN 0 7 [],[],[8],aN 0 10 []] [(0,_),(5,_),(42,_)] gD (by kernel_rfl) (aO 0 (O.aW .z4)<|aO 1 (O.dP .z5)<|aO 2 O.y2<|aO 3 (O.dH (y:=.bo bq.z ⟨0,[6]⟩ a0.cx.length))<|aO 4 (O.aW (.lit q))<|aO 5 (O.gS (en:=bq) q .dU .a1 x3 oe q)<|aO 6 (O.j' (en:=bq) q .z5 M7 oe q q)<|aO 7 (O.kf (en:=bq) (x':=aq bZ.Tag) q .z5 wE oe q q)<|aO 8 O.bV<|aO 9 O.ed<|aO 10 (O.nk .a1 .a1)<|b8.fin q q q (sU q q q)) ?_;refine aB.bL<|aG h λjY ag h=>W.eE [0] [(0,.obj (dy.cells jY))] ?_ ?_
    ·clear h; have h:=ag; clear ag;refine W.cI h q (λVV h=>?_) (λVV h=>?_)
     ·refine aG h λcz qM h=>W.bR [0] (aj (O.aW .z4)<|aj O.bV<|aj O.ed<|aj O.bV<|aj O.ed<|aD.hR q (bx.call q q (fy.gM (G2:=[]) (A:=[]) (ys:=[.ptr ⟨0,[]⟩ 0,ae a2.At,aq a2.Name]) (args:=[.obj (dy.cells a0),ae a2.At,aq a2.Name]) (cs':=dy.cells cz) (k0:=0) q q q q (.b q (.n q (.n q .nil))) q (bz.go qM) call74 .nil q q .nil .nil q))<|bH q) ?_;exact sm h ▸ aB.da
     ·exact W.cZ<|sm h ▸ aB.da
    exact sm h ▸ aB.da
  exact aB.bL<|W.rt<|aB.lr<|sm h ▸ aB.fin (Fin.ro .nil q (xB (by kernel_rfl)) (.al q q (.no (.no .nil))) q (.inr q))
 ·refine W.cZ<|aB.bL<|aG h λbY rI h=>W.cB [0,4,5,7] (aj (O.aW .z4)<|aj (O.ff (cs':=dQ.cells a2) q .z4 yD q q)<|aD.hR q (bx.call q q (fy.gM (G2:=[(4,.obj (dN.cells ax)),(5,.obj (dQ.cells a2))]) (A:=[]) (ys:=[.ptr ⟨0,[]⟩ 0,.agg (dQ.cells a2)]) (args:=[.obj (dy.cells a0),.agg (dQ.cells a2)]) (cs':=dy.cells bY.2) (k0:=0) q q q q (.b q (.n q .nil)) q (bz.go rI) call104 (nu q q) q q (nu q q) .nil q))<|aD.bj) ?_;refine aG h λdF nc h=>W.rs [(0,_),(4,_),(5,_),(7,_),(8,.ptr ⟨0,[0]⟩ (bY.1.toNat * bN.z+0))] (aj (O.aW .z4)<|aj (O.dP .z5)<|aj O.y2<|aj O.y2<|aj (O.dH (y:=.bo bN.z ⟨0,[0]⟩ bY.2.az.aX.length))<|cf q<|aj (O.gS (en:=bN) q .dU .a1 F0 nc q)<|aj (O.dA .z5)<|iG (.n q (.n q (.n q (.n q (.r q (eo.el (en:=bN) q nc q) jD .nil)))))) ?_;refine W.bS<|W.rs [(0,_),(4,_),(5,_),(7,_),(8,.ptr ⟨0,[0]⟩ (bY.1.toNat * bN.z+0)),(61,_)] (aj O.bV<|aj O.ed<|aj (O.neq .a1 .b3)<|iG (.n q (.n q (.n q (.n q (.r q (eo.el (en:=bN) q nc q) jD (.n q .nil))))))) ?_;refine aG h λfe ag h=>W.eE [0,4,5,7,8] [(0,.obj (dy.cells fe))] ?_ ?_
  ·clear h; have h:=ag; clear ag;refine W.cI h q (λBk h=>?_) (λBk h=>?_)
   ·refine W.bS<|W.rs [(0,_),(4,_),(5,_),(7,_),(8,.ptr ⟨0,[0]⟩ (bY.1.toNat * bN.z+0)),(66,_)] (aj (O.aW .z5)<|aj (O.dP .z5)<|aj (O.j' (en:=bN) q .z5 M6 nc q q)<|aj (O.kf (en:=bN) (x':=ae dF.Level) q .z5 wD nc q q)<|aj (O.gtr .a1 .b3)<|iG (.n q (.n q (.n q (.n q (.r q (eo.el (en:=bN) q nc q) jD (.n q .nil))))))) ?_;refine aG h λc6 ag h=>W.eE [0,4,5,7,8] [(0,.obj (dy.cells c6))] ?_ ?_
    ·clear h; have h:=ag; clear ag;refine W.cI h q (λBl h=>?_) (λBl h=>?_)
     ·refine aG h λb' rJ h=>W.rx [(0,_),(4,_),(5,_),(7,_),(8,.ptr ⟨0,[0]⟩ (bY.1.toNat * bN.z+0))] (aj (O.aW .z4)<|aj O.bV<|aj O.ed<|aj O.bV<|aj O.ed<|aD.hR (G2:=[(8,.ptr ⟨0,[0]⟩ (bY.1.toNat * bN.z+0))]++[(72,.bI []),(0,.obj [ar bN bY.2.az.aX,ar bq b'.az.bF,ar cj b'.az.a8,aq b'.az.ca,aq b'.az.cm,ar cr b'.cg,ar bq b'.cx,ar cH b'.bX,ae b'.cM,ae b'.c_,aq b'.c8,ae b'.b_,ae b'.bU]),(4,.obj (dN.cells ax)),(5,.obj (dQ.cells a2)),(7,ae bY.1)]) q (bx.eh (r:=0) (k0:=0) (y:=ar bN bY.2.az.aX) (cs5:=[ar bN bY.2.az.aX,ar bq b'.az.bF,ar cj b'.az.a8,aq b'.az.ca,aq b'.az.cm,ar cr b'.cg,ar bq b'.cx,ar cH b'.bX,ae b'.cM,ae b'.c_,aq b'.c8,ae b'.b_,ae b'.bU]) (G1:=λv=>[(0,.obj [.lit v,ar bq bY.2.az.bF,ar cj bY.2.az.a8,aq bY.2.az.ca,aq bY.2.az.cm,ar cr bY.2.cg,ar bq bY.2.cx,ar cH bY.2.bX,ae bY.2.cM,ae bY.2.c_,aq bY.2.c8,ae bY.2.b_,ae bY.2.bU]),(4,.obj (dN.cells ax)),(5,.obj (dQ.cells a2)),(7,ae bY.1),(67,.ptr ⟨0,[]⟩ 0),(69,ae a2.At),(71,aq a2.Name)]) (G4:=λv=>[(72,.bI []),(0,.obj [.lit v,ar bq b'.az.bF,ar cj b'.az.a8,aq b'.az.ca,aq b'.az.cm,ar cr b'.cg,ar bq b'.cx,ar cH b'.bX,ae b'.cM,ae b'.c_,aq b'.c8,ae b'.b_,ae b'.bU]),(4,.obj (dN.cells ax)),(5,.obj (dQ.cells a2)),(7,ae bY.1)]) (c4:=λv=>[.lit v,ar bq b'.az.bF,ar cj b'.az.a8,aq b'.az.ca,aq b'.az.cm,ar cr b'.cg,ar bq b'.cx,ar cH b'.bX,ae b'.cM,ae b'.c_,aq b'.c8,ae b'.b_,ae b'.bU]) (G5:=[(72,.bI []),(0,.obj [ar bN bY.2.az.aX,ar bq b'.az.bF,ar cj b'.az.a8,aq b'.az.ca,aq b'.az.cm,ar cr b'.cg,ar bq b'.cx,ar cH b'.bX,ae b'.cM,ae b'.c_,aq b'.c8,ae b'.b_,ae b'.bU]),(4,.obj (dN.cells ax)),(5,.obj (dQ.cells a2)),(7,ae bY.1)]) (A:=[(8,.ptr ⟨0,[0]⟩ (bY.1.toNat * bN.z+0))]) q q q q (λv=>(.b q (.n q q (.n q q (.n q q (.p q q q q q q (.n q q (.n q q .nil)))))))) (λv=>fy.gM (G2:=[(4,.obj (dN.cells ax)),(5,.obj (dQ.cells a2)),(7,ae bY.1)]) (A:=[]) (ys:=[.ptr ⟨0,[]⟩ 0,ae a2.At,aq a2.Name]) (args:=[.obj [.lit v,ar bq bY.2.az.bF,ar cj bY.2.az.a8,aq bY.2.az.ca,aq bY.2.az.cm,ar cr bY.2.cg,ar bq bY.2.cx,ar cH bY.2.bX,ae bY.2.cM,ae bY.2.c_,aq bY.2.c8,ae bY.2.b_,ae bY.2.bU],ae a2.At,aq a2.Name]) (cs':=[.lit v,ar bq b'.az.bF,ar cj b'.az.a8,aq b'.az.ca,aq b'.az.cm,ar cr b'.cg,ar bq b'.cx,ar cH b'.bX,ae b'.cM,ae b'.c_,aq b'.c8,ae b'.b_,ae b'.bU]) (k0:=0) q q q q (.b q (.n q (.n q .nil))) q (Hv v bY.2 a2.At a2.Name _ rJ) call74 (sU q q q) q q (sU q q q) .nil q) (λv=>q) (λv=>q) (λv=>q) (λv=>(.n q q (.b q (.n q q (.n q q (.n q q .nil)))))) q (.c (en:=bN) (L:=bY.2.az.aX) q q nc q q q .nil))<|iG (.n q (.n q (.n q (.n q (.r q (eo.el (en:=bN) q nc q) jD .nil)))))) ?_;exact sm h ▸ aB.dw (.n q (.n q (.n q (.n q (.r q (eo.el (en:=bN) q nc q) jD .nil)))))
     ·exact W.cZ<|sm h ▸ aB.dw (.n q (.n q (.n q (.n q (.r q (eo.el (en:=bN) q nc q) jD .nil)))))
    refine aG h λbE jx h=>aB.bL<|W.rd [[],[],[],[2],[2,3],[2,3,4],[],[6],[6,7],[0,2,3,4,5],[0,2,3,4,5,9],[0,2,3,4,5,9,10],aN 0 12 [],aN 0 13 [],aN 0 14 []] [(0,_),(4,_),(5,_),(7,_),(8,.ptr ⟨0,[0]⟩ (bY.1.toNat * bN.z+0))] gD (by kernel_rfl) (aO 0 (O.aW .z5)<|aO 1 (O.aW .z5)<|aO 2 (O.aW .z4)<|aO 3 (O.dP .z5)<|aO 4 O.y2<|aO 5 O.ed<|aO 6 O.bV<|aO 7 O.ed<|aO 8 (O.sub .a1 .b3)<|aO 9 (O.dP .z5)<|aO 10 (O.j' (en:=bN) q .z5 M6 jx q q)<|b8.e4 11 (G2:=[(0,.obj [ar bN (c6.az.aX.set bY.1.toNat (⟨bE.Name,bE.Lit,bE.bW,c6.b_,bE.e2,bE.Tag⟩:Tok)),ar bq c6.az.bF,ar cj c6.az.a8,aq c6.az.ca,aq c6.az.cm,ar cr c6.cg,ar bq c6.cx,ar cH c6.bX,ae c6.cM,ae c6.c_,aq c6.c8,ae c6.b_,ae c6.bU]),(4,.obj (dN.cells ax)),(5,.obj (dQ.cells a2)),(7,ae bY.1),(8,.ptr ⟨0,[0]⟩ (bY.1.toNat * bN.z+0))]) (U:=[(8,81,some (ae (aS (ax.Kind - 1)))),(7,80,some (ae ax.Kind)),(6,79,some (.ptr ⟨4,[]⟩ 0)),(1,74,some (.ptr ⟨0,[0]⟩ (bY.1.toNat * bN.z+0)))]) (pe.v (bx.oL (bx.x5 (en:=bN) (y2:=(⟨bE.Name,bE.Lit,bE.bW,c6.b_,bE.e2,bE.Tag⟩:Tok)) (cs':=[ae c6.b_]) (x2:=.obj [ar bN (c6.az.aX.set bY.1.toNat (⟨bE.Name,bE.Lit,bE.bW,c6.b_,bE.e2,bE.Tag⟩:Tok)),ar bq c6.az.bF,ar cj c6.az.a8,aq c6.az.ca,aq c6.az.cm,ar cr c6.cg,ar bq c6.cx,ar cH c6.bX,ae c6.cM,ae c6.c_,aq c6.c8,ae c6.b_,ae c6.bU]) q q (.ptr q) (.lit q) q jx Dn q q q q q q q (.b q (.n q q (.n q q (.n q q (.e q q (.mk (en:=bN) q jx q (nO jx) q) q .nil)))))))) q q (by kernel_rfl) q q q (.c (.inr (.inl ⟨_,q⟩)) q q q q q (gm.wanted .none) (O.sub .a1 .b3) (.c (.inr (.inl ⟨_,q⟩)) q q q q q (gm.wanted .none) (O.o2 q .z5 wD q) (.c (.inr (.inr (.inr (.inl ⟨4,_,_,q,q,iV q,by simp,_,q,iV q⟩)))) q q q q q (gm.wanted .none) (O.mT q .z4 T7 q) (.c (.inr (.inr (.inl ⟨8,_,_,q,q,q,by simp⟩))) q q q q q (gm.wanted .none) (O.aW .z5) .nil)))) (by kernel_rfl)<|aO 12 (O.dP .z5)<|aO 13 (O.j' (en:=bN) q .z5 T8 (nO jx) q q)<|b8.jr 14 (G2:=[(0,.obj [ar bN ((c6.az.aX.set bY.1.toNat (⟨bE.Name,bE.Lit,bE.bW,c6.b_,bE.e2,bE.Tag⟩:Tok)).set bY.1.toNat (⟨(⟨bE.Name,bE.Lit,bE.bW,c6.b_,bE.e2,bE.Tag⟩:Tok).Name,(⟨bE.Name,bE.Lit,bE.bW,c6.b_,bE.e2,bE.Tag⟩:Tok).Lit,(⟨bE.Name,bE.Lit,bE.bW,c6.b_,bE.e2,bE.Tag⟩:Tok).bW,(⟨bE.Name,bE.Lit,bE.bW,c6.b_,bE.e2,bE.Tag⟩:Tok).Level,aS (ax.Kind - 1),(⟨bE.Name,bE.Lit,bE.bW,c6.b_,bE.e2,bE.Tag⟩:Tok).Tag⟩:Tok)),ar bq c6.az.bF,ar cj c6.az.a8,aq c6.az.ca,aq c6.az.cm,ar cr c6.cg,ar bq c6.cx,ar cH c6.bX,ae c6.cM,ae c6.c_,aq c6.c8,ae c6.b_,ae c6.bU]),(4,.obj (dN.cells ax)),(5,.obj (dQ.cells a2)),(7,ae bY.1),(8,.ptr ⟨0,[0]⟩ (bY.1.toNat * bN.z+0))]) (bx.x5 (en:=bN) (y2:=(⟨(⟨bE.Name,bE.Lit,bE.bW,c6.b_,bE.e2,bE.Tag⟩:Tok).Name,(⟨bE.Name,bE.Lit,bE.bW,c6.b_,bE.e2,bE.Tag⟩:Tok).Lit,(⟨bE.Name,bE.Lit,bE.bW,c6.b_,bE.e2,bE.Tag⟩:Tok).bW,(⟨bE.Name,bE.Lit,bE.bW,c6.b_,bE.e2,bE.Tag⟩:Tok).Level,aS (ax.Kind - 1),(⟨bE.Name,bE.Lit,bE.bW,c6.b_,bE.e2,bE.Tag⟩:Tok).Tag⟩:Tok)) (cs':=[ae (aS (ax.Kind - 1))]) (x2:=.obj [ar bN ((c6.az.aX.set bY.1.toNat (⟨bE.Name,bE.Lit,bE.bW,c6.b_,bE.e2,bE.Tag⟩:Tok)).set bY.1.toNat (⟨(⟨bE.Name,bE.Lit,bE.bW,c6.b_,bE.e2,bE.Tag⟩:Tok).Name,(⟨bE.Name,bE.Lit,bE.bW,c6.b_,bE.e2,bE.Tag⟩:Tok).Lit,(⟨bE.Name,bE.Lit,bE.bW,c6.b_,bE.e2,bE.Tag⟩:Tok).bW,(⟨bE.Name,bE.Lit,bE.bW,c6.b_,bE.e2,bE.Tag⟩:Tok).Level,aS (ax.Kind - 1),(⟨bE.Name,bE.Lit,bE.bW,c6.b_,bE.e2,bE.Tag⟩:Tok).Tag⟩:Tok)),ar bq c6.az.bF,ar cj c6.az.a8,aq c6.az.ca,aq c6.az.cm,ar cr c6.cg,ar bq c6.cx,ar cH c6.bX,ae c6.cM,ae c6.c_,aq c6.c8,ae c6.b_,ae c6.bU]) q q (.ptr q) (.lit q) q (nO jx) Dn q q q q q q q (.b q (.n q q (.n q q (.n q q (.e q q (.mk (en:=bN) q (nO jx) q (nO (nO jx)) q) q .nil))))))<|b8.fin q q q (.n q (.n q (.n q (.n q (.r q (eo.el (en:=bN) q (nO (nO jx)) q) jD .nil)))))) ?_;exact sm h ▸ aB.dw (.n q (.n q (.n q (.n q (.r q (eo.el (en:=bN) q (nO (nO jx)) q) jD .nil)))))
   ·exact W.cZ<|sm h ▸ aB.dw (.n q (.n q (.n q (.n q (.r q (eo.el (en:=bN) q nc q) jD .nil)))))
  refine aG h λeg kc h=>aB.bL<|W.bS<|W.rs [(0,_),(4,_),(5,_),(7,_),(8,.ptr ⟨0,[0]⟩ (bY.1.toNat * bN.z+0)),(88,_)] (aj O.bV<|aj O.ed<|aj (O.gtr .a1 .b3)<|iG (.n q (.n q (.n q (.n q (.r q (eo.el (en:=bN) q kc q) jD (.n q .nil))))))) ?_;refine aG h λeM ag h=>W.eE [0,4,5,8] [(0,.obj (dy.cells eM))] ?_ ?_
  ·clear h; have h:=ag; clear ag;refine W.cI h q (λwO h=>?_) (λwO h=>?_)
   ·refine W.bS<|aG h λHd ag h=>W.ll [0,4,5,7,8,106] [(106,bd Hd)] ?_ ?_
    ·refine cf q<|aj (O.eql .a1 .b3)<|aj (O.aW (.lit q)) ?_;rcases gQ ag with ⟨lb,ag⟩ | ⟨lb,ag⟩
     ·exact sm ag ▸ (gy lb<|gy lb<|gy lb<|gy lb<|gy lb<|gy lb<|gy lb<|aj (O.jm .a1 lb .b3)<|cf q<|gy q<|gy q<|gy q<|gy q<|gy q<|aj (O.jm .a1 q .b3)<|iG (.n q (.n q (.n q (.n q (.r q (eo.el (en:=bN) q kc q) jD (.n q .nil)))))))
     ·refine bJ lb (O.aW .z4)<|bJ lb (O.dP .z5)<|bJ lb O.y2<|bJ lb (O.dH (y:=.bo cr.z ⟨0,[5]⟩ fe.cg.length))<|bJ lb (O.aW (.lit q)) ?_;refine aG ag λgw xe ag=>bJ lb (O.gS (en:=cr) q .dU .a1 q1 xe q)<|bJ lb (O.kf (en:=cr) (x':=bd gw) q .z5 AZ xe q q)<|aj (O.nn .a1 lb .a1)<|aj (O.aW (.lit q)) ?_;rcases gQ ag with ⟨mY,ag⟩ | ⟨mY,ag⟩
      ·exact sm ag ▸ (gy mY<|gy mY<|gy mY<|gy mY<|gy mY<|aj (O.jm .a1 mY .b3)<|iG (.n q (.n q (.n q (.n q (.r q (eo.el (en:=bN) q kc q) jD (.n q .nil)))))))
      ·refine bJ mY (O.aW .z4)<|bJ mY O.bV<|bJ mY O.ed ?_;exact aG ag λhf rK ag=>sm ag ▸ (aD.c (cF.rZ (ys:=[.ptr ⟨0,[]⟩ 0,ae a2.bW]) q (.c (View.nR q q) (.s .nil)) (bz.go rK)) q q (.oB q q mY)<|bJ mY (O.geq .a1 .b3)<|aj (O.nn .a1 mY .a1)<|iG (.n q (.n q (.n q (.n q (.r q (eo.el (en:=bN) q kc q) jD (.n q .nil)))))))
    refine aG h λdE ag h=>W.eE [0,4,5,7,8] [(0,.obj (dy.cells dE))] ?_ ?_
    ·clear h; have h:=ag; clear ag;refine W.cI h q (λIs h=>?_) (λIs h=>?_)
     ·refine aG h λcy xg h=>W.rx [(0,_),(4,_),(5,_),(7,_),(8,.ptr ⟨0,[0]⟩ (bY.1.toNat * bN.z+0))] (aj (O.aW .z4)<|aj O.bV<|aj O.ed<|aj O.bV<|aj O.ed<|aD.hR (G2:=[(8,.ptr ⟨0,[0]⟩ (bY.1.toNat * bN.z+0))]++[(112,.bI []),(0,.obj [ar bN fe.az.aX,ar bq cy.az.bF,ar cj cy.az.a8,aq cy.az.ca,aq cy.az.cm,ar cr cy.cg,ar bq cy.cx,ar cH cy.bX,ae cy.cM,ae cy.c_,aq cy.c8,ae cy.b_,ae cy.bU]),(4,.obj (dN.cells ax)),(5,.obj (dQ.cells a2)),(7,ae bY.1)]) q (bx.eh (r:=0) (k0:=0) (y:=ar bN fe.az.aX) (cs5:=[ar bN fe.az.aX,ar bq cy.az.bF,ar cj cy.az.a8,aq cy.az.ca,aq cy.az.cm,ar cr cy.cg,ar bq cy.cx,ar cH cy.bX,ae cy.cM,ae cy.c_,aq cy.c8,ae cy.b_,ae cy.bU]) (G1:=λv=>[(0,.obj [.lit v,ar bq fe.az.bF,ar cj fe.az.a8,aq fe.az.ca,aq fe.az.cm,ar cr fe.cg,ar bq fe.cx,ar cH fe.bX,ae fe.cM,ae fe.c_,aq fe.c8,ae fe.b_,ae fe.bU]),(4,.obj (dN.cells ax)),(5,.obj (dQ.cells a2)),(7,ae bY.1),(107,.ptr ⟨0,[]⟩ 0),(109,ae a2.At),(111,aq a2.Name)]) (G4:=λv=>[(112,.bI []),(0,.obj [.lit v,ar bq cy.az.bF,ar cj cy.az.a8,aq cy.az.ca,aq cy.az.cm,ar cr cy.cg,ar bq cy.cx,ar cH cy.bX,ae cy.cM,ae cy.c_,aq cy.c8,ae cy.b_,ae cy.bU]),(4,.obj (dN.cells ax)),(5,.obj (dQ.cells a2)),(7,ae bY.1)]) (c4:=λv=>[.lit v,ar bq cy.az.bF,ar cj cy.az.a8,aq cy.az.ca,aq cy.az.cm,ar cr cy.cg,ar bq cy.cx,ar cH cy.bX,ae cy.cM,ae cy.c_,aq cy.c8,ae cy.b_,ae cy.bU]) (G5:=[(112,.bI []),(0,.obj [ar bN fe.az.aX,ar bq cy.az.bF,ar cj cy.az.a8,aq cy.az.ca,aq cy.az.cm,ar cr cy.cg,ar bq cy.cx,ar cH cy.bX,ae cy.cM,ae cy.c_,aq cy.c8,ae cy.b_,ae cy.bU]),(4,.obj (dN.cells ax)),(5,.obj (dQ.cells a2)),(7,ae bY.1)]) (A:=[(8,.ptr ⟨0,[0]⟩ (bY.1.toNat * bN.z+0))]) q q q q (λv=>(.b q (.n q q (.n q q (.n q q (.p q q q q q q (.n q q (.n q q .nil)))))))) (λv=>fy.gM (G2:=[(4,.obj (dN.cells ax)),(5,.obj (dQ.cells a2)),(7,ae bY.1)]) (A:=[]) (ys:=[.ptr ⟨0,[]⟩ 0,ae a2.At,aq a2.Name]) (args:=[.obj [.lit v,ar bq fe.az.bF,ar cj fe.az.a8,aq fe.az.ca,aq fe.az.cm,ar cr fe.cg,ar bq fe.cx,ar cH fe.bX,ae fe.cM,ae fe.c_,aq fe.c8,ae fe.b_,ae fe.bU],ae a2.At,aq a2.Name]) (cs':=[.lit v,ar bq cy.az.bF,ar cj cy.az.a8,aq cy.az.ca,aq cy.az.cm,ar cr cy.cg,ar bq cy.cx,ar cH cy.bX,ae cy.cM,ae cy.c_,aq cy.c8,ae cy.b_,ae cy.bU]) (k0:=0) q q q q (.b q (.n q (.n q .nil))) q (Hv v fe a2.At a2.Name _ xg) call74 (sU q q q) q q (sU q q q) .nil q) (λv=>q) (λv=>q) (λv=>q) (λv=>(.n q q (.b q (.n q q (.n q q (.n q q .nil)))))) q (.c (en:=bN) (L:=fe.az.aX) q q kc q q q .nil))<|iG (.n q (.n q (.n q (.n q (.r q (eo.el (en:=bN) q kc q) jD .nil)))))) ?_;exact sm h ▸ aB.dw (.n q (.n q (.n q (.n q (.r q (eo.el (en:=bN) q kc q) jD .nil)))))
     ·exact W.cZ<|sm h ▸ aB.dw (.n q (.n q (.n q (.n q (.r q (eo.el (en:=bN) q kc q) jD .nil)))))
    refine aG h λeO qK h=>aB.bL<|W.rs [(0,_),(4,_),(5,_),(7,_),(8,.ptr ⟨0,[0]⟩ (bY.1.toNat * bN.z+0))] (aj (O.aW .z5)<|aj O.bV<|aj O.ed<|aj (O.dP .z5)<|aj (O.j' (en:=bN) q .z5 M5 qK q q)<|aD.hR (G2:=[(0,.obj [ar bN (dE.az.aX.set bY.1.toNat (⟨eO.Name,eO.Lit,a2.bW,eO.Level,eO.e2,eO.Tag⟩:Tok)),ar bq dE.az.bF,ar cj dE.az.a8,aq dE.az.ca,aq dE.az.cm,ar cr dE.cg,ar bq dE.cx,ar cH dE.bX,ae dE.cM,ae dE.c_,aq dE.c8,ae dE.b_,ae dE.bU]),(4,.obj (dN.cells ax)),(5,.obj (dQ.cells a2)),(7,ae bY.1),(8,.ptr ⟨0,[0]⟩ (bY.1.toNat * bN.z+0))]) q (bx.x5 (en:=bN) (y2:=(⟨eO.Name,eO.Lit,a2.bW,eO.Level,eO.e2,eO.Tag⟩:Tok)) (cs':=[ae a2.bW]) (x2:=.obj [ar bN (dE.az.aX.set bY.1.toNat (⟨eO.Name,eO.Lit,a2.bW,eO.Level,eO.e2,eO.Tag⟩:Tok)),ar bq dE.az.bF,ar cj dE.az.a8,aq dE.az.ca,aq dE.az.cm,ar cr dE.cg,ar bq dE.cx,ar cH dE.bX,ae dE.cM,ae dE.c_,aq dE.c8,ae dE.b_,ae dE.bU]) q q (.ptr q) (.lit q) q qK Dn q q q q q q q (.b q (.n q q (.n q q (.n q q (.e q q (.mk (en:=bN) q qK q (nO qK) q) q .nil))))))<|iG (.n q (.n q (.n q (.n q (.r q (eo.el (en:=bN) q (nO qK) q) jD .nil)))))) ?_;refine aG h λhC ve h=>W.rx [(0,_),(4,_),(5,_),(8,.ptr ⟨0,[0]⟩ (bY.1.toNat * bN.z+0))] (aj (O.aW .z4)<|aj (O.dP .z5)<|aj O.y2<|aj (O.dH (y:=.bo cr.z ⟨0,[5]⟩ dE.cg.length))<|cf q<|aj (O.gS (en:=cr) q .dU .a1 q1 ve q)<|aD.hR (G2:=[(0,.obj [ar bN (dE.az.aX.set bY.1.toNat (⟨eO.Name,eO.Lit,a2.bW,eO.Level,eO.e2,eO.Tag⟩:Tok)),ar bq dE.az.bF,ar cj dE.az.a8,aq dE.az.ca,aq dE.az.cm,ar cr (dE.cg.set bY.1.toNat true),ar bq dE.cx,ar cH dE.bX,ae dE.cM,ae dE.c_,aq dE.c8,ae dE.b_,ae dE.bU]),(4,.obj (dN.cells ax)),(5,.obj (dQ.cells a2)),(8,.ptr ⟨0,[0]⟩ (bY.1.toNat * bN.z+0))]) q (bx.x5 (en:=cr) (y2:=true) (cs':=[bd true]) (x2:=.obj [ar bN (dE.az.aX.set bY.1.toNat (⟨eO.Name,eO.Lit,a2.bW,eO.Level,eO.e2,eO.Tag⟩:Tok)),ar bq dE.az.bF,ar cj dE.az.a8,aq dE.az.ca,aq dE.az.cm,ar cr (dE.cg.set bY.1.toNat true),ar bq dE.cx,ar cH dE.bX,ae dE.cM,ae dE.c_,aq dE.c8,ae dE.b_,ae dE.bU]) q q (.ptr q) (.k q) q ve aad q q q q q q q (.b q (.n q q (.n q q (.e q q (.mk (en:=bN) q (nO qK) q (nO qK) q) q .nil)))))<|iG (.n q (.n q (.n q (.r q (eo.el (en:=bN) q (nO qK) q) jD .nil))))) ?_;exact sm h ▸ aB.dw (.n q (.n q (.n q (.r q (eo.el (en:=bN) q (nO qK) q) jD .nil))))
   ·exact W.cZ<|sm h ▸ aB.dw (.n q (.n q (.n q (.r q (eo.el (en:=bN) q kc q) jD .nil))))
  refine aG h λqf pW h=>aB.bL<|W.rs [(0,_),(4,_),(5,_),(8,.ptr ⟨0,[0]⟩ (bY.1.toNat * bN.z+0)),(126,_)] (aj O.bV<|aj O.ed<|aj (O.nk .a1 .b3)<|iG (.n q (.n q (.n q (.r q (eo.el (en:=bN) q pW q) jD (.n q .nil)))))) ?_;refine aG h λo0 ag h=>W.eE [0] [(0,.obj (dy.cells o0))] ?_ ?_
  ·clear h; have h:=ag; clear ag;refine W.cI h q (λmZ h=>?_) (λmZ h=>?_)
   ·refine W.bS<|W.bS<|aG h λtf ag h=>W.rd [[],[0],[0,1],[0,1,2],[0,1,2,3],aN 0 5 [],aN 0 6 [],aN 0 7 [],aN 0 8 [],aN 0 9 [],aN 0 6 [],aN 0 6 [10],aN 0 12 [],aN 0 13 []] [(0,.obj (dy.cells eM)),(4,.obj (dN.cells ax)),(5,.obj (dQ.cells a2)),(8,.ptr ⟨0,[0]⟩ (bY.1.toNat * bN.z+0)),(140,bd tf)] gD (by kernel_rfl) ?_ ?_
    ·refine aO 0 (O.aW .z5)<|aO 1 (O.dP .z5)<|aO 2 (O.j' (en:=bN) q .z5 HI pW q q)<|aO 3 (O.kf (en:=bN) (x':=aq qf.Tag) q .z5 wE pW q q)<|aO 4 (O.nk .a1 .b3)<|aO 5 (O.aW (.lit q)) ?_;rcases gQ ag with ⟨jj,ag⟩ | ⟨jj,ag⟩
     ·exact sm ag ▸ (wb 6 jj (O.aW .z5)<|wb 7 jj (O.dP .z5)<|wb 8 jj (O.j' (en:=bN) q .z5 HI pW q q)<|wb 9 jj (O.kf (en:=bN) (x':=aq qf.Tag) q .z5 wE pW q q)<|wb 10 jj O.bV<|wb 11 jj O.ed<|wb 12 jj (O.nk .a1 .a1)<|aO 13 (O.jm .a1 jj .a1)<|b8.fin q q q (.n q (.n q (.n q (.r q (eo.el (en:=bN) q pW q) jD (.n q .nil))))))
     ·exact sm ag ▸ (wa 6 jj<|wa 7 jj<|wa 8 jj<|wa 9 jj<|wa 10 jj<|wa 11 jj<|wa 12 jj<|aO 13 (O.nn .a1 jj .b3)<|b8.fin q q q (.n q (.n q (.n q (.r q (eo.el (en:=bN) q pW q) jD (.n q .nil))))))
    refine aB.bL<|aG h λkd ag h=>W.eE [0,4,8] [(0,.obj (dy.cells kd))] ?_ ?_
    ·clear h; have h:=ag; clear ag;refine W.cI h q (λuU h=>?_) (λuU h=>?_)
     ·refine aG h λcS B2 h=>W.rx [(0,_),(4,_),(8,.ptr ⟨0,[0]⟩ (bY.1.toNat * bN.z+0))] (aj (O.aW .z4)<|aj O.bV<|aj O.ed<|aj O.bV<|aj O.ed<|aD.hR (G2:=[(8,.ptr ⟨0,[0]⟩ (bY.1.toNat * bN.z+0))]++[(146,.bI []),(0,.obj [ar bN eM.az.aX,ar bq cS.az.bF,ar cj cS.az.a8,aq cS.az.ca,aq cS.az.cm,ar cr cS.cg,ar bq cS.cx,ar cH cS.bX,ae cS.cM,ae cS.c_,aq cS.c8,ae cS.b_,ae cS.bU]),(4,.obj (dN.cells ax))]) q (bx.eh (r:=0) (k0:=0) (y:=ar bN eM.az.aX) (cs5:=[ar bN eM.az.aX,ar bq cS.az.bF,ar cj cS.az.a8,aq cS.az.ca,aq cS.az.cm,ar cr cS.cg,ar bq cS.cx,ar cH cS.bX,ae cS.cM,ae cS.c_,aq cS.c8,ae cS.b_,ae cS.bU]) (G1:=λv=>[(0,.obj [.lit v,ar bq eM.az.bF,ar cj eM.az.a8,aq eM.az.ca,aq eM.az.cm,ar cr eM.cg,ar bq eM.cx,ar cH eM.bX,ae eM.cM,ae eM.c_,aq eM.c8,ae eM.b_,ae eM.bU]),(4,.obj (dN.cells ax)),(141,.ptr ⟨0,[]⟩ 0),(143,ae a2.At),(145,aq a2.Name)]) (G4:=λv=>[(146,.bI []),(0,.obj [.lit v,ar bq cS.az.bF,ar cj cS.az.a8,aq cS.az.ca,aq cS.az.cm,ar cr cS.cg,ar bq cS.cx,ar cH cS.bX,ae cS.cM,ae cS.c_,aq cS.c8,ae cS.b_,ae cS.bU]),(4,.obj (dN.cells ax))]) (c4:=λv=>[.lit v,ar bq cS.az.bF,ar cj cS.az.a8,aq cS.az.ca,aq cS.az.cm,ar cr cS.cg,ar bq cS.cx,ar cH cS.bX,ae cS.cM,ae cS.c_,aq cS.c8,ae cS.b_,ae cS.bU]) (G5:=[(146,.bI []),(0,.obj [ar bN eM.az.aX,ar bq cS.az.bF,ar cj cS.az.a8,aq cS.az.ca,aq cS.az.cm,ar cr cS.cg,ar bq cS.cx,ar cH cS.bX,ae cS.cM,ae cS.c_,aq cS.c8,ae cS.b_,ae cS.bU]),(4,.obj (dN.cells ax))]) (A:=[(8,.ptr ⟨0,[0]⟩ (bY.1.toNat * bN.z+0))]) q q q q (λv=>(.b q (.n q q (.p q q q q q q (.n q q (.n q q .nil)))))) (λv=>fy.gM (G2:=[(4,.obj (dN.cells ax))]) (A:=[]) (ys:=[.ptr ⟨0,[]⟩ 0,ae a2.At,aq a2.Name]) (args:=[.obj [.lit v,ar bq eM.az.bF,ar cj eM.az.a8,aq eM.az.ca,aq eM.az.cm,ar cr eM.cg,ar bq eM.cx,ar cH eM.bX,ae eM.cM,ae eM.c_,aq eM.c8,ae eM.b_,ae eM.bU],ae a2.At,aq a2.Name]) (cs':=[.lit v,ar bq cS.az.bF,ar cj cS.az.a8,aq cS.az.ca,aq cS.az.cm,ar cr cS.cg,ar bq cS.cx,ar cH cS.bX,ae cS.cM,ae cS.c_,aq cS.c8,ae cS.b_,ae cS.bU]) (k0:=0) q q q q (.b q (.n q (.n q .nil))) q (Hv v eM a2.At a2.Name _ B2) call74 (.n q .nil) q q (.n q .nil) .nil q) (λv=>q) (λv=>q) (λv=>q) (λv=>(.n q q (.b q (.n q q .nil)))) q (.c (en:=bN) (L:=eM.az.aX) q q pW q q q .nil))<|iG (.n q (.n q (.r q (eo.el (en:=bN) q pW q) jD .nil)))) ?_;exact sm h ▸ aB.dw (.n q (.n q (.r q (eo.el (en:=bN) q pW q) jD .nil)))
     ·exact W.cZ<|sm h ▸ aB.dw (.n q (.n q (.r q (eo.el (en:=bN) q pW q) jD .nil)))
    refine aG h λhE sE h=>aB.bL<|W.bR [0] (aj (O.aW .z5)<|aj O.bV<|aj O.ed<|aj (O.dP .z5)<|aj (O.j' (en:=bN) q .z5 HI sE q q)<|aD.fI (bx.uc (en:=bN) (y2:=(⟨hE.Name,hE.Lit,hE.bW,hE.Level,hE.e2,ax.Tag⟩:Tok)) [0] sE)<|bH q) ?_;exact sm h ▸ aB.da
   ·exact W.cZ<|sm h ▸ aB.da
  exact sm h ▸ aB.fin (Fin.ro .nil q (xB (by kernel_rfl)) (.al q q (.no (.no .nil))) q (.inl q))
instance acJ {a0:de}{ax:Decl}{a2:Sym}{r:de}:bz prog 73 (vE a0 ax a2=some r) [.obj (dy.cells a0),.agg (dN.cells ax),.agg (dQ.cells a2)] [some (.obj [ar bN r.az.aX,ar bq r.az.bF,ar cj r.az.a8,aq r.az.ca,aq r.az.cm,ar cr r.cg,ar bq r.cx,ar cH r.bX,ae r.cM,ae r.c_,aq r.c8,ae r.b_,ae r.bU]),none,none] (.bI []):=⟨To a0 ax a2 _⟩
instance acM {a0:de}{ax:ByteArray}{r:Int}:bz prog 76 (sO a0 ax=some r) [.cL ([ay bN a0.az.aX,ay bq a0.az.bF,ay cj a0.az.a8,aq a0.az.ca,aq a0.az.cm,ay cr a0.cg,ay bq a0.cx,ay cH a0.bX,ae a0.cM,ae a0.c_,aq a0.c8,ae a0.b_,ae a0.bU]),aq ax] [none,none] (ae r):=⟨λh=>by unfold sO at h; exact bO.bj (N:=⟨25,[]⟩) [0,1,4,5,12,23] (.hx (λ(s1:Int)=>[(5,ae s1)]) [0,1,5] 0 (λ(a6:Unit)=>[]) [] (λ(bT:Int)=>[(4,ae bT)]) [4] .e .e .e) func76 rfl rfl rfl rfl rfl dK⟩
instance abB {a0:de}{ax:Sym}{r:Int × de}:bz prog 106 (sN a0 ax=some r) [.obj (dy.cells a0),.agg (dQ.cells ax)] [some (.obj [ar bN r.2.az.aX,ar bq r.2.az.bF,ar cj r.2.az.a8,aq r.2.az.ca,aq r.2.az.cm,ar cr r.2.cg,ar bq r.2.cx,ar cH r.2.bX,ae r.2.cM,ae r.2.c_,aq r.2.c8,ae r.2.b_,ae r.2.bU]),none] (ae r.1):=⟨λh=>by unfold sN at h; exact bO.bj (N:=⟨32,[0]⟩) [0,3,4,5,6,8,17,24] .e func106 rfl rfl rfl rfl rfl dK⟩
theorem Tp (a0:de) (ax:ByteArray) (a2:Alt) (r:de) (h:vF a0 ax a2=some r):bO prog 77 [.obj (dy.cells a0),aq ax,.agg (fH.cells a2)] [some (.obj [ar bN r.az.aX,ar bq r.az.bF,ar cj r.az.a8,aq r.az.ca,aq r.az.cm,ar cr r.cg,ar bq r.cx,ar cH r.bX,ae r.cM,ae r.c_,aq r.c8,ae r.b_,ae r.bU]),none,none] (.bI []):=by
 unfold vF at h;refine bO.go (N:=⟨173,[0]⟩) func77 q q q q (W.fin ?_);refine W.st [(0,.obj (dy.cells a0)),(1,aq ax),(2,.agg (fH.cells a2))] ?_;refine W.cB [0,1,5] (aj (O.box (.eK q q) q)<|bH q) ?_;refine W.bS<|aG h λaY iT h=>W.rd [[],[],[0,1],[0,1,2],[],[4],aN 0 6 [],[],aN 0 8 []] [(0,_),(5,_),(6,_)] gD (by kernel_rfl) (aO 0 (O.aW .z4)<|aO 1 (O.aW (.lit q))<|iY 2 (cF.rZ (ys:=[.ptr ⟨0,[]⟩ 0,aq ax]) q (.c (View.nR q q) (.s .nil)) (bz.go iT))<|aO 3 (O.add .b3 .a1)<|aO 4 O.bV<|aO 5 O.ed<|aO 6 (O.e4 (cs:=[ae (aS (1+aY)),.bb,ae (-1),aq bg,.bb,ae a2.At]) KQ Gt q q q)<|aO 7 (O.ho (cs:=[ae 0,.bb,ae 0,aq bg,.bb,ae 0]) Gt q q)<|b8.jr 8 (bx.iB [0,5,6])<|b8.fin q q q (sU q q q)) ?_;refine aB.bL<|W.bS<|W.cn [0,5,6,7] ?_;refine W.b9<|aG h λa6 ah h=>W.gL (a0,([]:List Int),bg,a2.At,0) (λ(s2:de × List Int × ByteArray × Int × Int)=>[(0,.obj (dy.cells s2.1)),(6,.obj [ae (aS (1+aY)),ar aZ s2.2.1,ae (-1),aq s2.2.2.1,.bb,ae s2.2.2.2.1]),(7,ae s2.2.2.2.2)]) [0,5,6,7] 0 (λ(a6:de × List Int × ByteArray × Int)=>[(0,.obj (dy.cells a6.1)),(6,.obj [ae (aS (1+aY)),ar aZ a6.2.1,ae (-1),aq a6.2.2.1,.bb,ae a6.2.2.2])]) [0,5,6] ah (λs2 o h=>?_) ?_
 ·clear ah;refine W.bS<|W.cn [0,5,6,7,21] ?_;refine W.cI h q (λtx h=>?_) (λtx h=>?_)
  ·refine W.cZ<|aB.bL<|W.bS<|aG h λix ag h=>W.eE [0,5,6,7] [(0,.obj (dy.cells ix.1)),(6,.obj [ae (aS (1+aY)),ar aZ ix.2.1,ae (-1),aq ix.2.2.1,.bb,ae ix.2.2.2])] ?_ ?_
   ·clear h; have h:=ag; clear ag;refine W.b9<|aG h λbw og h=>W.cB [0,5,6,7,8] (aj O.bV<|aj (O.dH (y:=ay f_ a2.Parts))<|cf q<|aj (O.fU og)<|aj (O.oq (cs':=f_.cells bw) .pb Sb q q)<|aj (O.ho (cs:=[aq bg,bd false,ae 0,ae 0,aq bg,ae 0]) Aq q q)<|aD.fI (bx.iB [0,5,6,7,8])<|bH q) ?_;refine aG h λnh ag h=>W.eE [0,5,6,7] [(0,.obj (dy.cells nh.1)),(6,.obj [ae (aS (1+aY)),ar aZ nh.2.1,ae (-1),aq nh.2.2.1,.bb,ae nh.2.2.2])] ?_ ?_
    ·clear h; have h:=ag; clear ag;refine W.b9<|W.cn [0,5,6,7,8,82] ?_;refine aG h λp2 ag h=>W.eE [0,5,6,7] [(0,.obj (dy.cells p2.1)),(6,.obj [ae (aS (1+aY)),ar aZ p2.2.1,ae (-1),aq p2.2.2.1,.bb,ae p2.2.2.2])] ?_ ?_
     ·clear h; have h:=ag; clear ag;refine W.cI h q (λBi h=>?_) (λBi h=>?_)
      ·refine aG h λdF nc h=>aG h λc7 pU h=>W.rd [[],[0],[],[],[3],[2,3,4],[2,3,4,5],aN 0 7 [],aN 0 8 [],aN 0 9 []] [(0,_),(5,_),(6,_),(7,_)] gD (by kernel_rfl) (aO 0 O.bV<|aO 1 (O.dH (y:=.bo aZ.z ⟨6,[1]⟩ s2.2.1.length))<|aO 2 (O.aW .z4)<|aO 3 O.bV<|aO 4 (O.ff (cs':=dQ.cells bw.Sym) q .z5 yD q q)<|b8.e4 5 (G2:=(6,.obj [ae (aS (1+aY)),ar aZ s2.2.1,ae (-1),aq s2.2.2.1,.bb,ae s2.2.2.2.1])::[(91,ae dF.1),(0,.obj (dy.cells dF.2)),(5,.obj (fH.cells a2)),(7,ae s2.2.2.2.2)]) (U:=[(1,87,some (.bo aZ.z ⟨6,[1]⟩ s2.2.1.length)),(0,86,some (.ptr ⟨6,[]⟩ 1))]) (qm.box (r:=6) (G1:=[(0,.obj (dy.cells s2.1)),(5,.obj (fH.cells a2)),(7,ae s2.2.2.2.2),(88,.ptr ⟨0,[]⟩ 0),(90,.agg (dQ.cells bw.Sym))]) (G2:=[(91,ae dF.1),(0,.obj (dy.cells dF.2)),(5,.obj (fH.cells a2)),(7,ae s2.2.2.2.2)]) (bx.call q q (fy.gM (G2:=[(5,.obj (fH.cells a2)),(7,ae s2.2.2.2.2)]) (A:=[]) (ys:=[.ptr ⟨0,[]⟩ 0,.agg (dQ.cells bw.Sym)]) (args:=[.obj (dy.cells s2.1),.agg (dQ.cells bw.Sym)]) (cs':=dy.cells dF.2) (k0:=0) q q q q (.b q (.n q .nil)) q (bz.go nc) call106 (nu q q) q q (nu q q) .nil q)) q (.n q (.n q (.n q (.q q q q (.n q .nil))))) q q q) q q (by kernel_rfl) q q q (.c (.inl ⟨6,[1],_,_,_,_,q,by simp [ub],q,q,Nat.le_refl _⟩) q q q q q (gm.wanted .none) (O.zq (y:=.bo aZ.z ⟨6,[1]⟩ s2.2.1.length) q .z5 MJ q q) (.c (.inr (.inr (.inr (.inl ⟨6,_,_,q,q,iV q,by simp,_,q,iV q⟩)))) q q q q q (gm.wanted .none) (O.mT q .z4 M4 q) .nil)) (by kernel_rfl)<|b8.hK 6 (x:=ay aZ [dF.1]) (O.bs (ys:=[ae dF.1]) aZ [dF.1] oy q q q q q q Ar q q) q q q q .none<|aO 7 (O.ap (en:=aZ) (r:=c7) .dU q .z2 .i DX q pU)<|aO 8 O.bV<|b8.jr 9 (bx.sp [0,5,6,7])<|b8.fin q q q (kC q q q q)) ?_;exact sm h ▸ aB.da
      ·refine W.cn [0,5,6,7,8,95] ?_;refine aG h λjk ag h=>W.eE [0,5,6,7] [(0,.obj [ar bN s2.1.az.aX,ar bq s2.1.az.bF,ar cj jk.1,aq s2.1.az.ca,aq s2.1.az.cm,ar cr s2.1.cg,ar bq s2.1.cx,ar cH s2.1.bX,ae s2.1.cM,ae s2.1.c_,aq s2.1.c8,ae s2.1.b_,ae jk.2.1]),(6,.obj [ae (aS (1+aY)),ar aZ jk.2.2.1,ae (-1),aq jk.2.2.2.1,.bb,ae jk.2.2.2.2])] ?_ ?_
       ·clear h; have h:=ag; clear ag;refine W.cI h q (λwN h=>?_) (λwN h=>?_)
        ·refine W.rd [[],[0],[],[2],[0,1],[0,1,4],aN 0 6 [],aN 0 7 []] [(0,_),(5,_),(6,_),(7,_)] gD (by kernel_rfl) (aO 0 O.bV<|aO 1 O.ed<|aO 2 O.bV<|aO 3 O.ed<|aO 4 O.bV<|b8.e4 5 (G2:=[(0,.obj (dy.cells s2.1)),(5,.obj (fH.cells a2)),(6,.obj [ae (aS (1+aY)),ar aZ s2.2.1,ae (-1),aq bw.Code,.bb,ae s2.2.2.2.1]),(7,ae s2.2.2.2.2),(8,.obj (f_.cells bw))]) (U:=[(3,105,some (ae bw.At)),(2,104,some (.ptr ⟨8,[]⟩ 5))]) (pe.v (bx.oL (bx.qb (G2:=[(0,.obj (dy.cells s2.1)),(5,.obj (fH.cells a2)),(6,.obj [ae (aS (1+aY)),ar aZ s2.2.1,ae (-1),aq bw.Code,.bb,ae s2.2.2.2.1]),(7,ae s2.2.2.2.2),(8,.obj (f_.cells bw))]) (cs2:=[ae (aS (1+aY)),ar aZ s2.2.1,ae (-1),aq bw.Code,.bb,ae s2.2.2.2.1]) q q q (.ptr q) (.lit q) q QE q q q q (.n q q (.n q q (.b q (.n q q (.n q q .nil)))))))) q q (by kernel_rfl) q q q (.c (.inr (.inl ⟨_,q⟩)) q q q q q (gm.wanted .none) (O.o2 q .z5 wD q) (.c (.inr (.inr (.inr (.inl ⟨8,_,_,q,q,iV q,by simp,_,q,iV q⟩)))) q q q q q (gm.wanted .none) (O.mT q .z4 Uc q) .nil)) (by kernel_rfl)<|aO 6 O.bV<|b8.jr 7 (bx.q4 [0,5,6,7])<|b8.fin q q q (kC q q q q)) ?_;exact sm h ▸ aB.da
        ·refine W.cB [0,5,6,7,8] (aj (O.aW .z4)<|aj (O.dP .z5)<|aj O.y2<|aj O.ed<|aj (O.add .a1 .b3)<|aj (O.dP .z5)<|aj O.y2<|aD.fI (bx.q4 [0,5,6,7,8])<|bH q) ?_;refine W.bS<|aG h λdC lI h=>aG h λb' rJ h=>W.rd [[],[],[1],[1,2],[1,2,3],[1,2,3,4],[],[6],[6,7],[6,7,8],[6,7,8,9],[],[11],[11,12],[11,12,13],aN 6 9 [],[],[16],[],[],[19],[18,19,20],[],[22],aN 6 18 [],aN 6 19 [],aN 1 25 [],aN 0 27 [],aN 0 28 [],aN 0 29 [],aN 0 30 []] [(0,_),(5,_),(6,_),(7,_)] gD (by kernel_rfl) (aO 0 (O.aW .z4)<|aO 1 (O.aW .z4)<|aO 2 (O.dP .z5)<|aO 3 O.y2<|aO 4 O.y2<|aO 5 (O.dH (y:=.bo cj.z ⟨0,[2]⟩ s2.1.az.a8.length))<|aO 6 (O.aW .z4)<|aO 7 (O.dP .z5)<|aO 8 O.y2<|aO 9 (O.dH (y:=.bo cH.z ⟨0,[7]⟩ s2.1.bX.length))<|aO 10 (O.mB .dU x4)<|aO 11 (O.aW .z4)<|aO 12 (O.dP .z5)<|aO 13 O.y2<|aO 14 O.ed<|aO 15 (O.add .a1 .a1)<|aO 16 O.bV<|aO 17 O.ed<|aO 18 (O.bs (ys:=[]) aZ ([]:List Int) oy q q q q q q Ar q q)<|aO 19 O.bV<|aO 20 (O.dH (y:=.bo aZ.z ⟨6,[1]⟩ s2.2.1.length))<|aO 21 (O.ap (en:=aZ) (r:=dC) .z3 q .dU (.flat aZ q) DX q lI)<|aO 22 O.bV<|aO 23 O.ed<|aO 24 (O.e4 (cs:=[ae (aS ((s2.1.bX.length:Int)+(aS (s2.1.bU+1)))),.bb,ae (-1),aq bw.Code,.bo aZ.z ⟨57,[]⟩ (([]:List Int).length+s2.2.1.length),ae bw.At]) KQ Gt q q q)<|aO 25 (O.tc (ys:=[.agg [ae (aS ((s2.1.bX.length:Int)+(aS (s2.1.bU+1)))),.bb,ae (-1),aq bw.Code,.bo aZ.z ⟨57,[]⟩ (([]:List Int).length+s2.2.1.length),ae bw.At]]) (cs:=[ae (aS ((s2.1.bX.length:Int)+(aS (s2.1.bU+1)))),.bb,ae (-1),aq bw.Code,.bo aZ.z ⟨57,[]⟩ (([]:List Int).length+s2.2.1.length),ae bw.At]) F1 q q q q q Lq q q)<|aO 26 (O.RY (en:=cj) (M:=[(⟨aS ((s2.1.bX.length:Int)+(aS (s2.1.bU+1))),([]:List Int),(-1),bw.Code,([]:List Int)++s2.2.1,bw.At⟩:Prod)]) (r:=b') .dU q .z3 q q q q L3 q rJ (Yw (by kernel_rfl) (by kernel_rfl)))<|aO 27 (O.dP .z5)<|aO 28 O.y2<|aO 29 O.y2<|b8.jr 30 (G2:=[(0,.obj [ar bN s2.1.az.aX,ar bq s2.1.az.bF,ar cj (s2.1.az.a8++[(⟨aS ((s2.1.bX.length:Int)+(aS (s2.1.bU+1))),([]:List Int),(-1),bw.Code,([]:List Int)++s2.2.1,bw.At⟩:Prod)]),aq s2.1.az.ca,aq s2.1.az.cm,ar cr s2.1.cg,ar bq s2.1.cx,ar cH s2.1.bX,ae s2.1.cM,ae s2.1.c_,aq s2.1.c8,ae s2.1.b_,ae (aS (s2.1.bU+1))]),(5,.obj (fH.cells a2)),(6,.obj [ae (aS (1+aY)),ar aZ s2.2.1,ae (-1),aq s2.2.2.1,.bb,ae s2.2.2.2.1]),(7,ae s2.2.2.2.2)]) (bx.Ah (g1:=_) (en:=cj) (M:=[(⟨aS ((s2.1.bX.length:Int)+(aS (s2.1.bU+1))),([]:List Int),(-1),bw.Code,([]:List Int)++s2.2.1,bw.At⟩:Prod)]) (cs2:=[ar bN s2.1.az.aX,ar bq s2.1.az.bF,ar cj (s2.1.az.a8++[(⟨aS ((s2.1.bX.length:Int)+(aS (s2.1.bU+1))),([]:List Int),(-1),bw.Code,([]:List Int)++s2.2.1,bw.At⟩:Prod)]),aq s2.1.az.ca,aq s2.1.az.cm,ar cr s2.1.cg,ar bq s2.1.cx,ar cH s2.1.bX,ae s2.1.cM,ae s2.1.c_,aq s2.1.c8,ae s2.1.b_,ae (aS (s2.1.bU+1))]) q q (.ptr q) (.bD q) q q q (.f (.f (.f (.f (.k2 q q q .l7 (.f .nil)))))) (.f (.z (.f (.f (.z (hv:=iK.k2 q q) (.f .nil)))))) q q aab q q q q (.b q (.n q q (.n q q (.n q q .nil)))))<|b8.fin q q q (kC q q q q)) ?_;refine aB.bL<|aG h λbE jx h=>W.rd [[],[0],[],[2],[2,3],[2,3,4],[2,3,4,5],aN 2 5 [],[],[8],[8,9],[8,9,10],aN 2 10 [],aN 2 11 [],aN 0 14 [],aN 0 15 [],aN 0 16 []] [(0,_),(5,_),(6,_),(7,_)] gD (by kernel_rfl) (aO 0 O.bV<|aO 1 (O.dH (y:=.bo aZ.z ⟨6,[1]⟩ s2.2.1.length))<|aO 2 (O.aW .z4)<|aO 3 (O.dP .z5)<|aO 4 O.y2<|aO 5 (O.dH (y:=.bo cH.z ⟨0,[7]⟩ s2.1.bX.length))<|aO 6 (O.mB .dU x4)<|aO 7 (O.add .b3 .a1)<|aO 8 (O.aW .z4)<|aO 9 (O.dP .z5)<|aO 10 O.y2<|aO 11 O.ed<|aO 12 (O.add .a1 .a1)<|b8.hK 13 (x:=ay aZ [aS ((aS (1000+(s2.1.bX.length:Int)))+(aS (s2.1.bU+1)))]) (O.bs (ys:=[ae (aS ((aS (1000+(s2.1.bX.length:Int)))+(aS (s2.1.bU+1))))]) aZ [aS ((aS (1000+(s2.1.bX.length:Int)))+(aS (s2.1.bU+1)))] oy q q q q q q Ar q q) q q q q .none<|aO 14 (O.ap (en:=aZ) (r:=bE) .dU q .z2 .i DX q jx)<|aO 15 O.bV<|b8.jr 16 (bx.sp [0,5,6,7])<|b8.fin q q q (kC q q q q)) ?_;exact sm h ▸ aB.da
       exact sm h ▸ aB.da
     exact aB.b9<|sm h ▸ aB.da
    exact aB.b9<|sm h ▸ aB.da
   refine aB.bL<|W.bR [0,5,6,7] (cf q<|aj (O.add .a1 .b3)<|aD.bR [0,5,6,23] q<|aD.bj) ?_;exact sm h ▸ aB.gt
  ·exact W.fk<|aB.fi<|sm h ▸ aB.t1
 refine aB.fa<|aB.bL<|W.bS<|W.cn [0,5,6,9] ?_;refine W.b9<|aG h λfM ah h=>W.gL ((-1),0) (λ(ic:Int × Int)=>[(6,.obj [ae (aS (1+aY)),ar aZ a6.2.1,ae ic.1,aq a6.2.2.1,.bb,ae a6.2.2.2]),(9,ae ic.2)]) [0,5,6,9] 3 (λ(fM:Int)=>[(6,.obj [ae (aS (1+aY)),ar aZ a6.2.1,ae fM,aq a6.2.2.1,.bb,ae a6.2.2.2])]) [0,5,6] ah (λic o h=>?_) ?_
 ·clear ah;refine W.bS<|W.cn [0,5,6,9,112] ?_;refine W.cI h q (λlb h=>?_) (λlb h=>?_)
  ·refine W.cZ<|aB.bL<|W.bS<|aG h λoj ag h=>W.eE [0,5,6,9] [(6,.obj [ae (aS (1+aY)),ar aZ a6.2.1,ae oj,aq a6.2.2.1,.bb,ae a6.2.2.2])] ?_ ?_
   ·clear h; have h:=ag; clear ag;refine W.b9<|aG h λeT pV h=>W.cB [0,5,6,9,120] (aj O.bV<|aj (O.dH (y:=.bo aZ.z ⟨6,[1]⟩ a6.2.1.length))<|cf q<|aj (O.gS (en:=aZ) q .dU .a1 oy pV q)<|aj (O.kf (en:=aZ) (x':=ae eT) q .z5 wD pV q q)<|aD.bj) ?_;refine aG h λJS ag h=>W.eE [0,5,6,9] [(6,.obj [ae (aS (1+aY)),ar aZ a6.2.1,ae JS,aq a6.2.2.1,.bb,ae a6.2.2.2])] ?_ ?_
    ·clear h; have h:=ag; clear ag;refine W.cI h q (λVF h=>?_) (λVF h=>?_)
     ·refine aG h λl' B0 h=>W.bR [0,5,6,9] (aj O.bV<|aj (O.dH (y:=.bo aZ.z ⟨6,[1]⟩ a6.2.1.length))<|cf q<|aj (O.gS (en:=aZ) q .dU .a1 oy B0 q)<|aj (O.kf (en:=aZ) (x':=ae l') q .z5 wD B0 q q)<|aj O.bV<|aD.fI (bx.q4 [0,5,6,9])<|bH q) ?_;exact sm h ▸ aB.da
     ·exact W.cZ<|sm h ▸ aB.da
    exact aB.b9<|sm h ▸ aB.da
   refine aB.bL<|W.bR [0,5,6,9] (cf q<|aj (O.add .a1 .b3)<|aD.bR [0,5,6,114] q<|aD.bj) ?_;exact sm h ▸ aB.gt
  ·exact W.fk<|aB.fi<|sm h ▸ aB.t1
 refine aB.fa<|aB.bL<|W.bS<|W.cn [0,5,6,130] ?_;refine aG h λjA ag h=>W.eE [0,6] [(0,.obj (dy.cells jA.1)),(6,.obj [ae (aS (1+aY)),ar aZ a6.2.1,ae jA.2,aq a6.2.2.1,.bb,ae a6.2.2.2])] ?_ ?_
 ·clear h; have h:=ag; clear ag;refine W.cI h q (λIt h=>?_) (λIt h=>?_)
  ·refine W.cB [0,5,6] (aj O.bV<|aD.fI (bx.q4 [0,5,6])<|bH q) ?_;refine aG h λsc ag h=>W.ll [0,5,6,142] [(142,bd sc)] ?_ ?_
   ·refine aj O.bV<|aj O.y2<|aj O.ed<|aj (O.aW (.lit q)) ?_;rcases gQ ag with ⟨yX,ag⟩ | ⟨yX,ag⟩
    ·exact sm ag ▸ aD.bj
    ·refine bJ yX (O.aW .z4)<|bJ yX O.bV<|bJ yX O.y2<|bJ yX O.ed ?_;exact aG ag λhC ve ag=>sm ag ▸ (aD.c (cF.rZ (ys:=[.ptr ⟨0,[]⟩ 0,aq a2.Prec.Name]) q (.c (View.nR q q) (.s .nil)) (bz.go ve)) q q (.oB q q yX)<|aD.bj)
   refine aG h λo0 ag h=>W.eE [0,6] [(0,.obj (dy.cells o0.1)),(6,.obj [ae (aS (1+aY)),ar aZ a6.2.1,ae o0.2,aq a6.2.2.1,.bb,ae a6.2.2.2])] ?_ ?_
   ·clear h; have h:=ag; clear ag;refine W.cI h q (λmZ h=>?_) (λmZ h=>?_)
    ·refine aG h λhD pX h=>W.bR [0,6] (aj (O.aW .z4)<|aj O.bV<|aj (O.ff (cs':=dQ.cells a2.Prec) q .z5 yD q q)<|aD.hR q (bx.call q q (fy.gM (G2:=[(6,.obj [ae (aS (1+aY)),ar aZ a6.2.1,ae (-1),aq a6.2.2.1,.bb,ae a6.2.2.2])]) (A:=[]) (ys:=[.ptr ⟨0,[]⟩ 0,.agg (dQ.cells a2.Prec)]) (args:=[.obj (dy.cells a6.1),.agg (dQ.cells a2.Prec)]) (cs':=dy.cells hD.2) (k0:=0) q q q q (.b q (.n q .nil)) q (bz.go pX) call106 (.n q .nil) q q (.n q .nil) .nil q))<|aj O.bV<|aD.fI (bx.q4 [0,6])<|bH q) ?_;exact sm h ▸ aB.da
    ·refine aG h λiE B1 h=>W.bR [0,6] (aj (O.aW .z4)<|aj O.bV<|aj O.y2<|aj O.ed<|aj O.bV<|aj O.y2<|aj O.ed<|aD.hR q (bx.call q q (fy.gM (G2:=[(6,.obj [ae (aS (1+aY)),ar aZ a6.2.1,ae (-1),aq a6.2.2.1,.bb,ae a6.2.2.2])]) (A:=[]) (ys:=[.ptr ⟨0,[]⟩ 0,ae a2.Prec.At,aq a2.Prec.Name]) (args:=[.obj (dy.cells a6.1),ae a2.Prec.At,aq a2.Prec.Name]) (cs':=dy.cells iE) (k0:=0) q q q q (.b q (.n q (.n q .nil))) q (bz.go B1) call74 (.n q .nil) q q (.n q .nil) .nil q))<|bH q) ?_;exact sm h ▸ aB.da
   exact sm h ▸ aB.da
  ·exact W.cZ<|sm h ▸ aB.da
 refine aB.bL<|aG h λk5 tN h=>W.cB [0,6] (aj (O.bs (ys:=[]) aZ ([]:List Int) oy q q q q q q Ar q q)<|aj O.bV<|aj (O.dH (y:=.bo aZ.z ⟨6,[1]⟩ a6.2.1.length))<|aj (O.ap (en:=aZ) (r:=k5) .z3 q .dU (.flat aZ q) DX q tN)<|aj O.bV<|aD.fI (bx.sp [0,6])<|bH q) ?_;refine W.fJ (G1:=[(0,_),(6,.obj [ae (aS (1+aY)),ay aZ a6.2.1,ae jA.2,aq a6.2.2.1,ar aZ (([]:List Int)++a6.2.1),ae a6.2.2.2])]) [6] (.n q q (.z q q (gl.obj (.f (.z (.f (.f (.f (.f .nil))))))) .nil)) ?_;refine W.fJ (G1:=[(0,_),(6,.obj [ae (aS (1+aY)),ay aZ a6.2.1,ae jA.2,aq a6.2.2.1,ay aZ (([]:List Int)++a6.2.1),ae a6.2.2.2])]) [6] (.n q q (.z q q (gl.obj (.f (.f (.f (.f (.z (.f .nil))))))) .nil)) ?_;refine aG h λjG pY h=>W.rd [[],[],[1],[1,2],[1,2,3],[1,2,3,4],[],[6],aN 1 7 [],aN 0 9 [],aN 0 10 [],aN 0 11 [],aN 0 12 []] [(0,_)] gD (by kernel_rfl) (aO 0 (O.aW .z4)<|aO 1 (O.aW .z4)<|aO 2 (O.dP .z5)<|aO 3 O.y2<|aO 4 O.y2<|aO 5 (O.dH (y:=.bo cj.z ⟨0,[2]⟩ jA.1.az.a8.length))<|aO 6 (O.ff (cs':=[ae (aS (1+aY)),ay aZ a6.2.1,ae jA.2,aq a6.2.2.1,ay aZ (([]:List Int)++a6.2.1),ae a6.2.2.2]) q .z4 R9 q q)<|b8.hK 7 (x:=ay cj [(⟨aS (1+aY),a6.2.1,jA.2,a6.2.2.1,([]:List Int)++a6.2.1,a6.2.2.2⟩:Prod)]) (O.bs (ys:=[.agg [ae (aS (1+aY)),ay aZ a6.2.1,ae jA.2,aq a6.2.2.1,ay aZ (([]:List Int)++a6.2.1),ae a6.2.2.2]]) cj [(⟨aS (1+aY),a6.2.1,jA.2,a6.2.2.1,([]:List Int)++a6.2.1,a6.2.2.2⟩:Prod)] F1 q q q q q q Lq q q) q q q q .none<|aO 8 (O.ap (en:=cj) (r:=jG) .dU q .z2 .i L3 q pY)<|aO 9 (O.dP .z5)<|aO 10 O.y2<|aO 11 O.y2<|b8.jr 12 (bx.sp [0])<|b8.fin q q q (.n q .nil)) ?_;exact sm h ▸ aB.fin (Fin.ro .nil q (xB (by kernel_rfl)) (.al q q (.no (.no .nil))) q (.inl q))
instance acN {a0:de}{ax:ByteArray}{a2:Alt}{r:de}:bz prog 77 (vF a0 ax a2=some r) [.obj (dy.cells a0),aq ax,.agg (fH.cells a2)] [some (.obj [ar bN r.az.aX,ar bq r.az.bF,ar cj r.az.a8,aq r.az.ca,aq r.az.cm,ar cr r.cg,ar bq r.cx,ar cH r.bX,ae r.cM,ae r.c_,aq r.c8,ae r.b_,ae r.bU]),none,none] (.bI []):=⟨Tp a0 ax a2 _⟩
end Go.Proofs
