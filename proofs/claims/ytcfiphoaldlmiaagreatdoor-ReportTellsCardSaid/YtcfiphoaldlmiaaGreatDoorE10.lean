/- Parts of the proof that the last text states. -/
import Derived.KernelRfl
import Derived.Test.YtcfiphoaldlmiaaGreatDoorRows
import Derived.Test.YtcfiphoaldlmiaaGreatDoorE9
namespace Go.Proofs
open Tryz
open Go Go.Own Go.Sort
set_option maxRecDepth 100000
set_option linter.unusedVariables false
def wd (x:_anon105):ByteArray:=(⟨(tG x.q6).toArray⟩:ByteArray)++x.r7
abbrev i64 (n:Int):Prop:=-9223372036854775808<=n/\n<=9223372036854775807
theorem uz {n:Int}(h:i64 n):(⟨(tG n).toArray⟩:ByteArray).size<=21:=by rw [yo]; exact OH n h
theorem words (L:List _anon105) (az:L.length<=10) (h:∀ x∈L,i64 x.q6/\x.r7.size<=30) :
  Tot (b0 (R:=List ByteArray) (λ(ct:List ByteArray × Int) =>
  (bif decide (ct.2<(L.length:Int)) then
  (idx L ct.2).bind λc0 =>
  (nK c0.q6).bind λe8 =>
  (cj e8 c0.r7).bind λdx =>
  (dP ct.1 [dx]).bind λdF =>
  some (.inl (ct.1++[dx],aR (ct.2+1)))
  else
  some (.inr ct.1))) (([]:List ByteArray),0))
  λr=>r=L.map wd:=by
 refine Tot.upto (λs=>s.2) L.length (λk s=>s.1=(L.take k).map wd) rfl (by omega) rfl λk s hk he bb=>?_;obtain ⟨a,i⟩:=s;simp only at he bb ⊢;subst he bb;refine Tot.bB (λaN=>?_) (λdY=>.al ?_)
 ·have aN:=of_decide_eq_true aN;have aN:k<L.length:=by omega
  obtain ⟨aX,x2⟩:=h L[k] (List.getElem_mem aN);have aS:=uz aX;rw [ep aN];simp only [Option.bind_some];rw [Mt _ aX];simp only [Option.bind_some];rw [eQ (by omega)];simp only [Option.bind_some];have aQ:∀ (a:List ByteArray) (b:ByteArray),a.length<=10->dP a [b]=some (a++[b]):=λa b h=>by
   unfold dP; rw [if_pos (by unfold lim; simp; omega)]
  rw [aQ _ _ (by simp; omega)];simp only [Option.bind_some];refine .al ⟨aN,eE k (by omega),?_⟩;show _++[wd L[k]]=_;rw [p6 aN,List.map_append];rfl
 ·have:=of_decide_eq_false dY;show List.map wd (L.take k)=_;rw [List.take_of_length_le (by omega)]
theorem XC (l:List ByteArray) (az:l.length<=10) (h:∀ x∈l,x.size<=100) (gr:Int) (aH:0<=gr/\gr<=1000) :
  Tot (b0 (R:=Int) (λ(ct:Int × Int) =>
  (bif decide (ct.2<(l.length:Int)) then
  (idx l ct.2).bind λc0 =>
  (bif decide (aR (9223372036854775807 - ct.1)<(c0.size:Int)) then
  none
  else
  some (.inl (aR (ct.1+(c0.size:Int)),aR (ct.2+1))))
  else
  some (.inr ct.1))) (gr,0))
  λr=>0<=r/\r<=2000:=by
 refine Tot.upto (λs=>s.2) l.length (λk s=>0<=s.1/\s.1<=1000+k * 100) rfl (by omega) ⟨aH.1,by show gr<=_; omega⟩ λk s hk he bb=>?_;obtain ⟨a,i⟩:=s;simp only at he bb ⊢;subst he;refine Tot.bB (λaN=>?_) (λdY=>.al ⟨bb.1,by omega⟩);have aN:=of_decide_eq_true aN;have aN:k<l.length:=by omega
 have j:=h l[k] (List.getElem_mem aN);rw [ep aN];simp only [Option.bind_some];have eR:aR (9223372036854775807 - a)=9223372036854775807 - a:=by rw [cD]; omega
 have eY:aR (a+(l[k].size:Int))=a+l[k].size:=by rw [cD]; omega
 rw [eR,decide_eq_false (by omega)];simp only [cond_false];refine .al ⟨aN,eE k (by omega),?_,?_⟩
 ·show 0<=aR _; rw [eY]; omega
 ·show aR _<=_; rw [eY]; omega
def ds (sep:ByteArray):ByteArray->List ByteArray->ByteArray
 | b,[]=>b
 | b,x::l=>ds sep (b++sep++x) l
theorem OJ (sep x:ByteArray):∀ (l:List ByteArray) (b:ByteArray),ds sep b (l++[x])=ds sep b l++sep++x
 | [],b=>rfl
 | y::l,b=>by simp only [List.cons_append,ds]; exact OJ sep x l _
theorem OK (l:List ByteArray) (az:l.length<=10) (h:∀ x∈l,x.size<=100) (sep fq:ByteArray) (ax:sep.size<=10) (au:fq.size<=1000) :
  Tot (b0 (R:=ByteArray) (λ(il:ByteArray × Int) =>
  (bif decide (il.2<(l.length:Int)) then
  (idx l il.2).bind λgB =>
  (mP il.1 sep).bind λfa =>
  (mP fa gB).bind λhg =>
  some (.inl (hg,aR (il.2+1)))
  else
  some (.inr il.1))) (fq,0))
  λr=>r=ds sep fq l/\fq.size<=r.size/\r.size<=3000:=by
 refine Tot.upto (λs=>s.2) l.length (λk s=>s.1=ds sep fq (l.take k)/\fq.size<=s.1.size/\s.1.size<=1000+k * 110) rfl (by omega) ⟨rfl,Nat.le_refl _,by show fq.size<=_; omega⟩ λk s hk he bb=>?_;obtain ⟨a,i⟩:=s;simp only at he bb ⊢;subst he;obtain ⟨i1,i2,i3⟩:=bb;refine Tot.bB (λaN=>?_) (λdY=>.al ?_)
 ·have aN:=of_decide_eq_true aN;have aN:k<l.length:=by omega
  have j:=h l[k] (List.getElem_mem aN);rw [ep aN];simp only [Option.bind_some];rw [Ay (by omega)];simp only [Option.bind_some];rw [Ay (by rw [ByteArray.size_append]; omega)];simp only [Option.bind_some];refine .al ⟨aN,eE k (by omega),?_,?_,?_⟩
  ·show a++sep++l[k]=_;rw [p6 aN,OJ,i1]
  ·show _<=(a++sep++l[k]).size;rw [ByteArray.size_append,ByteArray.size_append]; omega
  ·show (a++sep++l[k]).size<=_;rw [ByteArray.size_append,ByteArray.size_append]; omega
 ·have:=of_decide_eq_false dY;rw [List.take_of_length_le (by omega)] at i1;exact ⟨i1,i2,by omega⟩
theorem tb (x:ByteArray) (l:List ByteArray) (ah:l.length=5) (j:x.size<=100) (h:∀ y∈l,y.size<=100) (aH:0<x.size) :
  zp (x::l) ⟨#[44,32]⟩=some (ds ⟨#[44,32]⟩ x l):=by
 have ax:(⟨#[44,32]⟩:ByteArray).size=2:=rfl;have az:((x::l).length:Int)=6:=by simp [ah]
 have hi:idx (x::l) 0=some x:=rfl;have fN:∀ y∈x::l,y.size<=100:=λy ai=>by
  rcases List.mem_cons.1 ai with rfl | ai
  ·exact j
  ·exact h y ai
 have hw:aR (((x::l).length:Int) - 1)=5:=by rw [az]; rfl
 have ba:zJ 9223372036854775807 5=some 1844674407370955161:=by decide +kernel
 have d1:decide (((x::l).length:Int)=0)=false:=decide_eq_false (by omega);have d2:decide (((x::l).length:Int)=1)=false:=decide_eq_false (by omega);have d3:decide (0<((⟨#[44,32]⟩:ByteArray).size:Int))=true:=rfl;have d4:decide ((1844674407370955161:Int)<=((⟨#[44,32]⟩:ByteArray).size:Int))=false:=rfl;have d5:aR (0+aR (((⟨#[44,32]⟩:ByteArray).size:Int) * 5))=10:=by decide +kernel
 unfold zp;rw [d1,d2,d3,hw,ba];simp only [cond_true,cond_false,Option.bind_some,d4,d5];obtain ⟨n,qm,n'⟩:=XC (x::l) (by simp [ah]) fN 10 (by omega);rw [qm];simp only [Option.bind_some];have aI:vZ () n=some ⟨#[]⟩:=by unfold vZ; rw [if_pos (by omega)]
 have fz:lN (x::l) 1 ((x::l).length:Int)=some l:=by
  unfold lN;rw [if_pos (by omega),az];show some ((l.drop 0).take 5)=_;rw [List.drop_zero,List.take_of_length_le (by omega)]
 have aS:(⟨#[]⟩:ByteArray).size=0:=rfl;rw [aI];simp only [Option.bind_some,hi];rw [Ay (by omega)];simp only [Option.bind_some,fz];have he:(⟨#[]⟩:ByteArray)++x=x:=by
  apply ByteArray.ext;rw [ByteArray.data_append];simp
 rw [he];obtain ⟨r,aj,bO,b7,e1⟩:=OK l (by omega) h ⟨#[44,32]⟩ x (by omega) (by omega);rw [aj];simp only [Option.bind_some];have au:pj r=some r:=by unfold pj; rw [if_neg (by omega)]
 rw [au,<- bO];rfl
theorem AE (l:List eS) (ah:l.length<=1000000):Tot (zo l) λr=>i64 r.1/\i64 r.2:=by
 unfold zo;refine Tot.aB (Ξ:=λr=>0<=r/\r<=1000000) ?_ λr aj=>.al ⟨⟨by show _<=r; omega,by show r<=_; omega⟩,?_⟩
 ·refine Tot.upto (λs=>s.2) l.length (λk s=>0<=s.1/\s.1<=k) rfl (by omega) ⟨Int.le_refl _,by show (0:Int)<=_; omega⟩ λk s hk he bb=>?_;obtain ⟨a,i⟩:=s;simp only at he bb ⊢;subst he;refine Tot.bB (λaN=>?_) (λdY=>.al ⟨bb.1,by omega⟩);have aN:=of_decide_eq_true aN;have aN:k<l.length:=by omega
  rw [ep aN];simp only [Option.bind_some];have w:aR (a+1)=a+1:=by rw [cD]; omega
  by_cases ba:l[k].gF=-1
  ·rw [decide_eq_true ba];simp only [cond_true,Option.bind_some];exact .al ⟨aN,eE k (by omega),by show 0<=aR _; rw [w]; omega,by show aR _<=_; rw [w]; omega⟩
  ·rw [decide_eq_false ba];simp only [cond_false,Option.bind_some];exact .al ⟨aN,eE k (by omega),bb.1,by show a<=_; omega⟩
 ·show i64 (aR _);rw [cD]
  constructor <;> omega
theorem YL (g:bx) (aM:fV g) (aI:qQ g) (m:List State) (hm:k4 g m) (d:kn) (aO:Gy g m.length d) (l:List eS) (J:∀ x∈l,DE g x) (ah:l.length<=360000) :
  Rel (xi g m d l) (Cz g m d l) λa b=>a=b:=by
 unfold xi Cz;refine Rel.aB (XI g aM aI m hm d aO l J ah) λa b uJ=>?_;obtain ⟨rfl,aS,av⟩:=uJ;have Iz:Rel (zo l) (Fy l) λa b=>a=b/\i64 a.1/\i64 a.2:=by
  obtain ⟨r,e,h⟩:=AE l (by omega);exact ⟨r,r,e,e,rfl,h⟩
 refine Rel.aB Iz λr dk aj=>?_;obtain ⟨rfl,h1,af⟩:=aj;obtain ⟨p,q⟩:=r;replace h1:i64 p:=h1;replace af:i64 q:=af;have dn:=aM.j2;have a8:=aM.c_;have cV:=aM.lK;have yD:=hm.lh;have i0:i64 (g.aW.length:Int):=⟨by omega,by omega⟩;have i1:i64 (g.bA.length:Int):=⟨by omega,by omega⟩;have i2:i64 (g.a7.length:Int):=⟨by omega,by omega⟩;have i3:i64 (m.length:Int):=⟨by omega,by omega⟩;have z0:(⟨#[32,116,111,107,101,110,115]⟩:ByteArray).size=7:=rfl;have bh:(⟨#[32,110,111,110,116,101,114,109,105,110,97,108,115]⟩:ByteArray).size=13:=rfl;have z2:(⟨#[32,112,114,111,100,117,99,116,105,111,110,115]⟩:ByteArray).size=12:=rfl;have z3:(⟨#[32,115,116,97,116,101,115]⟩:ByteArray).size=7:=rfl;have z4:(⟨#[32,115,104,105,102,116,47,114,101,100,117,99,101]⟩:ByteArray).size=13:=rfl;have z5:(⟨#[32,114,101,100,117,99,101,47,114,101,100,117,99,101]⟩:ByteArray).size=14:=rfl;have y0:(⟨#[32,116,111,107,101,110,115,44,32]⟩:ByteArray).size=9:=rfl;have bS:(⟨#[32,110,111,110,116,101,114,109,105,110,97,108,115,44,32]⟩:ByteArray).size=15:=rfl;have y2:(⟨#[32,112,114,111,100,117,99,116,105,111,110,115,44,32]⟩:ByteArray).size=14:=rfl;have eb:(⟨#[32,115,116,97,116,101,115,44,32]⟩:ByteArray).size=9:=rfl;have hl:(⟨#[32,115,104,105,102,116,47,114,101,100,117,99,101,44,32]⟩:ByteArray).size=15:=rfl;have dT:(⟨#[32,114,101,100,117,99,101,47,114,101,100,117,99,101,10]⟩:ByteArray).size=15:=rfl;have t0:(⟨#[44,32]⟩:ByteArray).size=2:=rfl;have t1:(⟨#[10]⟩:ByteArray).size=1:=rfl;have g0:=uz i0;have g1:=uz i1;have g2:=uz i2;have g3:=uz i3;have g4:=uz h1;have g5:=uz af;refine Rel.l (words [(⟨(g.aW.length:Int),⟨#[32,116,111,107,101,110,115]⟩⟩:_anon105),(⟨(g.bA.length:Int),⟨#[32,110,111,110,116,101,114,109,105,110,97,108,115]⟩⟩:_anon105),(⟨(g.a7.length:Int),⟨#[32,112,114,111,100,117,99,116,105,111,110,115]⟩⟩:_anon105),(⟨(m.length:Int),⟨#[32,115,116,97,116,101,115]⟩⟩:_anon105),(⟨p,⟨#[32,115,104,105,102,116,47,114,101,100,117,99,101]⟩⟩:_anon105),(⟨q,⟨#[32,114,101,100,117,99,101,47,114,101,100,117,99,101]⟩⟩:_anon105)] (by show 6<=10; omega) (λx j=>by
  simp only [List.mem_cons,List.not_mem_nil,or_false] at j;rcases j with rfl | rfl | rfl | rfl | rfl | rfl
  ·exact ⟨i0,by show 7<=30; omega⟩
  ·exact ⟨i1,by show 13<=30; omega⟩
  ·exact ⟨i2,by show 12<=30; omega⟩
  ·exact ⟨i3,by show 7<=30; omega⟩
  ·exact ⟨h1,by show 13<=30; omega⟩
  ·exact ⟨af,by show 14<=30; omega⟩)) λW sd=>?_
 subst sd;have au:pj b=some b:=by unfold pj; rw [if_neg (by omega)]
 refine Rel.l (Ξ:=λr=>r=b) ⟨b,au,rfl⟩ λr aj=>?_;subst aj;have dL:∀ (n:Int) (w:ByteArray),i64 n->w.size<=30->0<w.size->0<(wd ⟨n,w⟩).size/\(wd ⟨n,w⟩).size<=51:=λn w h1 af aJ=>by
  have:=uz h1;have e:(wd ⟨n,w⟩).size=(⟨(tG n).toArray⟩:ByteArray).size+w.size:=ByteArray.size_append ..;omega
 have k0:=dL _ _ i0 (by omega) (by omega:0<(⟨#[32,116,111,107,101,110,115]⟩:ByteArray).size);have rD:=dL _ _ i1 (by omega) (by omega:0<(⟨#[32,110,111,110,116,101,114,109,105,110,97,108,115]⟩:ByteArray).size);have gm:=dL _ _ i2 (by omega) (by omega:0<(⟨#[32,112,114,111,100,117,99,116,105,111,110,115]⟩:ByteArray).size);have OL:=dL _ _ i3 (by omega) (by omega:0<(⟨#[32,115,116,97,116,101,115]⟩:ByteArray).size);have OM:=dL _ _ h1 (by omega) (by omega:0<(⟨#[32,115,104,105,102,116,47,114,101,100,117,99,101]⟩:ByteArray).size);have ady:=dL _ _ af (by omega) (by omega:0<(⟨#[32,114,101,100,117,99,101,47,114,101,100,117,99,101]⟩:ByteArray).size);simp only [List.map_cons,List.map_nil];have fN:∀ y∈[wd ⟨(g.bA.length:Int),⟨#[32,110,111,110,116,101,114,109,105,110,97,108,115]⟩⟩,wd ⟨(g.a7.length:Int),⟨#[32,112,114,111,100,117,99,116,105,111,110,115]⟩⟩,wd ⟨(m.length:Int),⟨#[32,115,116,97,116,101,115]⟩⟩,wd ⟨p,⟨#[32,115,104,105,102,116,47,114,101,100,117,99,101]⟩⟩,wd ⟨q,⟨#[32,114,101,100,117,99,101,47,114,101,100,117,99,101]⟩⟩],y.size<=100:=λy ai=>by
  simp only [List.mem_cons,List.not_mem_nil,or_false] at ai;rcases ai with rfl | rfl | rfl | rfl | rfl <;> omega
 refine Rel.l (Ξ:=λu=>u=ds ⟨#[44,32]⟩ (wd ⟨(g.aW.length:Int),⟨#[32,116,111,107,101,110,115]⟩⟩) [wd ⟨(g.bA.length:Int),⟨#[32,110,111,110,116,101,114,109,105,110,97,108,115]⟩⟩,wd ⟨(g.a7.length:Int),⟨#[32,112,114,111,100,117,99,116,105,111,110,115]⟩⟩,wd ⟨(m.length:Int),⟨#[32,115,116,97,116,101,115]⟩⟩,wd ⟨p,⟨#[32,115,104,105,102,116,47,114,101,100,117,99,101]⟩⟩,wd ⟨q,⟨#[32,114,101,100,117,99,101,47,114,101,100,117,99,101]⟩⟩]) ⟨_,tb _ _ rfl (by omega) fN k0.1,rfl⟩ λu hu=>?_;have ih:u.size<=3000:=by
  obtain ⟨_,_,f1,_,f3⟩:=OK _ (by show 5<=10; omega) fN ⟨#[44,32]⟩ (wd ⟨(g.aW.length:Int),⟨#[32,116,111,107,101,110,115]⟩⟩) (by omega) (by omega);rw [hu,<- f1]; exact f3
 rw [eQ (by omega)];simp only [Option.bind_some];rw [eQ (by rw [ByteArray.size_append]; omega)];simp only [Option.bind_some];rw [l1 _ i0,l1 _ i1,l1 _ i2,l1 _ i3,l1 _ h1,l1 _ af];simp only [Option.bind_some];rw [eQ (by omega)];simp only [Option.bind_some];rw [eQ (by simp only [ByteArray.size_append]; omega)];simp only [Option.bind_some];rw [eQ (by simp only [ByteArray.size_append]; omega)];simp only [Option.bind_some];rw [eQ (by simp only [ByteArray.size_append]; omega)];simp only [Option.bind_some];rw [eQ (by simp only [ByteArray.size_append]; omega)];simp only [Option.bind_some];rw [eQ (by simp only [ByteArray.size_append]; omega)];simp only [Option.bind_some];rw [eQ (by simp only [ByteArray.size_append]; omega)];simp only [Option.bind_some];rw [eQ (by simp only [ByteArray.size_append]; omega)];simp only [Option.bind_some];rw [eQ (by simp only [ByteArray.size_append]; omega)];simp only [Option.bind_some];rw [eQ (by simp only [ByteArray.size_append]; omega)];simp only [Option.bind_some];rw [eQ (by simp only [ByteArray.size_append]; omega)];simp only [Option.bind_some];rw [eQ (by simp only [ByteArray.size_append]; omega)];simp only [Option.bind_some];refine .al ?_;rw [hu];have z7:(⟨#[32,116,111,107,101,110,115,44,32]⟩:ByteArray)=(⟨#[32,116,111,107,101,110,115]⟩:ByteArray)++(⟨#[44,32]⟩:ByteArray):=rfl;have eR:(⟨#[32,110,111,110,116,101,114,109,105,110,97,108,115,44,32]⟩:ByteArray)=(⟨#[32,110,111,110,116,101,114,109,105,110,97,108,115]⟩:ByteArray)++(⟨#[44,32]⟩:ByteArray):=rfl;have eY:(⟨#[32,112,114,111,100,117,99,116,105,111,110,115,44,32]⟩:ByteArray)=(⟨#[32,112,114,111,100,117,99,116,105,111,110,115]⟩:ByteArray)++(⟨#[44,32]⟩:ByteArray):=rfl;have vE:(⟨#[32,115,116,97,116,101,115,44,32]⟩:ByteArray)=(⟨#[32,115,116,97,116,101,115]⟩:ByteArray)++(⟨#[44,32]⟩:ByteArray):=rfl;have vF:(⟨#[32,115,104,105,102,116,47,114,101,100,117,99,101,44,32]⟩:ByteArray)=(⟨#[32,115,104,105,102,116,47,114,101,100,117,99,101]⟩:ByteArray)++(⟨#[44,32]⟩:ByteArray):=rfl;have z8:(⟨#[32,114,101,100,117,99,101,47,114,101,100,117,99,101,10]⟩:ByteArray)=(⟨#[32,114,101,100,117,99,101,47,114,101,100,117,99,101]⟩:ByteArray)++(⟨#[10]⟩:ByteArray):=rfl;rw [z7,eR,eY,vE,vF,z8];simp only [ds,wd,ByteArray.append_assoc]
theorem Z8:CO=some true:=by kernel_rfl
theorem T9 (s:Source) (au:qW s):Par (tO s) λr=>r.2.2.2=true->qQ r.1:=by
 intro r aj ak;unfold tO at aj;obtain ⟨aX,h1,aj⟩:=Option.bind_eq_some_iff.1 aj;cases j:aX.2.2 with
 | false=>rw [j] at aj; cases aj; cases ak
 | true =>
  rw [j] at aj;simp only [Bool.not_true,cond_false] at aj;obtain ⟨aZ,_,aj⟩:=Option.bind_eq_some_iff.1 aj;obtain ⟨b4,_,aj⟩:=Option.bind_eq_some_iff.1 aj;cases aj;show qQ aX.1;unfold zl at h1;obtain ⟨bS,g1,h1⟩:=Option.bind_eq_some_iff.1 h1;cases ai:bS.2 with
  | false=>rw [ai] at h1; cases h1; cases j
  | true =>
   rw [ai] at h1;simp only [Bool.not_true,cond_false] at h1;obtain ⟨eb,_,h1⟩:=Option.bind_eq_some_iff.1 h1;cases h1;show qQ bS.1;unfold zq at g1;obtain ⟨z,rD,g1⟩:=Option.bind_eq_some_iff.1 g1;cases g1;exact Yl s au z rD (of_decide_eq_true ai)
theorem SD {g:bx}(aM:fV g) {n:Nat}{cs:List Cell}(h:∀ c∈cs,nV g n c):∀ x∈k8 g cs,DE g x:=by
 intro x j;unfold k8 at j;obtain ⟨c,J,j⟩:=List.mem_flatMap.1 j;have ok:=h c J;have cV:=aM.lK;have aO:∀ p∈c.a7,-9223372036854775808<=p/\p<=9223372036854775807:=λp av=>by
  have:=ok.q p av;have h1:=this.1; have af:=this.2;omega
 unfold uw at j;cases av:c.a7 with
 | nil=>rw [av] at j; cases j
 | cons p r =>
  rw [av] at j aO;rcases List.mem_append.1 j with j | j
  ·obtain ⟨y,ai,rfl⟩:=List.mem_map.1 j;exact ⟨ok.t,aO y (List.mem_cons_of_mem _ ai)⟩
  ·split at j
   ·obtain rfl:=List.mem_singleton.1 j;exact ⟨ok.t,aO p (List.mem_cons_self ..)⟩
   ·cases j
theorem ZS {α:Type}(a b:α) {i:Int}(aH:0<=i) (h:i<(([a,b]:List α).length:Int)):∃ y,idx [a,b] i=some y/\(y=a\/y=b):=by
 obtain ⟨y,ai,hm⟩:=kx aH h;exact ⟨y,ai,by simpa using hm⟩
theorem t3 (s:Source) (x:qO):CI s x=some true:=by
 suffices h:Tot (CI s x) λr=>r=true by
  obtain ⟨r,aj,e⟩:=h; rw [aj,e]
 unfold CI;rw [Z8];refine Tot.sm (.aB (t6 s) λaZ aJ=>.aB (t7 x) λb4 bo=>?_);refine Tot.aB (Ξ:=h8 (λ_=>True) (λ_=>False)) ?_ λr aj=>by
  rcases r with r | r
  ·exact .al rfl
  ·exact aj.elim
 refine Tot.count (λs=>s) 2 (λs=>0<=s) (Int.le_refl _) (by decide) λi hi=>?_;refine Tot.bD (λaN=>?_) (λ_=>.al trivial);have up:(0<=aR (i+1))/\i<aR (i+1)/\aR (i+1)<=2:=by
  have:i<2:=aN;rw [cD]; omega
 obtain ⟨y,ai,ej⟩:=ZS aZ b4 hi aN;have au:qW y:=by rcases ej with rfl | rfl <;> assumption
 rw [ai];obtain ⟨c,J,dm⟩:=n3 y au;have cT:=T9 y au c J;refine Tot.sm (.aB (Ξ:=λr=>r=c) ⟨c,J,rfl⟩ λ_ e=>?_);subst e;refine Tot.bB (λ_=>.al ⟨up.1,up.2⟩) (λh=>?_);have dm:=dm (by simpa using h);have cT:=cT (by simpa using h);refine .aB (td _ _ _ dm) λr aj=>?_;obtain ⟨aO,ah⟩:=aj;have h3:=Hi dm.Eo dm.ce.ok;have IB:=dm.ce.n;have lH:=YL _ dm.Eo cT _ dm.XN r.1 (aO.aP dm) r.2 (by rw [ah]; exact SD dm.Eo dm.ce.ok) (by rw [ah]; omega);obtain ⟨u,tV,bO,b7,rfl⟩:=lH;refine .aB (Ξ:=λx=>x=u) ⟨u,bO,rfl⟩ λ_ h1=>.aB (Ξ:=λx=>x=u) ⟨u,b7,rfl⟩ λ_ af=>?_;subst h1 af;refine Tot.bB (λh=>?_) (λ_=>.al ⟨up.1,up.2⟩);simp at h
open Go Go.Own
set_option maxHeartbeats 4000000
set_option synthInstance.maxHeartbeats 1000000
set_option synthInstance.maxSize 10000
instance:ko cW:=⟨λx=>[(.int .i64 x.Prod),(.int .i64 x.cP)],λ_=>rfl,λx v hv=>by simp only [List.mem_cons,List.not_mem_nil,or_false] at hv; rcases hv with rfl | rfl <;> rfl⟩
theorem JC:rA prog 3 .i64=true:=by kernel_rfl
theorem E1:rA prog 117 .u64=true:=by kernel_rfl
theorem KO:nQ prog 9=true:=by kernel_rfl
theorem AK:jw prog 4=true:=by kernel_rfl
theorem wg:jw prog 9=true:=by kernel_rfl
theorem we:jw prog 3=true:=by kernel_rfl
theorem TT:iy prog 62 0 0 3=true:=by kernel_rfl
theorem M0:iy prog 62 2 2 60=true:=by kernel_rfl
theorem Td:jw prog 60=true:=by kernel_rfl
theorem Qf:e2 prog 60 54 4=true:=by kernel_rfl
theorem ym:ia prog 54 4=true:=by kernel_rfl
theorem gV:prog.follows .mixedOrders=true:=by kernel_rfl
theorem De:e2 prog 52 59 6=true:=by kernel_rfl
theorem RX:ia prog 59 6=true:=by kernel_rfl
theorem Ad:(prog.info? 59).bind (·.zero)=some (.agg #[.string ⟨#[]⟩,.bool false,.int .i64 0,.int .i64 0,.string ⟨#[]⟩,.int .i64 0]):=by kernel_rfl
theorem KL:e2 prog 22 62 4=true:=by kernel_rfl
theorem L5:ia prog 62 4=true:=by kernel_rfl
theorem vC:e2 prog 23 65 3=true:=by kernel_rfl
theorem RY:ia prog 65 3=true:=by kernel_rfl
theorem La:(prog.info? 65).bind (·.zero)=some (.agg #[.string ⟨#[]⟩,.slice none 0 0,.int .i64 0]):=by kernel_rfl
theorem AS:iy prog 65 1 1 63=true:=by kernel_rfl
theorem Hn:jw prog 63=true:=by kernel_rfl
theorem FV:e2 prog 63 56 6=true:=by kernel_rfl
theorem L4:ia prog 56 6=true:=by kernel_rfl
theorem TO:iy prog 175 4 8 3=true:=by kernel_rfl
theorem Dh:hc prog 3 1=true:=by kernel_rfl
theorem TP:iy prog 175 5 9 3=true:=by kernel_rfl
theorem TQ:iy prog 175 6 10 9=true:=by kernel_rfl
theorem Qr:hc prog 9 1=true:=by kernel_rfl
theorem xI:e2 prog 35 116 2=true:=by kernel_rfl
theorem FT:e2 prog 34 148 6=true:=by kernel_rfl
theorem MY:iy prog 148 2 2 3=true:=by kernel_rfl
theorem K9:(prog.info? 148).bind (·.zero)=some (.agg #[.string ⟨#[]⟩,.bool false,.int .i64 0,.int .i64 0,.int .i64 0,.string ⟨#[]⟩]):=by kernel_rfl
theorem KH:kY prog 148 [(0,1),(1,1),(2,1),(3,1),(4,1),(5,1)]=true:=by kernel_rfl
theorem call88:gR prog 88=true:=by kernel_rfl
theorem aaq:hY prog 148 6=true:=by kernel_rfl
theorem qI:e2 prog 71 4 1=true:=by kernel_rfl
theorem Dy:(prog.info? 116).bind (·.zero)=some (.agg #[.string ⟨#[]⟩,.string ⟨#[]⟩]):=by kernel_rfl
theorem FN:kY prog 116 [(0,1),(1,1)]=true:=by kernel_rfl
theorem Gu:hY prog 116 2=true:=by kernel_rfl
theorem GP:jt prog 35 116 2 32=true:=by kernel_rfl
theorem MW:iy prog 116 1 1 9=true:=by kernel_rfl
theorem call115:gR prog 115=true:=by kernel_rfl
theorem MZ:iy prog 148 3 3 3=true:=by kernel_rfl
theorem TN:iy prog 148 4 4 3=true:=by kernel_rfl
theorem ZD:hc prog 4 1=true:=by kernel_rfl
theorem Hy:iy prog 148 5 5 9=true:=by kernel_rfl
theorem xH:e2 prog 104 9 1=true:=by kernel_rfl
theorem Gr:(prog.info? 143).bind (·.zero)=some (.agg #[.int .i64 0,.slice none 0 0,.int .i64 0,.string ⟨#[]⟩,.slice none 0 0,.int .i64 0]):=by kernel_rfl
theorem KG:kY prog 143 [(0,1),(1,1),(2,1),(3,1),(4,1),(5,1)]=true:=by kernel_rfl
theorem MX:iy prog 143 1 1 27=true:=by kernel_rfl
theorem MD:jw prog 27=true:=by kernel_rfl
theorem call117:gR prog 117=true:=by kernel_rfl
theorem Ae:hY prog 3 1=true:=by kernel_rfl
theorem ow:e2 prog 27 3 1=true:=by kernel_rfl
theorem DW:jt prog 27 3 1 8=true:=by kernel_rfl
theorem TS:iy prog 59 2 5 3=true:=by kernel_rfl
theorem Lf:hY prog 143 6=true:=by kernel_rfl
theorem FU:e2 prog 36 143 6=true:=by kernel_rfl
theorem LU:jt prog 36 143 6 88=true:=by kernel_rfl
theorem ZC:hc prog 36 1=true:=by kernel_rfl
theorem RW:ia prog 143 6=true:=by kernel_rfl
theorem xU:(prog.info? 38).bind (·.zero)=some (.agg #[.slice none 0 0,.slice none 0 0,.slice none 0 0,.string ⟨#[]⟩,.string ⟨#[]⟩]):=by kernel_rfl
theorem DZ:ia prog 25 4=true:=by kernel_rfl
theorem KI:kY prog 38 [(0,1),(1,1),(2,1),(3,1),(4,1)]=true:=by kernel_rfl
theorem Qp:hc prog 38 5=true:=by kernel_rfl
theorem ib:ia prog 38 5=true:=by kernel_rfl
theorem K_:(prog.info? 4).bind (·.zero)=some (.bool false):=by kernel_rfl
theorem GY:(prog.info? 4).map (·.bytes)=some 1:=by kernel_rfl
theorem aak:(prog.info? 175).bind (·.zero)=some (.agg #[.slice none 0 0,.slice none 0 0,.slice none 0 0,.string ⟨#[]⟩,.string ⟨#[]⟩,.slice none 0 0,.slice none 0 0,.slice none 0 0,.int .i64 0,.int .i64 0,.string ⟨#[]⟩,.int .i64 0,.int .i64 0]):=by kernel_rfl
theorem Y6:kY prog 175 [(0,5),(5,1),(6,1),(7,1),(8,1),(9,1),(10,1),(11,1),(12,1)]=true:=by kernel_rfl
theorem QE:(prog.info? 62).bind (·.zero)=some (.agg #[.int .i64 0,.string ⟨#[]⟩,.slice none 0 0,.int .i64 0]):=by kernel_rfl
theorem call87:gR prog 87=true:=by kernel_rfl
theorem Gt:(prog.info? 54).bind (·.zero)=some (.agg #[.string ⟨#[]⟩,.bool false,.int .i64 0,.int .i64 0]):=by kernel_rfl
theorem P2:kY prog 54 [(0,1),(1,1),(2,1),(3,1)]=true:=by kernel_rfl
theorem QL:hY prog 9 1=true:=by kernel_rfl
theorem LS:jt prog 104 9 1 16=true:=by kernel_rfl
theorem call91:gR prog 91=true:=by kernel_rfl
theorem RU:ia prog 116 2=true:=by kernel_rfl
theorem TR:iy prog 25 3 3 9=true:=by kernel_rfl
theorem zS:e2 prog 97 112 2=true:=by kernel_rfl
theorem vW:ia prog 112 2=true:=by kernel_rfl
theorem Le:hY prog 112 2=true:=by kernel_rfl
theorem LX:jt prog 97 112 2 16=true:=by kernel_rfl
theorem Gq:(prog.info? 112).bind (·.zero)=some (.agg #[.int .i64 0,.int .i64 0]):=by kernel_rfl
theorem PZ:kY prog 112 [(0,1),(1,1)]=true:=by kernel_rfl
theorem tU:e2 prog 39 100 2=true:=by kernel_rfl
theorem MV:iy prog 100 0 0 97=true:=by kernel_rfl
theorem ME:jw prog 97=true:=by kernel_rfl
theorem Gp:(prog.info? 100).bind (·.zero)=some (.agg #[.slice none 0 0,.slice none 0 0]):=by kernel_rfl
theorem PY:kY prog 100 [(0,1),(1,1)]=true:=by kernel_rfl
theorem QG:hY prog 100 2=true:=by kernel_rfl
theorem RE:jt prog 39 100 2 48=true:=by kernel_rfl
theorem Ei:iy prog 100 1 1 98=true:=by kernel_rfl
theorem MF:jw prog 98=true:=by kernel_rfl
theorem K8:(prog.info? 132).bind (·.zero)=some (.agg #[.int .i64 0,.int .i64 0]):=by kernel_rfl
theorem P0:kY prog 132 [(0,1),(1,1)]=true:=by kernel_rfl
theorem QH:hY prog 132 2=true:=by kernel_rfl
theorem Qh:e2 prog 98 132 2=true:=by kernel_rfl
theorem LY:jt prog 98 132 2 16=true:=by kernel_rfl
theorem Qs:hc prog 98 1=true:=by kernel_rfl
theorem aam:(prog.info? 81).bind (·.zero)=some (.agg #[.int .i64 0,.int .i64 0,.int .i64 0,.bool false,.slice none 0 0]):=by kernel_rfl
theorem L6:ia prog 81 5=true:=by kernel_rfl
theorem Zc:e2 prog 26 27 1=true:=by kernel_rfl
theorem aar:hY prog 27 1=true:=by kernel_rfl
theorem RD:jt prog 26 27 1 24=true:=by kernel_rfl
theorem call68:gR prog 68=true:=by kernel_rfl
theorem call69:gR prog 69=true:=by kernel_rfl
theorem call67:gR prog 67=true:=by kernel_rfl
theorem call70:gR prog 70=true:=by kernel_rfl
theorem E2:rA prog 186 .u32=true:=by kernel_rfl
theorem JB:rA prog 162 .u64=true:=by kernel_rfl
theorem aal:(prog.info? 3).bind (·.zero)=some (.int .i64 0):=by kernel_rfl
theorem R6:(prog.info? 3).map (·.bytes)=some 8:=by kernel_rfl
theorem Dz:(prog.info? 45).bind (·.zero)=some (.agg #[.slice none 0 0,.slice none 0 0]):=by kernel_rfl
theorem GR:ia prog 100 2=true:=by kernel_rfl
theorem Zy:hc prog 100 2=true:=by kernel_rfl
theorem RV:ia prog 132 2=true:=by kernel_rfl
theorem ZB:hc prog 26 1=true:=by kernel_rfl
theorem Lb:(prog.info? 83).bind (·.zero)=some (.agg #[.int .i64 0,.int .i64 0]):=by kernel_rfl
theorem Qg:e2 prog 86 83 2=true:=by kernel_rfl
theorem R7:(prog.info? 83).map (·.bytes)=some 16:=by kernel_rfl
theorem aat:hY prog 86 1=true:=by kernel_rfl
theorem Qd:e2 prog 43 86 1=true:=by kernel_rfl
theorem RF:jt prog 43 86 1 24=true:=by kernel_rfl
theorem ZE:hc prog 43 1=true:=by kernel_rfl
theorem yl:ia prog 45 2=true:=by kernel_rfl
theorem KS:hc prog 45 2=true:=by kernel_rfl
theorem ZG:hc prog 83 2=true:=by kernel_rfl
theorem GS:ia prog 83 2=true:=by kernel_rfl
theorem Te:jw prog 86=true:=by kernel_rfl
theorem Lc:(prog.info? 89).bind (·.zero)=some (.agg #[.int .i64 0,.int .i64 0,.int .i64 0,.int .i64 0]):=by kernel_rfl
theorem P5:kY prog 89 [(0,1),(1,1),(2,1),(3,1)]=true:=by kernel_rfl
theorem QK:hY prog 89 4=true:=by kernel_rfl
theorem Qe:e2 prog 46 89 4=true:=by kernel_rfl
theorem LV:jt prog 46 89 4 32=true:=by kernel_rfl
theorem call79:gR prog 79=true:=by kernel_rfl
theorem call80:gR prog 80=true:=by kernel_rfl
theorem call81:gR prog 81=true:=by kernel_rfl
theorem TI (s:ByteArray) (c:Int) (w:World):(callFunc 143 [Value.string s,.int .u8 c].toArray).run prog w=.ok (.value (.int .i64 (firstIdx s c.toNat.toUInt8))) w:=by
 have az:Extern.findNext Tryz.f143=none:=by kernel_rfl
 have he:Extern.find Tryz.f143=some Extern.BytealgIndexByte.indexByte:=by kernel_rfl
 rw [run_callFunc_extern func143 rfl rfl az he];have:=run_indexByte_string (P:=prog) s c w;simp [this]
theorem RZ:ia prog 89 4=true:=by kernel_rfl
theorem aan:(prog.info? 94).bind (·.zero)=some (.agg #[.pointer none,.slice none 0 0]):=by kernel_rfl
theorem call56:gR prog 56=true:=by kernel_rfl
theorem call49:gR prog 49=true:=by kernel_rfl
theorem call30:gR prog 30=true:=by kernel_rfl
theorem OY:liesAt prog prog.depth 96 (7 / prog.cellsOf 96) 5 94 1=true:=by kernel_rfl
theorem call51:gR prog 51=true:=by kernel_rfl
theorem aao:(prog.info? 96).bind (·.zero)=some (.agg #[.slice none 0 0,.slice none 0 0,.slice none 0 0,.string ⟨#[]⟩,.string ⟨#[]⟩,.pointer none,.slice none 0 0]):=by kernel_rfl
theorem Y8:kY prog 96 [(0,5),(5,2)]=true:=by kernel_rfl
theorem call27:gR prog 27=true:=by kernel_rfl
theorem xT:(prog.info? 105).bind (·.zero)=some (.agg #[.int .i64 0,.string ⟨#[]⟩]):=by kernel_rfl
theorem zR:kY prog 105 [(0,1),(1,1)]=true:=by kernel_rfl
theorem aap:hY prog 105 2=true:=by kernel_rfl
theorem KK:e2 prog 106 105 2=true:=by kernel_rfl
theorem RT:ia prog 105 2=true:=by kernel_rfl
theorem Zz:hc prog 105 2=true:=by kernel_rfl
theorem Dc:kY prog 59 [(0,4),(4,1),(5,1)]=true:=by kernel_rfl
theorem DA:hY prog 59 6=true:=by kernel_rfl
theorem K':(prog.info? 56).bind (·.zero)=some (.agg #[.slice none 0 0,.string ⟨#[]⟩,.bool false,.int .i64 0,.int .i64 0,.int .i64 0]):=by kernel_rfl
theorem P3:kY prog 56 [(0,1),(1,4),(5,1)]=true:=by kernel_rfl
theorem Lg:hY prog 56 6=true:=by kernel_rfl
theorem P4:kY prog 65 [(0,1),(1,1),(2,1)]=true:=by kernel_rfl
theorem QJ:hY prog 65 3=true:=by kernel_rfl
theorem Gs:(prog.info? 25).bind (·.zero)=some (.agg #[.string ⟨#[]⟩,.slice none 0 0,.slice none 0 0,.string ⟨#[]⟩]):=by kernel_rfl
theorem P1:kY prog 25 [(0,1),(1,1),(2,1),(3,1)]=true:=by kernel_rfl
theorem Y7:kY prog 62 [(0,1),(1,1),(2,1),(3,1)]=true:=by kernel_rfl
theorem QI:hY prog 54 4=true:=by kernel_rfl
theorem RG:jt prog 60 54 4 40=true:=by kernel_rfl
theorem ZF:hc prog 60 1=true:=by kernel_rfl
theorem aas:hY prog 62 4=true:=by kernel_rfl
theorem RB:jt prog 22 62 4 56=true:=by kernel_rfl
theorem GQ:jt prog 52 59 6 64=true:=by kernel_rfl
theorem LW:jt prog 63 56 6 72=true:=by kernel_rfl
theorem Qq:hc prog 63 1=true:=by kernel_rfl
theorem RC:jt prog 23 65 3 48=true:=by kernel_rfl
theorem ZA:hc prog 23 1=true:=by kernel_rfl
theorem Zj {g:FuncId}{caps:List ab} [df caps] (aI:gR prog g=true) {l r:List Item}{ho:Item->Item->Option Int}(h:vD ho l=some r) (J:∀ a b v,ho a b=some v->bH prog g (.agg (cW.cells a)::.agg (cW.cells b)::caps) (none::none::caps.map λ_=>none) (ae v)):bH prog 79 [ar cW l,.c7 (.func g) [] caps] [some (ar cW r),none] (.bN []):=bH.Zl (e:=cW) Tryz.Zm Tryz.isAgg112 Tryz.sizeOf112 aI h J
theorem MT (x y:Item):jT [Value.int .i64 x.Prod,Value.int .i64 x.cP] [Value.int .i64 y.Prod,Value.int .i64 y.cP]=decide (x=y):=by
 obtain ⟨aX,x2⟩:=x;obtain ⟨bS,y2⟩:=y;simp [jT,Hv]
theorem Hw:n4 prog 112 [.i .i64,.i .i64]=true:=by kernel_rfl
theorem SI {l r:List Item}(h:yw l=some r):bH prog 81 [ar cW l] [none] (ar cW r):=by
 refine bH.SK (e:=cW) (f:=81) ?_ (λw p cap=>SJ w p cap) h;intro w b cap d av hH au J Ez;have heq:∀ (x y:Item) (w:World),Sem.run prog (binOp .eql 112 (.agg #[Value.int .i64 x.Prod,Value.int .i64 x.cP]) (.agg #[Value.int .i64 y.Prod,Value.int .i64 y.cP])) w=.ok (.bool (decide (x=y))) w:=λx y w=>by
  rw [<- MT];exact Two.TE (xs:=[Value.int .i64 x.Prod,Value.int .i64 x.cP]) (bs:=[Value.int .i64 y.Prod,Value.int .i64 y.cP]) (sh:=[.i .i64,.i .i64]) rfl rfl Hw w
 have cU:∀ (x y:Item) (w:World),Sem.run prog (binOp .neq 112 (.agg #[Value.int .i64 x.Prod,Value.int .i64 x.cP]) (.agg #[Value.int .i64 y.Prod,Value.int .i64 y.cP])) w=.ok (.bool (!decide (x=y))) w:=λx y w=>by
  rw [<- MT];exact Two.XX (xs:=[Value.int .i64 x.Prod,Value.int .i64 x.cP]) (bs:=[Value.int .i64 y.Prod,Value.int .i64 y.cP]) (sh:=[.i .i64,.i .i64]) rfl rfl Hw w
 have re:∀ (op:BinOp) (p q:Operand) (x y:Item) (w:World),Sem.run prog (eqGuard op 112 p q (.agg #[Value.int .i64 x.Prod,Value.int .i64 x.cP]) (.agg #[Value.int .i64 y.Prod,Value.int .i64 y.cP])) w=.ok () w:=λop p q x y w=>Two.T2 (sh:=[.i .i64,.i .i64]) Hw op p q _ _ w;exact SL (λx:Item=>Value.int .i64 x.Prod) (λx:Item=>Value.int .i64 x.cP) (Two.one _) (Two.one _) heq cU re rfl w b cap d av hH au J Ez
theorem TU:iy prog 96 1 5 94=true:=by kernel_rfl
instance:vP prog 3 .i64:={}
instance:vP prog 117 .u64:={}
instance:vP prog 5 .u8:={}
instance:eg prog 92 5 1:={}
instance:iu prog 9:={}
instance:cY prog 54 1 1 4:={}
instance:fB prog 4:={}
instance:cY prog 54 0 0 9:={}
instance:fB prog 9:={}
instance:cY prog 54 2 2 3:={}
instance:fB prog 3:={}
instance:cY prog 62 0 0 3:={}
instance:cY prog 62 2 2 60:={}
instance:fB prog 60:={}
instance:eg prog 60 54 4:={}
instance:cY prog 62 1 1 9:={}
instance:j6 prog 54 4:={}
instance:Ah prog:={}
instance:cY prog 56 0 0 52:={}
instance:fB prog 52:={}
instance:eg prog 52 59 6:={}
instance:j6 prog 59 6:={}
instance:h7 prog 59 (.agg #[.string ⟨#[]⟩,.bool false,.int .i64 0,.int .i64 0,.string ⟨#[]⟩,.int .i64 0]):={}
instance:cY prog 59 1 4 9:={}
instance:cY prog 59 0 0 54:={}
instance:cY prog 56 1 1 54:={}
instance:cY prog 25 0 0 9:={}
instance:cY prog 25 1 1 22:={}
instance:fB prog 22:={}
instance:eg prog 22 62 4:={}
instance:j6 prog 62 4:={}
instance:cY prog 25 2 2 23:={}
instance:fB prog 23:={}
instance:eg prog 23 65 3:={}
instance:j6 prog 65 3:={}
instance:h7 prog 65 (.agg #[.string ⟨#[]⟩,.slice none 0 0,.int .i64 0]):={}
instance:cY prog 65 0 0 9:={}
instance:cY prog 65 1 1 63:={}
instance:fB prog 63:={}
instance:eg prog 63 56 6:={}
instance:j6 prog 56 6:={}
instance:cY prog 175 4 8 3:={}
instance:cY prog 175 5 9 3:={}
instance:cY prog 175 6 10 9:={}
instance:cY prog 175 2 6 35:={}
instance:fB prog 35:={}
instance:eg prog 35 116 2:={}
instance:cY prog 116 0 0 9:={}
instance:cY prog 175 0 0 38:={}
instance:cY prog 38 0 0 34:={}
instance:fB prog 34:={}
instance:eg prog 34 148 6:={}
instance:cY prog 148 0 0 9:={}
instance:cY prog 148 1 1 4:={}
instance:cY prog 148 2 2 3:={}
instance:h7 prog 148 (.agg #[.string ⟨#[]⟩,.bool false,.int .i64 0,.int .i64 0,.int .i64 0,.string ⟨#[]⟩]):={}
instance:kI prog 148 [(0,1),(1,1),(2,1),(3,1),(4,1),(5,1)]:={}
instance:cY prog 54 3 3 3:={}
instance:j6 prog 148 6:={}
instance:jM prog 34 148 6 64:={}
instance:cY prog 175 1 5 71:={}
instance:fB prog 71:={}
instance:eg prog 71 4 1:={}
instance:jM prog 71 4 1 1:={}
instance:h7 prog 116 (.agg #[.string ⟨#[]⟩,.string ⟨#[]⟩]):={}
instance:kI prog 116 [(0,1),(1,1)]:={}
instance:jM prog 35 116 2 32:={}
instance:cY prog 116 1 1 9:={}
instance:cY prog 148 3 3 3:={}
instance:cY prog 175 7 11 3:={}
instance:cY prog 148 4 4 3:={}
instance:cY prog 148 5 5 9:={}
instance:cY prog 175 3 7 104:={}
instance:fB prog 104:={}
instance:eg prog 104 9 1:={}
instance:cY prog 56 2 5 3:={}
instance:h7 prog 143 (.agg #[.int .i64 0,.slice none 0 0,.int .i64 0,.string ⟨#[]⟩,.slice none 0 0,.int .i64 0]):={}
instance:kI prog 143 [(0,1),(1,1),(2,1),(3,1),(4,1),(5,1)]:={}
instance:cY prog 143 1 1 27:={}
instance:fB prog 27:={}
instance:eg prog 27 3 1:={}
instance:jM prog 27 3 1 8:={}
instance:cY prog 59 2 5 3:={}
instance:cY prog 143 3 3 9:={}
instance:cY prog 143 5 5 3:={}
instance:cY prog 175 8 12 3:={}
instance:cY prog 38 2 2 36:={}
instance:fB prog 36:={}
instance:eg prog 36 143 6:={}
instance:jM prog 36 143 6 88:={}
instance:cY prog 143 2 2 3:={}
instance:cY prog 143 4 4 27:={}
instance:j6 prog 143 6:={}
instance:h7 prog 38 (.agg #[.slice none 0 0,.slice none 0 0,.slice none 0 0,.string ⟨#[]⟩,.string ⟨#[]⟩]):={}
instance:j6 prog 25 4:={}
instance:kI prog 38 [(0,1),(1,1),(2,1),(3,1),(4,1)]:={}
instance:j6 prog 38 5:={}
instance:h7 prog 4 (.bool false):={}
instance:x1 prog 4 1:={}
instance:h7 prog 175 (.agg #[.slice none 0 0,.slice none 0 0,.slice none 0 0,.string ⟨#[]⟩,.string ⟨#[]⟩,.slice none 0 0,.slice none 0 0,.slice none 0 0,.int .i64 0,.int .i64 0,.string ⟨#[]⟩,.int .i64 0,.int .i64 0]):={}
instance:kI prog 175 [(0,5),(5,1),(6,1),(7,1),(8,1),(9,1),(10,1),(11,1),(12,1)]:={}
instance:h7 prog 62 (.agg #[.int .i64 0,.string ⟨#[]⟩,.slice none 0 0,.int .i64 0]):={}
instance:h7 prog 54 (.agg #[.string ⟨#[]⟩,.bool false,.int .i64 0,.int .i64 0]):={}
instance:kI prog 54 [(0,1),(1,1),(2,1),(3,1)]:={}
instance:cY prog 65 2 2 3:={}
instance:jM prog 104 9 1 16:={}
instance:cY prog 38 1 1 35:={}
instance:j6 prog 116 2:={}
instance:cY prog 25 3 3 9:={}
instance:cY prog 38 3 3 9:={}
instance:cY prog 38 4 4 9:={}
instance:eg prog 97 112 2:={}
instance:cY prog 112 0 0 3:={}
instance:cY prog 112 1 1 3:={}
instance:j6 prog 112 2:={}
instance:jM prog 97 112 2 16:={}
instance:cY prog 143 0 0 3:={}
instance:h7 prog 112 (.agg #[.int .i64 0,.int .i64 0]):={}
instance:kI prog 112 [(0,1),(1,1)]:={}
instance:eg prog 39 100 2:={}
instance:cY prog 100 0 0 97:={}
instance:fB prog 97:={}
instance:h7 prog 100 (.agg #[.slice none 0 0,.slice none 0 0]):={}
instance:kI prog 100 [(0,1),(1,1)]:={}
instance:jM prog 39 100 2 48:={}
instance:cY prog 100 1 1 98:={}
instance:fB prog 98:={}
instance:h7 prog 132 (.agg #[.int .i64 0,.int .i64 0]):={}
instance:kI prog 132 [(0,1),(1,1)]:={}
instance:eg prog 98 132 2:={}
instance:jM prog 98 132 2 16:={}
instance:cY prog 132 0 0 3:={}
instance:cY prog 132 1 1 3:={}
instance:cY prog 81 4 4 27:={}
instance:cY prog 81 2 2 3:={}
instance:cY prog 81 3 3 4:={}
instance:h7 prog 81 (.agg #[.int .i64 0,.int .i64 0,.int .i64 0,.bool false,.slice none 0 0]):={}
instance:kI prog 81 [(0,1),(1,1),(2,1),(3,1),(4,1)]:={}
instance:eg prog 77 124 3:={}
instance:cY prog 124 0 0 3:={}
instance:cY prog 124 2 2 27:={}
instance:cY prog 124 1 1 3:={}
instance:j6 prog 81 5:={}
instance:eg prog 40 81 5:={}
instance:jM prog 40 81 5 56:={}
instance:eg prog 26 27 1:={}
instance:h7 prog 160 (.agg #[.int .i64 0,.int .i64 0]):={}
instance:kI prog 160 [(0,1),(1,1)]:={}
instance:eg prog 157 160 2:={}
instance:jM prog 157 160 2 16:={}
instance:cY prog 160 0 0 3:={}
instance:cY prog 160 1 1 3:={}
instance:jM prog 26 27 1 24:={}
instance:h7 prog 27 (.slice none 0 0):={}
instance:x1 prog 27 24:={}
instance:h7 prog 124 (.agg #[.int .i64 0,.int .i64 0,.slice none 0 0]):={}
instance:kI prog 124 [(0,1),(1,1),(2,1)]:={}
instance:j6 prog 124 3:={}
instance:jM prog 77 124 3 40:={}
instance:vP prog 186 .u32:={}
instance:vP prog 162 .u64:={}
instance:h7 prog 3 (.int .i64 0):={}
instance:x1 prog 3 8:={}
instance:h7 prog 45 (.agg #[.slice none 0 0,.slice none 0 0]):={}
instance:j6 prog 100 2:={}
instance:j6 prog 132 2:={}
instance:cY prog 45 1 1 26:={}
instance:fB prog 26:={}
instance:cY prog 45 0 0 43:={}
instance:fB prog 43:={}
instance:h7 prog 83 (.agg #[.int .i64 0,.int .i64 0]):={}
instance:eg prog 86 83 2:={}
instance:x1 prog 83 16:={}
instance:eg prog 43 86 1:={}
instance:jM prog 43 86 1 24:={}
instance:j6 prog 45 2:={}
instance:kI prog 83 [(0,1),(1,1)]:={}
instance:j6 prog 83 2:={}
instance:cY prog 81 1 1 3:={}
instance:cY prog 81 0 0 3:={}
instance:fB prog 86:={}
instance:h7 prog 89 (.agg #[.int .i64 0,.int .i64 0,.int .i64 0,.int .i64 0]):={}
instance:kI prog 89 [(0,1),(1,1),(2,1),(3,1)]:={}
instance:eg prog 46 89 4:={}
instance:jM prog 46 89 4 32:={}
instance:cY prog 83 0 0 3:={}
instance:cY prog 83 1 1 3:={}
instance:j6 prog 89 4:={}
instance:cY prog 89 2 2 3:={}
instance:h7 prog 94 (.agg #[.pointer none,.slice none 0 0]):={}
instance:cY prog 96 1 5 94:={}
instance:cY prog 96 0 0 38:={}
instance:cY prog 89 0 0 3:={}
instance:cY prog 89 1 1 3:={}
instance:cY prog 89 3 3 3:={}
instance:h7 prog 96 (.agg #[.slice none 0 0,.slice none 0 0,.slice none 0 0,.string ⟨#[]⟩,.string ⟨#[]⟩,.pointer none,.slice none 0 0]):={}
instance:kI prog 96 [(0,5),(5,2)]:={}
instance:h7 prog 105 (.agg #[.int .i64 0,.string ⟨#[]⟩]):={}
instance:kI prog 105 [(0,1),(1,1)]:={}
instance:eg prog 106 105 2:={}
instance:j6 prog 105 2:={}
instance:cY prog 105 0 0 3:={}
instance:cY prog 105 1 1 9:={}
instance:kI prog 59 [(0,4),(4,1),(5,1)]:={}
instance:h7 prog 56 (.agg #[.slice none 0 0,.string ⟨#[]⟩,.bool false,.int .i64 0,.int .i64 0,.int .i64 0]):={}
instance:kI prog 56 [(0,1),(1,4),(5,1)]:={}
instance:kI prog 65 [(0,1),(1,1),(2,1)]:={}
instance:h7 prog 25 (.agg #[.string ⟨#[]⟩,.slice none 0 0,.slice none 0 0,.string ⟨#[]⟩]):={}
instance:kI prog 25 [(0,1),(1,1),(2,1),(3,1)]:={}
instance:cY prog 62 3 3 3:={}
instance:kI prog 62 [(0,1),(1,1),(2,1),(3,1)]:={}
instance:jM prog 60 54 4 40:={}
instance:jM prog 22 62 4 56:={}
instance:jM prog 52 59 6 64:={}
instance:jM prog 63 56 6 72:={}
instance:jM prog 23 65 3 48:={}
instance:cY prog 29 0 0 3:={}
instance:cY prog 29 2 2 27:={}
instance:cY prog 29 1 1 26:={}
instance:cY prog 29 3 3 27:={}
instance:cY prog 29 4 4 4:={}
instance:j6 prog 29 5:={}
instance:eg prog 33 25 4:={}
instance:hr prog 22 Decl dG:={}
instance:hr prog 23 eZ h2:={}
instance:hr prog 26 (List Int) (b6 aY):={}
instance:hr prog 27 Int aY:={}
instance:hr prog 33 Source hI:={}
instance:hr prog 34 Tok bP:={}
instance:hr prog 35 fb bq:={}
instance:hr prog 36 Prod cm:={}
instance:hr prog 40 Cell iS:={}
instance:hr prog 46 eS fv:={}
instance:hr prog 52 Part fx:={}
instance:hr prog 60 Sym dI:={}
instance:hr prog 63 Alt fe:={}
instance:hr prog 71 Bool cr:={}
instance:hr prog 77 kJ q4:={}
instance:hr prog 86 Act dQ:={}
instance:hr prog 92 Int pw:={}
instance:hr prog 97 Item cW:={}
instance:hr prog 98 Move hG:={}
instance:hr prog 104 ByteArray cQ:={}
instance:hr prog 106 _anon105 r6:={}
instance:hr prog 157 Trans pt:={}
instance aaV {a0:Int}{r:ByteArray}:bJ prog 13 (kf a0=some r) [ae a0] [none] (ao r):=⟨λh=>by unfold kf at h; exact bH.bp (N:=⟨32,[]⟩) [0,2,3,4,8,16,28] (.ds [0,3] (λ(iZ:Int)=>[(3,.lit (.int .u64 iZ))]) .e (.eK (λ(dE:Int × ByteArray)=>[(3,.lit (.int .u64 dE.1)),(4,ao dE.2)]) [0,3,4] 0 (λ(b4:ByteArray)=>[(4,ao b4)]) [0,4] (.eT 5 [0,3,4,16] (λ(pn:Bool)=>[(16,bg pn)]) .e) .e)) func13 rfl rfl rfl rfl rfl dy⟩
instance aa0 {a0:Int}{r:Bool}:bJ prog 146 (CB a0=some r) [lY a0] [none] (bg r):=⟨λh=>by unfold CB at h; exact bH.bp (N:=⟨21,[]⟩) [0,2] (.eT 1 [2] (λ(pn:Bool)=>[(2,bg pn)]) .e) func146 rfl rfl rfl rfl rfl dy⟩
instance aa1 {a0:Int}{r:Bool}:bJ prog 147 (CC a0=some r) [lY a0] [none] (bg r):=⟨λh=>by unfold CC at h; exact bH.bp (N:=⟨9,[]⟩) [0,2] (.eT 1 [2] (λ(c2:Bool)=>[(2,bg c2)]) .e) func147 rfl rfl rfl rfl rfl dy⟩
instance aaX {a0:ByteArray}{aw:Int}{r:Int}:bJ prog 135 (CA a0 aw=some r) [ao a0,ae aw] [none,none] (ae r):=⟨λh=>by unfold CA at h; exact bH.bp (N:=⟨43,[]⟩) [0,1,4,5,39] (.eK (λ(s1:Int)=>[(5,ae s1)]) [0,1,5] 0 (λ(x2:Int)=>[(5,ae x2)]) [5] (.eT 2 [0,1,5,39] (λ(l1:Bool)=>[(39,bg l1)]) .e) .e) func135 rfl rfl rfl rfl rfl dy⟩
instance aaN {a0:ByteArray}{r:Bool}:bJ prog 113 (vm a0=some r) [ao a0] [none] (bg r):=⟨λh=>by unfold vm at h; exact bH.bp (N:=⟨18,[]⟩) [0,2] (.eT 1 [2] (λ(c4:Bool)=>[(2,bg c4)]) .e) func113 rfl rfl rfl rfl rfl dy⟩
instance ab6 {a0:Int}{r:Int × Bool}:bJ prog 85 (xu a0=some r) [lY a0] [none] (.bN [lY r.1,bg r.2]):=⟨λh=>by unfold xu at h; exact bH.bp (N:=⟨21,[]⟩) [0,2,3,4,5,7,9,11] (.b .e (.b .e (.b .e (.ds [0,11] (λ(vg:Bool)=>[(11,bg vg)]) .e (.b .e (.eT 11 [2,3] (λ(n3:Int × Bool)=>[(2,lY n3.1),(3,bg n3.2)]) .e)))))) func85 rfl rfl rfl rfl rfl dy⟩
instance aaW {a0:Sym}{aw:Bool}{a2:Bool}{r:Bool}:bJ prog 134 (tM a0 aw a2=some r) [.agg (dI.cells a0),bg aw,bg a2] [none,none,none] (bg r):=⟨λh=>by unfold tM at h; exact bH.bp (N:=⟨53,[]⟩) [1,2,3,6,8,10,23] (.b (.eT 2 [3,23] (λ(c4:Bool)=>[(23,bg c4)]) .e) (.eT 6 [6] (λ(l1:Bool)=>[(6,bg l1)]) .e)) func134 rfl rfl rfl rfl rfl dy⟩
instance aaM {a0:Decl}{r:Bool}:bJ prog 112 (xj a0=some r) [.agg (dG.cells a0)] [none] (bg r):=⟨λh=>by unfold xj at h; exact bH.bp (N:=⟨75,[]⟩) [1,2,3,54,59,74] (.eT 1 [1,54] (λ(v':Bool)=>[(54,bg v')]) (.b .e (.gz (λ(ln:Int)=>[(3,ae ln)]) [1,3] 0 (λ(e3:Unit)=>[]) [] (λ(hf:Bool)=>[(2,bg hf)]) [2] (.b (.rd 6 [[],[0],[],[0,1,2],[0,1,2,3],[],[5],[5,6],[],[8],[8,9],aF 0 11 [],aF 0 12 []] .e) .e) .e .e))) func112 rfl rfl rfl rfl rfl dy⟩
instance aaY {a0:Sym}{r:Bool}:bJ prog 136 (tN a0=some r) [.agg (dI.cells a0)] [none] (bg r):=⟨λh=>by unfold tN at h; exact bH.bp (N:=⟨16,[]⟩) [1,2] (.eT 1 [2] (λ(j8:Bool)=>[(2,bg j8)]) .e) func136 rfl rfl rfl rfl rfl dy⟩
instance aa4 {a0:ByteArray}{aw:Int}{a2:ByteArray}{r:Bool}:bJ prog 150 (xl a0 aw a2=some r) [ao a0,ae aw,ao a2] [none,none,none] (bg r):=⟨λh=>by unfold xl at h; exact bH.bp (N:=⟨25,[]⟩) [0,1,2,6] (.eT 1 [6] (λ(j8:Bool)=>[(6,bg j8)]) .e) func150 rfl rfl rfl rfl rfl dy⟩
instance aa2 {a0:ByteArray}{aw:Int}{r:Int}:bJ prog 148 (CD a0 aw=some r) [ao a0,ae aw] [none,none] (ae r):=⟨λh=>by unfold CD at h; exact bH.bp (N:=⟨114,[]⟩) [0,1,4,5,6,7,8,9,31,40,46,58,59,69,75,78,92,96,105,110] (.eT 1 [0,1,9] (λ(c4:Bool)=>[(9,bg c4)]) (.b (.gz (λ(cL:Int)=>[(5,ae cL)]) [0,1,5] 1 (λ(cf:Unit)=>[]) [] (λ(cR:Int)=>[(4,ae cR)]) [4] (.eT 3 [0,1,5,31] (λ(v_:Bool)=>[(31,bg v_)]) (.b (.rd 5 [[],[],[0,1],[],[],[3,4],aF 0 6 []] (.b .e (.b (.eT 9 [0,1,5,58] (λ(pk:Bool)=>[(58,bg pk)]) .e) .e))) .e)) .e .e) (.b (.gz (λ(kD:Int)=>[(6,ae kD)]) [0,6] 3 (λ(lq:Unit)=>[]) [] (λ(cz:Int)=>[(4,ae cz)]) [4] .e .e .e) (.b (.eK (λ(lL:Int)=>[(7,ae lL)]) [0,7] 5 (λ(gu:Int)=>[(7,ae gu)]) [7] (.eT 21 [0,7,92] (λ(tc:Bool)=>[(92,bg tc)]) .e) .e) (.b (.gz (λ(zQ:Int)=>[(8,ae zQ)]) [0,8] 7 (λ(Gj:Unit)=>[]) [] (λ(mc:Int)=>[(4,ae mc)]) [4] .e .e .e) .e))))) func148 rfl rfl rfl rfl rfl dy⟩
instance aaZ {a0:ByteArray}{aw:Int}{r:Int}:bJ prog 137 (zi a0 aw=some r) [ao a0,ae aw] [none,none] (ae r):=⟨λh=>by unfold zi at h; exact bH.bp (N:=⟨53,[]⟩) [0,1,4,5,6,7,21,26,31,34,39,45,51] (.eT 1 [0,1,21] (λ(c4:Bool)=>[(21,bg c4)]) (.b .e (.gz (λ(cL:Int × Int)=>[(5,ae cL.1),(6,ae cL.2)]) [0,5,6] 0 (λ(cf:Unit)=>[]) [] (λ(cR:Int)=>[(4,ae cR)]) [4] (.b (.b .e (.b .e (.ds [0,5,6] (λ(vf:Int)=>[(5,ae vf)]) .e (.ds [0,5,6] (λ(E4:Int)=>[(5,ae E4)]) .e .e)))) .e) .e .e))) func137 rfl rfl rfl rfl rfl dy⟩
instance aaO {a0:Alt}{r:Bool}:bJ prog 114 (xk a0=some r) [.agg (fe.cells a0)] [none] (bg r):=⟨λh=>by unfold xk at h; exact bH.bp (N:=⟨54,[]⟩) [1,2,3,4,9,45] (.gz (λ(s1:Int)=>[(3,ae s1)]) [1,3] 0 (λ(aZ:Unit)=>[]) [1] (λ(b4:Bool)=>[(2,bg b4)]) [2] (.b (.bW 5 [[],[0],[0,1],[0,1,2],[0,1,2,3],aF 0 5 [],aF 0 6 [],aF 0 7 [],aF 0 8 [],aF 0 9 [],aF 0 10 [],aF 0 11 [],aF 0 12 [],aF 0 13 [],aF 0 14 [],aF 0 15 [],aF 0 16 [],aF 0 17 [],aF 0 18 [],aF 0 19 [],aF 0 20 [],aF 0 21 [],aF 0 19 [],aF 0 19 [22],aF 0 19 [22,23],aF 0 25 [],aF 0 26 [],aF 0 27 [],aF 0 28 []] [1,3,45] (λ(n2:Bool)=>[(45,bg n2)]) .e) .e) (.eT 7 [2] (λ(AB:Bool)=>[(2,bg AB)]) .e) .e) func114 rfl rfl rfl rfl rfl dy⟩
instance ab7 {a0:Source}{r:Bool}:bJ prog 86 (xv a0=some r) [.agg (hI.cells a0)] [none] (bg r):=⟨λh=>by unfold xv at h; exact bH.bp (N:=⟨77,[]⟩) [1,2,3,4,5,6,7,13,22,27,36,41,58,63,72] (.gz (λ(s1:Int)=>[(3,ae s1)]) [1,3] 0 (λ(aZ:Unit)=>[]) [1] (λ(b4:Bool)=>[(2,bg b4)]) [2] .e (.gz (λ(ct:Int)=>[(4,ae ct)]) [1,4] 2 (λ(bR:Unit)=>[]) [1] (λ(dt:Bool)=>[(2,bg dt)]) [2] .e (.gz (λ(C':Int)=>[(5,ae C')]) [1,5] 4 (λ(eu:Unit)=>[]) [1] (λ(e3:Bool)=>[(2,bg e3)]) [2] (.b (.eT 15 [1,5,6,58] (λ(AD:Bool)=>[(58,bg AD)]) (.b .e (.gz (λ(Da:Int)=>[(7,ae Da)]) [1,5,6,7] 6 (λ(cz:Unit)=>[]) [1,5] (λ(ev:Bool)=>[(2,bg ev)]) [2] .e .e .e))) .e) .e .e) .e) .e) func86 rfl rfl rfl rfl rfl dy⟩
instance ab9 {a0:db}{aw:Int}{a2:ByteArray}{r:db}:bJ prog 88 (nk a0 aw a2=some r) [.obj (dH.cells a0),ae aw,ao a2] [some (.obj [ar bP r.aA.aW,ar bq r.aA.bA,ar cm r.aA.a7,ao r.aA.b_,ao r.aA.ch,ar cr r.cg,ar bq r.cx,ar cQ r.bX,ae r.cO,ae r.c8,ao r.c5,ae r.ca,ae r.bU]),none,none] (.bN []):=⟨λh=>by unfold nk at h; exact bH.bp (N:=⟨22,[0]⟩) [0,1,2,10] (.ds [0] (λ(iZ:db)=>[(0,.obj (dH.cells iZ))]) .e .e) func88 rfl rfl rfl rfl rfl dy⟩
instance acd {a0:db}{aw:ByteArray}{r:Int}:bJ prog 92 (zA a0 aw=some r) [.cJ ([ay bP a0.aA.aW,ay bq a0.aA.bA,ay cm a0.aA.a7,ao a0.aA.b_,ao a0.aA.ch,ay cr a0.cg,ay bq a0.cx,ay cQ a0.bX,ae a0.cO,ae a0.c8,ao a0.c5,ae a0.ca,ae a0.bU]),ao aw] [none,none] (ae r):=⟨λh=>by unfold zA at h; exact bH.bp (N:=⟨26,[]⟩) [0,1,4,5,12,24] (.gz (λ(s1:Int)=>[(5,ae s1)]) [0,1,5] 0 (λ(aZ:Unit)=>[]) [] (λ(b4:Int)=>[(4,ae b4)]) [4] .e .e .e) func92 rfl rfl rfl rfl rfl dy⟩
instance ab_ {a0:db}{aw:Sym}{r:Int}:bJ prog 89 (tP a0 aw=some r) [.cJ ([ay bP a0.aA.aW,ay bq a0.aA.bA,ay cm a0.aA.a7,ao a0.aA.b_,ao a0.aA.ch,ay cr a0.cg,ay bq a0.cx,ay cQ a0.bX,ae a0.cO,ae a0.c8,ao a0.c5,ae a0.ca,ae a0.bU]),.agg (dI.cells aw)] [none,none] (ae r):=⟨λh=>by unfold tP at h; exact bH.bp (N:=⟨47,[]⟩) [0,3,4,5,13,45] (.gz (λ(s1:Int)=>[(5,ae s1)]) [0,3,5] 0 (λ(aZ:Unit)=>[]) [] (λ(b4:Int)=>[(4,ae b4)]) [4] (.b (.bW 4 [[],[0],[0,1],[0,1,2],[0,1,2,3],[],aF 0 6 [],aF 0 7 [],aF 0 8 [],[],[9],aF 0 11 [],aF 0 12 [],aF 0 13 [],aF 0 14 [],aF 0 15 [],aF 0 16 [],aF 0 17 [],aF 0 13 [],aF 0 19 [],aF 0 20 [],aF 0 21 [],aF 0 13 [],aF 0 13 [22],aF 0 24 [],aF 0 25 [],aF 0 26 [],aF 0 27 [],aF 0 28 [],aF 0 29 []] [0,3,5,45] (λ(je:Bool)=>[(45,bg je)]) .e) .e) .e .e) func89 rfl rfl rfl rfl rfl dy⟩
instance aaQ {a0:db}{aw:Int}{r:Int}:bJ prog 116 (vo a0 aw=some r) [.cJ ([ay bP a0.aA.aW,ay bq a0.aA.bA,ay cm a0.aA.a7,ao a0.aA.b_,ao a0.aA.ch,ay cr a0.cg,ay bq a0.cx,ay cQ a0.bX,ae a0.cO,ae a0.c8,ao a0.c5,ae a0.ca,ae a0.bU]),ae aw] [none,none] (ae r):=⟨λh=>by unfold vo at h; exact bH.bp (N:=⟨28,[]⟩) [0,1,4,5,13,26] (.gz (λ(s1:Int)=>[(5,ae s1)]) [0,1,5] 0 (λ(aZ:Unit)=>[]) [] (λ(b4:Int)=>[(4,ae b4)]) [4] .e .e .e) func116 rfl rfl rfl rfl rfl dy⟩
instance aaP {a0:db}{aw:Sym}{r:Int × db}:bJ prog 115 (vn a0 aw=some r) [.obj (dH.cells a0),.agg (dI.cells aw)] [some (.obj [ar bP r.2.aA.aW,ar bq r.2.aA.bA,ar cm r.2.aA.a7,ao r.2.aA.b_,ao r.2.aA.ch,ar cr r.2.cg,ar bq r.2.cx,ar cQ r.2.bX,ae r.2.cO,ae r.2.c8,ao r.2.c5,ae r.2.ca,ae r.2.bU]),none] (ae r.1):=⟨λh=>by unfold vn at h; exact bH.bp (N:=⟨66,[0]⟩) [0,3,4,5,6,11,19,29] (.b .e (.ds [0,3,6] (λ(hW:db × Int)=>[(0,.obj (dH.cells hW.1)),(3006,ae hW.2)]) (.b (.ds [0,3,6] (λ(kz:db)=>[(0,.obj (dH.cells kz))]) .e .e) .e) (.rd 9 [[],[],[1],[1,2],[1,2,3],[1,2,3,4],[],[6],aF 1 7 [],aF 0 9 [],aF 0 10 [],aF 0 11 [],aF 0 12 []] (.rd 10 [[],[],[1],[1,2],[1,2,3],[],[5],[5,6],aF 1 7 [],aF 0 9 [],aF 0 10 [],aF 0 11 []] .e)))) func115 rfl rfl rfl rfl rfl dy⟩
theorem Hm (v:Value) (a0:db) (aw:Int) (a2:ByteArray) (r:db) (h:nk a0 aw a2=some r):bH prog 88 [.obj [.lit v,ar bq a0.aA.bA,ar cm a0.aA.a7,ao a0.aA.b_,ao a0.aA.ch,ar cr a0.cg,ar bq a0.cx,ar cQ a0.bX,ae a0.cO,ae a0.c8,ao a0.c5,ae a0.ca,ae a0.bU],ae aw,ao a2] [some (.obj [.lit v,ar bq r.aA.bA,ar cm r.aA.a7,ao r.aA.b_,ao r.aA.ch,ar cr r.cg,ar bq r.cx,ar cQ r.bX,ae r.cO,ae r.c8,ao r.c5,ae r.ca,ae r.bU]),none,none] (.bN []):=by
 unfold nk at h;refine bH.go (N:=⟨22,[0]⟩) func88 q q q q (W.fin ?_);refine W.st [(0,.obj [.lit v,ar bq a0.aA.bA,ar cm a0.aA.a7,ao a0.aA.b_,ao a0.aA.ch,ar cr a0.cg,ar bq a0.cx,ar cQ a0.bX,ae a0.cO,ae a0.c8,ao a0.c5,ae a0.ca,ae a0.bU]),(1,ae aw),(2,ao a2)] ?_;refine W.cC [0,1,2,10] ?_;refine aP h λiZ ag h=>W.eX [0] [(0,.obj [.lit v,ar bq iZ.aA.bA,ar cm iZ.aA.a7,ao iZ.aA.b_,ao iZ.aA.ch,ar cr iZ.cg,ar bq iZ.cx,ar cQ iZ.bX,ae iZ.cO,ae iZ.c8,ao iZ.c5,ae iZ.ca,ae iZ.bU])] ?_ ?_
 ·clear h; have h:=ag; clear ag;refine W.cX h q (λgh h=>?_) (λgh h=>?_)
  ·refine W.bW [0] (aq (O.a1 .z4)<|aq (O.a1 .z4)<|aq (O.a1 .z4)<|cn q<|cn q<|aq (O.dV .z5)<|aq O.y2<|aC.o6 (G2:=[(0,_),(12,.ptr ⟨0,[]⟩ 0),(13,.ptr ⟨0,[]⟩ 0),(14,_),(15,_)]) (cs2:=[.lit v,ar bq a0.aA.bA,ar cm a0.aA.a7,ao a0.aA.b_,ao a0.aA.ch,ar cr a0.cg,ar bq a0.cx,ar cQ a0.bX,ae 3,ae a0.c8,ao a0.c5,ae a0.ca,ae a0.bU]) q (.ptr q) (.k q) q Dh q q q q (.b q (.p q q q q q q (.p q q q q q q (.n q q (.n q q .nil)))))<|aq (O.dV .z5)<|aq O.y2<|aC.o6 (G2:=[(0,_),(13,.ptr ⟨0,[]⟩ 0),(15,_)]) (cs2:=[.lit v,ar bq a0.aA.bA,ar cm a0.aA.a7,ao a0.aA.b_,ao a0.aA.ch,ar cr a0.cg,ar bq a0.cx,ar cQ a0.bX,ae 3,ae aw,ao a0.c5,ae a0.ca,ae a0.bU]) q (.ptr q) (.lit q) q Dh q q q q (.b q (.p q q q q q q (.n q q .nil)))<|aq (O.dV .z5)<|aq O.y2<|aC.fX (bF.qL [0])<|bK q) ?_;exact sm h ▸ aD.dq
  ·exact W.da<|sm h ▸ aD.dq
 exact sm h ▸ aD.fin (Fin.ro .nil q (xg (by kernel_rfl)) (.al q q (.no (.no .nil))) q (.inl q))
theorem S8 (a0:db) (aw:Decl) (a2:Sym) (r:db) (h:vv a0 aw a2=some r):bH prog 87 [.obj (dH.cells a0),.agg (dG.cells aw),.agg (dI.cells a2)] [some (.obj [ar bP r.aA.aW,ar bq r.aA.bA,ar cm r.aA.a7,ao r.aA.b_,ao r.aA.ch,ar cr r.cg,ar bq r.cx,ar cQ r.bX,ae r.cO,ae r.c8,ao r.c5,ae r.ca,ae r.bU]),none,none] (.bN []):=by
 unfold vv at h;refine bH.go (N:=⟨152,[0]⟩) func87 q q q q (W.fin ?_);refine W.st [(0,.obj (dH.cells a0)),(1,.agg (dG.cells aw)),(2,.agg (dI.cells a2))] ?_;refine W.cF [0,4,5] (aq (O.box (.e4 q q) q)<|aq (O.box (.e4 q q) q)<|bK q) ?_;refine W.bV<|W.cC [0,4,5,11] ?_;refine W.cX h q (λku h=>?_) (λku h=>?_)
 ·refine aP h λx2 gZ h=>W.cF [0,4,5,6] (aq (O.a1 .z4)<|aq O.bS<|aq O.eb<|hE (c3.rR (ys:=[.ptr ⟨0,[]⟩ 0,ao a2.Name]) q (.c (View.nO q q) (.s .nil)) (bJ.go gZ))<|aC.bp) ?_;refine W.bV<|W.cC [0,4,5,6,17] ?_;refine aP h λhW ag h=>W.eX [0] [(0,.obj (dH.cells hW))] ?_ ?_
  ·clear h; have h:=ag; clear ag;refine W.cX h q (λnE h=>?_) (λnE h=>?_)
   ·refine aP h λcd ry h=>W.rd [[],[],[1],[1,2],[1,2,3],[],[5],[],[7],[5,6,7,8],aF 5 5 [],aF 1 10 [],aF 0 12 [],aF 0 13 [],aF 0 14 []] [(0,_)] gV (by kernel_rfl) (aT 0 (O.a1 .z4)<|aT 1 (O.a1 .z4)<|aT 2 (O.dV .z5)<|aT 3 O.y2<|aT 4 (O.dT (y:=.bn bq.z ⟨0,[6]⟩ a0.cx.length))<|aT 5 O.bS<|aT 6 O.eb<|aT 7 O.bS<|aT 8 O.eb<|aT 9 (O.e' (cs:=[ao a2.Name,ao aw.Tag]) FN Dy q q q)<|b1.hA 10 (x:=ay bq [(⟨a2.Name,aw.Tag⟩:fb)]) (O.bs (ys:=[.agg [ao a2.Name,ao aw.Tag]]) bq [(⟨a2.Name,aw.Tag⟩:fb)] xI q q q q q q Gu q q) q q q q .none<|aT 11 (O.ap (en:=bq) (r:=cd) .ec q .z2 .i GP q ry)<|aT 12 (O.dV .z5)<|aT 13 O.y2<|b1.ju 14 (bF.sp [0])<|b1.fin q q q (.n q .nil)) ?_;exact sm h ▸ aD.dq
   ·refine W.bV<|aP h λb2 pR h=>W.rd [[],[0],[0,1],[0,1,2],[],aF 0 5 [],aF 0 6 [],aF 0 7 [],[],[8],aF 0 10 []] [(0,_),(5,_),(42,_)] gV (by kernel_rfl) (aT 0 (O.a1 .z4)<|aT 1 (O.dV .z5)<|aT 2 O.y2<|aT 3 (O.dT (y:=.bn bq.z ⟨0,[6]⟩ a0.cx.length))<|aT 4 (O.a1 (.lit q))<|aT 5 (O.gU (en:=bq) q .ec .bh xI pR q)<|aT 6 (O.jU (en:=bq) q .z5 MW pR q q)<|aT 7 (O.kd (en:=bq) (x':=ao b2.Tag) q .z5 wg pR q q)<|aT 8 O.bS<|aT 9 O.eb<|aT 10 (O.nN .bh .bh)<|b1.fin q q q (sQ q q q)) ?_;refine aD.bQ<|aP h λkz ag h=>W.eX [0] [(0,.obj (dH.cells kz))] ?_ ?_
    ·clear h; have h:=ag; clear ag;refine W.cX h q (λVs h=>?_) (λVs h=>?_)
     ·refine aP h λcR sw h=>W.bW [0] (aq (O.a1 .z4)<|aq O.bS<|aq O.eb<|aq O.bS<|aq O.eb<|aC.hR q (bF.call q q (fp.g_ (G2:=[]) (A:=[]) (ys:=[.ptr ⟨0,[]⟩ 0,ae a2.At,ao a2.Name]) (args:=[.obj (dH.cells a0),ae a2.At,ao a2.Name]) (cs':=dH.cells cR) (k0:=0) q q q q (.b q (.n q (.n q .nil))) q (bJ.go sw) call88 .nil q q .nil .nil q))<|bK q) ?_;exact sm h ▸ aD.dq
     ·exact W.da<|sm h ▸ aD.dq
    exact sm h ▸ aD.dq
  exact aD.bQ<|W.rt<|aD.oy<|sm h ▸ aD.fin (Fin.ro .nil q (xg (by kernel_rfl)) (.al q q (.no (.no .nil))) q (.inr q))
 ·refine W.da<|aD.bQ<|aP h λbR rp h=>W.cF [0,4,5,7] (aq (O.a1 .z4)<|aq (O.fQ (cs':=dI.cells a2) q .z4 ym q q)<|aC.hR q (bF.call q q (fp.g_ (G2:=[(4,.obj (dG.cells aw)),(5,.obj (dI.cells a2))]) (A:=[]) (ys:=[.ptr ⟨0,[]⟩ 0,.agg (dI.cells a2)]) (args:=[.obj (dH.cells a0),.agg (dI.cells a2)]) (cs':=dH.cells bR.2) (k0:=0) q q q q (.b q (.n q .nil)) q (bJ.go rp) call115 (nr q q) q q (nr q q) .nil q))<|aC.bp) ?_;refine aP h λdt na h=>W.rs [(0,_),(4,_),(5,_),(7,_),(8,.ptr ⟨0,[0]⟩ (bR.1.toNat * bP.z+0))] (aq (O.a1 .z4)<|aq (O.dV .z5)<|aq O.y2<|aq O.y2<|aq (O.dT (y:=.bn bP.z ⟨0,[0]⟩ bR.2.aA.aW.length))<|cn q<|aq (O.gU (en:=bP) q .ec .bh FT na q)<|aq (O.dK .z5)<|iL (.n q (.n q (.n q (.n q (.r q (eo.el (en:=bP) q na q) jI .nil)))))) ?_;refine W.bV<|W.rs [(0,_),(4,_),(5,_),(7,_),(8,.ptr ⟨0,[0]⟩ (bR.1.toNat * bP.z+0)),(61,_)] (aq O.bS<|aq O.eb<|aq (O.neq .bh .cv)<|iL (.n q (.n q (.n q (.n q (.r q (eo.el (en:=bP) q na q) jI (.n q .nil))))))) ?_;refine aP h λfl ag h=>W.eX [0,4,5,7,8] [(0,.obj (dH.cells fl))] ?_ ?_
  ·clear h; have h:=ag; clear ag;refine W.cX h q (λA8 h=>?_) (λA8 h=>?_)
   ·refine W.bV<|W.rs [(0,_),(4,_),(5,_),(7,_),(8,.ptr ⟨0,[0]⟩ (bR.1.toNat * bP.z+0)),(66,_)] (aq (O.a1 .z5)<|aq (O.dV .z5)<|aq (O.jU (en:=bP) q .z5 MZ na q q)<|aq (O.kd (en:=bP) (x':=ae dt.Level) q .z5 we na q q)<|aq (O.gtr .bh .cv)<|iL (.n q (.n q (.n q (.n q (.r q (eo.el (en:=bP) q na q) jI (.n q .nil))))))) ?_;refine aP h λcZ ag h=>W.eX [0,4,5,7,8] [(0,.obj (dH.cells cZ))] ?_ ?_
    ·clear h; have h:=ag; clear ag;refine W.cX h q (λA_ h=>?_) (λA_ h=>?_)
     ·refine aP h λb8 rq h=>W.rx [(0,_),(4,_),(5,_),(7,_),(8,.ptr ⟨0,[0]⟩ (bR.1.toNat * bP.z+0))] (aq (O.a1 .z4)<|aq O.bS<|aq O.eb<|aq O.bS<|aq O.eb<|aC.hR (G2:=[(8,.ptr ⟨0,[0]⟩ (bR.1.toNat * bP.z+0))]++[(72,.bN []),(0,.obj [ar bP bR.2.aA.aW,ar bq b8.aA.bA,ar cm b8.aA.a7,ao b8.aA.b_,ao b8.aA.ch,ar cr b8.cg,ar bq b8.cx,ar cQ b8.bX,ae b8.cO,ae b8.c8,ao b8.c5,ae b8.ca,ae b8.bU]),(4,.obj (dG.cells aw)),(5,.obj (dI.cells a2)),(7,ae bR.1)]) q (bF.ei (r:=0) (k0:=0) (y:=ar bP bR.2.aA.aW) (cs5:=[ar bP bR.2.aA.aW,ar bq b8.aA.bA,ar cm b8.aA.a7,ao b8.aA.b_,ao b8.aA.ch,ar cr b8.cg,ar bq b8.cx,ar cQ b8.bX,ae b8.cO,ae b8.c8,ao b8.c5,ae b8.ca,ae b8.bU]) (G1:=λv=>[(0,.obj [.lit v,ar bq bR.2.aA.bA,ar cm bR.2.aA.a7,ao bR.2.aA.b_,ao bR.2.aA.ch,ar cr bR.2.cg,ar bq bR.2.cx,ar cQ bR.2.bX,ae bR.2.cO,ae bR.2.c8,ao bR.2.c5,ae bR.2.ca,ae bR.2.bU]),(4,.obj (dG.cells aw)),(5,.obj (dI.cells a2)),(7,ae bR.1),(67,.ptr ⟨0,[]⟩ 0),(69,ae a2.At),(71,ao a2.Name)]) (G4:=λv=>[(72,.bN []),(0,.obj [.lit v,ar bq b8.aA.bA,ar cm b8.aA.a7,ao b8.aA.b_,ao b8.aA.ch,ar cr b8.cg,ar bq b8.cx,ar cQ b8.bX,ae b8.cO,ae b8.c8,ao b8.c5,ae b8.ca,ae b8.bU]),(4,.obj (dG.cells aw)),(5,.obj (dI.cells a2)),(7,ae bR.1)]) (c4:=λv=>[.lit v,ar bq b8.aA.bA,ar cm b8.aA.a7,ao b8.aA.b_,ao b8.aA.ch,ar cr b8.cg,ar bq b8.cx,ar cQ b8.bX,ae b8.cO,ae b8.c8,ao b8.c5,ae b8.ca,ae b8.bU]) (G5:=[(72,.bN []),(0,.obj [ar bP bR.2.aA.aW,ar bq b8.aA.bA,ar cm b8.aA.a7,ao b8.aA.b_,ao b8.aA.ch,ar cr b8.cg,ar bq b8.cx,ar cQ b8.bX,ae b8.cO,ae b8.c8,ao b8.c5,ae b8.ca,ae b8.bU]),(4,.obj (dG.cells aw)),(5,.obj (dI.cells a2)),(7,ae bR.1)]) (A:=[(8,.ptr ⟨0,[0]⟩ (bR.1.toNat * bP.z+0))]) q q q q (λv=>(.b q (.n q q (.n q q (.n q q (.p q q q q q q (.n q q (.n q q .nil)))))))) (λv=>fp.g_ (G2:=[(4,.obj (dG.cells aw)),(5,.obj (dI.cells a2)),(7,ae bR.1)]) (A:=[]) (ys:=[.ptr ⟨0,[]⟩ 0,ae a2.At,ao a2.Name]) (args:=[.obj [.lit v,ar bq bR.2.aA.bA,ar cm bR.2.aA.a7,ao bR.2.aA.b_,ao bR.2.aA.ch,ar cr bR.2.cg,ar bq bR.2.cx,ar cQ bR.2.bX,ae bR.2.cO,ae bR.2.c8,ao bR.2.c5,ae bR.2.ca,ae bR.2.bU],ae a2.At,ao a2.Name]) (cs':=[.lit v,ar bq b8.aA.bA,ar cm b8.aA.a7,ao b8.aA.b_,ao b8.aA.ch,ar cr b8.cg,ar bq b8.cx,ar cQ b8.bX,ae b8.cO,ae b8.c8,ao b8.c5,ae b8.ca,ae b8.bU]) (k0:=0) q q q q (.b q (.n q (.n q .nil))) q (Hm v bR.2 a2.At a2.Name _ rq) call88 (sQ q q q) q q (sQ q q q) .nil q) (λv=>q) (λv=>q) (λv=>q) (λv=>(.n q q (.b q (.n q q (.n q q (.n q q .nil)))))) q (.c (en:=bP) (L:=bR.2.aA.aW) q q na q q q .nil))<|iL (.n q (.n q (.n q (.n q (.r q (eo.el (en:=bP) q na q) jI .nil)))))) ?_;exact sm h ▸ aD.ds (.n q (.n q (.n q (.n q (.r q (eo.el (en:=bP) q na q) jI .nil)))))
     ·exact W.da<|sm h ▸ aD.ds (.n q (.n q (.n q (.n q (.r q (eo.el (en:=bP) q na q) jI .nil)))))
    refine aP h λbG ka h=>aD.bQ<|W.rd [[],[],[],[2],[2,3],[2,3,4],[],[6],[6,7],[0,2,3,4,5],[0,2,3,4,5,9],[0,2,3,4,5,9,10],aF 0 12 [],aF 0 13 [],aF 0 14 []] [(0,_),(4,_),(5,_),(7,_),(8,.ptr ⟨0,[0]⟩ (bR.1.toNat * bP.z+0))] gV (by kernel_rfl) (aT 0 (O.a1 .z5)<|aT 1 (O.a1 .z5)<|aT 2 (O.a1 .z4)<|aT 3 (O.dV .z5)<|aT 4 O.y2<|aT 5 O.eb<|aT 6 O.bS<|aT 7 O.eb<|aT 8 (O.sub .bh .cv)<|aT 9 (O.dV .z5)<|aT 10 (O.jU (en:=bP) q .z5 MZ ka q q)<|b1.e' 11 (G2:=[(0,.obj [ar bP (cZ.aA.aW.set bR.1.toNat (⟨bG.Name,bG.Lit,bG.bT,cZ.ca,bG.e9,bG.Tag⟩:Tok)),ar bq cZ.aA.bA,ar cm cZ.aA.a7,ao cZ.aA.b_,ao cZ.aA.ch,ar cr cZ.cg,ar bq cZ.cx,ar cQ cZ.bX,ae cZ.cO,ae cZ.c8,ao cZ.c5,ae cZ.ca,ae cZ.bU]),(4,.obj (dG.cells aw)),(5,.obj (dI.cells a2)),(7,ae bR.1),(8,.ptr ⟨0,[0]⟩ (bR.1.toNat * bP.z+0))]) (U:=[(8,81,some (ae (aR (aw.Kind - 1)))),(7,80,some (ae aw.Kind)),(6,79,some (.ptr ⟨4,[]⟩ 0)),(1,74,some (.ptr ⟨0,[0]⟩ (bR.1.toNat * bP.z+0)))]) (nv.v (bF.oM (bF.xL (en:=bP) (y2:=(⟨bG.Name,bG.Lit,bG.bT,cZ.ca,bG.e9,bG.Tag⟩:Tok)) (cs':=[ae cZ.ca]) (x2:=.obj [ar bP (cZ.aA.aW.set bR.1.toNat (⟨bG.Name,bG.Lit,bG.bT,cZ.ca,bG.e9,bG.Tag⟩:Tok)),ar bq cZ.aA.bA,ar cm cZ.aA.a7,ao cZ.aA.b_,ao cZ.aA.ch,ar cr cZ.cg,ar bq cZ.cx,ar cQ cZ.bX,ae cZ.cO,ae cZ.c8,ao cZ.c5,ae cZ.ca,ae cZ.bU]) q q (.ptr q) (.lit q) q ka Dh q q q q q q q (.b q (.n q q (.n q q (.n q q (.e q q (.mk (en:=bP) q ka q (nJ ka) q) q .nil)))))))) q q (by kernel_rfl) q q q (.c (.inr (.inl ⟨_,q⟩)) q q q q q (fW.wanted .none) (O.sub .bh .cv) (.c (.inr (.inl ⟨_,q⟩)) q q q q q (fW.wanted .none) (O.oW q .z5 we q) (.c (.inr (.inr (.inr (.inl ⟨4,_,_,q,q,i_ q,by simp,_,q,i_ q⟩)))) q q q q q (fW.wanted .none) (O.mR q .z4 TT q) (.c (.inr (.inr (.inl ⟨8,_,_,q,q,q,by simp⟩))) q q q q q (fW.wanted .none) (O.a1 .z5) .nil)))) (by kernel_rfl)<|aT 12 (O.dV .z5)<|aT 13 (O.jU (en:=bP) q .z5 TN (nJ ka) q q)<|b1.ju 14 (G2:=[(0,.obj [ar bP ((cZ.aA.aW.set bR.1.toNat (⟨bG.Name,bG.Lit,bG.bT,cZ.ca,bG.e9,bG.Tag⟩:Tok)).set bR.1.toNat (⟨(⟨bG.Name,bG.Lit,bG.bT,cZ.ca,bG.e9,bG.Tag⟩:Tok).Name,(⟨bG.Name,bG.Lit,bG.bT,cZ.ca,bG.e9,bG.Tag⟩:Tok).Lit,(⟨bG.Name,bG.Lit,bG.bT,cZ.ca,bG.e9,bG.Tag⟩:Tok).bT,(⟨bG.Name,bG.Lit,bG.bT,cZ.ca,bG.e9,bG.Tag⟩:Tok).Level,aR (aw.Kind - 1),(⟨bG.Name,bG.Lit,bG.bT,cZ.ca,bG.e9,bG.Tag⟩:Tok).Tag⟩:Tok)),ar bq cZ.aA.bA,ar cm cZ.aA.a7,ao cZ.aA.b_,ao cZ.aA.ch,ar cr cZ.cg,ar bq cZ.cx,ar cQ cZ.bX,ae cZ.cO,ae cZ.c8,ao cZ.c5,ae cZ.ca,ae cZ.bU]),(4,.obj (dG.cells aw)),(5,.obj (dI.cells a2)),(7,ae bR.1),(8,.ptr ⟨0,[0]⟩ (bR.1.toNat * bP.z+0))]) (bF.xL (en:=bP) (y2:=(⟨(⟨bG.Name,bG.Lit,bG.bT,cZ.ca,bG.e9,bG.Tag⟩:Tok).Name,(⟨bG.Name,bG.Lit,bG.bT,cZ.ca,bG.e9,bG.Tag⟩:Tok).Lit,(⟨bG.Name,bG.Lit,bG.bT,cZ.ca,bG.e9,bG.Tag⟩:Tok).bT,(⟨bG.Name,bG.Lit,bG.bT,cZ.ca,bG.e9,bG.Tag⟩:Tok).Level,aR (aw.Kind - 1),(⟨bG.Name,bG.Lit,bG.bT,cZ.ca,bG.e9,bG.Tag⟩:Tok).Tag⟩:Tok)) (cs':=[ae (aR (aw.Kind - 1))]) (x2:=.obj [ar bP ((cZ.aA.aW.set bR.1.toNat (⟨bG.Name,bG.Lit,bG.bT,cZ.ca,bG.e9,bG.Tag⟩:Tok)).set bR.1.toNat (⟨(⟨bG.Name,bG.Lit,bG.bT,cZ.ca,bG.e9,bG.Tag⟩:Tok).Name,(⟨bG.Name,bG.Lit,bG.bT,cZ.ca,bG.e9,bG.Tag⟩:Tok).Lit,(⟨bG.Name,bG.Lit,bG.bT,cZ.ca,bG.e9,bG.Tag⟩:Tok).bT,(⟨bG.Name,bG.Lit,bG.bT,cZ.ca,bG.e9,bG.Tag⟩:Tok).Level,aR (aw.Kind - 1),(⟨bG.Name,bG.Lit,bG.bT,cZ.ca,bG.e9,bG.Tag⟩:Tok).Tag⟩:Tok)),ar bq cZ.aA.bA,ar cm cZ.aA.a7,ao cZ.aA.b_,ao cZ.aA.ch,ar cr cZ.cg,ar bq cZ.cx,ar cQ cZ.bX,ae cZ.cO,ae cZ.c8,ao cZ.c5,ae cZ.ca,ae cZ.bU]) q q (.ptr q) (.lit q) q (nJ ka) Dh q q q q q q q (.b q (.n q q (.n q q (.n q q (.e q q (.mk (en:=bP) q (nJ ka) q (nJ (nJ ka)) q) q .nil))))))<|b1.fin q q q (.n q (.n q (.n q (.n q (.r q (eo.el (en:=bP) q (nJ (nJ ka)) q) jI .nil)))))) ?_;exact sm h ▸ aD.ds (.n q (.n q (.n q (.n q (.r q (eo.el (en:=bP) q (nJ (nJ ka)) q) jI .nil)))))
   ·exact W.da<|sm h ▸ aD.ds (.n q (.n q (.n q (.n q (.r q (eo.el (en:=bP) q na q) jI .nil)))))
  refine aP h λeu kS h=>aD.bQ<|W.bV<|W.rs [(0,_),(4,_),(5,_),(7,_),(8,.ptr ⟨0,[0]⟩ (bR.1.toNat * bP.z+0)),(88,_)] (aq O.bS<|aq O.eb<|aq (O.gtr .bh .cv)<|iL (.n q (.n q (.n q (.n q (.r q (eo.el (en:=bP) q kS q) jI (.n q .nil))))))) ?_;refine aP h λeJ ag h=>W.eX [0,4,5,8] [(0,.obj (dH.cells eJ))] ?_ ?_
  ·clear h; have h:=ag; clear ag;refine W.cX h q (λBb h=>?_) (λBb h=>?_)
   ·refine W.bV<|aP h λG9 ag h=>W.np [0,4,5,7,8,106] [(106,bg G9)] ?_ ?_
    ·refine cn q<|aq (O.eql .bh .cv)<|aq (O.a1 (.lit q)) ?_;rcases ic ag with ⟨k_,ag⟩ | ⟨k_,ag⟩
     ·exact sm ag ▸ (gv k_<|gv k_<|gv k_<|gv k_<|gv k_<|gv k_<|gv k_<|aq (O.lJ .bh k_ .cv)<|cn q<|gv q<|gv q<|gv q<|gv q<|gv q<|aq (O.lJ .bh q .cv)<|iL (.n q (.n q (.n q (.n q (.r q (eo.el (en:=bP) q kS q) jI (.n q .nil)))))))
     ·refine b' k_ (O.a1 .z4)<|b' k_ (O.dV .z5)<|b' k_ O.y2<|b' k_ (O.dT (y:=.bn cr.z ⟨0,[5]⟩ fl.cg.length))<|b' k_ (O.a1 (.lit q)) ?_;refine aP ag λgB BQ ag=>b' k_ (O.gU (en:=cr) q .ec .bh qI BQ q)<|b' k_ (O.kd (en:=cr) (x':=bg gB) q .z5 AK BQ q q)<|aq (O.nm .bh k_ .bh)<|aq (O.a1 (.lit q)) ?_;rcases ic ag with ⟨mV,ag⟩ | ⟨mV,ag⟩
      ·exact sm ag ▸ (gv mV<|gv mV<|gv mV<|gv mV<|gv mV<|aq (O.lJ .bh mV .cv)<|iL (.n q (.n q (.n q (.n q (.r q (eo.el (en:=bP) q kS q) jI (.n q .nil)))))))
      ·refine b' mV (O.a1 .z4)<|b' mV O.bS<|b' mV O.eb ?_;exact aP ag λhg ru ag=>sm ag ▸ (aC.c (c3.rR (ys:=[.ptr ⟨0,[]⟩ 0,ae a2.bT]) q (.c (View.nO q q) (.s .nil)) (bJ.go ru)) q q (.o_ q q mV)<|b' mV (O.geq .bh .cv)<|aq (O.nm .bh mV .bh)<|iL (.n q (.n q (.n q (.n q (.r q (eo.el (en:=bP) q kS q) jI (.n q .nil)))))))
    refine aP h λdw ag h=>W.eX [0,4,5,7,8] [(0,.obj (dH.cells dw))] ?_ ?_
    ·clear h; have h:=ag; clear ag;refine W.cX h q (λIo h=>?_) (λIo h=>?_)
     ·refine aP h λcz BT h=>W.rx [(0,_),(4,_),(5,_),(7,_),(8,.ptr ⟨0,[0]⟩ (bR.1.toNat * bP.z+0))] (aq (O.a1 .z4)<|aq O.bS<|aq O.eb<|aq O.bS<|aq O.eb<|aC.hR (G2:=[(8,.ptr ⟨0,[0]⟩ (bR.1.toNat * bP.z+0))]++[(112,.bN []),(0,.obj [ar bP fl.aA.aW,ar bq cz.aA.bA,ar cm cz.aA.a7,ao cz.aA.b_,ao cz.aA.ch,ar cr cz.cg,ar bq cz.cx,ar cQ cz.bX,ae cz.cO,ae cz.c8,ao cz.c5,ae cz.ca,ae cz.bU]),(4,.obj (dG.cells aw)),(5,.obj (dI.cells a2)),(7,ae bR.1)]) q (bF.ei (r:=0) (k0:=0) (y:=ar bP fl.aA.aW) (cs5:=[ar bP fl.aA.aW,ar bq cz.aA.bA,ar cm cz.aA.a7,ao cz.aA.b_,ao cz.aA.ch,ar cr cz.cg,ar bq cz.cx,ar cQ cz.bX,ae cz.cO,ae cz.c8,ao cz.c5,ae cz.ca,ae cz.bU]) (G1:=λv=>[(0,.obj [.lit v,ar bq fl.aA.bA,ar cm fl.aA.a7,ao fl.aA.b_,ao fl.aA.ch,ar cr fl.cg,ar bq fl.cx,ar cQ fl.bX,ae fl.cO,ae fl.c8,ao fl.c5,ae fl.ca,ae fl.bU]),(4,.obj (dG.cells aw)),(5,.obj (dI.cells a2)),(7,ae bR.1),(107,.ptr ⟨0,[]⟩ 0),(109,ae a2.At),(111,ao a2.Name)]) (G4:=λv=>[(112,.bN []),(0,.obj [.lit v,ar bq cz.aA.bA,ar cm cz.aA.a7,ao cz.aA.b_,ao cz.aA.ch,ar cr cz.cg,ar bq cz.cx,ar cQ cz.bX,ae cz.cO,ae cz.c8,ao cz.c5,ae cz.ca,ae cz.bU]),(4,.obj (dG.cells aw)),(5,.obj (dI.cells a2)),(7,ae bR.1)]) (c4:=λv=>[.lit v,ar bq cz.aA.bA,ar cm cz.aA.a7,ao cz.aA.b_,ao cz.aA.ch,ar cr cz.cg,ar bq cz.cx,ar cQ cz.bX,ae cz.cO,ae cz.c8,ao cz.c5,ae cz.ca,ae cz.bU]) (G5:=[(112,.bN []),(0,.obj [ar bP fl.aA.aW,ar bq cz.aA.bA,ar cm cz.aA.a7,ao cz.aA.b_,ao cz.aA.ch,ar cr cz.cg,ar bq cz.cx,ar cQ cz.bX,ae cz.cO,ae cz.c8,ao cz.c5,ae cz.ca,ae cz.bU]),(4,.obj (dG.cells aw)),(5,.obj (dI.cells a2)),(7,ae bR.1)]) (A:=[(8,.ptr ⟨0,[0]⟩ (bR.1.toNat * bP.z+0))]) q q q q (λv=>(.b q (.n q q (.n q q (.n q q (.p q q q q q q (.n q q (.n q q .nil)))))))) (λv=>fp.g_ (G2:=[(4,.obj (dG.cells aw)),(5,.obj (dI.cells a2)),(7,ae bR.1)]) (A:=[]) (ys:=[.ptr ⟨0,[]⟩ 0,ae a2.At,ao a2.Name]) (args:=[.obj [.lit v,ar bq fl.aA.bA,ar cm fl.aA.a7,ao fl.aA.b_,ao fl.aA.ch,ar cr fl.cg,ar bq fl.cx,ar cQ fl.bX,ae fl.cO,ae fl.c8,ao fl.c5,ae fl.ca,ae fl.bU],ae a2.At,ao a2.Name]) (cs':=[.lit v,ar bq cz.aA.bA,ar cm cz.aA.a7,ao cz.aA.b_,ao cz.aA.ch,ar cr cz.cg,ar bq cz.cx,ar cQ cz.bX,ae cz.cO,ae cz.c8,ao cz.c5,ae cz.ca,ae cz.bU]) (k0:=0) q q q q (.b q (.n q (.n q .nil))) q (Hm v fl a2.At a2.Name _ BT) call88 (sQ q q q) q q (sQ q q q) .nil q) (λv=>q) (λv=>q) (λv=>q) (λv=>(.n q q (.b q (.n q q (.n q q (.n q q .nil)))))) q (.c (en:=bP) (L:=fl.aA.aW) q q kS q q q .nil))<|iL (.n q (.n q (.n q (.n q (.r q (eo.el (en:=bP) q kS q) jI .nil)))))) ?_;exact sm h ▸ aD.ds (.n q (.n q (.n q (.n q (.r q (eo.el (en:=bP) q kS q) jI .nil)))))
     ·exact W.da<|sm h ▸ aD.ds (.n q (.n q (.n q (.n q (.r q (eo.el (en:=bP) q kS q) jI .nil)))))
    refine aP h λev qs h=>aD.bQ<|W.rs [(0,_),(4,_),(5,_),(7,_),(8,.ptr ⟨0,[0]⟩ (bR.1.toNat * bP.z+0))] (aq (O.a1 .z5)<|aq O.bS<|aq O.eb<|aq (O.dV .z5)<|aq (O.jU (en:=bP) q .z5 MY qs q q)<|aC.hR (G2:=[(0,.obj [ar bP (dw.aA.aW.set bR.1.toNat (⟨ev.Name,ev.Lit,a2.bT,ev.Level,ev.e9,ev.Tag⟩:Tok)),ar bq dw.aA.bA,ar cm dw.aA.a7,ao dw.aA.b_,ao dw.aA.ch,ar cr dw.cg,ar bq dw.cx,ar cQ dw.bX,ae dw.cO,ae dw.c8,ao dw.c5,ae dw.ca,ae dw.bU]),(4,.obj (dG.cells aw)),(5,.obj (dI.cells a2)),(7,ae bR.1),(8,.ptr ⟨0,[0]⟩ (bR.1.toNat * bP.z+0))]) q (bF.xL (en:=bP) (y2:=(⟨ev.Name,ev.Lit,a2.bT,ev.Level,ev.e9,ev.Tag⟩:Tok)) (cs':=[ae a2.bT]) (x2:=.obj [ar bP (dw.aA.aW.set bR.1.toNat (⟨ev.Name,ev.Lit,a2.bT,ev.Level,ev.e9,ev.Tag⟩:Tok)),ar bq dw.aA.bA,ar cm dw.aA.a7,ao dw.aA.b_,ao dw.aA.ch,ar cr dw.cg,ar bq dw.cx,ar cQ dw.bX,ae dw.cO,ae dw.c8,ao dw.c5,ae dw.ca,ae dw.bU]) q q (.ptr q) (.lit q) q qs Dh q q q q q q q (.b q (.n q q (.n q q (.n q q (.e q q (.mk (en:=bP) q qs q (nJ qs) q) q .nil))))))<|iL (.n q (.n q (.n q (.n q (.r q (eo.el (en:=bP) q (nJ qs) q) jI .nil)))))) ?_;refine aP h λgC u6 h=>W.rx [(0,_),(4,_),(5,_),(8,.ptr ⟨0,[0]⟩ (bR.1.toNat * bP.z+0))] (aq (O.a1 .z4)<|aq (O.dV .z5)<|aq O.y2<|aq (O.dT (y:=.bn cr.z ⟨0,[5]⟩ dw.cg.length))<|cn q<|aq (O.gU (en:=cr) q .ec .bh qI u6 q)<|aC.hR (G2:=[(0,.obj [ar bP (dw.aA.aW.set bR.1.toNat (⟨ev.Name,ev.Lit,a2.bT,ev.Level,ev.e9,ev.Tag⟩:Tok)),ar bq dw.aA.bA,ar cm dw.aA.a7,ao dw.aA.b_,ao dw.aA.ch,ar cr (dw.cg.set bR.1.toNat true),ar bq dw.cx,ar cQ dw.bX,ae dw.cO,ae dw.c8,ao dw.c5,ae dw.ca,ae dw.bU]),(4,.obj (dG.cells aw)),(5,.obj (dI.cells a2)),(8,.ptr ⟨0,[0]⟩ (bR.1.toNat * bP.z+0))]) q (bF.xL (en:=cr) (y2:=true) (cs':=[bg true]) (x2:=.obj [ar bP (dw.aA.aW.set bR.1.toNat (⟨ev.Name,ev.Lit,a2.bT,ev.Level,ev.e9,ev.Tag⟩:Tok)),ar bq dw.aA.bA,ar cm dw.aA.a7,ao dw.aA.b_,ao dw.aA.ch,ar cr (dw.cg.set bR.1.toNat true),ar bq dw.cx,ar cQ dw.bX,ae dw.cO,ae dw.c8,ao dw.c5,ae dw.ca,ae dw.bU]) q q (.ptr q) (.k q) q u6 ZD q q q q q q q (.b q (.n q q (.n q q (.e q q (.mk (en:=bP) q (nJ qs) q (nJ qs) q) q .nil)))))<|iL (.n q (.n q (.n q (.r q (eo.el (en:=bP) q (nJ qs) q) jI .nil))))) ?_;exact sm h ▸ aD.ds (.n q (.n q (.n q (.r q (eo.el (en:=bP) q (nJ qs) q) jI .nil))))
   ·exact W.da<|sm h ▸ aD.ds (.n q (.n q (.n q (.r q (eo.el (en:=bP) q kS q) jI .nil))))
  refine aP h λlr pP h=>aD.bQ<|W.rs [(0,_),(4,_),(5,_),(8,.ptr ⟨0,[0]⟩ (bR.1.toNat * bP.z+0)),(126,_)] (aq O.bS<|aq O.eb<|aq (O.nN .bh .cv)<|iL (.n q (.n q (.n q (.r q (eo.el (en:=bP) q pP q) jI (.n q .nil)))))) ?_;refine aP h λoU ag h=>W.eX [0] [(0,.obj (dH.cells oU))] ?_ ?_
  ·clear h; have h:=ag; clear ag;refine W.cX h q (λmW h=>?_) (λmW h=>?_)
   ·refine W.bV<|W.bV<|aP h λwa ag h=>W.rd [[],[0],[0,1],[0,1,2],[0,1,2,3],aF 0 5 [],aF 0 6 [],aF 0 7 [],aF 0 8 [],aF 0 9 [],aF 0 6 [],aF 0 6 [10],aF 0 12 [],aF 0 13 []] [(0,.obj (dH.cells eJ)),(4,.obj (dG.cells aw)),(5,.obj (dI.cells a2)),(8,.ptr ⟨0,[0]⟩ (bR.1.toNat * bP.z+0)),(140,bg wa)] gV (by kernel_rfl) ?_ ?_
    ·refine aT 0 (O.a1 .z5)<|aT 1 (O.dV .z5)<|aT 2 (O.jU (en:=bP) q .z5 Hy pP q q)<|aT 3 (O.kd (en:=bP) (x':=ao lr.Tag) q .z5 wg pP q q)<|aT 4 (O.nN .bh .cv)<|aT 5 (O.a1 (.lit q)) ?_;rcases ic ag with ⟨jj,ag⟩ | ⟨jj,ag⟩
     ·exact sm ag ▸ (vO 6 jj (O.a1 .z5)<|vO 7 jj (O.dV .z5)<|vO 8 jj (O.jU (en:=bP) q .z5 Hy pP q q)<|vO 9 jj (O.kd (en:=bP) (x':=ao lr.Tag) q .z5 wg pP q q)<|vO 10 jj O.bS<|vO 11 jj O.eb<|vO 12 jj (O.nN .bh .bh)<|aT 13 (O.lJ .bh jj .bh)<|b1.fin q q q (.n q (.n q (.n q (.r q (eo.el (en:=bP) q pP q) jI (.n q .nil))))))
     ·exact sm ag ▸ (vN 6 jj<|vN 7 jj<|vN 8 jj<|vN 9 jj<|vN 10 jj<|vN 11 jj<|vN 12 jj<|aT 13 (O.nm .bh jj .cv)<|b1.fin q q q (.n q (.n q (.n q (.r q (eo.el (en:=bP) q pP q) jI (.n q .nil))))))
    refine aD.bQ<|aP h λkb ag h=>W.eX [0,4,8] [(0,.obj (dH.cells kb))] ?_ ?_
    ·clear h; have h:=ag; clear ag;refine W.cX h q (λuL h=>?_) (λuL h=>?_)
     ·refine aP h λcI BX h=>W.rx [(0,_),(4,_),(8,.ptr ⟨0,[0]⟩ (bR.1.toNat * bP.z+0))] (aq (O.a1 .z4)<|aq O.bS<|aq O.eb<|aq O.bS<|aq O.eb<|aC.hR (G2:=[(8,.ptr ⟨0,[0]⟩ (bR.1.toNat * bP.z+0))]++[(146,.bN []),(0,.obj [ar bP eJ.aA.aW,ar bq cI.aA.bA,ar cm cI.aA.a7,ao cI.aA.b_,ao cI.aA.ch,ar cr cI.cg,ar bq cI.cx,ar cQ cI.bX,ae cI.cO,ae cI.c8,ao cI.c5,ae cI.ca,ae cI.bU]),(4,.obj (dG.cells aw))]) q (bF.ei (r:=0) (k0:=0) (y:=ar bP eJ.aA.aW) (cs5:=[ar bP eJ.aA.aW,ar bq cI.aA.bA,ar cm cI.aA.a7,ao cI.aA.b_,ao cI.aA.ch,ar cr cI.cg,ar bq cI.cx,ar cQ cI.bX,ae cI.cO,ae cI.c8,ao cI.c5,ae cI.ca,ae cI.bU]) (G1:=λv=>[(0,.obj [.lit v,ar bq eJ.aA.bA,ar cm eJ.aA.a7,ao eJ.aA.b_,ao eJ.aA.ch,ar cr eJ.cg,ar bq eJ.cx,ar cQ eJ.bX,ae eJ.cO,ae eJ.c8,ao eJ.c5,ae eJ.ca,ae eJ.bU]),(4,.obj (dG.cells aw)),(141,.ptr ⟨0,[]⟩ 0),(143,ae a2.At),(145,ao a2.Name)]) (G4:=λv=>[(146,.bN []),(0,.obj [.lit v,ar bq cI.aA.bA,ar cm cI.aA.a7,ao cI.aA.b_,ao cI.aA.ch,ar cr cI.cg,ar bq cI.cx,ar cQ cI.bX,ae cI.cO,ae cI.c8,ao cI.c5,ae cI.ca,ae cI.bU]),(4,.obj (dG.cells aw))]) (c4:=λv=>[.lit v,ar bq cI.aA.bA,ar cm cI.aA.a7,ao cI.aA.b_,ao cI.aA.ch,ar cr cI.cg,ar bq cI.cx,ar cQ cI.bX,ae cI.cO,ae cI.c8,ao cI.c5,ae cI.ca,ae cI.bU]) (G5:=[(146,.bN []),(0,.obj [ar bP eJ.aA.aW,ar bq cI.aA.bA,ar cm cI.aA.a7,ao cI.aA.b_,ao cI.aA.ch,ar cr cI.cg,ar bq cI.cx,ar cQ cI.bX,ae cI.cO,ae cI.c8,ao cI.c5,ae cI.ca,ae cI.bU]),(4,.obj (dG.cells aw))]) (A:=[(8,.ptr ⟨0,[0]⟩ (bR.1.toNat * bP.z+0))]) q q q q (λv=>(.b q (.n q q (.p q q q q q q (.n q q (.n q q .nil)))))) (λv=>fp.g_ (G2:=[(4,.obj (dG.cells aw))]) (A:=[]) (ys:=[.ptr ⟨0,[]⟩ 0,ae a2.At,ao a2.Name]) (args:=[.obj [.lit v,ar bq eJ.aA.bA,ar cm eJ.aA.a7,ao eJ.aA.b_,ao eJ.aA.ch,ar cr eJ.cg,ar bq eJ.cx,ar cQ eJ.bX,ae eJ.cO,ae eJ.c8,ao eJ.c5,ae eJ.ca,ae eJ.bU],ae a2.At,ao a2.Name]) (cs':=[.lit v,ar bq cI.aA.bA,ar cm cI.aA.a7,ao cI.aA.b_,ao cI.aA.ch,ar cr cI.cg,ar bq cI.cx,ar cQ cI.bX,ae cI.cO,ae cI.c8,ao cI.c5,ae cI.ca,ae cI.bU]) (k0:=0) q q q q (.b q (.n q (.n q .nil))) q (Hm v eJ a2.At a2.Name _ BX) call88 (.n q .nil) q q (.n q .nil) .nil q) (λv=>q) (λv=>q) (λv=>q) (λv=>(.n q q (.b q (.n q q .nil)))) q (.c (en:=bP) (L:=eJ.aA.aW) q q pP q q q .nil))<|iL (.n q (.n q (.r q (eo.el (en:=bP) q pP q) jI .nil)))) ?_;exact sm h ▸ aD.ds (.n q (.n q (.r q (eo.el (en:=bP) q pP q) jI .nil)))
     ·exact W.da<|sm h ▸ aD.ds (.n q (.n q (.r q (eo.el (en:=bP) q pP q) jI .nil)))
    refine aP h λjL u7 h=>aD.bQ<|W.bW [0] (aq (O.a1 .z5)<|aq O.bS<|aq O.eb<|aq (O.dV .z5)<|aq (O.jU (en:=bP) q .z5 Hy u7 q q)<|aC.fX (bF.tS (en:=bP) (y2:=(⟨jL.Name,jL.Lit,jL.bT,jL.Level,jL.e9,aw.Tag⟩:Tok)) [0] u7)<|bK q) ?_;exact sm h ▸ aD.dq
   ·exact W.da<|sm h ▸ aD.dq
  exact sm h ▸ aD.fin (Fin.ro .nil q (xg (by kernel_rfl)) (.al q q (.no (.no .nil))) q (.inl q))
instance ab8 {a0:db}{aw:Decl}{a2:Sym}{r:db}:bJ prog 87 (vv a0 aw a2=some r) [.obj (dH.cells a0),.agg (dG.cells aw),.agg (dI.cells a2)] [some (.obj [ar bP r.aA.aW,ar bq r.aA.bA,ar cm r.aA.a7,ao r.aA.b_,ao r.aA.ch,ar cr r.cg,ar bq r.cx,ar cQ r.bX,ae r.cO,ae r.c8,ao r.c5,ae r.ca,ae r.bU]),none,none] (.bN []):=⟨S8 a0 aw a2 _⟩
instance aca {a0:db}{aw:ByteArray}{r:Int}:bJ prog 90 (sJ a0 aw=some r) [.cJ ([ay bP a0.aA.aW,ay bq a0.aA.bA,ay cm a0.aA.a7,ao a0.aA.b_,ao a0.aA.ch,ay cr a0.cg,ay bq a0.cx,ay cQ a0.bX,ae a0.cO,ae a0.c8,ao a0.c5,ae a0.ca,ae a0.bU]),ao aw] [none,none] (ae r):=⟨λh=>by unfold sJ at h; exact bH.bp (N:=⟨25,[]⟩) [0,1,4,5,12,23] (.gz (λ(s1:Int)=>[(5,ae s1)]) [0,1,5] 0 (λ(aZ:Unit)=>[]) [] (λ(b4:Int)=>[(4,ae b4)]) [4] .e .e .e) func90 rfl rfl rfl rfl rfl dy⟩
instance aaR {a0:db}{aw:Sym}{r:Int × db}:bJ prog 117 (sF a0 aw=some r) [.obj (dH.cells a0),.agg (dI.cells aw)] [some (.obj [ar bP r.2.aA.aW,ar bq r.2.aA.bA,ar cm r.2.aA.a7,ao r.2.aA.b_,ao r.2.aA.ch,ar cr r.2.cg,ar bq r.2.cx,ar cQ r.2.bX,ae r.2.cO,ae r.2.c8,ao r.2.c5,ae r.2.ca,ae r.2.bU]),none] (ae r.1):=⟨λh=>by unfold sF at h; exact bH.bp (N:=⟨32,[0]⟩) [0,3,4,5,6,8,17,24] .e func117 rfl rfl rfl rfl rfl dy⟩
theorem S_ (a0:db) (aw:ByteArray) (a2:Alt) (r:db) (h:vx a0 aw a2=some r):bH prog 91 [.obj (dH.cells a0),ao aw,.agg (fe.cells a2)] [some (.obj [ar bP r.aA.aW,ar bq r.aA.bA,ar cm r.aA.a7,ao r.aA.b_,ao r.aA.ch,ar cr r.cg,ar bq r.cx,ar cQ r.bX,ae r.cO,ae r.c8,ao r.c5,ae r.ca,ae r.bU]),none,none] (.bN []):=by
 unfold vx at h;refine bH.go (N:=⟨173,[0]⟩) func91 q q q q (W.fin ?_);refine W.st [(0,.obj (dH.cells a0)),(1,ao aw),(2,.agg (fe.cells a2))] ?_;refine W.cF [0,1,5] (aq (O.box (.e4 q q) q)<|bK q) ?_;refine W.bV<|aP h λaX jD h=>W.rd [[],[],[0,1],[0,1,2],[],[4],aF 0 6 [],[],aF 0 8 []] [(0,_),(5,_),(6,_)] gV (by kernel_rfl) (aT 0 (O.a1 .z4)<|aT 1 (O.a1 (.lit q))<|lz 2 (c3.rR (ys:=[.ptr ⟨0,[]⟩ 0,ao aw]) q (.c (View.nO q q) (.s .nil)) (bJ.go jD))<|aT 3 (O.add .cv .bh)<|aT 4 O.bS<|aT 5 O.eb<|aT 6 (O.e' (cs:=[ae (aR (1+aX)),.bf,ae (-1),ao bk,.bf,ae a2.At]) KG Gr q q q)<|aT 7 (O.hQ (cs:=[ae 0,.bf,ae 0,ao bk,.bf,ae 0]) Gr q q)<|b1.ju 8 (bF.jo [0,5,6])<|b1.fin q q q (sQ q q q)) ?_;refine aD.bQ<|W.bV<|W.cC [0,5,6,7] ?_;refine W.cq<|aP h λaZ ah h=>W.gy (a0,([]:List Int),bk,a2.At,0) (λ(s2:db × List Int × ByteArray × Int × Int)=>[(0,.obj (dH.cells s2.1)),(6,.obj [ae (aR (1+aX)),ar aY s2.2.1,ae (-1),ao s2.2.2.1,.bf,ae s2.2.2.2.1]),(7,ae s2.2.2.2.2)]) [0,5,6,7] 0 (λ(aZ:db × List Int × ByteArray × Int)=>[(0,.obj (dH.cells aZ.1)),(6,.obj [ae (aR (1+aX)),ar aY aZ.2.1,ae (-1),ao aZ.2.2.1,.bf,ae aZ.2.2.2])]) [0,5,6] ah (λs2 o h=>?_) ?_
 ·clear ah;refine W.bV<|W.cC [0,5,6,7,21] ?_;refine W.cX h q (λwy h=>?_) (λwy h=>?_)
  ·refine W.da<|aD.bQ<|W.bV<|aP h λiE ag h=>W.eX [0,5,6,7] [(0,.obj (dH.cells iE.1)),(6,.obj [ae (aR (1+aX)),ar aY iE.2.1,ae (-1),ao iE.2.2.1,.bf,ae iE.2.2.2])] ?_ ?_
   ·clear h; have h:=ag; clear ag;refine W.cq<|aP h λbt od h=>W.cF [0,5,6,7,8] (aq O.bS<|aq (O.dT (y:=ay fx a2.Parts))<|cn q<|aq (O.hl od)<|aq (O.oo (cs':=fx.cells bt) .o' RX q q)<|aq (O.hQ (cs:=[ao bk,bg false,ae 0,ae 0,ao bk,ae 0]) Ad q q)<|aC.fX (bF.jo [0,5,6,7,8])<|bK q) ?_;refine aP h λnc ag h=>W.eX [0,5,6,7] [(0,.obj (dH.cells nc.1)),(6,.obj [ae (aR (1+aX)),ar aY nc.2.1,ae (-1),ao nc.2.2.1,.bf,ae nc.2.2.2])] ?_ ?_
    ·clear h; have h:=ag; clear ag;refine W.cq<|W.cC [0,5,6,7,8,82] ?_;refine aP h λpV ag h=>W.eX [0,5,6,7] [(0,.obj (dH.cells pV.1)),(6,.obj [ae (aR (1+aX)),ar aY pV.2.1,ae (-1),ao pV.2.2.1,.bf,ae pV.2.2.2])] ?_ ?_
     ·clear h; have h:=ag; clear ag;refine W.cX h q (λIj h=>?_) (λIj h=>?_)
      ·refine aP h λdt na h=>aP h λc0 pO h=>W.rd [[],[0],[],[],[3],[2,3,4],[2,3,4,5],aF 0 7 [],aF 0 8 [],aF 0 9 []] [(0,_),(5,_),(6,_),(7,_)] gV (by kernel_rfl) (aT 0 O.bS<|aT 1 (O.dT (y:=.bn aY.z ⟨6,[1]⟩ s2.2.1.length))<|aT 2 (O.a1 .z4)<|aT 3 O.bS<|aT 4 (O.fQ (cs':=dI.cells bt.Sym) q .z5 ym q q)<|b1.e' 5 (G2:=(6,.obj [ae (aR (1+aX)),ar aY s2.2.1,ae (-1),ao s2.2.2.1,.bf,ae s2.2.2.2.1])::[(91,ae dt.1),(0,.obj (dH.cells dt.2)),(5,.obj (fe.cells a2)),(7,ae s2.2.2.2.2)]) (U:=[(1,87,some (.bn aY.z ⟨6,[1]⟩ s2.2.1.length)),(0,86,some (.ptr ⟨6,[]⟩ 1))]) (pc.box (r:=6) (G1:=[(0,.obj (dH.cells s2.1)),(5,.obj (fe.cells a2)),(7,ae s2.2.2.2.2),(88,.ptr ⟨0,[]⟩ 0),(90,.agg (dI.cells bt.Sym))]) (G2:=[(91,ae dt.1),(0,.obj (dH.cells dt.2)),(5,.obj (fe.cells a2)),(7,ae s2.2.2.2.2)]) (bF.call q q (fp.g_ (G2:=[(5,.obj (fe.cells a2)),(7,ae s2.2.2.2.2)]) (A:=[]) (ys:=[.ptr ⟨0,[]⟩ 0,.agg (dI.cells bt.Sym)]) (args:=[.obj (dH.cells s2.1),.agg (dI.cells bt.Sym)]) (cs':=dH.cells dt.2) (k0:=0) q q q q (.b q (.n q .nil)) q (bJ.go na) call117 (nr q q) q q (nr q q) .nil q)) q (.n q (.n q (.n q (.q q q q (.n q .nil))))) q q q) q q (by kernel_rfl) q q q (.c (.inl ⟨6,[1],_,_,_,_,q,by simp [rM],q,q,Nat.le_refl _⟩) q q q q q (fW.wanted .none) (O.y7 (y:=.bn aY.z ⟨6,[1]⟩ s2.2.1.length) q .z5 MD q q) (.c (.inr (.inr (.inr (.inl ⟨6,_,_,q,q,i_ q,by simp,_,q,i_ q⟩)))) q q q q q (fW.wanted .none) (O.mR q .z4 MX q) .nil)) (by kernel_rfl)<|b1.hA 6 (x:=ay aY [dt.1]) (O.bs (ys:=[ae dt.1]) aY [dt.1] ow q q q q q q Ae q q) q q q q .none<|aT 7 (O.ap (en:=aY) (r:=c0) .ec q .z2 .i DW q pO)<|aT 8 O.bS<|b1.ju 9 (bF.sp [0,5,6,7])<|b1.fin q q q (kE q q q q)) ?_;exact sm h ▸ aD.dq
      ·refine W.cC [0,5,6,7,8,95] ?_;refine aP h λjl ag h=>W.eX [0,5,6,7] [(0,.obj [ar bP s2.1.aA.aW,ar bq s2.1.aA.bA,ar cm jl.1,ao s2.1.aA.b_,ao s2.1.aA.ch,ar cr s2.1.cg,ar bq s2.1.cx,ar cQ s2.1.bX,ae s2.1.cO,ae s2.1.c8,ao s2.1.c5,ae s2.1.ca,ae jl.2.1]),(6,.obj [ae (aR (1+aX)),ar aY jl.2.2.1,ae (-1),ao jl.2.2.2.1,.bf,ae jl.2.2.2.2])] ?_ ?_
       ·clear h; have h:=ag; clear ag;refine W.cX h q (λA9 h=>?_) (λA9 h=>?_)
        ·refine W.rd [[],[0],[],[2],[0,1],[0,1,4],aF 0 6 [],aF 0 7 []] [(0,_),(5,_),(6,_),(7,_)] gV (by kernel_rfl) (aT 0 O.bS<|aT 1 O.eb<|aT 2 O.bS<|aT 3 O.eb<|aT 4 O.bS<|b1.e' 5 (G2:=[(0,.obj (dH.cells s2.1)),(5,.obj (fe.cells a2)),(6,.obj [ae (aR (1+aX)),ar aY s2.2.1,ae (-1),ao bt.Code,.bf,ae s2.2.2.2.1]),(7,ae s2.2.2.2.2),(8,.obj (fx.cells bt))]) (U:=[(3,105,some (ae bt.At)),(2,104,some (.ptr ⟨8,[]⟩ 5))]) (nv.v (bF.oM (bF.o6 (G2:=[(0,.obj (dH.cells s2.1)),(5,.obj (fe.cells a2)),(6,.obj [ae (aR (1+aX)),ar aY s2.2.1,ae (-1),ao bt.Code,.bf,ae s2.2.2.2.1]),(7,ae s2.2.2.2.2),(8,.obj (fx.cells bt))]) (cs2:=[ae (aR (1+aX)),ar aY s2.2.1,ae (-1),ao bt.Code,.bf,ae s2.2.2.2.1]) q q q (.ptr q) (.lit q) q Qr q q q q (.n q q (.n q q (.b q (.n q q (.n q q .nil)))))))) q q (by kernel_rfl) q q q (.c (.inr (.inl ⟨_,q⟩)) q q q q q (fW.wanted .none) (O.oW q .z5 we q) (.c (.inr (.inr (.inr (.inl ⟨8,_,_,q,q,i_ q,by simp,_,q,i_ q⟩)))) q q q q q (fW.wanted .none) (O.mR q .z4 TS q) .nil)) (by kernel_rfl)<|aT 6 O.bS<|b1.ju 7 (bF.qL [0,5,6,7])<|b1.fin q q q (kE q q q q)) ?_;exact sm h ▸ aD.dq
        ·refine W.cF [0,5,6,7,8] (aq (O.a1 .z4)<|aq (O.dV .z5)<|aq O.y2<|aq O.eb<|aq (O.add .bh .cv)<|aq (O.dV .z5)<|aq O.y2<|aC.fX (bF.qL [0,5,6,7,8])<|bK q) ?_;refine W.bV<|aP h λdF mz h=>aP h λb8 rq h=>W.rd [[],[],[1],[1,2],[1,2,3],[1,2,3,4],[],[6],[6,7],[6,7,8],[6,7,8,9],[],[11],[11,12],[11,12,13],aF 6 9 [],[],[16],[],[],[19],[18,19,20],[],[22],aF 6 18 [],aF 6 19 [],aF 1 25 [],aF 0 27 [],aF 0 28 [],aF 0 29 [],aF 0 30 []] [(0,_),(5,_),(6,_),(7,_)] gV (by kernel_rfl) (aT 0 (O.a1 .z4)<|aT 1 (O.a1 .z4)<|aT 2 (O.dV .z5)<|aT 3 O.y2<|aT 4 O.y2<|aT 5 (O.dT (y:=.bn cm.z ⟨0,[2]⟩ s2.1.aA.a7.length))<|aT 6 (O.a1 .z4)<|aT 7 (O.dV .z5)<|aT 8 O.y2<|aT 9 (O.dT (y:=.bn cQ.z ⟨0,[7]⟩ s2.1.bX.length))<|aT 10 (O.l9 .ec xH)<|aT 11 (O.a1 .z4)<|aT 12 (O.dV .z5)<|aT 13 O.y2<|aT 14 O.eb<|aT 15 (O.add .bh .bh)<|aT 16 O.bS<|aT 17 O.eb<|aT 18 (O.bs (ys:=[]) aY ([]:List Int) ow q q q q q q Ae q q)<|aT 19 O.bS<|aT 20 (O.dT (y:=.bn aY.z ⟨6,[1]⟩ s2.2.1.length))<|aT 21 (O.ap (en:=aY) (r:=dF) .z3 q .ec (.flat aY q) DW q mz)<|aT 22 O.bS<|aT 23 O.eb<|aT 24 (O.e' (cs:=[ae (aR ((s2.1.bX.length:Int)+(aR (s2.1.bU+1)))),.bf,ae (-1),ao bt.Code,.bn aY.z ⟨57,[]⟩ (([]:List Int).length+s2.2.1.length),ae bt.At]) KG Gr q q q)<|aT 25 (O.s' (ys:=[.agg [ae (aR ((s2.1.bX.length:Int)+(aR (s2.1.bU+1)))),.bf,ae (-1),ao bt.Code,.bn aY.z ⟨57,[]⟩ (([]:List Int).length+s2.2.1.length),ae bt.At]]) (cs:=[ae (aR ((s2.1.bX.length:Int)+(aR (s2.1.bU+1)))),.bf,ae (-1),ao bt.Code,.bn aY.z ⟨57,[]⟩ (([]:List Int).length+s2.2.1.length),ae bt.At]) FU q q q q q Lf q q)<|aT 26 (O.RH (en:=cm) (M:=[(⟨aR ((s2.1.bX.length:Int)+(aR (s2.1.bU+1))),([]:List Int),(-1),bt.Code,([]:List Int)++s2.2.1,bt.At⟩:Prod)]) (r:=b8) .ec q .z3 q q q q LU q rq (X0 (by kernel_rfl) (by kernel_rfl)))<|aT 27 (O.dV .z5)<|aT 28 O.y2<|aT 29 O.y2<|b1.ju 30 (G2:=[(0,.obj [ar bP s2.1.aA.aW,ar bq s2.1.aA.bA,ar cm (s2.1.aA.a7++[(⟨aR ((s2.1.bX.length:Int)+(aR (s2.1.bU+1))),([]:List Int),(-1),bt.Code,([]:List Int)++s2.2.1,bt.At⟩:Prod)]),ao s2.1.aA.b_,ao s2.1.aA.ch,ar cr s2.1.cg,ar bq s2.1.cx,ar cQ s2.1.bX,ae s2.1.cO,ae s2.1.c8,ao s2.1.c5,ae s2.1.ca,ae (aR (s2.1.bU+1))]),(5,.obj (fe.cells a2)),(6,.obj [ae (aR (1+aX)),ar aY s2.2.1,ae (-1),ao s2.2.2.1,.bf,ae s2.2.2.2.1]),(7,ae s2.2.2.2.2)]) (bF.zV (g1:=_) (en:=cm) (M:=[(⟨aR ((s2.1.bX.length:Int)+(aR (s2.1.bU+1))),([]:List Int),(-1),bt.Code,([]:List Int)++s2.2.1,bt.At⟩:Prod)]) (cs2:=[ar bP s2.1.aA.aW,ar bq s2.1.aA.bA,ar cm (s2.1.aA.a7++[(⟨aR ((s2.1.bX.length:Int)+(aR (s2.1.bU+1))),([]:List Int),(-1),bt.Code,([]:List Int)++s2.2.1,bt.At⟩:Prod)]),ao s2.1.aA.b_,ao s2.1.aA.ch,ar cr s2.1.cg,ar bq s2.1.cx,ar cQ s2.1.bX,ae s2.1.cO,ae s2.1.c8,ao s2.1.c5,ae s2.1.ca,ae (aR (s2.1.bU+1))]) q q (.ptr q) (.bC q) q q q (.f (.f (.f (.f (.lK q q q .l_ (.f .nil)))))) (.f (.z (.f (.f (.z (hv:=iw.lK q q) (.f .nil)))))) q q ZC q q q q (.b q (.n q q (.n q q (.n q q .nil)))))<|b1.fin q q q (kE q q q q)) ?_;refine aD.bQ<|aP h λbG ka h=>W.rd [[],[0],[],[2],[2,3],[2,3,4],[2,3,4,5],aF 2 5 [],[],[8],[8,9],[8,9,10],aF 2 10 [],aF 2 11 [],aF 0 14 [],aF 0 15 [],aF 0 16 []] [(0,_),(5,_),(6,_),(7,_)] gV (by kernel_rfl) (aT 0 O.bS<|aT 1 (O.dT (y:=.bn aY.z ⟨6,[1]⟩ s2.2.1.length))<|aT 2 (O.a1 .z4)<|aT 3 (O.dV .z5)<|aT 4 O.y2<|aT 5 (O.dT (y:=.bn cQ.z ⟨0,[7]⟩ s2.1.bX.length))<|aT 6 (O.l9 .ec xH)<|aT 7 (O.add .cv .bh)<|aT 8 (O.a1 .z4)<|aT 9 (O.dV .z5)<|aT 10 O.y2<|aT 11 O.eb<|aT 12 (O.add .bh .bh)<|b1.hA 13 (x:=ay aY [aR ((aR (1000+(s2.1.bX.length:Int)))+(aR (s2.1.bU+1)))]) (O.bs (ys:=[ae (aR ((aR (1000+(s2.1.bX.length:Int)))+(aR (s2.1.bU+1))))]) aY [aR ((aR (1000+(s2.1.bX.length:Int)))+(aR (s2.1.bU+1)))] ow q q q q q q Ae q q) q q q q .none<|aT 14 (O.ap (en:=aY) (r:=bG) .ec q .z2 .i DW q ka)<|aT 15 O.bS<|b1.ju 16 (bF.sp [0,5,6,7])<|b1.fin q q q (kE q q q q)) ?_;exact sm h ▸ aD.dq
       exact sm h ▸ aD.dq
     exact aD.cq<|sm h ▸ aD.dq
    exact aD.cq<|sm h ▸ aD.dq
   refine aD.bQ<|W.bW [0,5,6,7] (cn q<|aq (O.add .bh .cv)<|aC.bW [0,5,6,23] q<|aC.bp) ?_;exact sm h ▸ aD.gt
  ·exact W.fJ<|aD.fH<|sm h ▸ aD.t1
 refine aD.fC<|aD.bQ<|W.bV<|W.cC [0,5,6,9] ?_;refine W.cq<|aP h λe3 ah h=>W.gy ((-1),0) (λ(il:Int × Int)=>[(6,.obj [ae (aR (1+aX)),ar aY aZ.2.1,ae il.1,ao aZ.2.2.1,.bf,ae aZ.2.2.2]),(9,ae il.2)]) [0,5,6,9] 3 (λ(e3:Int)=>[(6,.obj [ae (aR (1+aX)),ar aY aZ.2.1,ae e3,ao aZ.2.2.1,.bf,ae aZ.2.2.2])]) [0,5,6] ah (λil o h=>?_) ?_
 ·clear ah;refine W.bV<|W.cC [0,5,6,9,112] ?_;refine W.cX h q (λk_ h=>?_) (λk_ h=>?_)
  ·refine W.da<|aD.bQ<|W.bV<|aP h λoi ag h=>W.eX [0,5,6,9] [(6,.obj [ae (aR (1+aX)),ar aY aZ.2.1,ae oi,ao aZ.2.2.1,.bf,ae aZ.2.2.2])] ?_ ?_
   ·clear h; have h:=ag; clear ag;refine W.cq<|aP h λfa rr h=>W.cF [0,5,6,9,120] (aq O.bS<|aq (O.dT (y:=.bn aY.z ⟨6,[1]⟩ aZ.2.1.length))<|cn q<|aq (O.gU (en:=aY) q .ec .bh ow rr q)<|aq (O.kd (en:=aY) (x':=ae fa) q .z5 we rr q q)<|aC.bp) ?_;refine aP h λrC ag h=>W.eX [0,5,6,9] [(6,.obj [ae (aR (1+aX)),ar aY aZ.2.1,ae rC,ao aZ.2.2.1,.bf,ae aZ.2.2.2])] ?_ ?_
    ·clear h; have h:=ag; clear ag;refine W.cX h q (λVe h=>?_) (λVe h=>?_)
     ·refine aP h λkk BR h=>W.bW [0,5,6,9] (aq O.bS<|aq (O.dT (y:=.bn aY.z ⟨6,[1]⟩ aZ.2.1.length))<|cn q<|aq (O.gU (en:=aY) q .ec .bh ow BR q)<|aq (O.kd (en:=aY) (x':=ae kk) q .z5 we BR q q)<|aq O.bS<|aC.fX (bF.qL [0,5,6,9])<|bK q) ?_;exact sm h ▸ aD.dq
     ·exact W.da<|sm h ▸ aD.dq
    exact aD.cq<|sm h ▸ aD.dq
   refine aD.bQ<|W.bW [0,5,6,9] (cn q<|aq (O.add .bh .cv)<|aC.bW [0,5,6,114] q<|aC.bp) ?_;exact sm h ▸ aD.gt
  ·exact W.fJ<|aD.fH<|sm h ▸ aD.t1
 refine aD.fC<|aD.bQ<|W.bV<|W.cC [0,5,6,130] ?_;refine aP h λjG ag h=>W.eX [0,6] [(0,.obj (dH.cells jG.1)),(6,.obj [ae (aR (1+aX)),ar aY aZ.2.1,ae jG.2,ao aZ.2.2.1,.bf,ae aZ.2.2.2])] ?_ ?_
 ·clear h; have h:=ag; clear ag;refine W.cX h q (λIp h=>?_) (λIp h=>?_)
  ·refine W.cF [0,5,6] (aq O.bS<|aC.fX (bF.qL [0,5,6])<|bK q) ?_;refine aP h λtb ag h=>W.np [0,5,6,142] [(142,bg tb)] ?_ ?_
   ·refine aq O.bS<|aq O.y2<|aq O.eb<|aq (O.a1 (.lit q)) ?_;rcases ic ag with ⟨yH,ag⟩ | ⟨yH,ag⟩
    ·exact sm ag ▸ aC.bp
    ·refine b' yH (O.a1 .z4)<|b' yH O.bS<|b' yH O.y2<|b' yH O.eb ?_;exact aP ag λgC u6 ag=>sm ag ▸ (aC.c (c3.rR (ys:=[.ptr ⟨0,[]⟩ 0,ao a2.Prec.Name]) q (.c (View.nO q q) (.s .nil)) (bJ.go u6)) q q (.o_ q q yH)<|aC.bp)
   refine aP h λoU ag h=>W.eX [0,6] [(0,.obj (dH.cells oU.1)),(6,.obj [ae (aR (1+aX)),ar aY aZ.2.1,ae oU.2,ao aZ.2.2.1,.bf,ae aZ.2.2.2])] ?_ ?_
   ·clear h; have h:=ag; clear ag;refine W.cX h q (λmW h=>?_) (λmW h=>?_)
    ·refine aP h λgD pQ h=>W.bW [0,6] (aq (O.a1 .z4)<|aq O.bS<|aq (O.fQ (cs':=dI.cells a2.Prec) q .z5 ym q q)<|aC.hR q (bF.call q q (fp.g_ (G2:=[(6,.obj [ae (aR (1+aX)),ar aY aZ.2.1,ae (-1),ao aZ.2.2.1,.bf,ae aZ.2.2.2])]) (A:=[]) (ys:=[.ptr ⟨0,[]⟩ 0,.agg (dI.cells a2.Prec)]) (args:=[.obj (dH.cells aZ.1),.agg (dI.cells a2.Prec)]) (cs':=dH.cells gD.2) (k0:=0) q q q q (.b q (.n q .nil)) q (bJ.go pQ) call117 (.n q .nil) q q (.n q .nil) .nil q))<|aq O.bS<|aC.fX (bF.qL [0,6])<|bK q) ?_;exact sm h ▸ aD.dq
    ·refine aP h λgu BW h=>W.bW [0,6] (aq (O.a1 .z4)<|aq O.bS<|aq O.y2<|aq O.eb<|aq O.bS<|aq O.y2<|aq O.eb<|aC.hR q (bF.call q q (fp.g_ (G2:=[(6,.obj [ae (aR (1+aX)),ar aY aZ.2.1,ae (-1),ao aZ.2.2.1,.bf,ae aZ.2.2.2])]) (A:=[]) (ys:=[.ptr ⟨0,[]⟩ 0,ae a2.Prec.At,ao a2.Prec.Name]) (args:=[.obj (dH.cells aZ.1),ae a2.Prec.At,ao a2.Prec.Name]) (cs':=dH.cells gu) (k0:=0) q q q q (.b q (.n q (.n q .nil))) q (bJ.go BW) call88 (.n q .nil) q q (.n q .nil) .nil q))<|bK q) ?_;exact sm h ▸ aD.dq
   exact sm h ▸ aD.dq
  ·exact W.da<|sm h ▸ aD.dq
 refine aD.bQ<|aP h λlP wU h=>W.cF [0,6] (aq (O.bs (ys:=[]) aY ([]:List Int) ow q q q q q q Ae q q)<|aq O.bS<|aq (O.dT (y:=.bn aY.z ⟨6,[1]⟩ aZ.2.1.length))<|aq (O.ap (en:=aY) (r:=lP) .z3 q .ec (.flat aY q) DW q wU)<|aq O.bS<|aC.fX (bF.sp [0,6])<|bK q) ?_;refine W.eF (G1:=[(0,_),(6,.obj [ae (aR (1+aX)),ay aY aZ.2.1,ae jG.2,ao aZ.2.2.1,ar aY (([]:List Int)++aZ.2.1),ae aZ.2.2.2])]) [6] (.n q q (.z q q (gj.obj (.f (.z (.f (.f (.f (.f .nil))))))) .nil)) ?_;refine W.eF (G1:=[(0,_),(6,.obj [ae (aR (1+aX)),ay aY aZ.2.1,ae jG.2,ao aZ.2.2.1,ay aY (([]:List Int)++aZ.2.1),ae aZ.2.2.2])]) [6] (.n q q (.z q q (gj.obj (.f (.f (.f (.f (.z (.f .nil))))))) .nil)) ?_;refine aP h λlv rv h=>W.rd [[],[],[1],[1,2],[1,2,3],[1,2,3,4],[],[6],aF 1 7 [],aF 0 9 [],aF 0 10 [],aF 0 11 [],aF 0 12 []] [(0,_)] gV (by kernel_rfl) (aT 0 (O.a1 .z4)<|aT 1 (O.a1 .z4)<|aT 2 (O.dV .z5)<|aT 3 O.y2<|aT 4 O.y2<|aT 5 (O.dT (y:=.bn cm.z ⟨0,[2]⟩ jG.1.aA.a7.length))<|aT 6 (O.fQ (cs':=[ae (aR (1+aX)),ay aY aZ.2.1,ae jG.2,ao aZ.2.2.1,ay aY (([]:List Int)++aZ.2.1),ae aZ.2.2.2]) q .z4 RW q q)<|b1.hA 7 (x:=ay cm [(⟨aR (1+aX),aZ.2.1,jG.2,aZ.2.2.1,([]:List Int)++aZ.2.1,aZ.2.2.2⟩:Prod)]) (O.bs (ys:=[.agg [ae (aR (1+aX)),ay aY aZ.2.1,ae jG.2,ao aZ.2.2.1,ay aY (([]:List Int)++aZ.2.1),ae aZ.2.2.2]]) cm [(⟨aR (1+aX),aZ.2.1,jG.2,aZ.2.2.1,([]:List Int)++aZ.2.1,aZ.2.2.2⟩:Prod)] FU q q q q q q Lf q q) q q q q .none<|aT 8 (O.ap (en:=cm) (r:=lv) .ec q .z2 .i LU q rv)<|aT 9 (O.dV .z5)<|aT 10 O.y2<|aT 11 O.y2<|b1.ju 12 (bF.sp [0])<|b1.fin q q q (.n q .nil)) ?_;exact sm h ▸ aD.fin (Fin.ro .nil q (xg (by kernel_rfl)) (.al q q (.no (.no .nil))) q (.inl q))
instance acb {a0:db}{aw:ByteArray}{a2:Alt}{r:db}:bJ prog 91 (vx a0 aw a2=some r) [.obj (dH.cells a0),ao aw,.agg (fe.cells a2)] [some (.obj [ar bP r.aA.aW,ar bq r.aA.bA,ar cm r.aA.a7,ao r.aA.b_,ao r.aA.ch,ar cr r.cg,ar bq r.cx,ar cQ r.bX,ae r.cO,ae r.c8,ao r.c5,ae r.ca,ae r.bU]),none,none] (.bN []):=⟨S_ a0 aw a2 _⟩
theorem S5 (a0:Source) (r:bx × Int × Int × ByteArray) (h:vu a0=some r):bH prog 63 [.agg (hI.cells a0)] [none] (.bN [.agg (c'.cells r.1),ae r.2.1,ae r.2.2.1,ao r.2.2.2]):=by
 unfold vu at h;refine bH.go (N:=⟨435,[]⟩) func63 q q q q (W.fin ?_);refine W.st [(0,.agg (hI.cells a0))] ?_;refine W.cF [1,2] (aq (O.box (.e4 q q) q)<|aq (O.hQ (cs:=[.bf,.bf,.bf,ao bk,ao bk]) xU q q)<|aC.bp) ?_;refine W.bV<|aP h λaX jD h=>W.cF [1,2,28] (aq (O.fQ (cs':=hI.cells a0) q .z4 DZ q q)<|hE (c3.fR (.c6 (.e4 q q) .nil) (bJ.go jD))<|aC.bp) ?_;refine W.cX h q (λgh h=>?_) (λgh h=>?_)
 ·refine W.cF [2,3,4,5] (aq (O.e' (cs:=[.bf,.bf,.bf,ao bk,ao bk]) KI xU q q q)<|aC.fX (bF.jo [2])<|aC.bp) ?_;refine W.eF (G1:=[(2,.obj [ay bP ([]:List Tok),ay bq ([]:List fb),ay cm ([]:List Prod),ao bk,ao bk]),(3,_),(4,_),(5,_)]) [2] (.z q q (gj.obj (.z (.z (.z (.f (.f .nil)))))) (.n q q (.n q q (.n q q .nil)))) ?_;exact W.rt<|aD.oy<|sm h ▸ mg (.c (ys0:=[ay bP ([]:List Tok),ay bq ([]:List fb),ay cm ([]:List Prod),ao bk,ao bk]) q ib q q q (.f q (.f q (.f q (.f q (.f q .nil))))) (.f q q (.f q q (.f q q .nil))))
 ·refine W.da<|aD.bQ<|aP h λaZ lb h=>W.cF [1,2,6] (aq (O.mk (en:=cr) (z0:=false) qI .cv .cv K_ q q lb GY q)<|aq (O.e' (cs:=[.bf,.bf,.bf,ao bk,ao bk,.bn cr.z ⟨30,[]⟩ aZ.length,.bf,.bf,ae 0,ae 0,ao bk,ae 0,ae 0]) Y6 aak q q q)<|aq (O.box (.e4 q q) q)<|aC.qi (G2:=[(1,.obj (hI.cells a0)),(2,.obj [.bf,.bf,.bf,ao bk,ao bk])]) q (bF.As (y':=.obj [.bf,.bf,.bf,ao bk,ao bk,ar cr aZ,.bf,.bf,ae 0,ae 0,ao bk,ae 0,ae 0]) q q (.obj q) (.b q (.f (.f (.f (.f (.f (.r q (.f (.f (.f (.f (.f (.f (.f .nil))))))))))))) .nil) .refl (nr q q) q q)<|bK q) ?_;refine W.cF [1,2,6] (aq (O.a1 .z4)<|aq (O.e' (cs:=[ao (⟨#[36,101,110,100]⟩),bg false,ae 0,ae 0,ae 0,ao bk]) KH K9 q q q)<|aq (O.e' (cs:=[ao (⟨#[101,114,114,111,114]⟩),bg false,ae (-1),ae 0,ae 0,ao bk]) KH K9 q q q)<|aq (O.e' (cs:=[ao (⟨#[36,117,110,107]⟩),bg false,ae (-1),ae 0,ae 0,ao bk]) KH K9 q q q)<|aq (O.bs (ys:=[.agg [ao (⟨#[36,101,110,100]⟩),bg false,ae 0,ae 0,ae 0,ao bk],.agg [ao (⟨#[101,114,114,111,114]⟩),bg false,ae (-1),ae 0,ae 0,ao bk],.agg [ao (⟨#[36,117,110,107]⟩),bg false,ae (-1),ae 0,ae 0,ao bk]]) bP [(⟨⟨#[36,101,110,100]⟩,false,0,0,0,bk⟩:Tok),(⟨⟨#[101,114,114,111,114]⟩,false,(-1),0,0,bk⟩:Tok),(⟨⟨#[36,117,110,107]⟩,false,(-1),0,0,bk⟩:Tok)] FT q q q q q q aaq q q)<|aq (O.dV .z5)<|aq O.y2<|aq O.y2<|aC.fX (bF.zY [1,2,6])<|bK q) ?_;refine W.cC [1,2,6,7] ?_;refine W.bV<|W.cC [1,2,6,7,8] ?_;refine W.cq<|aP h λcd ah h=>W.gy ((⟨(⟨[(⟨⟨#[36,101,110,100]⟩,false,0,0,0,bk⟩:Tok),(⟨⟨#[101,114,114,111,114]⟩,false,(-1),0,0,bk⟩:Tok),(⟨⟨#[36,117,110,107]⟩,false,(-1),0,0,bk⟩:Tok)],[],[],bk,bk⟩:bx),aZ,[],[],0,0,bk,0,0⟩:db),bk,0) (λ(dd:db × ByteArray × Int)=>[(6,.obj (dH.cells dd.1)),(7,ao dd.2.1),(8,ae dd.2.2)]) [1,2,6,7,8] 0 (λ(cd:db × ByteArray)=>[(6,.obj (dH.cells cd.1)),(7,ao cd.2)]) [1,2,6,7] ah (λdd o h=>?_) ?_
  ·clear ah;refine W.bV<|W.cC [1,2,6,7,8,45] ?_;refine W.cX h q (λBf h=>?_) (λBf h=>?_)
   ·refine W.da<|aD.bQ<|W.bV<|W.cq<|aP h λcf tF h=>W.cF [1,2,6,7,8,9] (aq O.bS<|aq (O.dT (y:=ay dG a0.Decls))<|cn q<|aq (O.hl tF)<|aq (O.oo (cs':=dG.cells cf) .o' L5 q q)<|aq (O.hQ (cs:=[ae 0,ao bk,.bf,ae 0]) QE q q)<|aC.fX (bF.jo [1,2,6,7,8,9])<|bK q) ?_;refine W.bV<|aP h λje ag h=>W.np [1,2,6,7,8,9,60] [(60,bg je)] ?_ ?_
    ·refine aq O.bS<|aq O.eb<|aq (O.geq .bh .cv)<|aq (O.a1 (.lit q)) ?_;rcases ic ag with ⟨Bg,ag⟩ | ⟨Bg,ag⟩
     ·exact sm ag ▸ aC.bp
     ·exact sm ag ▸ aC.bp
    refine aP h λjF ag h=>W.eX [1,2,6,7,8,9] [(6,.obj [ar bP dd.1.aA.aW,ar bq dd.1.aA.bA,ar cm dd.1.aA.a7,ao dd.1.aA.b_,ao dd.1.aA.ch,ar cr dd.1.cg,ar bq dd.1.cx,ar cQ dd.1.bX,ae dd.1.cO,ae dd.1.c8,ao dd.1.c5,ae jF,ae dd.1.bU])] ?_ ?_
    ·clear h; have h:=ag; clear ag;refine W.cX h q (λA7 h=>?_) (λA7 h=>?_)
     ·refine W.bW [1,2,6,7,8,9] (aq (O.a1 .z4)<|aq (O.dV .z5)<|aq O.y2<|aq O.eb<|aq (O.add .bh .cv)<|aq (O.dV .z5)<|aq O.y2<|aC.fX (bF.qL [1,2,6,7,8,9])<|bK q) ?_;exact sm h ▸ aD.dq
     ·exact W.da<|sm h ▸ aD.dq
    refine aD.bQ<|W.cC [1,2,6,7,8,9,10] ?_;refine W.cq<|aP h λdx ah h=>W.gy ((⟨dd.1.aA,dd.1.cg,dd.1.cx,dd.1.bX,dd.1.cO,dd.1.c8,dd.1.c5,jF,dd.1.bU⟩:db),dd.2.1,0) (λ(dS:db × ByteArray × Int)=>[(6,.obj (dH.cells dS.1)),(7,ao dS.2.1),(10,ae dS.2.2)]) [1,2,6,7,8,9,10] 2 (λ(dx:db × ByteArray)=>[(6,.obj (dH.cells dx.1)),(7,ao dx.2)]) [1,2,6,7,8] ah (λdS o h=>?_) ?_
    ·clear ah;refine W.bV<|W.cC [1,2,6,7,8,9,10,72] ?_;refine W.cX h q (λA' h=>?_) (λA' h=>?_)
     ·refine W.da<|aD.bQ<|W.bV<|aP h λky ag h=>W.eX [1,2,6,7,8,9,10] [(6,.obj (dH.cells ky.1)),(7,ao ky.2)] ?_ ?_
      ·clear h; have h:=ag; clear ag;refine W.cq<|W.bV<|W.cC [1,2,6,7,8,9,10,77] ?_;refine W.cX h q (λIk h=>?_) (λIk h=>?_)
       ·refine W.bV<|aP h λe3 wT h=>aP h λhf u5 h=>W.rd [[],[],[],[2],[],[2,3,4],[2,3,4,5],aF 0 7 []] [(1,_),(2,_),(6,_),(7,_),(8,_),(9,_),(10,_)] gV (by kernel_rfl) (aT 0 (O.a1 .z4)<|aT 1 (O.fQ (cs':=dG.cells cf) q .z4 L5 q q)<|aT 2 O.bS<|aT 3 (O.dT (y:=ay dI cf.er))<|aT 4 (O.a1 (.lit q))<|aT 5 (O.hl wT)<|aT 6 (O.oo (cs':=dI.cells e3) .o' ym q q)<|b1.ju 7 (G2:=[(85,.bN []),(6,.obj (dH.cells hf)),(1,.obj (hI.cells a0)),(2,.obj [.bf,.bf,.bf,ao bk,ao bk]),(7,ao dS.2.1),(8,ae dd.2.2),(9,.obj (dG.cells cf)),(10,ae dS.2.2)]) (bF.call q q (fp.g_ (G2:=[(1,.obj (hI.cells a0)),(2,.obj [.bf,.bf,.bf,ao bk,ao bk]),(7,ao dS.2.1),(8,ae dd.2.2),(9,.obj (dG.cells cf)),(10,ae dS.2.2)]) (A:=[]) (ys:=[.ptr ⟨6,[]⟩ 0,.agg (dG.cells cf),.agg (dI.cells e3)]) (args:=[.obj (dH.cells dS.1),.agg (dG.cells cf),.agg (dI.cells e3)]) (cs':=dH.cells hf) (k0:=0) q q q q (.b q (.n q (.n q .nil))) q (bJ.go u5) call87 (ns q q q q q q) q q (ns q q q q q q) .nil q))<|b1.fin q q q (zZ q q q q q q q)) ?_;exact aD.bQ<|W.fJ<|aD.fH<|aD.fC<|sm h ▸ aD.dq
       ·refine W.da<|aD.bQ<|W.bV<|W.cC [1,2,6,8,9,10,87] ?_;refine aP h λrB ag h=>W.eX [1,2,6,8,9,10] [(6,.obj (dH.cells rB))] ?_ ?_
        ·clear h; have h:=ag; clear ag;refine W.cX h q (λIl h=>?_) (λIl h=>?_)
         ·refine aP h λfa rr h=>aP h λhg ru h=>aP h λgP tE h=>W.rd [[],[],[1],[],[1,2,3],[1,2,3,4],aF 1 5 [],[],[7],[],[7,8,9],[7,8,9,10],aF 7 5 [],aF 0 13 []] [(1,_),(2,_),(6,_),(8,_),(9,_),(10,_)] gV (by kernel_rfl) (aT 0 (O.a1 .z4)<|aT 1 O.bS<|aT 2 (O.dT (y:=ay dI cf.er))<|aT 3 (O.a1 (.lit q))<|aT 4 (O.hl rr)<|aT 5 O.xS<|aT 6 (O.kH (x:=ae fa.At))<|aT 7 O.bS<|aT 8 (O.dT (y:=ay dI cf.er))<|aT 9 (O.a1 (.lit q))<|aT 10 (O.hl ru)<|aT 11 O.xS<|aT 12 (O.kH (x:=ao hg.Name))<|b1.ju 13 (G2:=[(101,.bN []),(6,.obj (dH.cells gP)),(1,.obj (hI.cells a0)),(2,.obj [.bf,.bf,.bf,ao bk,ao bk]),(8,ae dd.2.2),(9,.obj (dG.cells cf)),(10,ae dS.2.2)]) (bF.call q q (fp.g_ (G2:=[(1,.obj (hI.cells a0)),(2,.obj [.bf,.bf,.bf,ao bk,ao bk]),(8,ae dd.2.2),(9,.obj (dG.cells cf)),(10,ae dS.2.2)]) (A:=[]) (ys:=[.ptr ⟨6,[]⟩ 0,ae fa.At,ao hg.Name]) (args:=[.obj (dH.cells dS.1),ae fa.At,ao hg.Name]) (cs':=dH.cells gP) (k0:=0) q q q q (.b q (.n q (.n q .nil))) q (bJ.go tE) call88 (kF q q q q q) q q (kF q q q q q) .nil q))<|b1.fin q q q (ns q q q q q q)) ?_;exact sm h ▸ aD.dq
         ·exact W.da<|sm h ▸ aD.dq
        refine aD.bQ<|aP h λkk BR h=>W.Rz [1,2,6,7,8,9,10] ?_;exact aD.cq<|sm h ▸ aD.dq
      refine aD.bQ<|W.bW [1,2,6,7,8,9,10] (cn q<|aq (O.add .bh .cv)<|aC.bW [1,2,6,7,8,9,74] q<|aC.bp) ?_;exact sm h ▸ aD.gt
     ·exact W.fJ<|aD.fH<|sm h ▸ aD.t1
    refine aD.fC<|aD.cq<|aD.bQ<|W.bW [1,2,6,7,8] (cn q<|aq (O.add .bh .cv)<|aC.bW [1,2,6,7,47] q<|aC.bp) ?_;exact sm h ▸ aD.gt
   ·exact W.fJ<|aD.fH<|sm h ▸ aD.t1
  refine aD.fC<|aD.bQ<|W.bV<|W.cC [1,2,6,7,11] ?_;refine W.cq<|aP h λcz ah h=>W.gy (cd.1,0) (λ(p2:db × Int)=>[(6,.obj (dH.cells p2.1)),(11,ae p2.2)]) [1,2,6,7,11] 4 (λ(cz:db)=>[(6,.obj (dH.cells cz))]) [1,2,6,7] ah (λp2 o h=>?_) ?_
  ·clear ah;refine W.bV<|W.cC [1,2,6,7,11,112] ?_;refine W.cX h q (λVf h=>?_) (λVf h=>?_)
   ·refine W.da<|aD.bQ<|W.bV<|aP h λw0 ag h=>W.eX [1,2,6,7,11] [(6,.obj (dH.cells w0))] ?_ ?_
    ·clear h; have h:=ag; clear ag;refine W.cq<|aP h λeO BU h=>W.cF [1,2,6,7,11,12] (aq O.bS<|aq (O.dT (y:=ay h2 a0.dB))<|cn q<|aq (O.hl BU)<|aq (O.oo (cs':=h2.cells eO) .o' RY q q)<|aq (O.hQ (cs:=[ao bk,.bf,ae 0]) La q q)<|aC.fX (bF.jo [1,2,6,7,11,12])<|bK q) ?_;refine W.bV<|aP h λlu BV h=>W.cF [1,2,6,7,11,12,125] (aq (O.a1 .z4)<|aq O.bS<|aq O.eb<|aq (O.e' (cs:=[ao eO.Left,bg false,ae 0,ae 0]) P2 Gt q q q)<|hE (c3.rR (ys:=[.ptr ⟨6,[]⟩ 0,.agg [ao eO.Left,bg false,ae 0,ae 0]]) q (.c (View.nO q q) (.c (.mM (.s (.s (.s (.s .nil))))) .nil)) (bJ.go BV))<|aC.bp) ?_;refine aP h λij ag h=>W.eX [1,2,6,7,11,12] [(6,.obj (dH.cells ij))] ?_ ?_
     ·clear h; have h:=ag; clear ag;refine W.cX h q (λVg h=>?_) (λVg h=>?_)
      ·refine aP h λlP wU h=>W.bW [1,2,6,7,11,12] (aq (O.a1 .z4)<|aq O.bS<|aq O.eb<|aq O.bS<|aq O.eb<|aC.hR q (bF.call q q (fp.g_ (G2:=[(1,.obj (hI.cells a0)),(2,.obj [.bf,.bf,.bf,ao bk,ao bk]),(7,ao cd.2),(11,ae p2.2),(12,.obj (h2.cells eO))]) (A:=[]) (ys:=[.ptr ⟨6,[]⟩ 0,ae eO.At,ao eO.Left]) (args:=[.obj (dH.cells p2.1),ae eO.At,ao eO.Left]) (cs':=dH.cells lP) (k0:=0) q q q q (.b q (.n q (.n q .nil))) q (bJ.go wU) call88 (kF q q q q q) q q (kF q q q q q) .nil q))<|bK q) ?_;exact sm h ▸ aD.dq
      ·exact W.da<|sm h ▸ aD.dq
     refine aD.bQ<|aP h λlv rv h=>W.cF [1,2,6,7,11,12,136] (aq (O.a1 .z4)<|aq O.bS<|aq O.eb<|hE (c3.rR (ys:=[.ptr ⟨6,[]⟩ 0,ao eO.Left]) q (.c (View.nO q q) (.s .nil)) (bJ.go rv))<|aC.bp) ?_;refine aP h λJK ag h=>W.eX [1,2,6,7,11] [(6,.obj [ar bP ij.aA.aW,ar bq ij.aA.bA,ar cm ij.aA.a7,ao ij.aA.b_,ao ij.aA.ch,ar cr ij.cg,ar bq ij.cx,ar cQ JK,ae ij.cO,ae ij.c8,ao ij.c5,ae ij.ca,ae ij.bU])] ?_ ?_
     ·clear h; have h:=ag; clear ag;refine W.cX h q (λVh h=>?_) (λVh h=>?_)
      ·refine aP h λrU BZ h=>W.rd [[],[],[1],[1,2],[1,2,3],[],[5],[5,6],aF 1 7 [],aF 0 9 [],aF 0 10 [],aF 0 11 []] [(1,_),(2,_),(6,_),(7,_),(11,_)] gV (by kernel_rfl) (aT 0 (O.a1 .z4)<|aT 1 (O.a1 .z4)<|aT 2 (O.dV .z5)<|aT 3 O.y2<|aT 4 (O.dT (y:=.bn cQ.z ⟨6,[7]⟩ ij.bX.length))<|aT 5 O.bS<|aT 6 O.eb<|b1.hA 7 (x:=ay cQ [eO.Left]) (O.bs (ys:=[ao eO.Left]) cQ [eO.Left] xH q q q q q q QL q q) q q q q .none<|aT 8 (O.ap (en:=cQ) (r:=rU) .ec q .z2 .i LS q BZ)<|aT 9 (O.dV .z5)<|aT 10 O.y2<|b1.ju 11 (bF.sp [1,2,6,7,11])<|b1.fin q q q (kF q q q q q)) ?_;exact sm h ▸ aD.dq
      ·exact W.da<|sm h ▸ aD.dq
     exact aD.cq<|sm h ▸ aD.dq
    refine aD.bQ<|W.bW [1,2,6,7,11] (cn q<|aq (O.add .bh .cv)<|aC.bW [1,2,6,7,114] q<|aC.bp) ?_;exact sm h ▸ aD.gt
   ·exact W.fJ<|aD.fH<|sm h ▸ aD.t1
  refine aD.fC<|aD.bQ<|W.bV<|W.cC [1,2,6,7,13] ?_;refine W.cq<|aP h λgb ah h=>W.gy (cz,0) (λ(p3:db × Int)=>[(6,.obj (dH.cells p3.1)),(13,ae p3.2)]) [1,2,6,7,13] 6 (λ(gb:db)=>[(6,.obj (dH.cells gb))]) [1,2,6,7] ah (λp3 o h=>?_) ?_
  ·clear ah;refine W.bV<|W.cC [1,2,6,7,13,152] ?_;refine W.cX h q (λVj h=>?_) (λVj h=>?_)
   ·refine W.da<|aD.bQ<|W.bV<|W.cq<|W.cC [1,2,6,7,13,14] ?_;refine W.cq<|aP h λmc ah h=>W.gy (p3.1,0) (λ(p4:db × Int)=>[(6,.obj (dH.cells p4.1)),(14,ae p4.2)]) [1,2,6,7,13,14] 8 (λ(mc:db)=>[(6,.obj (dH.cells mc))]) [1,2,6,7,13] ah (λp4 o h=>?_) ?_
    ·clear ah;refine W.bV<|aP h λsT adw h=>W.cC [1,2,6,7,13,14,163] ?_;refine W.cX h q (λIs h=>?_) (λIs h=>?_)
     ·refine W.da<|aD.bQ<|W.bV<|aP h λJM ag h=>W.eX [1,2,6,7,13,14] [(6,.obj (dH.cells JM))] ?_ ?_
      ·clear h; have h:=ag; clear ag;refine W.cq<|aP h λnu B0 h=>aP h λj3 sv h=>W.cF [1,2,6,7,13,14,15] (aq O.bS<|aq (O.dT (y:=ay dG a0.Decls))<|cn q<|aq (O.hl B0)<|aq O.xS<|aq (O.kH (x:=ay dI nu.er))<|cn q<|aq (O.hl sv)<|aq (O.oo (cs':=dI.cells j3) .o' ym q q)<|aq (O.hQ (cs:=[ao bk,bg false,ae 0,ae 0]) Gt q q)<|aC.fX (bF.jo [1,2,6,7,13,14,15])<|bK q) ?_;refine aP h λHd ag h=>W.np [1,2,6,7,13,14,15,188] [(188,bg Hd)] ?_ ?_
       ·refine aq O.bS<|aq (O.dT (y:=ay dG a0.Decls))<|aq (O.a1 (.lit q)) ?_;refine aP ag λnS Jp ag=>aq (O.hl Jp)<|aq O.xS<|aq (O.kH (x:=ae nS.Kind))<|aq (O.geq .bh .cv)<|aq (O.a1 (.lit q)) ?_;rcases ic ag with ⟨Bd,ag⟩ | ⟨Bd,ag⟩
        ·refine b' Bd (O.a1 .z4)<|b' Bd O.bS<|b' Bd O.eb ?_;exact aP ag λk2 qt ag=>sm ag ▸ (aC.c (c3.rR (ys:=[.ptr ⟨6,[]⟩ 0,ao j3.Name]) q (.c (View.nO q q) (.s .nil)) (bJ.go qt)) q q (.o_ q q Bd)<|aC.bp)
        ·exact sm ag ▸ aC.bp
       refine aP h λJN ag h=>W.eX [1,2,6,7,13,14] [(6,.obj (dH.cells JN))] ?_ ?_
       ·clear h; have h:=ag; clear ag;refine W.cX h q (λVl h=>?_) (λVl h=>?_)
        ·refine aP h λGk W2 h=>W.bW [1,2,6,7,13,14] (aq (O.a1 .z4)<|aq O.bS<|aq O.eb<|aq O.bS<|aq O.eb<|aC.hR q (bF.call q q (fp.g_ (G2:=[(1,.obj (hI.cells a0)),(2,.obj [.bf,.bf,.bf,ao bk,ao bk]),(7,ao cd.2),(13,ae p3.2),(14,ae p4.2)]) (A:=[]) (ys:=[.ptr ⟨6,[]⟩ 0,ae j3.At,ao j3.Name]) (args:=[.obj (dH.cells p4.1),ae j3.At,ao j3.Name]) (cs':=dH.cells Gk) (k0:=0) q q q q (.b q (.n q (.n q .nil))) q (bJ.go W2) call88 (kF q q q q q) q q (kF q q q q q) .nil q))<|bK q) ?_;exact sm h ▸ aD.dq
        ·exact W.da<|sm h ▸ aD.dq
       exact aD.cq<|sm h ▸ aD.dq
      refine aD.bQ<|W.bW [1,2,6,7,13,14] (cn q<|aq (O.add .bh .cv)<|aC.bW [1,2,6,7,13,165] q<|aC.bp) ?_;exact sm h ▸ aD.gt
     ·exact W.fJ<|aD.fH<|sm h ▸ aD.t1
    refine aD.fC<|aD.cq<|aD.bQ<|W.bW [1,2,6,7,13] (cn q<|aq (O.add .bh .cv)<|aC.bW [1,2,6,7,154] q<|aC.bp) ?_;exact sm h ▸ aD.gt
   ·exact W.fJ<|aD.fH<|sm h ▸ aD.t1
  refine aD.fC<|aD.bQ<|W.bV<|W.cC [1,2,6,7,196] ?_;refine aP h λw4 ag h=>W.eX [1,2,6,7] [(7,ao w4)] ?_ ?_
  ·clear h; have h:=ag; clear ag;refine W.cX h q (λVn h=>?_) (λVn h=>?_)
   ·refine aP h λvG B1 h=>W.bW [1,2,6,7] (aq O.bS<|aq (O.dT (y:=ay h2 a0.dB))<|aq (O.qv .z2 .cv vC B1)<|aq O.xS<|aq (O.kH (x:=ao vG.Left))<|aC.bW [1,2,6,201] q<|aC.bp) ?_;exact sm h ▸ aD.dq
   ·exact W.da<|sm h ▸ aD.dq
  refine aD.bQ<|aP h λme W3 h=>W.cF [1,2,6] (aq (O.a1 .z4)<|aq (O.a1 .z4)<|cn q<|hE (c3.rR (ys:=[.ptr ⟨6,[]⟩ 0,ao w4]) q (.c (View.nO q q) (.s .nil)) (bJ.go W3))<|aq (O.add .cv .bh)<|aC.hA (x:=ay aY [aR (1001+me)]) (O.bs (ys:=[ae (aR (1001+me))]) aY [aR (1001+me)] ow q q q q q q Ae q q) q q .none<|aC.hA (x:=.agg [ae 0,ay aY [aR (1001+me)],ae (-1),ao bk,ay aY ([]:List Int),ae 0]) (O.e' (cs:=[ae 0,ay aY [aR (1001+me)],ae (-1),ao bk,.bf,ae 0]) KG Gr q q q) q q .none<|aq (O.bs (ys:=[.agg [ae 0,ay aY [aR (1001+me)],ae (-1),ao bk,ay aY ([]:List Int),ae 0]]) cm [(⟨0,[aR (1001+me)],(-1),bk,([]:List Int),0⟩:Prod)] FU q q q q q q Lf q q)<|aq (O.dV .z5)<|aq O.y2<|aq O.y2<|aC.fX (bF.zY [1,2,6])<|bK q) ?_;refine W.bV<|W.cC [1,2,6,16] ?_;refine W.cq<|aP h λbl ah h=>W.gy ((⟨(⟨gb.aA.aW,gb.aA.bA,[(⟨0,[aR (1001+me)],(-1),bk,([]:List Int),0⟩:Prod)],gb.aA.b_,gb.aA.ch⟩:bx),gb.cg,gb.cx,gb.bX,gb.cO,gb.c8,gb.c5,gb.ca,gb.bU⟩:db),0) (λ(o5:db × Int)=>[(6,.obj (dH.cells o5.1)),(16,ae o5.2)]) [1,2,6,16] 10 (λ(bl:db)=>[(6,.obj (dH.cells bl))]) [1,2,6] ah (λo5 o h=>?_) ?_
  ·clear ah;refine W.bV<|W.cC [1,2,6,16,217] ?_;refine W.cX h q (λVo h=>?_) (λVo h=>?_)
   ·refine W.da<|aD.bQ<|W.bV<|W.cq<|W.cC [1,2,6,16,17] ?_;refine W.cq<|aP h λiq ah h=>W.gy (o5.1,0) (λ(qE:db × Int)=>[(6,.obj (dH.cells qE.1)),(17,ae qE.2)]) [1,2,6,16,17] 12 (λ(iq:db)=>[(6,.obj (dH.cells iq))]) [1,2,6,16] ah (λqE o h=>?_) ?_
    ·clear ah;refine W.bV<|aP h λrV Oq h=>W.cC [1,2,6,16,17,228] ?_;refine W.cX h q (λVq h=>?_) (λVq h=>?_)
     ·refine W.da<|aD.bQ<|W.bV<|W.cq<|aP h λvH W5 h=>aP h λDv W6 h=>aP h λxR W7 h=>aP h λAc W8 h=>W.rd [[],[],[1],[],[1,2,3],[1,2,3,4],aF 1 5 [],[],[7],[],[7,8,9],[7,8,9,10],aF 7 5 [],[],aF 7 7 [],aF 7 8 [],aF 0 16 []] [(1,_),(2,_),(6,_),(16,_),(17,_)] gV (by kernel_rfl) (aT 0 (O.a1 .z4)<|aT 1 O.bS<|aT 2 (O.dT (y:=ay h2 a0.dB))<|aT 3 (O.a1 (.lit q))<|aT 4 (O.hl W5)<|aT 5 O.xS<|aT 6 (O.kH (x:=ao vH.Left))<|aT 7 O.bS<|aT 8 (O.dT (y:=ay h2 a0.dB))<|aT 9 (O.a1 (.lit q))<|aT 10 (O.hl W6)<|aT 11 O.xS<|aT 12 (O.kH (x:=ay fe Dv.eA))<|aT 13 (O.a1 (.lit q))<|aT 14 (O.hl W7)<|aT 15 (O.oo (cs':=fe.cells xR) .o' L4 q q)<|b1.ju 16 (G2:=[(247,.bN []),(6,.obj (dH.cells Ac)),(1,.obj (hI.cells a0)),(2,.obj [.bf,.bf,.bf,ao bk,ao bk]),(16,ae o5.2),(17,ae qE.2)]) (bF.call q q (fp.g_ (G2:=[(1,.obj (hI.cells a0)),(2,.obj [.bf,.bf,.bf,ao bk,ao bk]),(16,ae o5.2),(17,ae qE.2)]) (A:=[]) (ys:=[.ptr ⟨6,[]⟩ 0,ao vH.Left,.agg (fe.cells xR)]) (args:=[.obj (dH.cells qE.1),ao vH.Left,.agg (fe.cells xR)]) (cs':=dH.cells Ac) (k0:=0) q q q q (.b q (.n q (.n q .nil))) q (bJ.go W8) call91 (kE q q q q) q q (kE q q q q) .nil q))<|b1.fin q q q (kF q q q q q)) ?_;refine aD.cq<|aD.bQ<|W.bW [1,2,6,16,17] (cn q<|aq (O.add .bh .cv)<|aC.bW [1,2,6,16,230] q<|aC.bp) ?_;exact sm h ▸ aD.gt
     ·exact W.fJ<|aD.fH<|sm h ▸ aD.t1
    refine aD.fC<|aD.cq<|aD.bQ<|W.bW [1,2,6,16] (cn q<|aq (O.add .bh .cv)<|aC.bW [1,2,6,219] q<|aC.bp) ?_;exact sm h ▸ aD.gt
   ·exact W.fJ<|aD.fH<|sm h ▸ aD.t1
  refine aD.fC<|aD.bQ<|W.bV<|W.cC [1,2,6,252] ?_;refine W.cX h q (λVr h=>?_) (λVr h=>?_)
  ·refine W.bV<|W.rd [[],[],[1],[1,2],[1,2,3],[],[5],[5,6],[5,6,7],[],[9],[9,10],[9,10,11],[0],aF 0 5 [13],aF 0 9 [13,14],aF 0 16 []] [(2,_),(3,_),(4,_),(5,_)] gV (by kernel_rfl) (aT 0 (O.e' (cs:=[.bf,.bf,.bf,ao bk,ao bk]) KI xU q q q)<|aT 1 (O.a1 .z4)<|aT 2 (O.dV .z5)<|aT 3 O.y2<|aT 4 O.eb<|aT 5 (O.a1 .z4)<|aT 6 (O.dV .z5)<|aT 7 O.y2<|aT 8 O.eb<|aT 9 (O.a1 .z4)<|aT 10 (O.dV .z5)<|aT 11 O.y2<|aT 12 O.eb<|b1.e' 13 (G2:=[(2,.obj [.bf,.bf,.bf,ao bk,ao bk]),(6,.obj (dH.cells bl))]) (U:=[(12,265,some (ao bl.c5)),(11,264,some (.ptr ⟨6,[]⟩ 10)),(10,263,some (.ptr ⟨6,[]⟩ 0)),(9,262,some (.ptr ⟨6,[]⟩ 0)),(8,261,some (ae bl.c8)),(7,260,some (.ptr ⟨6,[]⟩ 9)),(6,259,some (.ptr ⟨6,[]⟩ 0)),(5,258,some (.ptr ⟨6,[]⟩ 0)),(4,257,some (ae bl.cO)),(3,256,some (.ptr ⟨6,[]⟩ 8)),(2,255,some (.ptr ⟨6,[]⟩ 0)),(1,254,some (.ptr ⟨6,[]⟩ 0))]) (nv.v (bF.oM (bF.o6 (G2:=[(2,.obj [.bf,.bf,.bf,ao bk,ao bk]),(6,.obj (dH.cells bl))]) (cs2:=[.bf,.bf,.bf,ao bk,ao bk]) q q q (.obj q) (.e4 q q) q Qp q q q q (.b q (.n q q .nil))))) q q (by kernel_rfl) q q q (.c (.inr (.inl ⟨_,q⟩)) q q q q q (fW.wanted .none) (O.oW q .z5 wg q) (.c (.inr (.inr (.inr (.inl ⟨6,_,_,q,q,i_ q,by simp,_,q,i_ q⟩)))) q q q q q (fW.wanted .none) (O.mR q .z5 TQ q) (.c (.inr (.inr (.inr (.inl ⟨6,_,_,q,q,i_ q,by simp,_,q,i_ q⟩)))) q q q q q (fW.wanted .none) (O.dV .z5) (.c (.inr (.inr (.inr (.inl ⟨6,_,_,q,q,i_ q,by simp,_,q,i_ q⟩)))) q q q q q (fW.wanted .none) (O.a1 .z4) (.c (.inr (.inl ⟨_,q⟩)) q q q q q (fW.wanted .none) (O.oW q .z5 we q) (.c (.inr (.inr (.inr (.inl ⟨6,_,_,q,q,i_ q,by simp,_,q,i_ q⟩)))) q q q q q (fW.wanted .none) (O.mR q .z5 TP q) (.c (.inr (.inr (.inr (.inl ⟨6,_,_,q,q,i_ q,by simp,_,q,i_ q⟩)))) q q q q q (fW.wanted .none) (O.dV .z5) (.c (.inr (.inr (.inr (.inl ⟨6,_,_,q,q,i_ q,by simp,_,q,i_ q⟩)))) q q q q q (fW.wanted .none) (O.a1 .z4) (.c (.inr (.inl ⟨_,q⟩)) q q q q q (fW.wanted .none) (O.oW q .z5 we q) (.c (.inr (.inr (.inr (.inl ⟨6,_,_,q,q,i_ q,by simp,_,q,i_ q⟩)))) q q q q q (fW.wanted .none) (O.mR q .z5 TO q) (.c (.inr (.inr (.inr (.inl ⟨6,_,_,q,q,i_ q,by simp,_,q,i_ q⟩)))) q q q q q (fW.wanted .none) (O.dV .z5) (.c (.inr (.inr (.inr (.inl ⟨6,_,_,q,q,i_ q,by simp,_,q,i_ q⟩)))) q q q q q (fW.wanted .none) (O.a1 .z4) .nil)))))))))))) (by kernel_rfl)<|aT 14 (O.dK (.lit q))<|aT 15 (O.dK (.lit q))<|aT 16 (O.dK (.lit q))<|b1.fin q q q (kE q q q q)) ?_;refine aD.bQ<|W.eF (G1:=[(2,.obj [ay bP ([]:List Tok),ay bq ([]:List fb),ay cm ([]:List Prod),ao bk,ao bk]),(3,_),(4,_),(5,_)]) [2] (.z q q (gj.obj (.z (.z (.z (.f (.f .nil)))))) (.n q q (.n q q (.n q q .nil)))) ?_;exact W.rt<|aD.oy<|sm h ▸ mg (.c (ys0:=[ay bP ([]:List Tok),ay bq ([]:List fb),ay cm ([]:List Prod),ao bk,ao bk]) q ib q q q (.f q (.f q (.f q (.f q (.f q .nil))))) (.f q q (.f q q (.f q q .nil))))
  ·refine W.da<|aD.bQ<|W.cF [1,2,6] (aq (O.a1 .z4)<|aq (O.e' (cs:=[ao (⟨#[36,97,99,99,101,112,116]⟩),ao bk]) FN Dy q q q)<|aq (O.bs (ys:=[.agg [ao (⟨#[36,97,99,99,101,112,116]⟩),ao bk]]) bq [(⟨⟨#[36,97,99,99,101,112,116]⟩,bk⟩:fb)] xI q q q q q q Gu q q)<|aq (O.dV .z5)<|aq O.y2<|aq O.y2<|aC.fX (bF.zY [1,2,6])<|bK q) ?_;refine W.bV<|W.cC [1,2,6,18] ?_;refine W.cq<|aP h λrW ah h=>W.gy ([(⟨⟨#[36,97,99,99,101,112,116]⟩,bk⟩:fb)],0) (λ(qF:List fb × Int)=>[(6,.obj [ar bP bl.aA.aW,ar bq qF.1,ar cm bl.aA.a7,ao bl.aA.b_,ao bl.aA.ch,ar cr bl.cg,ar bq bl.cx,ar cQ bl.bX,ae bl.cO,ae bl.c8,ao bl.c5,ae bl.ca,ae bl.bU]),(18,ae qF.2)]) [1,2,6,18] 14 (λ(rW:List fb)=>[(6,.obj [ar bP bl.aA.aW,ar bq rW,ar cm bl.aA.a7,ao bl.aA.b_,ao bl.aA.ch,ar cr bl.cg,ar bq bl.cx,ar cQ bl.bX,ae bl.cO,ae bl.c8,ao bl.c5,ae bl.ca,ae bl.bU])]) [1,2,6] ah (λqF o h=>?_) ?_
   ·clear ah;refine W.bV<|W.cC [1,2,6,18,278] ?_;refine W.cX h q (λVt h=>?_) (λVt h=>?_)
    ·refine W.da<|aD.bQ<|W.bV<|W.cq<|aP h λoB Ot h=>W.cF [1,2,6,18,19] (aq (O.a1 .z4)<|aq (O.dV .z5)<|aq O.y2<|aq (O.dT (y:=.bn cQ.z ⟨6,[7]⟩ bl.bX.length))<|cn q<|aq (O.gU (en:=cQ) q .ec .bh xH Ot q)<|aq (O.kd (en:=cQ) (x':=ao oB) q .z5 wg Ot q q)<|aq (O.e' (cs:=[ao oB,ao bk]) FN Dy q q q)<|aq (O.hQ (cs:=[ao bk,ao bk]) Dy q q)<|aC.fX (bF.jo [1,2,6,18,19])<|bK q) ?_;refine W.bV<|aP h λua W9 h=>W.cF [1,2,6,18,19,20] (aq (O.a1 .z4)<|aq O.bS<|aq O.eb<|hE (c3.rR (ys:=[.ptr ⟨6,[]⟩ 0,ao oB]) q (.c (View.nO q q) (.s .nil)) (bJ.go W9))<|aC.bp) ?_;refine W.cC [1,2,6,18,19,20,294] ?_;refine aP h λtH ag h=>W.eX [1,2,6,18,19] [(19,.obj [ao oB,ao tH])] ?_ ?_
     ·clear h; have h:=ag; clear ag;refine W.cX h q (λVu h=>?_) (λVu h=>?_)
      ·refine aP h λDw Jq h=>W.bW [1,2,6,18,19] (aq (O.a1 .z4)<|aq (O.dV .z5)<|aq O.y2<|aq (O.dT (y:=.bn bq.z ⟨6,[6]⟩ bl.cx.length))<|cn q<|aq (O.gU (en:=bq) q .ec .bh xI Jq q)<|aq (O.jU (en:=bq) q .z5 MW Jq q q)<|aq (O.kd (en:=bq) (x':=ao Dw.Tag) q .z5 wg Jq q q)<|aq O.bS<|aC.fX (bF.qL [1,2,6,18,19])<|bK q) ?_;exact sm h ▸ aD.dq
      ·exact W.da<|sm h ▸ aD.dq
     refine aD.bQ<|aP h λGl W_ h=>W.rd [[],[],[1],[1,2],[1,2,3],[1,2,3,4],[],[6],aF 1 7 [],aF 0 9 [],aF 0 10 [],aF 0 11 [],aF 0 12 []] [(1,_),(2,_),(6,_),(18,_)] gV (by kernel_rfl) (aT 0 (O.a1 .z4)<|aT 1 (O.a1 .z4)<|aT 2 (O.dV .z5)<|aT 3 O.y2<|aT 4 O.y2<|aT 5 (O.dT (y:=.bn bq.z ⟨6,[1]⟩ qF.1.length))<|aT 6 (O.fQ (cs':=[ao oB,ao tH]) q .z4 RU q q)<|b1.hA 7 (x:=ay bq [(⟨oB,tH⟩:fb)]) (O.bs (ys:=[.agg [ao oB,ao tH]]) bq [(⟨oB,tH⟩:fb)] xI q q q q q q Gu q q) q q q q .none<|aT 8 (O.ap (en:=bq) (r:=Gl) .ec q .z2 .i GP q W_)<|aT 9 (O.dV .z5)<|aT 10 O.y2<|aT 11 O.y2<|b1.ju 12 (bF.sp [1,2,6,18])<|b1.fin q q q (kE q q q q)) ?_;refine aD.cq<|aD.bQ<|W.bW [1,2,6,18] (cn q<|aq (O.add .bh .cv)<|aC.bW [1,2,6,280] q<|aC.bp) ?_;exact sm h ▸ aD.gt
    ·exact W.fJ<|aD.fH<|sm h ▸ aD.t1
   refine aD.fC<|aD.bQ<|W.bV<|W.cC [1,2,6,21] ?_;refine W.cq<|aP h λj4 ah h=>W.gy (rW,1) (λ(rN:List fb × Int)=>[(6,.obj [ar bP bl.aA.aW,ar bq rN.1,ar cm bl.aA.a7,ao bl.aA.b_,ao bl.aA.ch,ar cr bl.cg,ar bq bl.cx,ar cQ bl.bX,ae bl.cO,ae bl.c8,ao bl.c5,ae bl.ca,ae bl.bU]),(21,ae rN.2)]) [1,2,6,21] 16 (λ(j4:List fb)=>[(6,.obj [ar bP bl.aA.aW,ar bq j4,ar cm bl.aA.a7,ao bl.aA.b_,ao bl.aA.ch,ar cr bl.cg,ar bq bl.cx,ar cQ bl.bX,ae bl.cO,ae bl.c8,ao bl.c5,ae bl.ca,ae bl.bU])]) [1,2,6] ah (λrN o h=>?_) ?_
   ·clear ah;refine W.bV<|W.cC [1,2,6,21,321] ?_;refine W.cX h q (λVv h=>?_) (λVv h=>?_)
    ·refine W.da<|aD.bQ<|W.bV<|W.cq<|aP h λGm W' h=>aP h λvI Xa h=>aP h λQD Xb h=>W.rd [[],[],[1],[1,2],[1,2,3],[1,2,3,4],[],[6],[6,7],[6,7,8],[6,7,8,9],aF 1 10 [],aF 0 12 [],aF 0 13 [],aF 0 14 [],aF 0 15 []] [(1,_),(2,_),(6,_),(21,_)] gV (by kernel_rfl) (aT 0 (O.a1 .z4)<|aT 1 (O.a1 .z4)<|aT 2 (O.dV .z5)<|aT 3 O.y2<|aT 4 O.y2<|aT 5 (O.dT (y:=.bn bq.z ⟨6,[1]⟩ rN.1.length))<|aT 6 (O.a1 (.lit q))<|lz 7 (c3.fR (.c6 (.lit q) .nil) (bJ.go W'))<|aT 8 (O.cat .cv .bh Xa)<|aT 9 (O.e' (cs:=[ao vI,ao bk]) FN Dy q q q)<|b1.hA 10 (x:=ay bq [(⟨vI,bk⟩:fb)]) (O.bs (ys:=[.agg [ao vI,ao bk]]) bq [(⟨vI,bk⟩:fb)] xI q q q q q q Gu q q) q q q q .none<|aT 11 (O.ap (en:=bq) (r:=QD) .ec q .z2 .i GP q Xb)<|aT 12 (O.dV .z5)<|aT 13 O.y2<|aT 14 O.y2<|b1.ju 15 (bF.sp [1,2,6,21])<|b1.fin q q q (kE q q q q)) ?_;refine aD.cq<|aD.bQ<|W.bW [1,2,6,21] (cn q<|aq (O.add .bh .cv)<|aC.bW [1,2,6,323] q<|aC.bp) ?_;exact sm h ▸ aD.gt
    ·exact W.fJ<|aD.fH<|sm h ▸ aD.t1
   refine aD.fC<|aD.bQ<|W.cC [1,2,6,22] ?_;refine W.bV<|W.cC [1,2,6,22,23] ?_;refine W.cq<|aP h λlQ ah h=>W.gy (bl.aA.aW,57346,3) (λ(lM:List Tok × Int × Int)=>[(6,.obj [ar bP lM.1,ar bq j4,ar cm bl.aA.a7,ao bl.aA.b_,ao bl.aA.ch,ar cr bl.cg,ar bq bl.cx,ar cQ bl.bX,ae bl.cO,ae bl.c8,ao bl.c5,ae bl.ca,ae bl.bU]),(22,ae lM.2.1),(23,ae lM.2.2)]) [1,2,6,22,23] 18 (λ(lQ:List Tok)=>[(6,.obj [ar bP lQ,ar bq j4,ar cm bl.aA.a7,ao bl.aA.b_,ao bl.aA.ch,ar cr bl.cg,ar bq bl.cx,ar cQ bl.bX,ae bl.cO,ae bl.c8,ao bl.c5,ae bl.ca,ae bl.bU])]) [1,2,6] ah (λlM o h=>?_) ?_
   ·clear ah;refine W.bV<|W.cC [1,2,6,22,23,346] ?_;refine W.cX h q (λVw h=>?_) (λVw h=>?_)
    ·refine W.da<|aD.bQ<|W.bV<|aP h λB_ ag h=>W.eX [1,2,6,22,23] [(6,.obj [ar bP B_.1,ar bq j4,ar cm bl.aA.a7,ao bl.aA.b_,ao bl.aA.ch,ar cr bl.cg,ar bq bl.cx,ar cQ bl.bX,ae bl.cO,ae bl.c8,ao bl.c5,ae bl.ca,ae bl.bU]),(22,ae B_.2)] ?_ ?_
     ·clear h; have h:=ag; clear ag;refine W.cq<|aP h λK4 Om h=>W.cF [1,2,6,22,23,356] (aq (O.a1 .z4)<|aq (O.dV .z5)<|aq O.y2<|aq (O.dT (y:=.bn cr.z ⟨6,[5]⟩ bl.cg.length))<|cn q<|aq (O.gU (en:=cr) q .ec .bh qI Om q)<|aq (O.kd (en:=cr) (x':=bg K4) q .z5 AK Om q q)<|aC.bp) ?_;refine aP h λB5 ag h=>W.eX [1,2,6,22,23] [(6,.obj [ar bP B5.1,ar bq j4,ar cm bl.aA.a7,ao bl.aA.b_,ao bl.aA.ch,ar cr bl.cg,ar bq bl.cx,ar cQ bl.bX,ae bl.cO,ae bl.c8,ao bl.c5,ae bl.ca,ae bl.bU]),(22,ae B5.2)] ?_ ?_
      ·clear h; have h:=ag; clear ag;refine W.cX h q (λVa h=>?_) (λVa h=>?_)
       ·refine aP h λrT Jn h=>W.cF [1,2,6,22,23] (aq (O.a1 .z4)<|aq (O.dV .z5)<|aq O.y2<|aq O.y2<|aq (O.dT (y:=.bn bP.z ⟨6,[0]⟩ lM.1.length))<|cn q<|cn q<|aq (O.gU (en:=bP) q .ec .bh FT Jn q)<|aq (O.jU (en:=bP) q .z5 MY Jn q q)<|aC.fX (bF.tS (en:=bP) (y2:=(⟨rT.Name,rT.Lit,lM.2.1,rT.Level,rT.e9,rT.Tag⟩:Tok)) [1,2,6,22,23] Jn)<|bK q) ?_;refine W.bW [1,2,6,22,23] (cn q<|aq (O.add .bh .cv)<|aC.bW [1,2,6,23,367] q<|aC.bp) ?_;exact sm h ▸ aD.dq
       ·exact W.da<|sm h ▸ aD.dq
      exact aD.cq<|sm h ▸ aD.dq
     refine aD.bQ<|W.bW [1,2,6,22,23] (cn q<|aq (O.add .bh .cv)<|aC.bW [1,2,6,22,348] q<|aC.bp) ?_;exact sm h ▸ aD.gt
    ·exact W.fJ<|aD.fH<|sm h ▸ aD.t1
   refine aD.fC<|aD.bQ<|aP h λD4 ag h=>W.np [1,2,6,24] [(24,bg D4)] ?_ ?_
   ·refine aq (O.a1 .z4)<|aq (O.dV .z5)<|aq O.y2<|aq O.y2<|aq (O.dT (y:=.bn bP.z ⟨6,[0]⟩ lQ.length))<|aq (O.l9 .ec FT)<|aq (O.gtr .bh .cv)<|aq (O.a1 (.lit q)) ?_;rcases ic ag with ⟨tp,ag⟩ | ⟨tp,ag⟩
    ·exact sm ag ▸ aC.bp
    ·refine b' tp (O.a1 .z4)<|b' tp (O.dV .z5)<|b' tp O.y2<|b' tp O.y2<|b' tp (O.dT (y:=.bn bq.z ⟨6,[1]⟩ j4.length))<|b' tp (O.l9 .ec xI)<|b' tp (O.gtr .bh .cv)<|aq (O.nm .bh tp .bh)<|aq (O.a1 (.lit q)) ?_;rcases ic ag with ⟨NC,ag⟩ | ⟨NC,ag⟩
     ·exact sm ag ▸ aC.bp
     ·exact sm ag ▸ (b' NC (O.a1 .z4)<|aC.bp)
   refine W.bV<|W.cC [1,2,6,24,25] ?_;refine W.cq<|aP h λz_ ah h=>W.gy (D4,0) (λ(sM:Bool × Int)=>[(24,bg sM.1),(25,ae sM.2)]) [1,2,6,24,25] 20 (λ(z_:Bool)=>[(24,bg z_)]) [1,2,6,24] ah (λsM o h=>?_) ?_
   ·clear ah;refine W.bV<|W.cC [1,2,6,24,25,400] ?_;refine W.cX h q (λVb h=>?_) (λVb h=>?_)
    ·refine W.da<|aD.bQ<|W.bV<|W.cq<|aP h λG7 ag h=>W.rx [(1,.obj (hI.cells a0)),(2,.obj [.bf,.bf,.bf,ao bk,ao bk]),(6,.obj [ar bP lQ,ar bq j4,ar cm bl.aA.a7,ao bl.aA.b_,ao bl.aA.ch,ar cr bl.cg,ar bq bl.cx,ar cQ bl.bX,ae bl.cO,ae bl.c8,ao bl.c5,ae bl.ca,ae bl.bU]),(24,bg G7),(25,ae sM.2)] ?_ ?_
     ·refine cn q<|aq (O.a1 (.lit q)) ?_;rcases ic ag with ⟨jY,ag⟩ | ⟨jY,ag⟩
      ·exact sm ag ▸ (gv jY<|gv jY<|gv jY<|gv jY<|gv jY<|gv jY<|gv jY<|gv jY<|gv jY<|gv jY<|gv jY<|aq (O.lJ .bh jY .cv)<|aC.bW [1,2,6,25,416] q<|aC.bp)
      ·refine b' jY (O.a1 .z4)<|b' jY (O.dV .z5)<|b' jY O.y2<|b' jY O.y2<|b' jY (O.dT (y:=.bn cm.z ⟨6,[2]⟩ bl.aA.a7.length))<|b' jY (O.a1 (.lit q)) ?_;exact aP ag λK5 Jo ag=>sm ag ▸ (b' jY (O.gU (en:=cm) q .ec .bh FU Jo q)<|b' jY (O.jU (en:=cm) q .z5 MX Jo q q)<|b' jY (O.kd (en:=cm) (x':=ay aY K5.eI) q .z5 MD Jo q q)<|b' jY O.iK<|b' jY (O.gtr .bh .cv)<|aq (O.nm .bh jY .bh)<|aC.bW [1,2,6,25,416] q<|aC.bp)
     refine aD.cq<|aD.bQ<|W.bW [1,2,6,24,25] (cn q<|aq (O.add .bh .cv)<|aC.bW [1,2,6,24,402] q<|aC.bp) ?_;exact sm h ▸ aD.gt
    ·exact W.fJ<|aD.fH<|sm h ▸ aD.t1
   refine aD.fC<|aD.bQ<|W.bV<|W.cC [1,2,6,417] ?_;refine W.cX h q (λVc h=>?_) (λVc h=>?_)
   ·refine W.cF [2,3,4,5] (aq (O.e' (cs:=[.bf,.bf,.bf,ao bk,ao bk]) KI xU q q q)<|aC.fX (bF.jo [2])<|aC.bp) ?_;refine W.eF (G1:=[(2,.obj [ay bP ([]:List Tok),ay bq ([]:List fb),ay cm ([]:List Prod),ao bk,ao bk]),(3,_),(4,_),(5,_)]) [2] (.z q q (gj.obj (.z (.z (.z (.f (.f .nil)))))) (.n q q (.n q q (.n q q .nil)))) ?_;exact W.rt<|aD.oy<|sm h ▸ mg (.c (ys0:=[ay bP ([]:List Tok),ay bq ([]:List fb),ay cm ([]:List Prod),ao bk,ao bk]) q ib q q q (.f q (.f q (.f q (.f q (.f q .nil))))) (.f q q (.f q q (.f q q .nil))))
   ·refine W.da<|aD.bQ<|W.bV<|W.rd [[],[],[],[2],[],[4],[0,2,3],[0,2,3,6],[0,2,3,6,7],[0,2,3,6,7,8],aF 0 10 [],aF 0 11 [],aF 0 12 [],aF 0 13 []] [(2,_),(6,_)] gV (by kernel_rfl) (aT 0 (O.a1 .z4)<|aT 1 (O.a1 .z4)<|aT 2 O.bS<|aT 3 O.eb<|aT 4 O.bS<|aT 5 O.eb<|aT 6 (O.dV .z5)<|aT 7 O.y2<|aT 8 O.y2<|b1.e' 9 (G2:=[(1,.obj (hI.cells a0)),(2,.obj [.bf,.bf,.bf,ao bk,ao bk]),(6,.obj [ar bP lQ,ar bq j4,ar cm bl.aA.a7,ao a0.b_,ao bl.aA.ch,ar cr bl.cg,ar bq bl.cx,ar cQ bl.bX,ae bl.cO,ae bl.c8,ao bl.c5,ae bl.ca,ae bl.bU])]) (U:=[(5,424,some (ao a0.ch)),(4,423,some (.ptr ⟨1,[]⟩ 3)),(1,420,some (.ptr ⟨6,[]⟩ 0))]) (nv.v (bF.oM (bF.o6 (G2:=[(1,.obj (hI.cells a0)),(2,.obj [.bf,.bf,.bf,ao bk,ao bk]),(6,.obj [ar bP lQ,ar bq j4,ar cm bl.aA.a7,ao a0.b_,ao bl.aA.ch,ar cr bl.cg,ar bq bl.cx,ar cQ bl.bX,ae bl.cO,ae bl.c8,ao bl.c5,ae bl.ca,ae bl.bU])]) (cs2:=[ar bP lQ,ar bq j4,ar cm bl.aA.a7,ao a0.b_,ao bl.aA.ch,ar cr bl.cg,ar bq bl.cx,ar cQ bl.bX,ae bl.cO,ae bl.c8,ao bl.c5,ae bl.ca,ae bl.bU]) q q q (.ptr q) (.lit q) q Qr q q q q (.n q q (.n q q (.b q .nil)))))) q q (by kernel_rfl) q q q (.c (.inr (.inl ⟨_,q⟩)) q q q q q (fW.wanted .none) (O.oW q .z5 wg q) (.c (.inr (.inr (.inr (.inl ⟨1,_,_,q,q,i_ q,by simp,_,q,i_ q⟩)))) q q q q q (fW.wanted .none) (O.mR q .z4 TR q) (.c (.inr (.inr (.inr (.inl ⟨6,_,_,q,q,i_ q,by simp,_,q,i_ q⟩)))) q q q q q (fW.wanted .none) (O.a1 .z4) .nil))) (by kernel_rfl)<|aT 10 (O.dV .z5)<|aT 11 O.y2<|aT 12 O.y2<|b1.ju 13 (bF.qL [2,6])<|b1.fin q q q (nr q q)) ?_;refine aD.bQ<|W.bV<|W.eF (G1:=[(2,_),(6,.obj [ay bP lQ,ay bq j4,ay cm bl.aA.a7,ao a0.b_,ao a0.ch,ar cr bl.cg,ar bq bl.cx,ar cQ bl.bX,ae bl.cO,ae bl.c8,ao bl.c5,ae bl.ca,ae bl.bU])]) [6] (.n q q (.z q q (gj.obj (.z (.z (.z (.f (.f (.f (.f (.f (.f (.f (.f (.f (.f .nil)))))))))))))) .nil)) ?_;refine W.bW [2,3,4,5] (aq (O.a1 .z4)<|aq (O.dV .z5)<|aq O.y2<|aq (O.fQ (cs':=[ay bP lQ,ay bq j4,ay cm bl.aA.a7,ao a0.b_,ao a0.ch]) q .z5 ib q q)<|aC.fX (bF.jo [2])<|aC.bp) ?_;exact aD.bQ<|W.rt<|sm h ▸ mg (.c (ys0:=[ay bP lQ,ay bq j4,ay cm bl.aA.a7,ao a0.b_,ao a0.ch]) q ib q q q (.f q (.f q (.f q (.f q (.f q .nil))))) (.f q q (.f q q (.f q q .nil))))
end Go.Proofs
