/- Parts of the proof that the last text states. -/
import Derived.KernelRfl
import Derived.ProofKit
import Derived.RowKit3
import Derived.Test.YtcfiphoaldlmiaaGreatRows
import Derived.Test.YtcfiphoaldlmiaaGreatE7
namespace Go.Proofs
open Go Go.Own
set_option linter.unusedVariables false
theorem toks_of {d s:Int}{l:List Int}(h:∀ x∈l,x=120\/x=59\/x=999) (hl:l.length<=100000):pf7 T5 l d s=(dloop (⟨T5,l.map tn,min (max d 0) 100000,min (max s 0) 1000000,[0],[],0,(⟨0,0,0,0,[],[],[],(⟨0,0,0,ri0⟩:Node)⟩:Parse)⟩:drive_driver)).bind fun x=>some x.f_p:=by
 have:(loopM (R:=List Int) (fun (s2:List Int × Int) =>
   (bif decide (s2.2<(l.length:Int)) then
   (idx l s2.2).bind fun x6 =>
   (bif decide (x6<=0) then
   some (.inr s2.1)
   else
   (pf14 T5.Nums x6).bind fun x8 =>
   (appO s2.1 [x8]).bind fun x9 =>
   some (.inl (s2.1++[x8],w64 (s2.2+1))))
   else
   some (.inr s2.1))) (([]:List Int),0))=some (l.map tn):=by
  refine tot_is (Tot.count (fun s=>s.2) (l.length:Int) (fun s=>∃ j:Nat,j<=l.length/\s.2=j/\s.1=(l.take j).map tn) ⟨0,by omega,rfl,by simp⟩ (by show (l.length:Int) - 0<_; omega) ?_)
  rintro ⟨a,i⟩ ⟨j,hj,hi,ha⟩
  simp only at hi ha
  subst hi ha
  by_cases hlt:j<l.length
  ·have hx:idx l (j:Int)=some l[j]:=by simp [idx,hlt]
   simp only [decide_eq_true (show (j:Int)<l.length by omega),cond_true,hx,Option.bind_some]
   have hp:pf14 T5.Nums l[j]=some (tn l[j])/\¬ l[j]<=0:=by
    rcases h l[j] (List.getElem_mem hlt) with e | e | e <;> rw [e] <;> exact ⟨by kernel_rfl,by decide⟩
   rw [decide_eq_false hp.2,cond_false,hp.1,Option.bind_some,appO1 (by simp; omega),Option.bind_some]
   refine Tot.so ⟨⟨j+1,by omega,?_,?_⟩,?_,?_⟩
   ·show w64 ((j:Int)+1)=((j+1:Nat):Int)
    rw [w64_id (by omega) (by omega)]; omega
   ·show (l.take j).map tn++[tn l[j]]=(l.take (j+1)).map tn
    rw [List.take_succ_eq_append_getElem hlt,List.map_append]; rfl
   ·show (j:Int)<w64 ((j:Int)+1)
    rw [w64_id (by omega) (by omega)]; omega
   ·show w64 ((j:Int)+1)<=l.length
    rw [w64_id (by omega) (by omega)]; omega
  ·simp only [decide_eq_false (show ¬ (j:Int)<l.length by omega),cond_false]
   refine Tot.so ?_
   rw [show j=l.length by omega,List.take_length]
   exact rfl
 unfold pf7
 rw [this]
 rfl
theorem eq9 (l:List Int) (hl:l.length<=1000000):pf9 l l=some true:=by
 unfold pf9
 simp only [decide_true,Bool.not_true,cond_false]
 refine tot_is ?_
 apply Tot.by' (Ξ:=LR (fun _=>True) (fun _=>False))
 ·refine (Tot.scan (Q:=fun _=>False) l (fun _=>True) (by omega) ?_ ?_).use fun x hx=>?_
  ·intro s y h0 h1 hy hm
   simp only [decide_eq_true h1,cond_true,hy,Option.bind_some,decide_true,Bool.not_true,cond_false]
   exact Tot.so ⟨w64_id (by omega) (by omega),trivial⟩
  ·intro s hs
   simp only [decide_eq_false hs,cond_false]
  ·rcases x with x | x
   ·trivial
   ·exact hx
 ·rintro (x | x) hx
  ·exact Tot.so rfl
  ·exact hx.elim
theorem eq10 (l:List Upset) (hl:l.length<=1000000):pf10 l l=some true:=by
 unfold pf10
 simp only [decide_true,Bool.not_true,cond_false]
 refine tot_is ?_
 apply Tot.by' (Ξ:=LR (fun _=>True) (fun _=>False))
 ·refine (Tot.scan (Q:=fun _=>False) l (fun _=>True) (by omega) ?_ ?_).use fun x hx=>?_
  ·intro s y h0 h1 hy hm
   simp only [decide_eq_true h1,cond_true,hy,Option.bind_some,decide_true,beq_self_eq_true,Bool.and_true,Bool.not_true,cond_false]
   exact Tot.so ⟨w64_id (by omega) (by omega),trivial⟩
  ·intro s hs
   simp only [decide_eq_false hs,cond_false]
  ·rcases x with x | x
   ·trivial
   ·exact hx
 ·rintro (x | x) hx
  ·exact Tot.so rfl
  ·exact hx.elim
def wk (x:Int):Nat:=((pf6 x 5).getD 0).toNat
theorem wk_is (x:Int):pf6 x 5=some (wk x:Int)/\wk x<=4:=by
 have:∃ k:Int,pf6 x 5=some k/\0<=k/\k<=4:=by
  have h1:-5<x.tmod 5:=by have:=Int.lt_tmod_of_pos x (b:=5) (by omega); simpa using this
  have h2:x.tmod 5<5:=Int.tmod_lt_of_pos x (by omega)
  unfold pf6 remO
  rw [if_neg (by decide),Option.bind_some]
  by_cases h:x.tmod 5<0
  ·simp only [decide_eq_true h,cond_true,Option.bind_some]
   rw [w64_id (by omega) (by omega)]
   exact ⟨_,rfl,by omega,by omega⟩
  ·simp only [decide_eq_false h,cond_false,Option.bind_some]
   exact ⟨_,rfl,by omega,by omega⟩
 obtain ⟨k,hk,h0,h4⟩:=this
 unfold wk
 rw [hk]
 simp only [Option.getD_some]
 exact ⟨by congr 1; omega,by omega⟩
def acc0:Acc:=⟨[],[],[1],[],1,1,false⟩
theorem stp_bd (A:Acc) (k:Nat) (hk:k<=4):(stp A k).l.length<=A.l.length+6/\(stp A k).lost.length<=A.lost.length+4/\(stp A k).prods.length=A.prods.length+2/\(stp A k).ups.length<=A.ups.length+1/\A.steps<=(stp A k).steps/\(stp A k).steps<=A.steps+10:=by
 unfold stp
 split
 ·simp [ln_len]; omega
 ·simp [ln_len]; omega
theorem fold_bd (ks:List Nat):∀ A:Acc,(∀ k∈ks,k<=4)->(ks.foldl stp A).l.length<=A.l.length+6 * ks.length/\(ks.foldl stp A).lost.length<=A.lost.length+4 * ks.length/\(ks.foldl stp A).prods.length=A.prods.length+2 * ks.length/\(ks.foldl stp A).ups.length<=A.ups.length+ks.length/\A.steps<=(ks.foldl stp A).steps/\(ks.foldl stp A).steps<=A.steps+10 * ks.length:=by
 induction ks with
 | nil=>intro A _; simp
 | cons k ks ih =>
  intro A h
  have h1:=stp_bd A k (h k List.mem_cons_self)
  have h2:=ih (stp A k) fun k' hk=>h k' (List.mem_cons_of_mem _ hk)
  simp only [List.foldl_cons,List.length_cons]
  omega
theorem fold_l (ks:List Nat):∀ A:Acc,(ks.foldl stp A).l=A.l++ks.flatMap lnOf:=by
 induction ks with
 | nil=>intro A; simp
 | cons k ks ih =>
  intro A
  rw [List.foldl_cons,ih,List.flatMap_cons,<- List.append_assoc]
  congr 1
  unfold stp; split <;> rfl
theorem junk_s (i:Nat):junk (i+1)=junk i++[if i % 2=0 then 120 else 999]:=by
 simp [junk,List.range_succ]
theorem junk_loop (l lost:List Int) (k:Nat) (hk:k<=4) (hl:l.length<=1000) (ho:lost.length<=1000) :
  loopM (R:=List Int × List Int) (fun (s18:List Int × List Int × Int) =>
   (bif decide (s18.2.2<(k:Int)) then
   (appO s18.2.1 [(s18.1.length:Int)]).bind fun x22 =>
   (remO s18.2.2 2).bind fun x23 =>
   (idx [120,999] x23).bind fun x24 =>
   (appO s18.1 [x24]).bind fun x25 =>
   some (.inl (s18.1++[x24],s18.2.1++[(s18.1.length:Int)],w64 (s18.2.2+1)))
   else
   some (.inr (s18.1,s18.2.1)))) (l,lost,0)=some (l++junk k,lost++(List.range k).map (fun j:Nat=>(l.length:Int)+(j:Int))):=by
 refine tot_is (Tot.count (fun s=>s.2.2) (k:Int) (fun s=>∃ j:Nat,j<=k/\s=(l++junk j,lost++(List.range j).map (fun j:Nat=>(l.length:Int)+(j:Int)),(j:Int))) ⟨0,by omega,by simp [junk]⟩ (by show (k:Int) - 0<_; omega) ?_)
 rintro s ⟨j,hj,rfl⟩
 by_cases hlt:j<k
 ·simp only [decide_eq_true (show (j:Int)<k by omega),cond_true]
  rw [appO1 (by simp; omega),Option.bind_some]
  unfold remO
  rw [if_neg (by decide),Option.bind_some]
  have hi:idx [120,999] ((j:Int).tmod 2)=some (if j % 2=0 then (120:Int) else 999):=by
   have:(j:Int).tmod 2=((j % 2:Nat):Int):=by rw [Int.tmod_eq_emod_of_nonneg (by omega)]; omega
   rw [this]
   rcases Nat.mod_two_eq_zero_or_one j with h | h <;> rw [h] <;> rfl
  rw [hi,Option.bind_some,appO1 (by simp [junk_len]; omega),Option.bind_some]
  refine Tot.so ⟨⟨j+1,by omega,?_⟩,?_,?_⟩
  ·rw [w64_id (n:=(j:Int)+1) (by omega) (by omega),junk_s]
   simp [List.range_succ,junk_len]
  ·show (j:Int)<w64 ((j:Int)+1)
   rw [w64_id (by omega) (by omega)]; omega
  ·show w64 ((j:Int)+1)<=k
   rw [w64_id (by omega) (by omega)]; omega
 ·simp only [decide_eq_false (show ¬ (j:Int)<k by omega),cond_false]
  rw [show j=k by omega]
  exact Tot.so rfl
abbrev tup (A:Acc) (i:Int):List Int × List Int × List Int × List Upset × Int × Int × Bool × Int:=(A.l,A.lost,A.prods,A.ups,A.steps,A.deep,A.was,i)
theorem lines_loop (a0:List Int) (ks:List Nat) (hks:ks=(a0.take 30).map wk) :
  loopM (R:=List Int × List Int × List Int × List Upset × Int × Int) (fun (s4:List Int × List Int × List Int × List Upset × Int × Int × Bool × Int) =>
   ((bif decide (s4.2.2.2.2.2.2.2<(a0.length:Int)) then some (decide (s4.2.2.2.2.2.2.2<30)) else some false)).bind fun c8 =>
   (bif c8 then
   ((idx a0 s4.2.2.2.2.2.2.2).bind fun x11 =>
   (pf6 x11 5).bind fun x12 =>
   (appO s4.1 [120]).bind fun x13 =>
   (bif decide (x12=0) then
   (appO (s4.1++[120]) [59]).bind fun x15 =>
   (appO s4.2.2.1 [3,2]).bind fun x16 =>
   some ((s4.1++[120])++[59],s4.2.1,s4.2.2.1++[3,2],s4.2.2.2.1,w64 (s4.2.2.2.2.1+4),3,false)
   else
   (appO s4.2.2.2.1 [(⟨((s4.1++[120]).length:Int),!s4.2.2.2.2.2.2.1⟩:Upset)]).bind fun x17 =>
   (loopM (R:=List Int × List Int) (fun (s18:List Int × List Int × Int) =>
   (bif decide (s18.2.2<x12) then
   (appO s18.2.1 [(s18.1.length:Int)]).bind fun x22 =>
   (remO s18.2.2 2).bind fun x23 =>
   (idx [120,999] x23).bind fun x24 =>
   (appO s18.1 [x24]).bind fun x25 =>
   some (.inl (s18.1++[x24],s18.2.1++[(s18.1.length:Int)],w64 (s18.2.2+1)))
   else
   some (.inr (s18.1,s18.2.1)))) (s4.1++[120],s4.2.1,0)).bind fun x19 =>
   (appO x19.1 [59]).bind fun x26 =>
   (appO s4.2.2.1 [4,2]).bind fun x27 =>
   some (x19.1++[59],x19.2,s4.2.2.1++[4,2],s4.2.2.2.1++[(⟨((s4.1++[120]).length:Int),!s4.2.2.2.2.2.2.1⟩:Upset)],w64 (s4.2.2.2.2.1+(w64 (6+x12))),3,true))).bind fun j10 =>
   some (.inl (j10.1,j10.2.1,j10.2.2.1,j10.2.2.2.1,j10.2.2.2.2.1,j10.2.2.2.2.2.1,j10.2.2.2.2.2.2,w64 (s4.2.2.2.2.2.2.2+1)))
   else
   some (.inr (s4.1,s4.2.1,s4.2.2.1,s4.2.2.2.1,s4.2.2.2.2.1,s4.2.2.2.2.2.1)))) (([]:List Int),([]:List Int),[1],([]:List Upset),1,1,false,0)
  = some ((ks.foldl stp acc0).l,(ks.foldl stp acc0).lost,(ks.foldl stp acc0).prods,(ks.foldl stp acc0).ups,(ks.foldl stp acc0).steps,(ks.foldl stp acc0).deep):=by
 have hkl:ks.length<=30:=by rw [hks]; simp; omega
 have hk4:∀ k∈ks,k<=4:=by
  intro k hk; rw [hks] at hk
  obtain ⟨x,_,rfl⟩:=List.mem_map.1 hk
  exact (wk_is x).2
 have hkn:ks.length=min 30 a0.length:=by rw [hks]; simp
 refine tot_is (Tot.count (fun s=>s.2.2.2.2.2.2.2) (ks.length:Int) (fun s=>∃ j:Nat,j<=ks.length/\s=tup ((ks.take j).foldl stp acc0) j) ⟨0,by omega,rfl⟩ (by show (ks.length:Int) - 0<_; omega) ?_)
 rintro s ⟨j,hj,rfl⟩
 have hb:=fold_bd (ks.take j) acc0 fun k hk=>hk4 k (List.mem_of_mem_take hk)
 have hjl:(ks.take j).length=j:=by simp; omega
 rw [hjl] at hb
 have nx:∀ h:j<ks.length,(ks.take (j+1)).foldl stp acc0=stp ((ks.take j).foldl stp acc0) ks[j]:=fun h=>by
  rw [List.take_succ_eq_append_getElem h,List.foldl_append]; rfl
 have al:j=ks.length->ks.foldl stp acc0=(ks.take j).foldl stp acc0:=fun h=>by rw [h,List.take_length]
 generalize (ks.take j).foldl stp acc0=A at hb nx al
 simp only [acc0,List.length_nil,List.length_cons] at hb
 unfold tup
 by_cases hlt:j<ks.length
 ·have hj0:j<a0.length:=by omega
  have hx:idx a0 (j:Int)=some a0[j]:=by simp [idx,hj0]
  have hkj:ks[j]=wk a0[j]:=by simp [hks]
  have hw:=wk_is a0[j]
  rw [<- hkj] at hw
  have nx:=nx hlt
  generalize ks[j]=k at hw nx
  simp only [decide_eq_true (show (j:Int)<a0.length by omega),decide_eq_true (show (j:Int)<30 by omega),cond_true,Option.bind_some,hx,hw.1]
  rw [appO1 (by simp; omega),Option.bind_some]
  have fin:∀ {B:Acc},stp A k=B->Tot (some (Sum.inl (B.l,B.lost,B.prods,B.ups,B.steps,B.deep,B.was,w64 ((j:Int)+1)):_ ⊕ (List Int × List Int × List Int × List Upset × Int × Int))) (LR (fun s'=>(∃ j:Nat,j<=ks.length/\s'=tup ((ks.take j).foldl stp acc0) j)/\(j:Int)<s'.2.2.2.2.2.2.2/\s'.2.2.2.2.2.2.2<=ks.length) fun r=>r=((ks.foldl stp acc0).l,(ks.foldl stp acc0).lost,(ks.foldl stp acc0).prods,(ks.foldl stp acc0).ups,(ks.foldl stp acc0).steps,(ks.foldl stp acc0).deep)):=fun {B} e=>by
   rw [w64_id (n:=(j:Int)+1) (by omega) (by omega)]
   refine Tot.so ⟨⟨j+1,by omega,?_⟩,?_,?_⟩
   ·rw [nx,e]; rfl
   ·show (j:Int)<(j:Int)+1; omega
   ·show (j:Int)+1<=ks.length; omega
  by_cases hk0:k=0
  ·subst hk0
   simp only [Int.natCast_zero,decide_true,cond_true]
   rw [appO1 (by simp; omega),Option.bind_some,appO1 (by simp; omega),Option.bind_some,w64_id (n:=A.steps+4) (by omega) (by omega)]
   exact fin (B:=⟨A.l++[120]++[59],A.lost,A.prods++[3,2],A.ups,A.steps+4,3,false⟩) (by simp [stp,lnOf])
  ·simp only [decide_eq_false (show ¬ (k:Int)=0 by omega),cond_false]
   rw [appO1 (by simp; omega),Option.bind_some,junk_loop _ _ k (by omega) (by simp; omega) (by omega),Option.bind_some]
   simp only
   rw [appO1 (by simp [junk_len]; omega),Option.bind_some,appO1 (by simp; omega),Option.bind_some,w64_id (n:=6+(k:Int)) (by omega) (by omega),w64_id (n:=A.steps+(6+(k:Int))) (by omega) (by omega)]
   exact fin (B:=⟨A.l++[120]++junk k++[59],A.lost++(List.range k).map (fun j:Nat=>((A.l++[120]).length:Int)+(j:Int)),A.prods++[4,2],A.ups++[⟨((A.l++[120]).length:Int),!A.was⟩],A.steps+(6+k),3,true⟩) (by simp [stp,hk0,lnOf]; omega)
 ·have hc:((bif decide ((j:Int)<(a0.length:Int)) then some (decide ((j:Int)<30)) else some false))=some false:=by
   by_cases h:(j:Int)<a0.length
   ·rw [decide_eq_true h,cond_true,decide_eq_false (by omega)]
   ·rw [decide_eq_false h,cond_false]
  rw [hc,Option.bind_some,cond_false]
  refine Tot.so ?_
  show _=_
  rw [al (by omega)]
theorem w4:pf4=some true:=by kernel_rfl
theorem tabs:∃ g d,pf5=some (g,d,true)/\pf8 g d=some T5:=by
 have h:((pf5).bind fun x=>(pf8 x.1 x.2.1).bind fun t=>some (t,x.2.2))=some (T5,true):=by kernel_rfl
 cases h5:pf5 with
 | none=>rw [h5] at h; cases h
 | some x =>
  obtain ⟨g,d,b⟩:=x
  rw [h5] at h
  simp only [Option.bind_some] at h
  cases h8:pf8 g d with
  | none=>rw [h8] at h; cases h
  | some t =>
   rw [h8] at h
   simp only [Option.bind_some,Option.some.injEq] at h
   obtain ⟨rfl,rfl⟩:=h
   exact ⟨g,d,rfl,h8⟩
theorem ln_num (ks:List Nat):∀ x∈ks.flatMap lnOf,x=120\/x=59\/x=999:=by
 intro x hx
 obtain ⟨k,_,hk⟩:=List.mem_flatMap.1 hx
 unfold lnOf at hk
 split at hk
 ·simp at hk; omega
 ·simp only [List.mem_cons,List.mem_append,List.not_mem_nil,or_false] at hk
  rcases hk with h | h | h
  ·exact .inl h
  ·obtain ⟨j,_,rfl⟩:=List.mem_map.1 h
   by_cases hj:j % 2=0 <;> simp [hj]
  ·exact .inr (.inl h)
theorem t3 (a0:List Int):pf3 a0=some true:=by
 obtain ⟨g,d,h5,h8⟩:=tabs
 have hks:∀ k∈(a0.take 30).map wk,k<=4:=by
  intro k hk
  obtain ⟨x,_,rfl⟩:=List.mem_map.1 hk
  exact (wk_is x).2
 have hkl:((a0.take 30).map wk).length<=30:=by simp; omega
 have hL:=lines_loop a0 _ rfl
 generalize (a0.take 30).map wk=ks at hks hkl hL
 have hb:(ks.foldl stp acc0).l.length<=6 * ks.length/\(ks.foldl stp acc0).lost.length<=4 * ks.length/\(ks.foldl stp acc0).prods.length=1+2 * ks.length/\(ks.foldl stp acc0).ups.length<=ks.length/\(ks.foldl stp acc0).steps<=1+10 * ks.length:=by
  have:=fold_bd ks acc0 hks
  have e0:acc0.l.length=0:=rfl
  have e1:acc0.lost.length=0:=rfl
  have e2:acc0.prods.length=1:=rfl
  have e3:acc0.ups.length=0:=rfl
  have e4:acc0.steps=1:=rfl
  omega
 have hl:=fold_l ks acc0
 have hln:=ln_num ks
 have hd:ANm (ks.foldl stp acc0):=by
  have:∀ (ks:List Nat) (A:Acc),ANm A->ANm (ks.foldl stp A):=by
   intro ks
   induction ks with
   | nil=>intro A h; exact h
   | cons k ks ih=>intro A h; exact ih _ h.stp
  exact this ks acc0 ⟨.inl rfl,by decide,by decide,by decide,by decide⟩
 have hB:(ks.foldl stp acc0).l=ks.flatMap lnOf:=by rw [hl]; rfl
 -- the machine
 have htl:((ks.foldl stp acc0).l.map tn).length<=100000:=by simp; omega
 obtain ⟨z,hz,hz'⟩:=lines_z ks
 rw [<- hB] at hz
 have hNm0:Nm ((ks.foldl stp acc0).l.map tn) 0 0 0 [] [] []:=⟨by omega,by omega,htl,by omega,by simp,by simp,by simp,by simp⟩
 obtain ⟨n0,r0⟩:=l_reduce (toks:=(ks.foldl stp acc0).l.map tn) (S:=[]) (R:=[]) (q:=0) (ns:=[]) (ms:=[]) (dp:=0) (k:=z) (p:=1) (l:=1) (g:=1) (t:=0) hNm0 rfl rfl (by simp) hz (by rcases hz' with rfl | rfl <;> kernel_rfl) (by omega) rfl rfl (by omega) rfl (by kernel_rfl)
 obtain ⟨n1,m,hm,r1⟩:=all_lines (toks:=(ks.foldl stp acc0).l.map tn) htl ks acc0 n0 ⟨.inl rfl,by decide,by decide,by decide,by decide⟩ hks (by rw [hB]; rfl) (by show (1:Int)+10 * ks.length<=1000; omega)
 have hnm:Nm ((ks.foldl stp acc0).l.map tn) (flOf (ks.foldl stp acc0)) (ks.foldl stp acc0).l.length (ks.foldl stp acc0).steps (ks.foldl stp acc0).prods (ks.foldl stp acc0).ups (ks.foldl stp acc0).lost:=hd.nm (by omega) (by simp) htl
 have ht0:tk ((ks.foldl stp acc0).l.map tn) ((ks.foldl stp acc0).l.length:Int)=some 0:=by simp [tk]
 generalize hBe:ks.foldl stp acc0=B at *
 have ha:=n_accept (x:=n1) (hnm.ok (st:=[0,1]) (ns:=[n1]) (dp:=B.deep) rfl (by simp)) (tk_is ht0) (a26 (S:=[0]) (q:=1) (r:=⟨3,0⟩) (by kernel_rfl) (by simp)) rfl
 have hR:=Ru.loop (Ru.add r0 (Ru.add r1 (.one (d:=dOf (B.l.map tn) n1 B) rfl ha .nil))) (by omega) (show (1:Int)≠0 by decide)
 have hP:pf7 T5 B.l 100 1000=some ⟨1,B.l.length,B.steps,B.deep,B.prods,B.ups,B.lost,n1⟩:=by
  rw [toks_of (fun x hx=>hln x (hB ▸ hx)) (by omega)]
  have:=hR
  show (dloop (drv (B.l.map tn) [0] [] 0 0 0 0 [] [] [])).bind _=_
  rw [show drv (B.l.map tn) [0] [] 0 0 0 0 [] [] []=drv (B.l.map tn) ([]++[]++[0]) ([]++[]) 0 0 0 0 [] [] [] from rfl,hR]
  rfl
 unfold pf3
 rw [w4,Option.bind_some]
 simp only [Bool.not_true,cond_false]
 rw [h5,Option.bind_some]
 simp only
 rw [hL,Option.bind_some]
 simp only
 rw [h8,Option.bind_some,hP,Option.bind_some]
 simp only [cond_true,decide_true,eq9 B.prods (by omega),eq9 B.lost (by omega),eq10 B.ups (by omega),Option.bind_some]
end Go.Proofs
namespace Go.Own
open Go Go.ChangeShapes Go.WideShapes Go.ChangeAt Go.RowKit
variable {H:Type}{enc:TypeId × Value->H}{P:Program}
theorem post_old {f:Func}{s:ChangeSpec}{apart fresh handsOn again:Bool}{W W':World}{args:Array Value}{v:Value}{ds gs:List (DataW H)}{before pa pv:List MemPlace}
  (hW:DataW.Whole enc P f.params.toList s.vars apart W args.toList ds gs before) (hk:Kp W W') (hps:before=pa++pv)
  (hres:∀ (b:Nat) (sp:Nat->Bool) (hd:Bool),DataW.TrodAll enc P W' b sp hd f.resultTypes.toList (v.resultList f.resultTypes.size) (s.fn H (ds++gs)).results [])
  (hargs:∀ sp:Nat->Bool,(∀ p∈before,sp p.block=true)->DataW.TrodAll enc P W' 0 sp true f.params.toList args.toList (s.fn H (ds++gs)).args pa)
  (hvars:∀ sp:Nat->Bool,(∀ p∈before,sp p.block=true)->DataW.TrodVars enc P W' sp s.vars (s.fn H (ds++gs)).vars pv)
  (hok:∀ (j:Nat) (t:TypeId) (r:Value),f.resultTypes[j]?=some t->(v.resultList f.resultTypes.size)[j]?=some r->Value.okWide P W' .any 0 t r) :
  s.post enc P f apart fresh handsOn again W args v W':=by
 subst hps
 have hlt:∀ p∈pa++pv,p.block<W.heap.size:=fun p hp=>hW.lt p hp
 have hsp:∀ p∈pa++pv,(fun b=>decide (b<W.heap.size)) p.block=true:=fun p hp=>decide_eq_true (hlt p hp)
 have hWh:=hW
 obtain ⟨_,_,_,_,_,hz,hn⟩:=hWh
 have ht:=trodAll_append (hargs (fun _=>true) (fun _ _=>rfl)) (hres 0 (fun _=>true) true)
 refine ⟨ds,gs,pa++pv,[],pa,pv,hW,hres _ _ _,hargs _ hsp,hvars _ hsp,hk.kept _,fun _=>⟨hok,_,_,pa++pv,⟨_,pv,ht,hvars _ (fun _ _=>rfl),rfl,fun b off hp=>?_,hn⟩,fun p hp _=>hp⟩⟩
 rw [hk.fz _ (hlt _ hp)]
 exact hz b off hp
end Go.Own
namespace Go.Proofs
open Go Go.Own
set_option maxRecDepth 100000
theorem uI:Tryz.prog.underlying 3=some (.int .i64):=by kernel_rfl
def okI (n:Int):Prop:=(Lit.int .i64 n).wf=true
def okL {α:Type}(p:α->Prop) (l:List α):Prop:=l.length<=maxLen/\∀ x∈l,p x
theorem aI:Ar Tryz.prog eI 3 okI:=.int uI (by kernel_rfl) fun _=>rfl
theorem uLI:Tryz.prog.underlying 22=some (.slice 3):=by kernel_rfl
theorem aLI:Ar Tryz.prog (eM eI) 22 (okL okI):=aI.slice (t:=22) uLI (by kernel_rfl) (by decide)
theorem pLaid:laidOutB Tryz.prog=true:=by kernel_rfl
theorem pMaps:mapsRowed Tryz.prog=true:=by kernel_rfl
theorem pFull:((List.range Tryz.prog.types.size).all fun t=>match Tryz.prog.underlying t with | some (.slice e)=>decide (0<Tryz.prog.cellsOf e) | _=>true)=true:=by kernel_rfl
set_option maxHeartbeats 4000000
set_option synthInstance.maxHeartbeats 1000000
set_option synthInstance.maxSize 10000
set_option linter.unusedVariables false
instance:Lts ePair:=⟨fun x=>[(.int .i64 x.At),(.int .i64 x.Val)],fun _=>rfl,fun x v hv=>by simp only [List.mem_cons,List.not_mem_nil,or_false] at hv; rcases hv with rfl | rfl <;> rfl⟩
theorem ze60:(Tryz.prog.info? 60).bind (·.zero)=some (.agg #[.string { data:=#[] },.bool false,.int .i64 0,.int .i64 0,.string { data:=#[] },.int .i64 0]):=by kernel_rfl
theorem ze56:(Tryz.prog.info? 56).bind (·.zero)=some (.agg #[.string { data:=#[] },.bool false,.int .i64 0,.int .i64 0]):=by kernel_rfl
theorem sc56:structT Tryz.prog 56 [(0,1),(1,1),(2,1),(3,1)]=true:=by kernel_rfl
theorem at60:aggT Tryz.prog 60 6=true:=by kernel_rfl
theorem ct4:cellT Tryz.prog 4=true:=by kernel_rfl
theorem ct9:cellT Tryz.prog 9=true:=by kernel_rfl
theorem ct3:cellT Tryz.prog 3=true:=by kernel_rfl
theorem fd210_0:fldT Tryz.prog 210 0 0 3=true:=by kernel_rfl
theorem at56:aggT Tryz.prog 56 4=true:=by kernel_rfl
theorem mixo:Tryz.prog.follows .mixedOrders=true:=by kernel_rfl
theorem sl54:slT Tryz.prog 54 60 6=true:=by kernel_rfl
theorem at210:aggT Tryz.prog 210 4=true:=by kernel_rfl
theorem sl67:slT Tryz.prog 67 64 3=true:=by kernel_rfl
theorem at64:aggT Tryz.prog 64 3=true:=by kernel_rfl
theorem ze64:(Tryz.prog.info? 64).bind (·.zero)=some (.agg #[.string { data:=#[] },.slice none 0 0,.int .i64 0]):=by kernel_rfl
theorem sl62:slT Tryz.prog 62 58 6=true:=by kernel_rfl
theorem at58:aggT Tryz.prog 58 6=true:=by kernel_rfl
theorem fd207_4:fldT Tryz.prog 207 4 8 3=true:=by kernel_rfl
theorem sz3:sizeT Tryz.prog 3 1=true:=by kernel_rfl
theorem fd207_5:fldT Tryz.prog 207 5 9 3=true:=by kernel_rfl
theorem fd207_6:fldT Tryz.prog 207 6 10 9=true:=by kernel_rfl
theorem sz9:sizeT Tryz.prog 9 1=true:=by kernel_rfl
theorem sl25:slT Tryz.prog 25 217 2=true:=by kernel_rfl
theorem sl24:slT Tryz.prog 24 110 6=true:=by kernel_rfl
theorem fd110_2:fldT Tryz.prog 110 2 2 3=true:=by kernel_rfl
theorem ze110:(Tryz.prog.info? 110).bind (·.zero)=some (.agg #[.string { data:=#[] },.bool false,.int .i64 0,.int .i64 0,.int .i64 0,.string { data:=#[] }]):=by kernel_rfl
theorem sc110:structT Tryz.prog 110 [(0,1),(1,1),(2,1),(3,1),(4,1),(5,1)]=true:=by kernel_rfl
theorem it3:intT Tryz.prog 3 .i64=true:=by kernel_rfl
theorem call108:callT Tryz.prog 108=true:=by kernel_rfl
theorem at110:aggT Tryz.prog 110 6=true:=by kernel_rfl
theorem zt110:zeroT Tryz.prog 110 6=true:=by kernel_rfl
theorem sl204:slT Tryz.prog 204 4 1=true:=by kernel_rfl
theorem ze217:(Tryz.prog.info? 217).bind (·.zero)=some (.agg #[.string { data:=#[] },.string { data:=#[] }]):=by kernel_rfl
theorem sc217:structT Tryz.prog 217 [(0,1),(1,1)]=true:=by kernel_rfl
theorem zt217:zeroT Tryz.prog 217 2=true:=by kernel_rfl
theorem ap25:appT Tryz.prog 25 217 2 32=true:=by kernel_rfl
theorem fd217_1:fldT Tryz.prog 217 1 1 9=true:=by kernel_rfl
theorem call129:callT Tryz.prog 129=true:=by kernel_rfl
theorem fd110_3:fldT Tryz.prog 110 3 3 3=true:=by kernel_rfl
theorem fd110_4:fldT Tryz.prog 110 4 4 3=true:=by kernel_rfl
theorem sz4:sizeT Tryz.prog 4 1=true:=by kernel_rfl
theorem fd110_5:fldT Tryz.prog 110 5 5 9=true:=by kernel_rfl
theorem sl205:slT Tryz.prog 205 9 1=true:=by kernel_rfl
theorem ze80:(Tryz.prog.info? 80).bind (·.zero)=some (.agg #[.int .i64 0,.slice none 0 0,.int .i64 0,.string { data:=#[] },.slice none 0 0,.int .i64 0]):=by kernel_rfl
theorem sc80:structT Tryz.prog 80 [(0,1),(1,1),(2,1),(3,1),(4,1),(5,1)]=true:=by kernel_rfl
theorem sz80:sizeT Tryz.prog 80 6=true:=by kernel_rfl
theorem fd80_1:fldT Tryz.prog 80 1 1 22=true:=by kernel_rfl
theorem ct22:cellT Tryz.prog 22=true:=by kernel_rfl
theorem call131:callT Tryz.prog 131=true:=by kernel_rfl
theorem zt3:zeroT Tryz.prog 3 1=true:=by kernel_rfl
theorem sl22:slT Tryz.prog 22 3 1=true:=by kernel_rfl
theorem ap22:appT Tryz.prog 22 3 1 8=true:=by kernel_rfl
theorem sz22:sizeT Tryz.prog 22 1=true:=by kernel_rfl
theorem fd60_2:fldT Tryz.prog 60 2 5 3=true:=by kernel_rfl
theorem zt80:zeroT Tryz.prog 80 6=true:=by kernel_rfl
theorem sl26:slT Tryz.prog 26 80 6=true:=by kernel_rfl
theorem ap26:appT Tryz.prog 26 80 6 88=true:=by kernel_rfl
theorem sz26:sizeT Tryz.prog 26 1=true:=by kernel_rfl
theorem at80:aggT Tryz.prog 80 6=true:=by kernel_rfl
theorem ze28:(Tryz.prog.info? 28).bind (·.zero)=some (.agg #[.slice none 0 0,.slice none 0 0,.slice none 0 0,.string { data:=#[] },.string { data:=#[] }]):=by kernel_rfl
theorem at70:aggT Tryz.prog 70 4=true:=by kernel_rfl
theorem sc28:structT Tryz.prog 28 [(0,1),(1,1),(2,1),(3,1),(4,1)]=true:=by kernel_rfl
theorem sz28:sizeT Tryz.prog 28 5=true:=by kernel_rfl
theorem at28:aggT Tryz.prog 28 5=true:=by kernel_rfl
theorem ze4:(Tryz.prog.info? 4).bind (·.zero)=some (.bool false):=by kernel_rfl
theorem bb4:(Tryz.prog.info? 4).map (·.bytes)=some 1:=by kernel_rfl
theorem ze207:(Tryz.prog.info? 207).bind (·.zero)=some (.agg #[.slice none 0 0,.slice none 0 0,.slice none 0 0,.string { data:=#[] },.string { data:=#[] },.slice none 0 0,.slice none 0 0,.slice none 0 0,.int .i64 0,.int .i64 0,.string { data:=#[] },.int .i64 0,.int .i64 0]):=by kernel_rfl
theorem sc207:structT Tryz.prog 207 [(0,5),(5,1),(6,1),(7,1),(8,1),(9,1),(10,1),(11,1),(12,1)]=true:=by kernel_rfl
theorem ze210:(Tryz.prog.info? 210).bind (·.zero)=some (.agg #[.int .i64 0,.string { data:=#[] },.slice none 0 0,.int .i64 0]):=by kernel_rfl
theorem call107:callT Tryz.prog 107=true:=by kernel_rfl
theorem zt9:zeroT Tryz.prog 9 1=true:=by kernel_rfl
theorem ap205:appT Tryz.prog 205 9 1 16=true:=by kernel_rfl
theorem call111:callT Tryz.prog 111=true:=by kernel_rfl
theorem at217:aggT Tryz.prog 217 2=true:=by kernel_rfl
theorem fd70_3:fldT Tryz.prog 70 3 3 9=true:=by kernel_rfl
theorem at145:aggT Tryz.prog 145 2=true:=by kernel_rfl
theorem sl140:slT Tryz.prog 140 145 2=true:=by kernel_rfl
theorem zt145:zeroT Tryz.prog 145 2=true:=by kernel_rfl
theorem ze145:(Tryz.prog.info? 145).bind (·.zero)=some (.agg #[.int .i64 0,.int .i64 0]):=by kernel_rfl
theorem sc145:structT Tryz.prog 145 [(0,1),(1,1)]=true:=by kernel_rfl
theorem sl82:slT Tryz.prog 82 143 2=true:=by kernel_rfl
theorem fd143_0:fldT Tryz.prog 143 0 0 140=true:=by kernel_rfl
theorem ct140:cellT Tryz.prog 140=true:=by kernel_rfl
theorem ze143:(Tryz.prog.info? 143).bind (·.zero)=some (.agg #[.slice none 0 0,.slice none 0 0]):=by kernel_rfl
theorem sc143:structT Tryz.prog 143 [(0,1),(1,1)]=true:=by kernel_rfl
theorem zt143:zeroT Tryz.prog 143 2=true:=by kernel_rfl
theorem ap82:appT Tryz.prog 82 143 2 48=true:=by kernel_rfl
theorem fd143_1:fldT Tryz.prog 143 1 1 141=true:=by kernel_rfl
theorem ct141:cellT Tryz.prog 141=true:=by kernel_rfl
theorem ze157:(Tryz.prog.info? 157).bind (·.zero)=some (.agg #[.int .i64 0,.int .i64 0]):=by kernel_rfl
theorem sc157:structT Tryz.prog 157 [(0,1),(1,1)]=true:=by kernel_rfl
theorem zt157:zeroT Tryz.prog 157 2=true:=by kernel_rfl
theorem sl141:slT Tryz.prog 141 157 2=true:=by kernel_rfl
theorem ap141:appT Tryz.prog 141 157 2 16=true:=by kernel_rfl
theorem sz141:sizeT Tryz.prog 141 1=true:=by kernel_rfl
theorem at119:aggT Tryz.prog 119 5=true:=by kernel_rfl
theorem sl30:slT Tryz.prog 30 22 1=true:=by kernel_rfl
theorem zt22:zeroT Tryz.prog 22 1=true:=by kernel_rfl
theorem ap30:appT Tryz.prog 30 22 1 24=true:=by kernel_rfl
theorem call86:callT Tryz.prog 86=true:=by kernel_rfl
theorem call87:callT Tryz.prog 87=true:=by kernel_rfl
theorem call85:callT Tryz.prog 85=true:=by kernel_rfl
theorem call88:callT Tryz.prog 88=true:=by kernel_rfl
theorem ze96:(Tryz.prog.info? 96).bind (·.zero)=some (.agg #[.int .i64 0,.int .i64 0]):=by kernel_rfl
theorem ze154:(Tryz.prog.info? 154).bind (·.zero)=some (.agg #[.int .i64 0,.int .i64 0,.int .i64 0,.int .i64 0]):=by kernel_rfl
theorem sc154:structT Tryz.prog 154 [(0,1),(1,1),(2,1),(3,1)]=true:=by kernel_rfl
theorem zt154:zeroT Tryz.prog 154 4=true:=by kernel_rfl
theorem sl86:slT Tryz.prog 86 154 4=true:=by kernel_rfl
theorem ap86:appT Tryz.prog 86 154 4 32=true:=by kernel_rfl
theorem sc96:structT Tryz.prog 96 [(0,1),(1,1)]=true:=by kernel_rfl
theorem sz96:sizeT Tryz.prog 96 2=true:=by kernel_rfl
theorem at96:aggT Tryz.prog 96 2=true:=by kernel_rfl
theorem ze32:(Tryz.prog.info? 32).bind (·.zero)=some (.agg #[.slice none 0 0,.slice none 0 0]):=by kernel_rfl
theorem sl106:slT Tryz.prog 106 96 2=true:=by kernel_rfl
theorem bb96:(Tryz.prog.info? 96).map (·.bytes)=some 16:=by kernel_rfl
theorem ze3:(Tryz.prog.info? 3).bind (·.zero)=some (.int .i64 0):=by kernel_rfl
theorem bb3:(Tryz.prog.info? 3).map (·.bytes)=some 8:=by kernel_rfl
theorem zt106:zeroT Tryz.prog 106 1=true:=by kernel_rfl
theorem sl29:slT Tryz.prog 29 106 1=true:=by kernel_rfl
theorem ap29:appT Tryz.prog 29 106 1 24=true:=by kernel_rfl
theorem sz29:sizeT Tryz.prog 29 1=true:=by kernel_rfl
theorem at32:aggT Tryz.prog 32 2=true:=by kernel_rfl
theorem sz32:sizeT Tryz.prog 32 2=true:=by kernel_rfl
theorem sc32:structT Tryz.prog 32 [(0,1),(1,1)]=true:=by kernel_rfl
theorem ze58:(Tryz.prog.info? 58).bind (·.zero)=some (.agg #[.slice none 0 0,.string { data:=#[] },.bool false,.int .i64 0,.int .i64 0,.int .i64 0]):=by kernel_rfl
theorem sc58:structT Tryz.prog 58 [(0,1),(1,4),(5,1)]=true:=by kernel_rfl
theorem zt60:zeroT Tryz.prog 60 6=true:=by kernel_rfl
theorem zt58:zeroT Tryz.prog 58 6=true:=by kernel_rfl
theorem sc64:structT Tryz.prog 64 [(0,1),(1,1),(2,1)]=true:=by kernel_rfl
theorem zt64:zeroT Tryz.prog 64 3=true:=by kernel_rfl
theorem ze70:(Tryz.prog.info? 70).bind (·.zero)=some (.agg #[.string { data:=#[] },.slice none 0 0,.slice none 0 0,.string { data:=#[] }]):=by kernel_rfl
theorem sc70:structT Tryz.prog 70 [(0,1),(1,1),(2,1),(3,1)]=true:=by kernel_rfl
theorem sl47:slT Tryz.prog 47 93 2=true:=by kernel_rfl
theorem it124:intT Tryz.prog 124 .u64=true:=by kernel_rfl
theorem at93:aggT Tryz.prog 93 2=true:=by kernel_rfl
theorem call24:callT Tryz.prog 24=true:=by kernel_rfl
theorem fd93_1:fldT Tryz.prog 93 1 1 3=true:=by kernel_rfl
theorem fd46_1:fldT Tryz.prog 46 1 1 22=true:=by kernel_rfl
theorem at46:aggT Tryz.prog 46 3=true:=by kernel_rfl
theorem at49:aggT Tryz.prog 49 11=true:=by kernel_rfl
theorem call45:callT Tryz.prog 45=true:=by kernel_rfl
theorem sl39:slT Tryz.prog 39 41 4=true:=by kernel_rfl
theorem at41:aggT Tryz.prog 41 4=true:=by kernel_rfl
theorem zt41:zeroT Tryz.prog 41 4=true:=by kernel_rfl
theorem ap39:appT Tryz.prog 39 41 4 48=true:=by kernel_rfl
theorem sz39:sizeT Tryz.prog 39 1=true:=by kernel_rfl
theorem ze41:(Tryz.prog.info? 41).bind (·.zero)=some (.agg #[.int .i64 0,.int .i64 0,.int .i64 0,.slice none 0 0]):=by kernel_rfl
theorem sc41:structT Tryz.prog 41 [(0,1),(1,1),(2,1),(3,1)]=true:=by kernel_rfl
theorem sz41:sizeT Tryz.prog 41 4=true:=by kernel_rfl
theorem call46:callT Tryz.prog 46=true:=by kernel_rfl
theorem call28:callT Tryz.prog 28=true:=by kernel_rfl
theorem call48:callT Tryz.prog 48=true:=by kernel_rfl
theorem ze38:(Tryz.prog.info? 38).bind (·.zero)=some (.agg #[.int .i64 0,.bool false]):=by kernel_rfl
theorem sc38:structT Tryz.prog 38 [(0,1),(1,1)]=true:=by kernel_rfl
theorem zt38:zeroT Tryz.prog 38 2=true:=by kernel_rfl
theorem sl35:slT Tryz.prog 35 38 2=true:=by kernel_rfl
theorem ap35:appT Tryz.prog 35 38 2 16=true:=by kernel_rfl
theorem sz35:sizeT Tryz.prog 35 1=true:=by kernel_rfl
theorem call26:callT Tryz.prog 26=true:=by kernel_rfl
theorem call29:callT Tryz.prog 29=true:=by kernel_rfl
theorem call30:callT Tryz.prog 30=true:=by kernel_rfl
theorem call31:callT Tryz.prog 31=true:=by kernel_rfl
theorem ze43:(Tryz.prog.info? 43).bind (·.zero)=some (.agg #[.int .i64 0,.int .i64 0,.int .i64 0,.int .i64 0,.slice none 0 0,.slice none 0 0,.slice none 0 0,.int .i64 0,.int .i64 0,.int .i64 0,.slice none 0 0]):=by kernel_rfl
theorem ze73:(Tryz.prog.info? 73).bind (·.zero)=some (.agg #[.slice none 0 0,.slice none 0 0,.slice none 0 0,.slice none 0 0,.slice none 0 0,.slice none 0 0,.slice none 0 0,.slice none 0 0,.slice none 0 0,.slice none 0 0,.slice none 0 0,.slice none 0 0,.int .i64 0,.int .i64 0,.slice none 0 0,.slice none 0 0,.int .i64 0,.int .i64 0,.int .i64 0,.int .i64 0,.int .i64 0,.slice none 0 0,.slice none 0 0,.slice none 0 0,.int .i64 0,.int .i64 0,.int .i64 0,.slice none 0 0]):=by kernel_rfl
theorem sc73:structT Tryz.prog 73 [(0,11),(11,1),(12,1),(13,1),(14,1),(15,1),(16,1),(17,11)]=true:=by kernel_rfl
theorem call14:callT Tryz.prog 14=true:=by kernel_rfl
theorem call15:callT Tryz.prog 15=true:=by kernel_rfl
theorem at43:aggT Tryz.prog 43 11=true:=by kernel_rfl
theorem sz43:sizeT Tryz.prog 43 11=true:=by kernel_rfl
theorem sl102:slT Tryz.prog 102 47 1=true:=by kernel_rfl
theorem ze159:(Tryz.prog.info? 159).bind (·.zero)=some (.agg (List.replicate 1000 (Value.bool false)).toArray):=by kernel_rfl
theorem ze93:(Tryz.prog.info? 93).bind (·.zero)=some (.agg #[.int .i64 0,.int .i64 0]):=by kernel_rfl
theorem sz93:sizeT Tryz.prog 93 2=true:=by kernel_rfl
theorem ar159:arrT Tryz.prog 159 4 1000 1=true:=by kernel_rfl
theorem ct102:cellT Tryz.prog 102=true:=by kernel_rfl
theorem call68:callT Tryz.prog 68=true:=by kernel_rfl
theorem ze46:(Tryz.prog.info? 46).bind (·.zero)=some (.agg #[.slice none 0 0,.slice none 0 0,.slice none 0 0]):=by kernel_rfl
theorem sc46:structT Tryz.prog 46 [(0,1),(1,1),(2,1)]=true:=by kernel_rfl
theorem sz46:sizeT Tryz.prog 46 3=true:=by kernel_rfl
theorem call50:callT Tryz.prog 50=true:=by kernel_rfl
theorem call51:callT Tryz.prog 51=true:=by kernel_rfl
theorem at104:aggT Tryz.prog 104 2=true:=by kernel_rfl
theorem ze104:(Tryz.prog.info? 104).bind (·.zero)=some (.agg #[.int .i64 0,.slice none 0 0]):=by kernel_rfl
theorem zt47:zeroT Tryz.prog 47 1=true:=by kernel_rfl
theorem ap102:appT Tryz.prog 102 47 1 24=true:=by kernel_rfl
theorem un3:Tryz.prog.underlying 3=some (.int .i64):=by kernel_rfl
noncomputable abbrev mk3:MK Tryz.prog 3 Int:=MKI un3
theorem zv3:(Tryz.prog.info? 3).bind (·.zero)=some (.int .i64 0):=by kernel_rfl
noncomputable abbrev mv3:MV Tryz.prog 3 Int:=MVI zv3
theorem um133:Tryz.prog.underlying 133=some (.map 3 3):=by kernel_rfl
theorem sc93:structT Tryz.prog 93 [(0,1),(1,1)]=true:=by kernel_rfl
theorem zt93:zeroT Tryz.prog 93 2=true:=by kernel_rfl
theorem ap47:appT Tryz.prog 47 93 2 16=true:=by kernel_rfl
theorem sz47:sizeT Tryz.prog 47 1=true:=by kernel_rfl
theorem call35:callT Tryz.prog 35=true:=by kernel_rfl
theorem call36:callT Tryz.prog 36=true:=by kernel_rfl
theorem ze49:(Tryz.prog.info? 49).bind (·.zero)=some (.agg #[.slice none 0 0,.slice none 0 0,.slice none 0 0,.slice none 0 0,.slice none 0 0,.slice none 0 0,.slice none 0 0,.slice none 0 0,.slice none 0 0,.slice none 0 0,.slice none 0 0]):=by kernel_rfl
theorem sz49:sizeT Tryz.prog 49 11=true:=by kernel_rfl
theorem oo29 {a0 a1 r}(h:pf29 a0 a1=some r):OOc (.agg (eNode.cells r)):=by
 cases h
 exact (inferInstance:OOc (.agg [I64 _,I64 _,I64 _,rI 4 (ri _ [])]))
theorem sort35 {g:FuncId}{caps:List AV} [NRl caps] (hg:callT Tryz.prog g=true) {l r:List Pair}{cf:Pair->Pair->Option Int}(h:sortO cf l=some r) (hc:∀ a b v,cf a b=some v->Con Tryz.prog g (.agg (ePair.cells a)::.agg (ePair.cells b)::caps) (none::none::caps.map fun _=>none) (I64 v)):Con Tryz.prog 35 [oR ePair l,.clo (.func g) [] caps] [some (oR ePair r),none] (.tup []):=Con.sortS (e:=ePair) Tryz.sortS35 Tryz.isAgg93 Tryz.sizeOf93 hg h hc
theorem fd73_7:fldT Tryz.prog 73 7 17 43=true:=by kernel_rfl
theorem fd43_5:fldT Tryz.prog 43 5 5 35=true:=by kernel_rfl
theorem ct35:cellT Tryz.prog 35=true:=by kernel_rfl
theorem fd43_1:fldT Tryz.prog 43 1 1 3=true:=by kernel_rfl
theorem fd73_6:fldT Tryz.prog 73 6 16 3=true:=by kernel_rfl
theorem fd43_0:fldT Tryz.prog 43 0 0 3=true:=by kernel_rfl
theorem fd73_4:fldT Tryz.prog 73 4 14 22=true:=by kernel_rfl
theorem fd73_5:fldT Tryz.prog 73 5 15 39=true:=by kernel_rfl
theorem ct39:cellT Tryz.prog 39=true:=by kernel_rfl
theorem fd96_1:fldT Tryz.prog 96 1 1 3=true:=by kernel_rfl
theorem fd73_2:fldT Tryz.prog 73 2 12 3=true:=by kernel_rfl
theorem fd73_3:fldT Tryz.prog 73 3 13 3=true:=by kernel_rfl
theorem fd73_1:fldT Tryz.prog 73 1 11 22=true:=by kernel_rfl
theorem fd49_6:fldT Tryz.prog 49 6 10 47=true:=by kernel_rfl
theorem ct47:cellT Tryz.prog 47=true:=by kernel_rfl
instance:F6 Tryz.prog 60 (.agg #[.string { data:=#[] },.bool false,.int .i64 0,.int .i64 0,.string { data:=#[] },.int .i64 0]):={}
instance:F6 Tryz.prog 56 (.agg #[.string { data:=#[] },.bool false,.int .i64 0,.int .i64 0]):={}
instance:F7 Tryz.prog 56 [(0,1),(1,1),(2,1),(3,1)]:={}
instance:F7 Tryz.prog 60 [(0,4),(4,1),(5,1)]:={}
instance:F5 Tryz.prog 60 6:={}
instance:F2 Tryz.prog 9:={}
instance:F4 Tryz.prog 56 1 1 4:={}
instance:F1 Tryz.prog 4:={}
instance:F4 Tryz.prog 56 0 0 9:={}
instance:F1 Tryz.prog 9:={}
instance:F4 Tryz.prog 56 2 2 3:={}
instance:F1 Tryz.prog 3:={}
instance:F4 Tryz.prog 210 0 0 3:={}
instance:F4 Tryz.prog 210 2 2 208:={}
instance:F1 Tryz.prog 208:={}
instance:F3 Tryz.prog 208 56 4:={}
instance:F4 Tryz.prog 210 1 1 9:={}
instance:F5 Tryz.prog 56 4:={}
instance:F0 Tryz.prog:={}
instance:F4 Tryz.prog 58 0 0 54:={}
instance:F1 Tryz.prog 54:={}
instance:F3 Tryz.prog 54 60 6:={}
instance:F4 Tryz.prog 60 1 4 9:={}
instance:F4 Tryz.prog 60 0 0 56:={}
instance:F4 Tryz.prog 58 1 1 56:={}
instance:F4 Tryz.prog 70 0 0 9:={}
instance:F4 Tryz.prog 70 1 1 68:={}
instance:F1 Tryz.prog 68:={}
instance:F3 Tryz.prog 68 210 4:={}
instance:F5 Tryz.prog 210 4:={}
instance:F4 Tryz.prog 70 2 2 67:={}
instance:F1 Tryz.prog 67:={}
instance:F3 Tryz.prog 67 64 3:={}
instance:F5 Tryz.prog 64 3:={}
instance:F6 Tryz.prog 64 (.agg #[.string { data:=#[] },.slice none 0 0,.int .i64 0]):={}
instance:F4 Tryz.prog 64 0 0 9:={}
instance:F4 Tryz.prog 64 1 1 62:={}
instance:F1 Tryz.prog 62:={}
instance:F3 Tryz.prog 62 58 6:={}
instance:F5 Tryz.prog 58 6:={}
instance:F4 Tryz.prog 207 4 8 3:={}
instance:F4 Tryz.prog 207 5 9 3:={}
instance:F4 Tryz.prog 207 6 10 9:={}
instance:F4 Tryz.prog 207 2 6 25:={}
instance:F1 Tryz.prog 25:={}
instance:F3 Tryz.prog 25 217 2:={}
instance:F4 Tryz.prog 217 0 0 9:={}
instance:F4 Tryz.prog 207 0 0 28:={}
instance:F4 Tryz.prog 28 0 0 24:={}
instance:F1 Tryz.prog 24:={}
instance:F3 Tryz.prog 24 110 6:={}
instance:F4 Tryz.prog 110 0 0 9:={}
instance:F4 Tryz.prog 110 1 1 4:={}
instance:F4 Tryz.prog 110 2 2 3:={}
instance:F6 Tryz.prog 110 (.agg #[.string { data:=#[] },.bool false,.int .i64 0,.int .i64 0,.int .i64 0,.string { data:=#[] }]):={}
instance:F7 Tryz.prog 110 [(0,1),(1,1),(2,1),(3,1),(4,1),(5,1)]:={}
instance:F9 Tryz.prog 5 .u8:={}
instance:F9 Tryz.prog 3 .i64:={}
instance:F4 Tryz.prog 56 3 3 3:={}
instance:F5 Tryz.prog 110 6:={}
instance:F8 Tryz.prog 24 110 6 64:={}
instance:F4 Tryz.prog 207 1 5 204:={}
instance:F1 Tryz.prog 204:={}
instance:F3 Tryz.prog 204 4 1:={}
instance:F8 Tryz.prog 204 4 1 1:={}
instance:F6 Tryz.prog 217 (.agg #[.string { data:=#[] },.string { data:=#[] }]):={}
instance:F7 Tryz.prog 217 [(0,1),(1,1)]:={}
instance:F8 Tryz.prog 25 217 2 32:={}
instance:F4 Tryz.prog 217 1 1 9:={}
instance:F4 Tryz.prog 110 3 3 3:={}
instance:F4 Tryz.prog 207 7 11 3:={}
instance:F4 Tryz.prog 110 4 4 3:={}
instance:F4 Tryz.prog 110 5 5 9:={}
instance:F4 Tryz.prog 207 3 7 205:={}
instance:F1 Tryz.prog 205:={}
instance:F3 Tryz.prog 205 9 1:={}
instance:F4 Tryz.prog 58 2 5 3:={}
instance:F6 Tryz.prog 80 (.agg #[.int .i64 0,.slice none 0 0,.int .i64 0,.string { data:=#[] },.slice none 0 0,.int .i64 0]):={}
instance:F7 Tryz.prog 80 [(0,1),(1,1),(2,1),(3,1),(4,1),(5,1)]:={}
instance:F4 Tryz.prog 80 1 1 22:={}
instance:F1 Tryz.prog 22:={}
instance:F3 Tryz.prog 22 3 1:={}
instance:F8 Tryz.prog 22 3 1 8:={}
instance:F4 Tryz.prog 60 2 5 3:={}
instance:F4 Tryz.prog 80 3 3 9:={}
instance:F4 Tryz.prog 80 5 5 3:={}
instance:F4 Tryz.prog 207 8 12 3:={}
instance:F4 Tryz.prog 28 2 2 26:={}
instance:F1 Tryz.prog 26:={}
instance:F3 Tryz.prog 26 80 6:={}
instance:F8 Tryz.prog 26 80 6 88:={}
instance:F4 Tryz.prog 80 2 2 3:={}
instance:F4 Tryz.prog 80 4 4 22:={}
instance:F5 Tryz.prog 80 6:={}
instance:F9 Tryz.prog 173 .u64:={}
instance:F3 Tryz.prog 235 5 1:={}
instance:F6 Tryz.prog 28 (.agg #[.slice none 0 0,.slice none 0 0,.slice none 0 0,.string { data:=#[] },.string { data:=#[] }]):={}
instance:F5 Tryz.prog 70 4:={}
instance:F7 Tryz.prog 28 [(0,1),(1,1),(2,1),(3,1),(4,1)]:={}
instance:F5 Tryz.prog 28 5:={}
instance:F6 Tryz.prog 4 (.bool false):={}
instance:Fb Tryz.prog 4 1:={}
instance:F6 Tryz.prog 207 (.agg #[.slice none 0 0,.slice none 0 0,.slice none 0 0,.string { data:=#[] },.string { data:=#[] },.slice none 0 0,.slice none 0 0,.slice none 0 0,.int .i64 0,.int .i64 0,.string { data:=#[] },.int .i64 0,.int .i64 0]):={}
instance:F7 Tryz.prog 207 [(0,5),(5,1),(6,1),(7,1),(8,1),(9,1),(10,1),(11,1),(12,1)]:={}
instance:F6 Tryz.prog 210 (.agg #[.int .i64 0,.string { data:=#[] },.slice none 0 0,.int .i64 0]):={}
instance:F4 Tryz.prog 64 2 2 3:={}
instance:F8 Tryz.prog 205 9 1 16:={}
instance:F4 Tryz.prog 28 1 1 25:={}
instance:F5 Tryz.prog 217 2:={}
instance:F4 Tryz.prog 70 3 3 9:={}
instance:F4 Tryz.prog 28 3 3 9:={}
instance:F4 Tryz.prog 28 4 4 9:={}
instance:F4 Tryz.prog 145 0 0 3:={}
instance:F4 Tryz.prog 145 1 1 3:={}
instance:F5 Tryz.prog 145 2:={}
instance:F3 Tryz.prog 140 145 2:={}
instance:F8 Tryz.prog 140 145 2 16:={}
instance:F4 Tryz.prog 80 0 0 3:={}
instance:F6 Tryz.prog 145 (.agg #[.int .i64 0,.int .i64 0]):={}
instance:F7 Tryz.prog 145 [(0,1),(1,1)]:={}
instance:F3 Tryz.prog 82 143 2:={}
instance:F4 Tryz.prog 143 0 0 140:={}
instance:F1 Tryz.prog 140:={}
instance:F6 Tryz.prog 143 (.agg #[.slice none 0 0,.slice none 0 0]):={}
instance:F7 Tryz.prog 143 [(0,1),(1,1)]:={}
instance:F8 Tryz.prog 82 143 2 48:={}
instance:F4 Tryz.prog 143 1 1 141:={}
instance:F1 Tryz.prog 141:={}
instance:F6 Tryz.prog 157 (.agg #[.int .i64 0,.int .i64 0]):={}
instance:F7 Tryz.prog 157 [(0,1),(1,1)]:={}
instance:F3 Tryz.prog 141 157 2:={}
instance:F8 Tryz.prog 141 157 2 16:={}
instance:F4 Tryz.prog 157 0 0 3:={}
instance:F4 Tryz.prog 157 1 1 3:={}
instance:F4 Tryz.prog 119 4 4 22:={}
instance:F4 Tryz.prog 119 2 2 3:={}
instance:F4 Tryz.prog 119 3 3 4:={}
instance:F6 Tryz.prog 119 (.agg #[.int .i64 0,.int .i64 0,.int .i64 0,.bool false,.slice none 0 0]):={}
instance:F7 Tryz.prog 119 [(0,1),(1,1),(2,1),(3,1),(4,1)]:={}
instance:F3 Tryz.prog 116 147 3:={}
instance:F4 Tryz.prog 147 0 0 3:={}
instance:F4 Tryz.prog 147 2 2 22:={}
instance:F4 Tryz.prog 147 1 1 3:={}
instance:F5 Tryz.prog 119 5:={}
instance:F3 Tryz.prog 83 119 5:={}
instance:F8 Tryz.prog 83 119 5 56:={}
instance:F3 Tryz.prog 30 22 1:={}
instance:F6 Tryz.prog 186 (.agg #[.int .i64 0,.int .i64 0]):={}
instance:F7 Tryz.prog 186 [(0,1),(1,1)]:={}
instance:F3 Tryz.prog 183 186 2:={}
instance:F8 Tryz.prog 183 186 2 16:={}
instance:F4 Tryz.prog 186 0 0 3:={}
instance:F4 Tryz.prog 186 1 1 3:={}
instance:F8 Tryz.prog 30 22 1 24:={}
instance:F6 Tryz.prog 22 (.slice none 0 0):={}
instance:Fb Tryz.prog 22 24:={}
instance:F6 Tryz.prog 147 (.agg #[.int .i64 0,.int .i64 0,.slice none 0 0]):={}
instance:F7 Tryz.prog 147 [(0,1),(1,1),(2,1)]:={}
instance:F5 Tryz.prog 147 3:={}
instance:F8 Tryz.prog 116 147 3 40:={}
instance:F6 Tryz.prog 96 (.agg #[.int .i64 0,.int .i64 0]):={}
instance:F4 Tryz.prog 119 0 0 3:={}
instance:F4 Tryz.prog 119 1 1 3:={}
instance:F6 Tryz.prog 154 (.agg #[.int .i64 0,.int .i64 0,.int .i64 0,.int .i64 0]):={}
instance:F7 Tryz.prog 154 [(0,1),(1,1),(2,1),(3,1)]:={}
instance:F3 Tryz.prog 86 154 4:={}
instance:F8 Tryz.prog 86 154 4 32:={}
instance:F7 Tryz.prog 96 [(0,1),(1,1)]:={}
instance:F5 Tryz.prog 96 2:={}
instance:F6 Tryz.prog 32 (.agg #[.slice none 0 0,.slice none 0 0]):={}
instance:F3 Tryz.prog 106 96 2:={}
instance:Fb Tryz.prog 96 16:={}
instance:F6 Tryz.prog 3 (.int .i64 0):={}
instance:Fb Tryz.prog 3 8:={}
instance:F4 Tryz.prog 32 0 0 29:={}
instance:F1 Tryz.prog 29:={}
instance:F3 Tryz.prog 29 106 1:={}
instance:F8 Tryz.prog 29 106 1 24:={}
instance:F4 Tryz.prog 32 1 1 30:={}
instance:F1 Tryz.prog 30:={}
instance:F5 Tryz.prog 32 2:={}
instance:F7 Tryz.prog 32 [(0,1),(1,1)]:={}
instance:F6 Tryz.prog 58 (.agg #[.slice none 0 0,.string { data:=#[] },.bool false,.int .i64 0,.int .i64 0,.int .i64 0]):={}
instance:F7 Tryz.prog 58 [(0,1),(1,4),(5,1)]:={}
instance:F7 Tryz.prog 64 [(0,1),(1,1),(2,1)]:={}
instance:F6 Tryz.prog 70 (.agg #[.string { data:=#[] },.slice none 0 0,.slice none 0 0,.string { data:=#[] }]):={}
instance:F7 Tryz.prog 70 [(0,1),(1,1),(2,1),(3,1)]:={}
instance:F4 Tryz.prog 93 0 0 3:={}
instance:F3 Tryz.prog 47 93 2:={}
instance:F9 Tryz.prog 124 .u64:={}
instance:F5 Tryz.prog 93 2:={}
instance:F4 Tryz.prog 93 1 1 3:={}
instance:F4 Tryz.prog 46 0 0 22:={}
instance:F4 Tryz.prog 46 2 2 22:={}
instance:F4 Tryz.prog 46 1 1 22:={}
instance:F4 Tryz.prog 49 1 1 46:={}
instance:F5 Tryz.prog 46 3:={}
instance:F4 Tryz.prog 49 0 0 22:={}
instance:F4 Tryz.prog 73 0 0 49:={}
instance:F5 Tryz.prog 49 11:={}
instance:F4 Tryz.prog 73 4 14 22:={}
instance:F4 Tryz.prog 73 7 17 43:={}
instance:F4 Tryz.prog 43 1 1 3:={}
instance:F4 Tryz.prog 73 1 11 22:={}
instance:F4 Tryz.prog 43 2 2 3:={}
instance:F4 Tryz.prog 73 3 13 3:={}
instance:F4 Tryz.prog 73 2 12 3:={}
instance:F4 Tryz.prog 43 0 0 3:={}
instance:F4 Tryz.prog 73 5 15 39:={}
instance:F1 Tryz.prog 39:={}
instance:F3 Tryz.prog 39 41 4:={}
instance:F5 Tryz.prog 41 4:={}
instance:F8 Tryz.prog 39 41 4 48:={}
instance:F4 Tryz.prog 43 3 3 3:={}
instance:F6 Tryz.prog 41 (.agg #[.int .i64 0,.int .i64 0,.int .i64 0,.slice none 0 0]):={}
instance:F7 Tryz.prog 41 [(0,1),(1,1),(2,1),(3,1)]:={}
instance:F4 Tryz.prog 49 3 5 46:={}
instance:F4 Tryz.prog 49 2 4 22:={}
instance:F4 Tryz.prog 49 5 9 22:={}
instance:F4 Tryz.prog 49 4 8 22:={}
instance:F4 Tryz.prog 43 4 4 22:={}
instance:F4 Tryz.prog 43 6 6 22:={}
instance:F4 Tryz.prog 73 6 16 3:={}
instance:F4 Tryz.prog 43 5 5 35:={}
instance:F1 Tryz.prog 35:={}
instance:F6 Tryz.prog 38 (.agg #[.int .i64 0,.bool false]):={}
instance:F7 Tryz.prog 38 [(0,1),(1,1)]:={}
instance:F3 Tryz.prog 35 38 2:={}
instance:F8 Tryz.prog 35 38 2 16:={}
instance:F4 Tryz.prog 96 0 0 3:={}
instance:F4 Tryz.prog 96 1 1 3:={}
instance:F4 Tryz.prog 43 7 7 41:={}
instance:F6 Tryz.prog 43 (.agg #[.int .i64 0,.int .i64 0,.int .i64 0,.int .i64 0,.slice none 0 0,.slice none 0 0,.slice none 0 0,.int .i64 0,.int .i64 0,.int .i64 0,.slice none 0 0]):={}
instance:F6 Tryz.prog 73 (.agg #[.slice none 0 0,.slice none 0 0,.slice none 0 0,.slice none 0 0,.slice none 0 0,.slice none 0 0,.slice none 0 0,.slice none 0 0,.slice none 0 0,.slice none 0 0,.slice none 0 0,.slice none 0 0,.int .i64 0,.int .i64 0,.slice none 0 0,.slice none 0 0,.int .i64 0,.int .i64 0,.int .i64 0,.int .i64 0,.int .i64 0,.slice none 0 0,.slice none 0 0,.slice none 0 0,.int .i64 0,.int .i64 0,.int .i64 0,.slice none 0 0]):={}
instance:F7 Tryz.prog 73 [(0,11),(11,1),(12,1),(13,1),(14,1),(15,1),(16,1),(17,11)]:={}
instance:F4 Tryz.prog 49 6 10 47:={}
instance:F1 Tryz.prog 47:={}
instance:F5 Tryz.prog 43 11:={}
instance:F3 Tryz.prog 102 47 1:={}
instance:F6 Tryz.prog 159 (.agg (List.replicate 1000 (Value.bool false)).toArray):={}
instance:F6 Tryz.prog 93 (.agg #[.int .i64 0,.int .i64 0]):={}
instance:F1 Tryz.prog 102:={}
instance:F6 Tryz.prog 46 (.agg #[.slice none 0 0,.slice none 0 0,.slice none 0 0]):={}
instance:F7 Tryz.prog 46 [(0,1),(1,1),(2,1)]:={}
instance:F3 Tryz.prog 77 104 2:={}
instance:F5 Tryz.prog 104 2:={}
instance:F6 Tryz.prog 104 (.agg #[.int .i64 0,.slice none 0 0]):={}
instance:F4 Tryz.prog 104 0 0 3:={}
instance:F4 Tryz.prog 104 1 1 47:={}
instance:F8 Tryz.prog 102 47 1 24:={}
instance:F6 Tryz.prog 3 (.int .i64 0):={}
instance:F1 Tryz.prog 106:={}
instance:F7 Tryz.prog 104 [(0,1),(1,1)]:={}
instance:F7 Tryz.prog 93 [(0,1),(1,1)]:={}
instance:F8 Tryz.prog 47 93 2 16:={}
instance:F8 Tryz.prog 77 104 2 32:={}
instance:F6 Tryz.prog 49 (.agg #[.slice none 0 0,.slice none 0 0,.slice none 0 0,.slice none 0 0,.slice none 0 0,.slice none 0 0,.slice none 0 0,.slice none 0 0,.slice none 0 0,.slice none 0 0,.slice none 0 0]):={}
instance:F4 Tryz.prog 38 0 0 3:={}
instance:F4 Tryz.prog 38 1 1 4:={}
instance:F4 Tryz.prog 41 0 0 3:={}
instance:F5 Tryz.prog 38 2:={}
instance:ET Tryz.prog 22 Int eI:={}
instance:ET Tryz.prog 24 Tok eTok:={}
instance:ET Tryz.prog 25 Non eNon:={}
instance:ET Tryz.prog 26 Prod eProd_0:={}
instance:ET Tryz.prog 29 (List Act) (eM eAct):={}
instance:ET Tryz.prog 30 (List Int) (eM eI):={}
instance:ET Tryz.prog 35 Upset eUpset:={}
instance:ET Tryz.prog 39 Node eNode:={}
instance:ET Tryz.prog 47 Pair ePair:={}
instance:ET Tryz.prog 54 Part ePart:={}
instance:ET Tryz.prog 62 Alt eAlt_0:={}
instance:ET Tryz.prog 67 Rule eRule_0:={}
instance:ET Tryz.prog 77 Row eRow_0:={}
instance:ET Tryz.prog 83 Cell eCell_0:={}
instance:ET Tryz.prog 86 Clash eClash:={}
instance:ET Tryz.prog 102 (List Pair) (eM ePair):={}
instance:ET Tryz.prog 106 Act eAct:={}
instance:ET Tryz.prog 116 Look eLook_0:={}
instance:ET Tryz.prog 140 Item eItem:={}
instance:ET Tryz.prog 141 Move eMove:={}
instance:ET Tryz.prog 183 Trans eTrans:={}
instance:ET Tryz.prog 204 Bool eB:={}
instance:ET Tryz.prog 205 ByteArray eS:={}
instance:ET Tryz.prog 235 Int eU:={}
instance con11 {a0:ByteArray}{r:Part}:CF Tryz.prog 11 (pf11 a0=some r) [SS a0] [none] (.agg (ePart.cells r)):=⟨fun h=>by unfold pf11 at h; exact Con.au (N:=⟨6,[]⟩) [0,2] .e Tryz.func11 rfl rfl rfl rfl rfl goW⟩
instance con12 {a0:ByteArray}{r:Part}:CF Tryz.prog 12 (pf12 a0=some r) [SS a0] [none] (.agg (ePart.cells r)):=⟨fun h=>by unfold pf12 at h; exact Con.au (N:=⟨6,[]⟩) [0,2] .e Tryz.func12 rfl rfl rfl rfl rfl goW⟩
instance con138 {a0:Int}{r:Bool}:CF Tryz.prog 138 (pf138 a0=some r) [U8 a0] [none] (BB r):=⟨fun h=>by unfold pf138 at h; exact Con.au (N:=⟨21,[]⟩) [0,2] (.rj 1 [2] (fun (c7:Bool)=>[(2,BB c7)]) .e) Tryz.func138 rfl rfl rfl rfl rfl goW⟩
instance con139 {a0:Int}{r:Bool}:CF Tryz.prog 139 (pf139 a0=some r) [U8 a0] [none] (BB r):=⟨fun h=>by unfold pf139 at h; exact Con.au (N:=⟨9,[]⟩) [0,2] (.rj 1 [2] (fun (c2:Bool)=>[(2,BB c2)]) .e) Tryz.func139 rfl rfl rfl rfl rfl goW⟩
instance con134 {a0:ByteArray}{a1:Int}{r:Int}:CF Tryz.prog 134 (pf134 a0 a1=some r) [SS a0,I64 a1] [none,none] (I64 r):=⟨fun h=>by unfold pf134 at h; exact Con.au (N:=⟨43,[]⟩) [0,1,4,5,39] (.lp (fun (s1:Int)=>[(5,I64 s1)]) [0,1,5] 0 (fun (x2:Int)=>[(5,I64 x2)]) [5] (.rj 2 [0,1,5,39] (fun (c13:Bool)=>[(39,BB c13)]) .e) .e) Tryz.func134 rfl rfl rfl rfl rfl goW⟩
instance con127 {a0:ByteArray}{r:Bool}:CF Tryz.prog 127 (pf127 a0=some r) [SS a0] [none] (BB r):=⟨fun h=>by unfold pf127 at h; exact Con.au (N:=⟨18,[]⟩) [0,2] (.rj 1 [2] (fun (c4:Bool)=>[(2,BB c4)]) .e) Tryz.func127 rfl rfl rfl rfl rfl goW⟩
instance con137 {a0:Int}{r:Int × Bool}:CF Tryz.prog 137 (pf137 a0=some r) [U8 a0] [none] (.tup [U8 r.1,BB r.2]):=⟨fun h=>by unfold pf137 at h; exact Con.au (N:=⟨21,[]⟩) [0,2,3,4,5,7,9,11] (.b .e (.b .e (.b .e (.jn [0,11] (fun (j4:Bool)=>[(11,BB j4)]) .e (.b .e (.rj 11 [2,3] (fun (c8:Int × Bool)=>[(2,U8 c8.1),(3,BB c8.2)]) .e)))))) Tryz.func137 rfl rfl rfl rfl rfl goW⟩
instance con133 {a0:Sym}{a1:Bool}{a2:Bool}{r:Bool}:CF Tryz.prog 133 (pf133 a0 a1 a2=some r) [.agg (eSym.cells a0),BB a1,BB a2] [none,none,none] (BB r):=⟨fun h=>by unfold pf133 at h; exact Con.au (N:=⟨53,[]⟩) [1,2,3,6,8,10,23] (.b (.rj 2 [3,23] (fun (c4:Bool)=>[(23,BB c4)]) .e) (.rj 6 [6] (fun (c13:Bool)=>[(6,BB c13)]) .e)) Tryz.func133 rfl rfl rfl rfl rfl goW⟩
instance con126 {a0:Decl}{r:Bool}:CF Tryz.prog 126 (pf126 a0=some r) [.agg (eDecl_0.cells a0)] [none] (BB r):=⟨fun h=>by unfold pf126 at h; exact Con.au (N:=⟨75,[]⟩) [1,2,3,54,59,74] (.rj 1 [1,54] (fun (c15:Bool)=>[(54,BB c15)]) (.b .e (.l2 (fun (s17:Int)=>[(3,I64 s17)]) [1,3] 0 (fun (x19:Unit)=>[]) [] (fun (x20:Bool)=>[(2,BB x20)]) [2] (.b (.rd 6 [[],[0],[],[0,1,2],[0,1,2,3],[],[5],[5,6],[],[8],[8,9],rn 0 11 [],rn 0 12 []] .e) .e) .e .e))) Tryz.func126 rfl rfl rfl rfl rfl goW⟩
instance con135 {a0:Sym}{r:Bool}:CF Tryz.prog 135 (pf135 a0=some r) [.agg (eSym.cells a0)] [none] (BB r):=⟨fun h=>by unfold pf135 at h; exact Con.au (N:=⟨16,[]⟩) [1,2] (.rj 1 [2] (fun (c3:Bool)=>[(2,BB c3)]) .e) Tryz.func135 rfl rfl rfl rfl rfl goW⟩
instance con141 {a0:ByteArray}{a1:Int}{a2:ByteArray}{r:Bool}:CF Tryz.prog 141 (pf141 a0 a1 a2=some r) [SS a0,I64 a1,SS a2] [none,none,none] (BB r):=⟨fun h=>by unfold pf141 at h; exact Con.au (N:=⟨25,[]⟩) [0,1,2,6] (.rj 1 [6] (fun (c3:Bool)=>[(6,BB c3)]) .e) Tryz.func141 rfl rfl rfl rfl rfl goW⟩
instance con140 {a0:ByteArray}{a1:Int}{r:Int}:CF Tryz.prog 140 (pf140 a0 a1=some r) [SS a0,I64 a1] [none,none] (I64 r):=⟨fun h=>by unfold pf140 at h; exact Con.au (N:=⟨114,[]⟩) [0,1,4,5,6,7,8,9,31,40,46,58,59,69,75,78,92,96,105,110] (.rj 1 [0,1,9] (fun (c4:Bool)=>[(9,BB c4)]) (.b (.l2 (fun (s6:Int)=>[(5,I64 s6)]) [0,1,5] 1 (fun (x8:Unit)=>[]) [] (fun (x9:Int)=>[(4,I64 x9)]) [4] (.rj 3 [0,1,5,31] (fun (c12:Bool)=>[(31,BB c12)]) (.b (.rd 5 [[],[],[0,1],[],[],[3,4],rn 0 6 []] (.b .e (.b (.rj 9 [0,1,5,58] (fun (c21:Bool)=>[(58,BB c21)]) .e) .e))) .e)) .e .e) (.b (.l2 (fun (s25:Int)=>[(6,I64 s25)]) [0,6] 3 (fun (x27:Unit)=>[]) [] (fun (x28:Int)=>[(4,I64 x28)]) [4] .e .e .e) (.b (.lp (fun (s34:Int)=>[(7,I64 s34)]) [0,7] 5 (fun (x35:Int)=>[(7,I64 x35)]) [7] (.rj 21 [0,7,92] (fun (c39:Bool)=>[(92,BB c39)]) .e) .e) (.b (.l2 (fun (s43:Int)=>[(8,I64 s43)]) [0,8] 7 (fun (x45:Unit)=>[]) [] (fun (x46:Int)=>[(4,I64 x46)]) [4] .e .e .e) .e))))) Tryz.func140 rfl rfl rfl rfl rfl goW⟩
instance con136 {a0:ByteArray}{a1:Int}{r:Int}:CF Tryz.prog 136 (pf136 a0 a1=some r) [SS a0,I64 a1] [none,none] (I64 r):=⟨fun h=>by unfold pf136 at h; exact Con.au (N:=⟨53,[]⟩) [0,1,4,5,6,7,21,26,31,34,39,45,51] (.rj 1 [0,1,21] (fun (c4:Bool)=>[(21,BB c4)]) (.b .e (.l2 (fun (s6:Int × Int)=>[(5,I64 s6.1),(6,I64 s6.2)]) [0,5,6] 0 (fun (x8:Unit)=>[]) [] (fun (x9:Int)=>[(4,I64 x9)]) [4] (.b (.b .e (.b .e (.jn [0,5,6] (fun (j15:Int)=>[(5,I64 j15)]) .e (.jn [0,5,6] (fun (j18:Int)=>[(5,I64 j18)]) .e .e)))) .e) .e .e))) Tryz.func136 rfl rfl rfl rfl rfl goW⟩
instance con128 {a0:Alt}{r:Bool}:CF Tryz.prog 128 (pf128 a0=some r) [.agg (eAlt_0.cells a0)] [none] (BB r):=⟨fun h=>by unfold pf128 at h; exact Con.au (N:=⟨54,[]⟩) [1,2,3,4,9,45] (.l2 (fun (s1:Int)=>[(3,I64 s1)]) [1,3] 0 (fun (x3:Unit)=>[]) [1] (fun (x4:Bool)=>[(2,BB x4)]) [2] (.b (.rk 5 [[],[0],[0,1],[0,1,2],[0,1,2,3],rn 0 5 [],rn 0 6 [],rn 0 7 [],rn 0 8 [],rn 0 9 [],rn 0 10 [],rn 0 11 [],rn 0 12 [],rn 0 13 [],rn 0 14 [],rn 0 15 [],rn 0 16 [],rn 0 17 [],rn 0 18 [],rn 0 19 [],rn 0 20 [],rn 0 21 [],rn 0 19 [],rn 0 19 [22],rn 0 19 [22,23],rn 0 25 [],rn 0 26 [],rn 0 27 [],rn 0 28 []] [1,3,45] (fun (c18:Bool)=>[(45,BB c18)]) .e) .e) (.rj 7 [2] (fun (c23:Bool)=>[(2,BB c23)]) .e) .e) Tryz.func128 rfl rfl rfl rfl rfl goW⟩
instance con106 {a0:Source}{r:Bool}:CF Tryz.prog 106 (pf106 a0=some r) [.agg (eSource_0.cells a0)] [none] (BB r):=⟨fun h=>by unfold pf106 at h; exact Con.au (N:=⟨77,[]⟩) [1,2,3,4,5,6,7,13,22,27,36,41,58,63,72] (.l2 (fun (s1:Int)=>[(3,I64 s1)]) [1,3] 0 (fun (x3:Unit)=>[]) [1] (fun (x4:Bool)=>[(2,BB x4)]) [2] .e (.l2 (fun (s8:Int)=>[(4,I64 s8)]) [1,4] 2 (fun (x10:Unit)=>[]) [1] (fun (x11:Bool)=>[(2,BB x11)]) [2] .e (.l2 (fun (s16:Int)=>[(5,I64 s16)]) [1,5] 4 (fun (x18:Unit)=>[]) [1] (fun (x19:Bool)=>[(2,BB x19)]) [2] (.b (.rj 15 [1,5,6,58] (fun (c24:Bool)=>[(58,BB c24)]) (.b .e (.l2 (fun (s26:Int)=>[(7,I64 s26)]) [1,5,6,7] 6 (fun (x28:Unit)=>[]) [1,5] (fun (x29:Bool)=>[(2,BB x29)]) [2] .e .e .e))) .e) .e .e) .e) .e) Tryz.func106 rfl rfl rfl rfl rfl goW⟩
instance con108 {a0:yuccaref9_maker}{a1:Int}{a2:ByteArray}{r:yuccaref9_maker}:CF Tryz.prog 108 (pf108 a0 a1 a2=some r) [.obj (eyuccaref9_maker_r.cells a0),I64 a1,SS a2] [some (.obj [oR eTok r.f_g.Toks,oR eNon r.f_g.Nons,oR eProd_0 r.f_g.Prods,SS r.f_g.Pro,SS r.f_g.Tail,oR eB r.f_given,oR eNon r.f_types,oR eS r.f_lefts,I64 r.f_e,I64 r.f_at,SS r.f_name,I64 r.f_level,I64 r.f_inner]),none,none] (.tup []):=⟨fun h=>by unfold pf108 at h; exact Con.au (N:=⟨22,[0]⟩) [0,1,2,10] (.jn [0] (fun (j1:yuccaref9_maker)=>[(0,.obj (eyuccaref9_maker_r.cells j1))]) .e .e) Tryz.func108 rfl rfl rfl rfl rfl goW⟩
instance con112 {a0:yuccaref9_maker}{a1:ByteArray}{r:Int}:CF Tryz.prog 112 (pf112 a0 a1=some r) [.iptr ([iR eTok a0.f_g.Toks,iR eNon a0.f_g.Nons,iR eProd_0 a0.f_g.Prods,SS a0.f_g.Pro,SS a0.f_g.Tail,iR eB a0.f_given,iR eNon a0.f_types,iR eS a0.f_lefts,I64 a0.f_e,I64 a0.f_at,SS a0.f_name,I64 a0.f_level,I64 a0.f_inner]),SS a1] [none,none] (I64 r):=⟨fun h=>by unfold pf112 at h; exact Con.au (N:=⟨26,[]⟩) [0,1,4,5,12,24] (.l2 (fun (s1:Int)=>[(5,I64 s1)]) [0,1,5] 0 (fun (x3:Unit)=>[]) [] (fun (x4:Int)=>[(4,I64 x4)]) [4] .e .e .e) Tryz.func112 rfl rfl rfl rfl rfl goW⟩
instance con109 {a0:yuccaref9_maker}{a1:Sym}{r:Int}:CF Tryz.prog 109 (pf109 a0 a1=some r) [.iptr ([iR eTok a0.f_g.Toks,iR eNon a0.f_g.Nons,iR eProd_0 a0.f_g.Prods,SS a0.f_g.Pro,SS a0.f_g.Tail,iR eB a0.f_given,iR eNon a0.f_types,iR eS a0.f_lefts,I64 a0.f_e,I64 a0.f_at,SS a0.f_name,I64 a0.f_level,I64 a0.f_inner]),.agg (eSym.cells a1)] [none,none] (I64 r):=⟨fun h=>by unfold pf109 at h; exact Con.au (N:=⟨47,[]⟩) [0,3,4,5,13,45] (.l2 (fun (s1:Int)=>[(5,I64 s1)]) [0,3,5] 0 (fun (x3:Unit)=>[]) [] (fun (x4:Int)=>[(4,I64 x4)]) [4] (.b (.rk 4 [[],[0],[0,1],[0,1,2],[0,1,2,3],[],rn 0 6 [],rn 0 7 [],rn 0 8 [],[],[9],rn 0 11 [],rn 0 12 [],rn 0 13 [],rn 0 14 [],rn 0 15 [],rn 0 16 [],rn 0 17 [],rn 0 13 [],rn 0 19 [],rn 0 20 [],rn 0 21 [],rn 0 13 [],rn 0 13 [22],rn 0 24 [],rn 0 25 [],rn 0 26 [],rn 0 27 [],rn 0 28 [],rn 0 29 []] [0,3,5,45] (fun (c10:Bool)=>[(45,BB c10)]) .e) .e) .e .e) Tryz.func109 rfl rfl rfl rfl rfl goW⟩
instance con130 {a0:yuccaref9_maker}{a1:Int}{r:Int}:CF Tryz.prog 130 (pf130 a0 a1=some r) [.iptr ([iR eTok a0.f_g.Toks,iR eNon a0.f_g.Nons,iR eProd_0 a0.f_g.Prods,SS a0.f_g.Pro,SS a0.f_g.Tail,iR eB a0.f_given,iR eNon a0.f_types,iR eS a0.f_lefts,I64 a0.f_e,I64 a0.f_at,SS a0.f_name,I64 a0.f_level,I64 a0.f_inner]),I64 a1] [none,none] (I64 r):=⟨fun h=>by unfold pf130 at h; exact Con.au (N:=⟨28,[]⟩) [0,1,4,5,13,26] (.l2 (fun (s1:Int)=>[(5,I64 s1)]) [0,1,5] 0 (fun (x3:Unit)=>[]) [] (fun (x4:Int)=>[(4,I64 x4)]) [4] .e .e .e) Tryz.func130 rfl rfl rfl rfl rfl goW⟩
instance con129 {a0:yuccaref9_maker}{a1:Sym}{r:Int × yuccaref9_maker}:CF Tryz.prog 129 (pf129 a0 a1=some r) [.obj (eyuccaref9_maker_r.cells a0),.agg (eSym.cells a1)] [some (.obj [oR eTok r.2.f_g.Toks,oR eNon r.2.f_g.Nons,oR eProd_0 r.2.f_g.Prods,SS r.2.f_g.Pro,SS r.2.f_g.Tail,oR eB r.2.f_given,oR eNon r.2.f_types,oR eS r.2.f_lefts,I64 r.2.f_e,I64 r.2.f_at,SS r.2.f_name,I64 r.2.f_level,I64 r.2.f_inner]),none] (I64 r.1):=⟨fun h=>by unfold pf129 at h; exact Con.au (N:=⟨66,[0]⟩) [0,3,4,5,6,11,19,29] (.b .e (.jn [0,3,6] (fun (j3:yuccaref9_maker × Int)=>[(0,.obj (eyuccaref9_maker_r.cells j3.1)),(3006,I64 j3.2)]) (.b (.jn [0,3,6] (fun (j7:yuccaref9_maker)=>[(0,.obj (eyuccaref9_maker_r.cells j7))]) .e .e) .e) (.rd 9 [[],[],[1],[1,2],[1,2,3],[1,2,3,4],[],[6],rn 1 7 [],rn 0 9 [],rn 0 10 [],rn 0 11 [],rn 0 12 []] (.rd 10 [[],[],[1],[1,2],[1,2,3],[],[5],[5,6],rn 1 7 [],rn 0 9 [],rn 0 10 [],rn 0 11 []] .e)))) Tryz.func129 rfl rfl rfl rfl rfl goW⟩
theorem conq108_0 (v:Value) (a0:yuccaref9_maker) (a1:Int) (a2:ByteArray) (r:yuccaref9_maker) (h:pf108 a0 a1 a2=some r):Con Tryz.prog 108 [.obj [.lit v,oR eNon a0.f_g.Nons,oR eProd_0 a0.f_g.Prods,SS a0.f_g.Pro,SS a0.f_g.Tail,oR eB a0.f_given,oR eNon a0.f_types,oR eS a0.f_lefts,I64 a0.f_e,I64 a0.f_at,SS a0.f_name,I64 a0.f_level,I64 a0.f_inner],I64 a1,SS a2] [some (.obj [.lit v,oR eNon r.f_g.Nons,oR eProd_0 r.f_g.Prods,SS r.f_g.Pro,SS r.f_g.Tail,oR eB r.f_given,oR eNon r.f_types,oR eS r.f_lefts,I64 r.f_e,I64 r.f_at,SS r.f_name,I64 r.f_level,I64 r.f_inner]),none,none] (.tup []):=by
 unfold pf108 at h
 refine Con.go (N:=⟨22,[0]⟩) Tryz.func108 q q q q (W.fin ?_)
 refine W.st [(0,.obj [.lit v,oR eNon a0.f_g.Nons,oR eProd_0 a0.f_g.Prods,SS a0.f_g.Pro,SS a0.f_g.Tail,oR eB a0.f_given,oR eNon a0.f_types,oR eS a0.f_lefts,I64 a0.f_e,I64 a0.f_at,SS a0.f_name,I64 a0.f_level,I64 a0.f_inner]),(1,I64 a1),(2,SS a2)] ?_
 refine W.aq [0,1,2,10] ?_
 refine bd h fun j1 hj h=>W.jq [0] [(0,.obj [.lit v,oR eNon j1.f_g.Nons,oR eProd_0 j1.f_g.Prods,SS j1.f_g.Pro,SS j1.f_g.Tail,oR eB j1.f_given,oR eNon j1.f_types,oR eS j1.f_lefts,I64 j1.f_e,I64 j1.f_at,SS j1.f_name,I64 j1.f_level,I64 j1.f_inner])] ?_ ?_
 ·clear h; have h:=hj; clear hj
  refine W.ch h q (fun hb2 h=>?_) (fun hb2 h=>?_)
  ·refine W.rk [0] (Rv (O.mv .z4)<|Rv (O.mv .z4)<|Rv (O.mv .z4)<|Vm q<|Vm q<|Rv (O.nlP .z5)<|Rv O.y2<|RunL.sO (G2:=[(0,_),(12,.ptr ⟨0,[]⟩ 0),(13,.ptr ⟨0,[]⟩ 0),(14,_),(15,_)]) (cs2:=[.lit v,oR eNon a0.f_g.Nons,oR eProd_0 a0.f_g.Prods,SS a0.f_g.Pro,SS a0.f_g.Tail,oR eB a0.f_given,oR eNon a0.f_types,oR eS a0.f_lefts,I64 3,I64 a0.f_at,SS a0.f_name,I64 a0.f_level,I64 a0.f_inner]) q (.ptr q) (.k q) q sz3 q q q q (.b q (.p q q q q q q (.p q q q q q q (.n q q (.n q q .nil)))))<|Rv (O.nlP .z5)<|Rv O.y2<|RunL.sO (G2:=[(0,_),(13,.ptr ⟨0,[]⟩ 0),(15,_)]) (cs2:=[.lit v,oR eNon a0.f_g.Nons,oR eProd_0 a0.f_g.Prods,SS a0.f_g.Pro,SS a0.f_g.Tail,oR eB a0.f_given,oR eNon a0.f_types,oR eS a0.f_lefts,I64 3,I64 a1,SS a0.f_name,I64 a0.f_level,I64 a0.f_inner]) q (.ptr q) (.lit q) q sz3 q q q q (.b q (.p q q q q q q (.n q q .nil)))<|Rv (O.nlP .z5)<|Rv O.y2<|RunL.f' (EO.sv1 [0])<|Fk q) ?_
   exact sm h ▸ Px.jt
  ·exact W.sk<|sm h ▸ Px.jt
 exact sm h ▸ Px.fin (Fin.ro .nil q (ode (by kernel_rfl)) (.so q q (.no (.no .nil))) q (.inl q))
theorem con107l (a0:yuccaref9_maker) (a1:Decl) (a2:Sym) (r:yuccaref9_maker) (h:pf107 a0 a1 a2=some r):Con Tryz.prog 107 [.obj (eyuccaref9_maker_r.cells a0),.agg (eDecl_0.cells a1),.agg (eSym.cells a2)] [some (.obj [oR eTok r.f_g.Toks,oR eNon r.f_g.Nons,oR eProd_0 r.f_g.Prods,SS r.f_g.Pro,SS r.f_g.Tail,oR eB r.f_given,oR eNon r.f_types,oR eS r.f_lefts,I64 r.f_e,I64 r.f_at,SS r.f_name,I64 r.f_level,I64 r.f_inner]),none,none] (.tup []):=by
 unfold pf107 at h
 refine Con.go (N:=⟨152,[0]⟩) Tryz.func107 q q q q (W.fin ?_)
 refine W.st [(0,.obj (eyuccaref9_maker_r.cells a0)),(1,.agg (eDecl_0.cells a1)),(2,.agg (eSym.cells a2))] ?_
 refine W.rq [0,4,5] (Rv (O.box (.aggF q q) q)<|Rv (O.box (.aggF q q) q)<|Fk q) ?_
 refine W.sq'<|W.aq [0,4,5,11] ?_
 refine W.ch h q (fun hb1 h=>?_) (fun hb1 h=>?_)
 ·refine bd h fun x2 hx2 h=>W.rq [0,4,5,6] (Rv (O.mv .z4)<|Rv O.y1<|Rv O.y3<|Rc (PC.vz (ys:=[.ptr ⟨0,[]⟩ 0,SS a2.Name]) q (.c (View.p0 q q) (.s .nil)) (CF.go hx2))<|RunL.au) ?_
  refine W.sq'<|W.aq [0,4,5,6,17] ?_
  refine bd h fun j3 hj h=>W.jq [0] [(0,.obj (eyuccaref9_maker_r.cells j3))] ?_ ?_
  ·clear h; have h:=hj; clear hj
   refine W.ch h q (fun hb4 h=>?_) (fun hb4 h=>?_)
   ·refine bd h fun x5 hx5 h=>W.rd [[],[],[1],[1,2],[1,2,3],[],[5],[],[7],[5,6,7,8],rn 5 5 [],rn 1 10 [],rn 0 12 [],rn 0 13 [],rn 0 14 []] [(0,_)] mixo (by kernel_rfl) (Dv 0 (O.mv .z4)<|Dv 1 (O.mv .z4)<|Dv 2 (O.nlP .z5)<|Dv 3 O.y2<|Dv 4 (O.y5 (y:=.brw eNon.z ⟨0,[6]⟩ a0.f_types.length))<|Dv 5 O.y1<|Dv 6 O.y3<|Dv 7 O.y1<|Dv 8 O.y3<|Dv 9 (O.bu (cs:=[SS a2.Name,SS a1.Tag]) sc217 ze217 q q q)<|DL.vi 10 (x:=iR eNon [(⟨a2.Name,a1.Tag⟩:Non)]) (O.bs (ys:=[.agg [SS a2.Name,SS a1.Tag]]) eNon [(⟨a2.Name,a1.Tag⟩:Non)] sl25 q q q q q q zt217 q q) q q q q .none<|Dv 11 (O.ap (en:=eNon) (r:=x5) .z6 q .z2 .i ap25 q hx5)<|Dv 12 (O.nlP .z5)<|Dv 13 O.y2<|DL.bpz 14 (EO.sp [0])<|DL.fin q q q (.n q .nil)) ?_
    exact sm h ▸ Px.jt
   ·refine W.sq'<|bd h fun x6 hx6 h=>W.rd [[],[0],[0,1],[0,1,2],[],rn 0 5 [],rn 0 6 [],rn 0 7 [],[],[8],rn 0 10 []] [(0,_),(5,_),(42,_)] mixo (by kernel_rfl) (Dv 0 (O.mv .z4)<|Dv 1 (O.nlP .z5)<|Dv 2 O.y2<|Dv 3 (O.y5 (y:=.brw eNon.z ⟨0,[6]⟩ a0.f_types.length))<|Dv 4 (O.mv (.lit q))<|Dv 5 (O.ixO (en:=eNon) q .z6 .z1 sl25 hx6 q)<|Dv 6 (O.fE (en:=eNon) q .z5 fd217_1 hx6 q q)<|Dv 7 (O.ldE (en:=eNon) (x':=SS x6.Tag) q .z5 ct9 hx6 q q)<|Dv 8 O.y1<|Dv 9 O.y3<|Dv 10 (O.neS .z1 .z1)<|DL.fin q q q (tn3 q q q)) ?_
    refine Px.sq<|bd h fun j7 hj h=>W.jq [0] [(0,.obj (eyuccaref9_maker_r.cells j7))] ?_ ?_
    ·clear h; have h:=hj; clear hj
     refine W.ch h q (fun hb8 h=>?_) (fun hb8 h=>?_)
     ·refine bd h fun x9 hx9 h=>W.rk [0] (Rv (O.mv .z4)<|Rv O.y1<|Rv O.y3<|Rv O.y1<|Rv O.y3<|RunL.ef q (EO.call q q (CallOk.ln (G2:=[]) (A:=[]) (ys:=[.ptr ⟨0,[]⟩ 0,I64 a2.At,SS a2.Name]) (args:=[.obj (eyuccaref9_maker_r.cells a0),I64 a2.At,SS a2.Name]) (cs':=eyuccaref9_maker_r.cells x9) (k0:=0) q q q q (.b q (.n q (.n q .nil))) q (CF.go hx9) call108 .nil q q .nil .nil q))<|Fk q) ?_
      exact sm h ▸ Px.jt
     ·exact W.sk<|sm h ▸ Px.jt
    exact sm h ▸ Px.jt
  exact Px.sq<|W.rt<|Px.sqR<|sm h ▸ Px.fin (Fin.ro .nil q (ode (by kernel_rfl)) (.so q q (.no (.no .nil))) q (.inr q))
 ·refine W.sk<|Px.sq<|bd h fun x10 hx10 h=>W.rq [0,4,5,7] (Rv (O.mv .z4)<|Rv (O.ldON (cs':=eSym.cells a2) q .z4 at56 q q)<|RunL.ef q (EO.call q q (CallOk.ln (G2:=[(4,.obj (eDecl_0.cells a1)),(5,.obj (eSym.cells a2))]) (A:=[]) (ys:=[.ptr ⟨0,[]⟩ 0,.agg (eSym.cells a2)]) (args:=[.obj (eyuccaref9_maker_r.cells a0),.agg (eSym.cells a2)]) (cs':=eyuccaref9_maker_r.cells x10.2) (k0:=0) q q q q (.b q (.n q .nil)) q (CF.go hx10) call129 (tn2 q q) q q (tn2 q q) .nil q))<|RunL.au) ?_
  refine bd h fun x11 hx11 h=>W.rs [(0,_),(4,_),(5,_),(7,_),(8,.ptr ⟨0,[0]⟩ (x10.1.toNat * eTok.z+0))] (Rv (O.mv .z4)<|Rv (O.nlP .z5)<|Rv O.y2<|Rv O.y2<|Rv (O.y5 (y:=.brw eTok.z ⟨0,[0]⟩ x10.2.f_g.Toks.length))<|Vm q<|Rv (O.ixO (en:=eTok) q .z6 .z1 sl24 hx11 q)<|Rv (O.az .z5)<|Fi (.n q (.n q (.n q (.n q (.r q (RK.el (en:=eTok) q hx11 q) npPtr .nil)))))) ?_
  refine W.sq'<|W.rs [(0,_),(4,_),(5,_),(7,_),(8,.ptr ⟨0,[0]⟩ (x10.1.toNat * eTok.z+0)),(61,_)] (Rv O.y1<|Rv O.y3<|Rv (O.neq .z1 .z8)<|Fi (.n q (.n q (.n q (.n q (.r q (RK.el (en:=eTok) q hx11 q) npPtr (.n q .nil))))))) ?_
  refine bd h fun j12 hj h=>W.jq [0,4,5,7,8] [(0,.obj (eyuccaref9_maker_r.cells j12))] ?_ ?_
  ·clear h; have h:=hj; clear hj
   refine W.ch h q (fun hb13 h=>?_) (fun hb13 h=>?_)
   ·refine W.sq'<|W.rs [(0,_),(4,_),(5,_),(7,_),(8,.ptr ⟨0,[0]⟩ (x10.1.toNat * eTok.z+0)),(66,_)] (Rv (O.mv .z5)<|Rv (O.nlP .z5)<|Rv (O.fE (en:=eTok) q .z5 fd110_3 hx11 q q)<|Rv (O.ldE (en:=eTok) (x':=I64 x11.Level) q .z5 ct3 hx11 q q)<|Rv (O.gtr .z1 .z8)<|Fi (.n q (.n q (.n q (.n q (.r q (RK.el (en:=eTok) q hx11 q) npPtr (.n q .nil))))))) ?_
    refine bd h fun j14 hj h=>W.jq [0,4,5,7,8] [(0,.obj (eyuccaref9_maker_r.cells j14))] ?_ ?_
    ·clear h; have h:=hj; clear hj
     refine W.ch h q (fun hb15 h=>?_) (fun hb15 h=>?_)
     ·refine bd h fun x16 hx16 h=>W.rx [(0,_),(4,_),(5,_),(7,_),(8,.ptr ⟨0,[0]⟩ (x10.1.toNat * eTok.z+0))] (Rv (O.mv .z4)<|Rv O.y1<|Rv O.y3<|Rv O.y1<|Rv O.y3<|RunL.ef (G2:=[(8,.ptr ⟨0,[0]⟩ (x10.1.toNat * eTok.z+0))]++[(72,.tup []),(0,.obj [oR eTok x10.2.f_g.Toks,oR eNon x16.f_g.Nons,oR eProd_0 x16.f_g.Prods,SS x16.f_g.Pro,SS x16.f_g.Tail,oR eB x16.f_given,oR eNon x16.f_types,oR eS x16.f_lefts,I64 x16.f_e,I64 x16.f_at,SS x16.f_name,I64 x16.f_level,I64 x16.f_inner]),(4,.obj (eDecl_0.cells a1)),(5,.obj (eSym.cells a2)),(7,I64 x10.1)]) q (EO.fr (r:=0) (k0:=0) (y:=oR eTok x10.2.f_g.Toks) (cs5:=[oR eTok x10.2.f_g.Toks,oR eNon x16.f_g.Nons,oR eProd_0 x16.f_g.Prods,SS x16.f_g.Pro,SS x16.f_g.Tail,oR eB x16.f_given,oR eNon x16.f_types,oR eS x16.f_lefts,I64 x16.f_e,I64 x16.f_at,SS x16.f_name,I64 x16.f_level,I64 x16.f_inner]) (G1:=fun v=>[(0,.obj [.lit v,oR eNon x10.2.f_g.Nons,oR eProd_0 x10.2.f_g.Prods,SS x10.2.f_g.Pro,SS x10.2.f_g.Tail,oR eB x10.2.f_given,oR eNon x10.2.f_types,oR eS x10.2.f_lefts,I64 x10.2.f_e,I64 x10.2.f_at,SS x10.2.f_name,I64 x10.2.f_level,I64 x10.2.f_inner]),(4,.obj (eDecl_0.cells a1)),(5,.obj (eSym.cells a2)),(7,I64 x10.1),(67,.ptr ⟨0,[]⟩ 0),(69,I64 a2.At),(71,SS a2.Name)]) (G4:=fun v=>[(72,.tup []),(0,.obj [.lit v,oR eNon x16.f_g.Nons,oR eProd_0 x16.f_g.Prods,SS x16.f_g.Pro,SS x16.f_g.Tail,oR eB x16.f_given,oR eNon x16.f_types,oR eS x16.f_lefts,I64 x16.f_e,I64 x16.f_at,SS x16.f_name,I64 x16.f_level,I64 x16.f_inner]),(4,.obj (eDecl_0.cells a1)),(5,.obj (eSym.cells a2)),(7,I64 x10.1)]) (c4:=fun v=>[.lit v,oR eNon x16.f_g.Nons,oR eProd_0 x16.f_g.Prods,SS x16.f_g.Pro,SS x16.f_g.Tail,oR eB x16.f_given,oR eNon x16.f_types,oR eS x16.f_lefts,I64 x16.f_e,I64 x16.f_at,SS x16.f_name,I64 x16.f_level,I64 x16.f_inner]) (G5:=[(72,.tup []),(0,.obj [oR eTok x10.2.f_g.Toks,oR eNon x16.f_g.Nons,oR eProd_0 x16.f_g.Prods,SS x16.f_g.Pro,SS x16.f_g.Tail,oR eB x16.f_given,oR eNon x16.f_types,oR eS x16.f_lefts,I64 x16.f_e,I64 x16.f_at,SS x16.f_name,I64 x16.f_level,I64 x16.f_inner]),(4,.obj (eDecl_0.cells a1)),(5,.obj (eSym.cells a2)),(7,I64 x10.1)]) (A:=[(8,.ptr ⟨0,[0]⟩ (x10.1.toNat * eTok.z+0))]) q q q q (fun v=>(.b q (.n q q (.n q q (.n q q (.p q q q q q q (.n q q (.n q q .nil)))))))) (fun v=>CallOk.ln (G2:=[(4,.obj (eDecl_0.cells a1)),(5,.obj (eSym.cells a2)),(7,I64 x10.1)]) (A:=[]) (ys:=[.ptr ⟨0,[]⟩ 0,I64 a2.At,SS a2.Name]) (args:=[.obj [.lit v,oR eNon x10.2.f_g.Nons,oR eProd_0 x10.2.f_g.Prods,SS x10.2.f_g.Pro,SS x10.2.f_g.Tail,oR eB x10.2.f_given,oR eNon x10.2.f_types,oR eS x10.2.f_lefts,I64 x10.2.f_e,I64 x10.2.f_at,SS x10.2.f_name,I64 x10.2.f_level,I64 x10.2.f_inner],I64 a2.At,SS a2.Name]) (cs':=[.lit v,oR eNon x16.f_g.Nons,oR eProd_0 x16.f_g.Prods,SS x16.f_g.Pro,SS x16.f_g.Tail,oR eB x16.f_given,oR eNon x16.f_types,oR eS x16.f_lefts,I64 x16.f_e,I64 x16.f_at,SS x16.f_name,I64 x16.f_level,I64 x16.f_inner]) (k0:=0) q q q q (.b q (.n q (.n q .nil))) q (conq108_0 v x10.2 a2.At a2.Name _ hx16) call108 (tn3 q q q) q q (tn3 q q q) .nil q) (fun v=>q) (fun v=>q) (fun v=>q) (fun v=>(.n q q (.b q (.n q q (.n q q (.n q q .nil)))))) q (.c (en:=eTok) (L:=x10.2.f_g.Toks) q q hx11 q q q .nil))<|Fi (.n q (.n q (.n q (.n q (.r q (RK.el (en:=eTok) q hx11 q) npPtr .nil)))))) ?_
      exact sm h ▸ Px.jn (.n q (.n q (.n q (.n q (.r q (RK.el (en:=eTok) q hx11 q) npPtr .nil)))))
     ·exact W.sk<|sm h ▸ Px.jn (.n q (.n q (.n q (.n q (.r q (RK.el (en:=eTok) q hx11 q) npPtr .nil)))))
    refine bd h fun x17 hx17 h=>Px.sq<|W.rd [[],[],[],[2],[2,3],[2,3,4],[],[6],[6,7],[0,2,3,4,5],[0,2,3,4,5,9],[0,2,3,4,5,9,10],rn 0 12 [],rn 0 13 [],rn 0 14 []] [(0,_),(4,_),(5,_),(7,_),(8,.ptr ⟨0,[0]⟩ (x10.1.toNat * eTok.z+0))] mixo (by kernel_rfl) (Dv 0 (O.mv .z5)<|Dv 1 (O.mv .z5)<|Dv 2 (O.mv .z4)<|Dv 3 (O.nlP .z5)<|Dv 4 O.y2<|Dv 5 O.y3<|Dv 6 O.y1<|Dv 7 O.y3<|Dv 8 (O.sub .z1 .z8)<|Dv 9 (O.nlP .z5)<|Dv 10 (O.fE (en:=eTok) q .z5 fd110_3 hx17 q q)<|DL.bu 11 (G2:=[(0,.obj [oR eTok (j14.f_g.Toks.set x10.1.toNat (⟨x17.Name,x17.Lit,x17.Num,j14.f_level,x17.Assoc,x17.Tag⟩:Tok)),oR eNon j14.f_g.Nons,oR eProd_0 j14.f_g.Prods,SS j14.f_g.Pro,SS j14.f_g.Tail,oR eB j14.f_given,oR eNon j14.f_types,oR eS j14.f_lefts,I64 j14.f_e,I64 j14.f_at,SS j14.f_name,I64 j14.f_level,I64 j14.f_inner]),(4,.obj (eDecl_0.cells a1)),(5,.obj (eSym.cells a2)),(7,I64 x10.1),(8,.ptr ⟨0,[0]⟩ (x10.1.toNat * eTok.z+0))]) (U:=[(8,81,some (I64 (w64 (a1.Kind - 1)))),(7,80,some (I64 a1.Kind)),(6,79,some (.ptr ⟨4,[]⟩ 0)),(1,74,some (.ptr ⟨0,[0]⟩ (x10.1.toNat * eTok.z+0)))]) (EffOk.v (EO.eff (EO.stE (en:=eTok) (y2:=(⟨x17.Name,x17.Lit,x17.Num,j14.f_level,x17.Assoc,x17.Tag⟩:Tok)) (cs':=[I64 j14.f_level]) (x2:=.obj [oR eTok (j14.f_g.Toks.set x10.1.toNat (⟨x17.Name,x17.Lit,x17.Num,j14.f_level,x17.Assoc,x17.Tag⟩:Tok)),oR eNon j14.f_g.Nons,oR eProd_0 j14.f_g.Prods,SS j14.f_g.Pro,SS j14.f_g.Tail,oR eB j14.f_given,oR eNon j14.f_types,oR eS j14.f_lefts,I64 j14.f_e,I64 j14.f_at,SS j14.f_name,I64 j14.f_level,I64 j14.f_inner]) q q (.ptr q) (.lit q) q hx17 sz3 q q q q q q q (.b q (.n q q (.n q q (.n q q (.e q q (.mk (en:=eTok) q hx17 q (idx_set_same hx17) q) q .nil)))))))) q q (by kernel_rfl) q q q (.c (.inr (.inl ⟨_,q⟩)) q q q q q (Gd.wanted .none) (O.sub .z1 .z8) (.c (.inr (.inl ⟨_,q⟩)) q q q q q (Gd.wanted .none) (O.ldOl q .z5 ct3 q) (.c (.inr (.inr (.inr (.inl ⟨4,_,_,q,q,of_blt q,by simp,_,q,of_blt q⟩)))) q q q q q (Gd.wanted .none) (O.fO q .z4 fd210_0 q) (.c (.inr (.inr (.inl ⟨8,_,_,q,q,q,by simp⟩))) q q q q q (Gd.wanted .none) (O.mv .z5) .nil)))) (by kernel_rfl)<|Dv 12 (O.nlP .z5)<|Dv 13 (O.fE (en:=eTok) q .z5 fd110_4 (idx_set_same hx17) q q)<|DL.bpz 14 (G2:=[(0,.obj [oR eTok ((j14.f_g.Toks.set x10.1.toNat (⟨x17.Name,x17.Lit,x17.Num,j14.f_level,x17.Assoc,x17.Tag⟩:Tok)).set x10.1.toNat (⟨(⟨x17.Name,x17.Lit,x17.Num,j14.f_level,x17.Assoc,x17.Tag⟩:Tok).Name,(⟨x17.Name,x17.Lit,x17.Num,j14.f_level,x17.Assoc,x17.Tag⟩:Tok).Lit,(⟨x17.Name,x17.Lit,x17.Num,j14.f_level,x17.Assoc,x17.Tag⟩:Tok).Num,(⟨x17.Name,x17.Lit,x17.Num,j14.f_level,x17.Assoc,x17.Tag⟩:Tok).Level,w64 (a1.Kind - 1),(⟨x17.Name,x17.Lit,x17.Num,j14.f_level,x17.Assoc,x17.Tag⟩:Tok).Tag⟩:Tok)),oR eNon j14.f_g.Nons,oR eProd_0 j14.f_g.Prods,SS j14.f_g.Pro,SS j14.f_g.Tail,oR eB j14.f_given,oR eNon j14.f_types,oR eS j14.f_lefts,I64 j14.f_e,I64 j14.f_at,SS j14.f_name,I64 j14.f_level,I64 j14.f_inner]),(4,.obj (eDecl_0.cells a1)),(5,.obj (eSym.cells a2)),(7,I64 x10.1),(8,.ptr ⟨0,[0]⟩ (x10.1.toNat * eTok.z+0))]) (EO.stE (en:=eTok) (y2:=(⟨(⟨x17.Name,x17.Lit,x17.Num,j14.f_level,x17.Assoc,x17.Tag⟩:Tok).Name,(⟨x17.Name,x17.Lit,x17.Num,j14.f_level,x17.Assoc,x17.Tag⟩:Tok).Lit,(⟨x17.Name,x17.Lit,x17.Num,j14.f_level,x17.Assoc,x17.Tag⟩:Tok).Num,(⟨x17.Name,x17.Lit,x17.Num,j14.f_level,x17.Assoc,x17.Tag⟩:Tok).Level,w64 (a1.Kind - 1),(⟨x17.Name,x17.Lit,x17.Num,j14.f_level,x17.Assoc,x17.Tag⟩:Tok).Tag⟩:Tok)) (cs':=[I64 (w64 (a1.Kind - 1))]) (x2:=.obj [oR eTok ((j14.f_g.Toks.set x10.1.toNat (⟨x17.Name,x17.Lit,x17.Num,j14.f_level,x17.Assoc,x17.Tag⟩:Tok)).set x10.1.toNat (⟨(⟨x17.Name,x17.Lit,x17.Num,j14.f_level,x17.Assoc,x17.Tag⟩:Tok).Name,(⟨x17.Name,x17.Lit,x17.Num,j14.f_level,x17.Assoc,x17.Tag⟩:Tok).Lit,(⟨x17.Name,x17.Lit,x17.Num,j14.f_level,x17.Assoc,x17.Tag⟩:Tok).Num,(⟨x17.Name,x17.Lit,x17.Num,j14.f_level,x17.Assoc,x17.Tag⟩:Tok).Level,w64 (a1.Kind - 1),(⟨x17.Name,x17.Lit,x17.Num,j14.f_level,x17.Assoc,x17.Tag⟩:Tok).Tag⟩:Tok)),oR eNon j14.f_g.Nons,oR eProd_0 j14.f_g.Prods,SS j14.f_g.Pro,SS j14.f_g.Tail,oR eB j14.f_given,oR eNon j14.f_types,oR eS j14.f_lefts,I64 j14.f_e,I64 j14.f_at,SS j14.f_name,I64 j14.f_level,I64 j14.f_inner]) q q (.ptr q) (.lit q) q (idx_set_same hx17) sz3 q q q q q q q (.b q (.n q q (.n q q (.n q q (.e q q (.mk (en:=eTok) q (idx_set_same hx17) q (idx_set_same (idx_set_same hx17)) q) q .nil))))))<|DL.fin q q q (.n q (.n q (.n q (.n q (.r q (RK.el (en:=eTok) q (idx_set_same (idx_set_same hx17)) q) npPtr .nil)))))) ?_
    exact sm h ▸ Px.jn (.n q (.n q (.n q (.n q (.r q (RK.el (en:=eTok) q (idx_set_same (idx_set_same hx17)) q) npPtr .nil)))))
   ·exact W.sk<|sm h ▸ Px.jn (.n q (.n q (.n q (.n q (.r q (RK.el (en:=eTok) q hx11 q) npPtr .nil)))))
  refine bd h fun x18 hx18 h=>Px.sq<|W.sq'<|W.rs [(0,_),(4,_),(5,_),(7,_),(8,.ptr ⟨0,[0]⟩ (x10.1.toNat * eTok.z+0)),(88,_)] (Rv O.y1<|Rv O.y3<|Rv (O.gtr .z1 .z8)<|Fi (.n q (.n q (.n q (.n q (.r q (RK.el (en:=eTok) q hx18 q) npPtr (.n q .nil))))))) ?_
  refine bd h fun j19 hj h=>W.jq [0,4,5,8] [(0,.obj (eyuccaref9_maker_r.cells j19))] ?_ ?_
  ·clear h; have h:=hj; clear hj
   refine W.ch h q (fun hb20 h=>?_) (fun hb20 h=>?_)
   ·refine W.sq'<|bd h fun c25 hj h=>W.rz [0,4,5,7,8,106] [(106,BB c25)] ?_ ?_
    ·refine Vm q<|Rv (O.eql .z1 .z8)<|Rv (O.mv (.lit q)) ?_
     rcases cnd hj with ⟨hb21,hj⟩ | ⟨hb21,hj⟩
     ·exact sm hj ▸ (Ps hb21<|Ps hb21<|Ps hb21<|Ps hb21<|Ps hb21<|Ps hb21<|Ps hb21<|Rv (O.pkT .z1 hb21 .z8)<|Vm q<|Ps q<|Ps q<|Ps q<|Ps q<|Ps q<|Rv (O.pkT .z1 q .z8)<|Fi (.n q (.n q (.n q (.n q (.r q (RK.el (en:=eTok) q hx18 q) npPtr (.n q .nil)))))))
     ·refine Yv hb21 (O.mv .z4)<|Yv hb21 (O.nlP .z5)<|Yv hb21 O.y2<|Yv hb21 (O.y5 (y:=.brw eB.z ⟨0,[5]⟩ j12.f_given.length))<|Yv hb21 (O.mv (.lit q)) ?_
      refine bd hj fun x22 hx22 hj=>Yv hb21 (O.ixO (en:=eB) q .z6 .z1 sl204 hx22 q)<|Yv hb21 (O.ldE (en:=eB) (x':=BB x22) q .z5 ct4 hx22 q q)<|Rv (O.pkF .z1 hb21 .z1)<|Rv (O.mv (.lit q)) ?_
      rcases cnd hj with ⟨hb23,hj⟩ | ⟨hb23,hj⟩
      ·exact sm hj ▸ (Ps hb23<|Ps hb23<|Ps hb23<|Ps hb23<|Ps hb23<|Rv (O.pkT .z1 hb23 .z8)<|Fi (.n q (.n q (.n q (.n q (.r q (RK.el (en:=eTok) q hx18 q) npPtr (.n q .nil)))))))
      ·refine Yv hb23 (O.mv .z4)<|Yv hb23 O.y1<|Yv hb23 O.y3 ?_
       exact bd hj fun x24 hx24 hj=>sm hj ▸ (RunL.c (PC.vz (ys:=[.ptr ⟨0,[]⟩ 0,I64 a2.Num]) q (.c (View.p0 q q) (.s .nil)) (CF.go hx24)) q q (.yb q q hb23)<|Yv hb23 (O.geq .z1 .z8)<|Rv (O.pkF .z1 hb23 .z1)<|Fi (.n q (.n q (.n q (.n q (.r q (RK.el (en:=eTok) q hx18 q) npPtr (.n q .nil)))))))
    refine bd h fun j26 hj h=>W.jq [0,4,5,7,8] [(0,.obj (eyuccaref9_maker_r.cells j26))] ?_ ?_
    ·clear h; have h:=hj; clear hj
     refine W.ch h q (fun hb27 h=>?_) (fun hb27 h=>?_)
     ·refine bd h fun x28 hx28 h=>W.rx [(0,_),(4,_),(5,_),(7,_),(8,.ptr ⟨0,[0]⟩ (x10.1.toNat * eTok.z+0))] (Rv (O.mv .z4)<|Rv O.y1<|Rv O.y3<|Rv O.y1<|Rv O.y3<|RunL.ef (G2:=[(8,.ptr ⟨0,[0]⟩ (x10.1.toNat * eTok.z+0))]++[(112,.tup []),(0,.obj [oR eTok j12.f_g.Toks,oR eNon x28.f_g.Nons,oR eProd_0 x28.f_g.Prods,SS x28.f_g.Pro,SS x28.f_g.Tail,oR eB x28.f_given,oR eNon x28.f_types,oR eS x28.f_lefts,I64 x28.f_e,I64 x28.f_at,SS x28.f_name,I64 x28.f_level,I64 x28.f_inner]),(4,.obj (eDecl_0.cells a1)),(5,.obj (eSym.cells a2)),(7,I64 x10.1)]) q (EO.fr (r:=0) (k0:=0) (y:=oR eTok j12.f_g.Toks) (cs5:=[oR eTok j12.f_g.Toks,oR eNon x28.f_g.Nons,oR eProd_0 x28.f_g.Prods,SS x28.f_g.Pro,SS x28.f_g.Tail,oR eB x28.f_given,oR eNon x28.f_types,oR eS x28.f_lefts,I64 x28.f_e,I64 x28.f_at,SS x28.f_name,I64 x28.f_level,I64 x28.f_inner]) (G1:=fun v=>[(0,.obj [.lit v,oR eNon j12.f_g.Nons,oR eProd_0 j12.f_g.Prods,SS j12.f_g.Pro,SS j12.f_g.Tail,oR eB j12.f_given,oR eNon j12.f_types,oR eS j12.f_lefts,I64 j12.f_e,I64 j12.f_at,SS j12.f_name,I64 j12.f_level,I64 j12.f_inner]),(4,.obj (eDecl_0.cells a1)),(5,.obj (eSym.cells a2)),(7,I64 x10.1),(107,.ptr ⟨0,[]⟩ 0),(109,I64 a2.At),(111,SS a2.Name)]) (G4:=fun v=>[(112,.tup []),(0,.obj [.lit v,oR eNon x28.f_g.Nons,oR eProd_0 x28.f_g.Prods,SS x28.f_g.Pro,SS x28.f_g.Tail,oR eB x28.f_given,oR eNon x28.f_types,oR eS x28.f_lefts,I64 x28.f_e,I64 x28.f_at,SS x28.f_name,I64 x28.f_level,I64 x28.f_inner]),(4,.obj (eDecl_0.cells a1)),(5,.obj (eSym.cells a2)),(7,I64 x10.1)]) (c4:=fun v=>[.lit v,oR eNon x28.f_g.Nons,oR eProd_0 x28.f_g.Prods,SS x28.f_g.Pro,SS x28.f_g.Tail,oR eB x28.f_given,oR eNon x28.f_types,oR eS x28.f_lefts,I64 x28.f_e,I64 x28.f_at,SS x28.f_name,I64 x28.f_level,I64 x28.f_inner]) (G5:=[(112,.tup []),(0,.obj [oR eTok j12.f_g.Toks,oR eNon x28.f_g.Nons,oR eProd_0 x28.f_g.Prods,SS x28.f_g.Pro,SS x28.f_g.Tail,oR eB x28.f_given,oR eNon x28.f_types,oR eS x28.f_lefts,I64 x28.f_e,I64 x28.f_at,SS x28.f_name,I64 x28.f_level,I64 x28.f_inner]),(4,.obj (eDecl_0.cells a1)),(5,.obj (eSym.cells a2)),(7,I64 x10.1)]) (A:=[(8,.ptr ⟨0,[0]⟩ (x10.1.toNat * eTok.z+0))]) q q q q (fun v=>(.b q (.n q q (.n q q (.n q q (.p q q q q q q (.n q q (.n q q .nil)))))))) (fun v=>CallOk.ln (G2:=[(4,.obj (eDecl_0.cells a1)),(5,.obj (eSym.cells a2)),(7,I64 x10.1)]) (A:=[]) (ys:=[.ptr ⟨0,[]⟩ 0,I64 a2.At,SS a2.Name]) (args:=[.obj [.lit v,oR eNon j12.f_g.Nons,oR eProd_0 j12.f_g.Prods,SS j12.f_g.Pro,SS j12.f_g.Tail,oR eB j12.f_given,oR eNon j12.f_types,oR eS j12.f_lefts,I64 j12.f_e,I64 j12.f_at,SS j12.f_name,I64 j12.f_level,I64 j12.f_inner],I64 a2.At,SS a2.Name]) (cs':=[.lit v,oR eNon x28.f_g.Nons,oR eProd_0 x28.f_g.Prods,SS x28.f_g.Pro,SS x28.f_g.Tail,oR eB x28.f_given,oR eNon x28.f_types,oR eS x28.f_lefts,I64 x28.f_e,I64 x28.f_at,SS x28.f_name,I64 x28.f_level,I64 x28.f_inner]) (k0:=0) q q q q (.b q (.n q (.n q .nil))) q (conq108_0 v j12 a2.At a2.Name _ hx28) call108 (tn3 q q q) q q (tn3 q q q) .nil q) (fun v=>q) (fun v=>q) (fun v=>q) (fun v=>(.n q q (.b q (.n q q (.n q q (.n q q .nil)))))) q (.c (en:=eTok) (L:=j12.f_g.Toks) q q hx18 q q q .nil))<|Fi (.n q (.n q (.n q (.n q (.r q (RK.el (en:=eTok) q hx18 q) npPtr .nil)))))) ?_
      exact sm h ▸ Px.jn (.n q (.n q (.n q (.n q (.r q (RK.el (en:=eTok) q hx18 q) npPtr .nil)))))
     ·exact W.sk<|sm h ▸ Px.jn (.n q (.n q (.n q (.n q (.r q (RK.el (en:=eTok) q hx18 q) npPtr .nil)))))
    refine bd h fun x29 hx29 h=>Px.sq<|W.rs [(0,_),(4,_),(5,_),(7,_),(8,.ptr ⟨0,[0]⟩ (x10.1.toNat * eTok.z+0))] (Rv (O.mv .z5)<|Rv O.y1<|Rv O.y3<|Rv (O.nlP .z5)<|Rv (O.fE (en:=eTok) q .z5 fd110_2 hx29 q q)<|RunL.ef (G2:=[(0,.obj [oR eTok (j26.f_g.Toks.set x10.1.toNat (⟨x29.Name,x29.Lit,a2.Num,x29.Level,x29.Assoc,x29.Tag⟩:Tok)),oR eNon j26.f_g.Nons,oR eProd_0 j26.f_g.Prods,SS j26.f_g.Pro,SS j26.f_g.Tail,oR eB j26.f_given,oR eNon j26.f_types,oR eS j26.f_lefts,I64 j26.f_e,I64 j26.f_at,SS j26.f_name,I64 j26.f_level,I64 j26.f_inner]),(4,.obj (eDecl_0.cells a1)),(5,.obj (eSym.cells a2)),(7,I64 x10.1),(8,.ptr ⟨0,[0]⟩ (x10.1.toNat * eTok.z+0))]) q (EO.stE (en:=eTok) (y2:=(⟨x29.Name,x29.Lit,a2.Num,x29.Level,x29.Assoc,x29.Tag⟩:Tok)) (cs':=[I64 a2.Num]) (x2:=.obj [oR eTok (j26.f_g.Toks.set x10.1.toNat (⟨x29.Name,x29.Lit,a2.Num,x29.Level,x29.Assoc,x29.Tag⟩:Tok)),oR eNon j26.f_g.Nons,oR eProd_0 j26.f_g.Prods,SS j26.f_g.Pro,SS j26.f_g.Tail,oR eB j26.f_given,oR eNon j26.f_types,oR eS j26.f_lefts,I64 j26.f_e,I64 j26.f_at,SS j26.f_name,I64 j26.f_level,I64 j26.f_inner]) q q (.ptr q) (.lit q) q hx29 sz3 q q q q q q q (.b q (.n q q (.n q q (.n q q (.e q q (.mk (en:=eTok) q hx29 q (idx_set_same hx29) q) q .nil))))))<|Fi (.n q (.n q (.n q (.n q (.r q (RK.el (en:=eTok) q (idx_set_same hx29) q) npPtr .nil)))))) ?_
    refine bd h fun x30 hx30 h=>W.rx [(0,_),(4,_),(5,_),(8,.ptr ⟨0,[0]⟩ (x10.1.toNat * eTok.z+0))] (Rv (O.mv .z4)<|Rv (O.nlP .z5)<|Rv O.y2<|Rv (O.y5 (y:=.brw eB.z ⟨0,[5]⟩ j26.f_given.length))<|Vm q<|Rv (O.ixO (en:=eB) q .z6 .z1 sl204 hx30 q)<|RunL.ef (G2:=[(0,.obj [oR eTok (j26.f_g.Toks.set x10.1.toNat (⟨x29.Name,x29.Lit,a2.Num,x29.Level,x29.Assoc,x29.Tag⟩:Tok)),oR eNon j26.f_g.Nons,oR eProd_0 j26.f_g.Prods,SS j26.f_g.Pro,SS j26.f_g.Tail,oR eB (j26.f_given.set x10.1.toNat true),oR eNon j26.f_types,oR eS j26.f_lefts,I64 j26.f_e,I64 j26.f_at,SS j26.f_name,I64 j26.f_level,I64 j26.f_inner]),(4,.obj (eDecl_0.cells a1)),(5,.obj (eSym.cells a2)),(8,.ptr ⟨0,[0]⟩ (x10.1.toNat * eTok.z+0))]) q (EO.stE (en:=eB) (y2:=true) (cs':=[BB true]) (x2:=.obj [oR eTok (j26.f_g.Toks.set x10.1.toNat (⟨x29.Name,x29.Lit,a2.Num,x29.Level,x29.Assoc,x29.Tag⟩:Tok)),oR eNon j26.f_g.Nons,oR eProd_0 j26.f_g.Prods,SS j26.f_g.Pro,SS j26.f_g.Tail,oR eB (j26.f_given.set x10.1.toNat true),oR eNon j26.f_types,oR eS j26.f_lefts,I64 j26.f_e,I64 j26.f_at,SS j26.f_name,I64 j26.f_level,I64 j26.f_inner]) q q (.ptr q) (.k q) q hx30 sz4 q q q q q q q (.b q (.n q q (.n q q (.e q q (.mk (en:=eTok) q (idx_set_same hx29) q (idx_set_same hx29) q) q .nil)))))<|Fi (.n q (.n q (.n q (.r q (RK.el (en:=eTok) q (idx_set_same hx29) q) npPtr .nil))))) ?_
    exact sm h ▸ Px.jn (.n q (.n q (.n q (.r q (RK.el (en:=eTok) q (idx_set_same hx29) q) npPtr .nil))))
   ·exact W.sk<|sm h ▸ Px.jn (.n q (.n q (.n q (.r q (RK.el (en:=eTok) q hx18 q) npPtr .nil))))
  refine bd h fun x31 hx31 h=>Px.sq<|W.rs [(0,_),(4,_),(5,_),(8,.ptr ⟨0,[0]⟩ (x10.1.toNat * eTok.z+0)),(126,_)] (Rv O.y1<|Rv O.y3<|Rv (O.neS .z1 .z8)<|Fi (.n q (.n q (.n q (.r q (RK.el (en:=eTok) q hx31 q) npPtr (.n q .nil)))))) ?_
  refine bd h fun j32 hj h=>W.jq [0] [(0,.obj (eyuccaref9_maker_r.cells j32))] ?_ ?_
  ·clear h; have h:=hj; clear hj
   refine W.ch h q (fun hb33 h=>?_) (fun hb33 h=>?_)
   ·refine W.sq'<|W.sq'<|bd h fun c35 hj h=>W.rd [[],[0],[0,1],[0,1,2],[0,1,2,3],rn 0 5 [],rn 0 6 [],rn 0 7 [],rn 0 8 [],rn 0 9 [],rn 0 6 [],rn 0 6 [10],rn 0 12 [],rn 0 13 []] [(0,.obj (eyuccaref9_maker_r.cells j19)),(4,.obj (eDecl_0.cells a1)),(5,.obj (eSym.cells a2)),(8,.ptr ⟨0,[0]⟩ (x10.1.toNat * eTok.z+0)),(140,BB c35)] mixo (by kernel_rfl) ?_ ?_
    ·refine Dv 0 (O.mv .z5)<|Dv 1 (O.nlP .z5)<|Dv 2 (O.fE (en:=eTok) q .z5 fd110_5 hx31 q q)<|Dv 3 (O.ldE (en:=eTok) (x':=SS x31.Tag) q .z5 ct9 hx31 q q)<|Dv 4 (O.neS .z1 .z8)<|Dv 5 (O.mv (.lit q)) ?_
     rcases cnd hj with ⟨hb34,hj⟩ | ⟨hb34,hj⟩
     ·exact sm hj ▸ (DYv 6 hb34 (O.mv .z5)<|DYv 7 hb34 (O.nlP .z5)<|DYv 8 hb34 (O.fE (en:=eTok) q .z5 fd110_5 hx31 q q)<|DYv 9 hb34 (O.ldE (en:=eTok) (x':=SS x31.Tag) q .z5 ct9 hx31 q q)<|DYv 10 hb34 O.y1<|DYv 11 hb34 O.y3<|DYv 12 hb34 (O.neS .z1 .z1)<|Dv 13 (O.pkT .z1 hb34 .z1)<|DL.fin q q q (.n q (.n q (.n q (.r q (RK.el (en:=eTok) q hx31 q) npPtr (.n q .nil))))))
     ·exact sm hj ▸ (DPs 6 hb34<|DPs 7 hb34<|DPs 8 hb34<|DPs 9 hb34<|DPs 10 hb34<|DPs 11 hb34<|DPs 12 hb34<|Dv 13 (O.pkF .z1 hb34 .z8)<|DL.fin q q q (.n q (.n q (.n q (.r q (RK.el (en:=eTok) q hx31 q) npPtr (.n q .nil))))))
    refine Px.sq<|bd h fun j36 hj h=>W.jq [0,4,8] [(0,.obj (eyuccaref9_maker_r.cells j36))] ?_ ?_
    ·clear h; have h:=hj; clear hj
     refine W.ch h q (fun hb37 h=>?_) (fun hb37 h=>?_)
     ·refine bd h fun x38 hx38 h=>W.rx [(0,_),(4,_),(8,.ptr ⟨0,[0]⟩ (x10.1.toNat * eTok.z+0))] (Rv (O.mv .z4)<|Rv O.y1<|Rv O.y3<|Rv O.y1<|Rv O.y3<|RunL.ef (G2:=[(8,.ptr ⟨0,[0]⟩ (x10.1.toNat * eTok.z+0))]++[(146,.tup []),(0,.obj [oR eTok j19.f_g.Toks,oR eNon x38.f_g.Nons,oR eProd_0 x38.f_g.Prods,SS x38.f_g.Pro,SS x38.f_g.Tail,oR eB x38.f_given,oR eNon x38.f_types,oR eS x38.f_lefts,I64 x38.f_e,I64 x38.f_at,SS x38.f_name,I64 x38.f_level,I64 x38.f_inner]),(4,.obj (eDecl_0.cells a1))]) q (EO.fr (r:=0) (k0:=0) (y:=oR eTok j19.f_g.Toks) (cs5:=[oR eTok j19.f_g.Toks,oR eNon x38.f_g.Nons,oR eProd_0 x38.f_g.Prods,SS x38.f_g.Pro,SS x38.f_g.Tail,oR eB x38.f_given,oR eNon x38.f_types,oR eS x38.f_lefts,I64 x38.f_e,I64 x38.f_at,SS x38.f_name,I64 x38.f_level,I64 x38.f_inner]) (G1:=fun v=>[(0,.obj [.lit v,oR eNon j19.f_g.Nons,oR eProd_0 j19.f_g.Prods,SS j19.f_g.Pro,SS j19.f_g.Tail,oR eB j19.f_given,oR eNon j19.f_types,oR eS j19.f_lefts,I64 j19.f_e,I64 j19.f_at,SS j19.f_name,I64 j19.f_level,I64 j19.f_inner]),(4,.obj (eDecl_0.cells a1)),(141,.ptr ⟨0,[]⟩ 0),(143,I64 a2.At),(145,SS a2.Name)]) (G4:=fun v=>[(146,.tup []),(0,.obj [.lit v,oR eNon x38.f_g.Nons,oR eProd_0 x38.f_g.Prods,SS x38.f_g.Pro,SS x38.f_g.Tail,oR eB x38.f_given,oR eNon x38.f_types,oR eS x38.f_lefts,I64 x38.f_e,I64 x38.f_at,SS x38.f_name,I64 x38.f_level,I64 x38.f_inner]),(4,.obj (eDecl_0.cells a1))]) (c4:=fun v=>[.lit v,oR eNon x38.f_g.Nons,oR eProd_0 x38.f_g.Prods,SS x38.f_g.Pro,SS x38.f_g.Tail,oR eB x38.f_given,oR eNon x38.f_types,oR eS x38.f_lefts,I64 x38.f_e,I64 x38.f_at,SS x38.f_name,I64 x38.f_level,I64 x38.f_inner]) (G5:=[(146,.tup []),(0,.obj [oR eTok j19.f_g.Toks,oR eNon x38.f_g.Nons,oR eProd_0 x38.f_g.Prods,SS x38.f_g.Pro,SS x38.f_g.Tail,oR eB x38.f_given,oR eNon x38.f_types,oR eS x38.f_lefts,I64 x38.f_e,I64 x38.f_at,SS x38.f_name,I64 x38.f_level,I64 x38.f_inner]),(4,.obj (eDecl_0.cells a1))]) (A:=[(8,.ptr ⟨0,[0]⟩ (x10.1.toNat * eTok.z+0))]) q q q q (fun v=>(.b q (.n q q (.p q q q q q q (.n q q (.n q q .nil)))))) (fun v=>CallOk.ln (G2:=[(4,.obj (eDecl_0.cells a1))]) (A:=[]) (ys:=[.ptr ⟨0,[]⟩ 0,I64 a2.At,SS a2.Name]) (args:=[.obj [.lit v,oR eNon j19.f_g.Nons,oR eProd_0 j19.f_g.Prods,SS j19.f_g.Pro,SS j19.f_g.Tail,oR eB j19.f_given,oR eNon j19.f_types,oR eS j19.f_lefts,I64 j19.f_e,I64 j19.f_at,SS j19.f_name,I64 j19.f_level,I64 j19.f_inner],I64 a2.At,SS a2.Name]) (cs':=[.lit v,oR eNon x38.f_g.Nons,oR eProd_0 x38.f_g.Prods,SS x38.f_g.Pro,SS x38.f_g.Tail,oR eB x38.f_given,oR eNon x38.f_types,oR eS x38.f_lefts,I64 x38.f_e,I64 x38.f_at,SS x38.f_name,I64 x38.f_level,I64 x38.f_inner]) (k0:=0) q q q q (.b q (.n q (.n q .nil))) q (conq108_0 v j19 a2.At a2.Name _ hx38) call108 (.n q .nil) q q (.n q .nil) .nil q) (fun v=>q) (fun v=>q) (fun v=>q) (fun v=>(.n q q (.b q (.n q q .nil)))) q (.c (en:=eTok) (L:=j19.f_g.Toks) q q hx31 q q q .nil))<|Fi (.n q (.n q (.r q (RK.el (en:=eTok) q hx31 q) npPtr .nil)))) ?_
      exact sm h ▸ Px.jn (.n q (.n q (.r q (RK.el (en:=eTok) q hx31 q) npPtr .nil)))
     ·exact W.sk<|sm h ▸ Px.jn (.n q (.n q (.r q (RK.el (en:=eTok) q hx31 q) npPtr .nil)))
    refine bd h fun x39 hx39 h=>Px.sq<|W.rk [0] (Rv (O.mv .z5)<|Rv O.y1<|Rv O.y3<|Rv (O.nlP .z5)<|Rv (O.fE (en:=eTok) q .z5 fd110_5 hx39 q q)<|RunL.f' (EO.se (en:=eTok) (y2:=(⟨x39.Name,x39.Lit,x39.Num,x39.Level,x39.Assoc,a1.Tag⟩:Tok)) [0] hx39)<|Fk q) ?_
    exact sm h ▸ Px.jt
   ·exact W.sk<|sm h ▸ Px.jt
  exact sm h ▸ Px.fin (Fin.ro .nil q (ode (by kernel_rfl)) (.so q q (.no (.no .nil))) q (.inl q))
instance con107 {a0:yuccaref9_maker}{a1:Decl}{a2:Sym}{r:yuccaref9_maker}:CF Tryz.prog 107 (pf107 a0 a1 a2=some r) [.obj (eyuccaref9_maker_r.cells a0),.agg (eDecl_0.cells a1),.agg (eSym.cells a2)] [some (.obj [oR eTok r.f_g.Toks,oR eNon r.f_g.Nons,oR eProd_0 r.f_g.Prods,SS r.f_g.Pro,SS r.f_g.Tail,oR eB r.f_given,oR eNon r.f_types,oR eS r.f_lefts,I64 r.f_e,I64 r.f_at,SS r.f_name,I64 r.f_level,I64 r.f_inner]),none,none] (.tup []):=⟨con107l a0 a1 a2 _⟩
instance con110 {a0:yuccaref9_maker}{a1:ByteArray}{r:Int}:CF Tryz.prog 110 (pf110 a0 a1=some r) [.iptr ([iR eTok a0.f_g.Toks,iR eNon a0.f_g.Nons,iR eProd_0 a0.f_g.Prods,SS a0.f_g.Pro,SS a0.f_g.Tail,iR eB a0.f_given,iR eNon a0.f_types,iR eS a0.f_lefts,I64 a0.f_e,I64 a0.f_at,SS a0.f_name,I64 a0.f_level,I64 a0.f_inner]),SS a1] [none,none] (I64 r):=⟨fun h=>by unfold pf110 at h; exact Con.au (N:=⟨25,[]⟩) [0,1,4,5,12,23] (.l2 (fun (s1:Int)=>[(5,I64 s1)]) [0,1,5] 0 (fun (x3:Unit)=>[]) [] (fun (x4:Int)=>[(4,I64 x4)]) [4] .e .e .e) Tryz.func110 rfl rfl rfl rfl rfl goW⟩
instance con131 {a0:yuccaref9_maker}{a1:Sym}{r:Int × yuccaref9_maker}:CF Tryz.prog 131 (pf131 a0 a1=some r) [.obj (eyuccaref9_maker_r.cells a0),.agg (eSym.cells a1)] [some (.obj [oR eTok r.2.f_g.Toks,oR eNon r.2.f_g.Nons,oR eProd_0 r.2.f_g.Prods,SS r.2.f_g.Pro,SS r.2.f_g.Tail,oR eB r.2.f_given,oR eNon r.2.f_types,oR eS r.2.f_lefts,I64 r.2.f_e,I64 r.2.f_at,SS r.2.f_name,I64 r.2.f_level,I64 r.2.f_inner]),none] (I64 r.1):=⟨fun h=>by unfold pf131 at h; exact Con.au (N:=⟨32,[0]⟩) [0,3,4,5,6,8,17,24] .e Tryz.func131 rfl rfl rfl rfl rfl goW⟩
theorem con111l (a0:yuccaref9_maker) (a1:ByteArray) (a2:Alt) (r:yuccaref9_maker) (h:pf111 a0 a1 a2=some r):Con Tryz.prog 111 [.obj (eyuccaref9_maker_r.cells a0),SS a1,.agg (eAlt_0.cells a2)] [some (.obj [oR eTok r.f_g.Toks,oR eNon r.f_g.Nons,oR eProd_0 r.f_g.Prods,SS r.f_g.Pro,SS r.f_g.Tail,oR eB r.f_given,oR eNon r.f_types,oR eS r.f_lefts,I64 r.f_e,I64 r.f_at,SS r.f_name,I64 r.f_level,I64 r.f_inner]),none,none] (.tup []):=by
 unfold pf111 at h
 refine Con.go (N:=⟨173,[0]⟩) Tryz.func111 q q q q (W.fin ?_)
 refine W.st [(0,.obj (eyuccaref9_maker_r.cells a0)),(1,SS a1),(2,.agg (eAlt_0.cells a2))] ?_
 refine W.rq [0,1,5] (Rv (O.box (.aggF q q) q)<|Fk q) ?_
 refine W.sq'<|bd h fun x1 hx1 h=>W.rd [[],[],[0,1],[0,1,2],[],[4],rn 0 6 [],[],rn 0 8 []] [(0,_),(5,_),(6,_)] mixo (by kernel_rfl) (Dv 0 (O.mv .z4)<|Dv 1 (O.mv (.lit q))<|Dc 2 (PC.vz (ys:=[.ptr ⟨0,[]⟩ 0,SS a1]) q (.c (View.p0 q q) (.s .nil)) (CF.go hx1))<|Dv 3 (O.add .z8 .z1)<|Dv 4 O.y1<|Dv 5 O.y3<|Dv 6 (O.bu (cs:=[I64 (w64 (1+x1)),.nils,I64 (-1),SS S0,.nils,I64 a2.At]) sc80 ze80 q q q)<|Dv 7 (O.al (cs:=[I64 0,.nils,I64 0,SS S0,.nils,I64 0]) ze80 q q)<|DL.bpz 8 (EO.sva [0,5,6])<|DL.fin q q q (tn3 q q q)) ?_
 refine Px.sq<|W.sq'<|W.aq [0,5,6,7] ?_
 refine W.bk<|bd h fun x3 hl h=>W.l1 (a0,([]:List Int),S0,a2.At,0) (fun (s2:yuccaref9_maker × List Int × ByteArray × Int × Int)=>[(0,.obj (eyuccaref9_maker_r.cells s2.1)),(6,.obj [I64 (w64 (1+x1)),oR eI s2.2.1,I64 (-1),SS s2.2.2.1,.nils,I64 s2.2.2.2.1]),(7,I64 s2.2.2.2.2)]) [0,5,6,7] 0 (fun (x3:yuccaref9_maker × List Int × ByteArray × Int)=>[(0,.obj (eyuccaref9_maker_r.cells x3.1)),(6,.obj [I64 (w64 (1+x1)),oR eI x3.2.1,I64 (-1),SS x3.2.2.1,.nils,I64 x3.2.2.2])]) [0,5,6] hl (fun s2 o h=>?_) ?_
 ·clear hl
  refine W.sq'<|W.aq [0,5,6,7,21] ?_
  refine W.ch h q (fun hb5 h=>?_) (fun hb5 h=>?_)
  ·refine W.sk<|Px.sq<|W.sq'<|bd h fun j6 hj h=>W.jq [0,5,6,7] [(0,.obj (eyuccaref9_maker_r.cells j6.1)),(6,.obj [I64 (w64 (1+x1)),oR eI j6.2.1,I64 (-1),SS j6.2.2.1,.nils,I64 j6.2.2.2])] ?_ ?_
   ·clear h; have h:=hj; clear hj
    refine W.bk<|bd h fun x7 hx7 h=>W.rq [0,5,6,7,8] (Rv O.y1<|Rv (O.y5 (y:=iR ePart a2.Parts))<|Vm q<|Rv (O.y4 hx7)<|Rv (O.ldIN (cs':=ePart.cells x7) .z7 at60 q q)<|Rv (O.al (cs:=[SS S0,BB false,I64 0,I64 0,SS S0,I64 0]) ze60 q q)<|RunL.f' (EO.sva [0,5,6,7,8])<|Fk q) ?_
    refine bd h fun j8 hj h=>W.jq [0,5,6,7] [(0,.obj (eyuccaref9_maker_r.cells j8.1)),(6,.obj [I64 (w64 (1+x1)),oR eI j8.2.1,I64 (-1),SS j8.2.2.1,.nils,I64 j8.2.2.2])] ?_ ?_
    ·clear h; have h:=hj; clear hj
     refine W.bk<|W.aq [0,5,6,7,8,82] ?_
     refine bd h fun j9 hj h=>W.jq [0,5,6,7] [(0,.obj (eyuccaref9_maker_r.cells j9.1)),(6,.obj [I64 (w64 (1+x1)),oR eI j9.2.1,I64 (-1),SS j9.2.2.1,.nils,I64 j9.2.2.2])] ?_ ?_
     ·clear h; have h:=hj; clear hj
      refine W.ch h q (fun hb10 h=>?_) (fun hb10 h=>?_)
      ·refine bd h fun x11 hx11 h=>bd h fun x12 hx12 h=>W.rd [[],[0],[],[],[3],[2,3,4],[2,3,4,5],rn 0 7 [],rn 0 8 [],rn 0 9 []] [(0,_),(5,_),(6,_),(7,_)] mixo (by kernel_rfl) (Dv 0 O.y1<|Dv 1 (O.y5 (y:=.brw eI.z ⟨6,[1]⟩ s2.2.1.length))<|Dv 2 (O.mv .z4)<|Dv 3 O.y1<|Dv 4 (O.ldON (cs':=eSym.cells x7.Sym) q .z5 at56 q q)<|DL.bu 5 (G2:=(6,.obj [I64 (w64 (1+x1)),oR eI s2.2.1,I64 (-1),SS s2.2.2.1,.nils,I64 s2.2.2.2.1])::[(91,I64 x11.1),(0,.obj (eyuccaref9_maker_r.cells x11.2)),(5,.obj (eAlt_0.cells a2)),(7,I64 s2.2.2.2.2)]) (U:=[(1,87,some (.brw eI.z ⟨6,[1]⟩ s2.2.1.length)),(0,86,some (.ptr ⟨6,[]⟩ 1))]) (EffV.box (r:=6) (G1:=[(0,.obj (eyuccaref9_maker_r.cells s2.1)),(5,.obj (eAlt_0.cells a2)),(7,I64 s2.2.2.2.2),(88,.ptr ⟨0,[]⟩ 0),(90,.agg (eSym.cells x7.Sym))]) (G2:=[(91,I64 x11.1),(0,.obj (eyuccaref9_maker_r.cells x11.2)),(5,.obj (eAlt_0.cells a2)),(7,I64 s2.2.2.2.2)]) (EO.call q q (CallOk.ln (G2:=[(5,.obj (eAlt_0.cells a2)),(7,I64 s2.2.2.2.2)]) (A:=[]) (ys:=[.ptr ⟨0,[]⟩ 0,.agg (eSym.cells x7.Sym)]) (args:=[.obj (eyuccaref9_maker_r.cells s2.1),.agg (eSym.cells x7.Sym)]) (cs':=eyuccaref9_maker_r.cells x11.2) (k0:=0) q q q q (.b q (.n q .nil)) q (CF.go hx11) call131 (tn2 q q) q q (tn2 q q) .nil q)) q (.n q (.n q (.n q (.q q q q (.n q .nil))))) q q q) q q (by kernel_rfl) q q q (.c (.inl ⟨6,[1],_,_,_,_,q,by simp [rsV],q,q,Nat.le_refl _⟩) q q q q q (Gd.wanted .none) (O.ldO (y:=.brw eI.z ⟨6,[1]⟩ s2.2.1.length) q .z5 ct22 q q) (.c (.inr (.inr (.inr (.inl ⟨6,_,_,q,q,of_blt q,by simp,_,q,of_blt q⟩)))) q q q q q (Gd.wanted .none) (O.fO q .z4 fd80_1 q) .nil)) (by kernel_rfl)<|DL.vi 6 (x:=iR eI [x11.1]) (O.bs (ys:=[I64 x11.1]) eI [x11.1] sl22 q q q q q q zt3 q q) q q q q .none<|Dv 7 (O.ap (en:=eI) (r:=x12) .z6 q .z2 .i ap22 q hx12)<|Dv 8 O.y1<|DL.bpz 9 (EO.sp [0,5,6,7])<|DL.fin q q q (tn4 q q q q)) ?_
       exact sm h ▸ Px.jt
      ·refine W.aq [0,5,6,7,8,95] ?_
       refine bd h fun j13 hj h=>W.jq [0,5,6,7] [(0,.obj [oR eTok s2.1.f_g.Toks,oR eNon s2.1.f_g.Nons,oR eProd_0 j13.1,SS s2.1.f_g.Pro,SS s2.1.f_g.Tail,oR eB s2.1.f_given,oR eNon s2.1.f_types,oR eS s2.1.f_lefts,I64 s2.1.f_e,I64 s2.1.f_at,SS s2.1.f_name,I64 s2.1.f_level,I64 j13.2.1]),(6,.obj [I64 (w64 (1+x1)),oR eI j13.2.2.1,I64 (-1),SS j13.2.2.2.1,.nils,I64 j13.2.2.2.2])] ?_ ?_
       ·clear h; have h:=hj; clear hj
        refine W.ch h q (fun hb14 h=>?_) (fun hb14 h=>?_)
        ·refine W.rd [[],[0],[],[2],[0,1],[0,1,4],rn 0 6 [],rn 0 7 []] [(0,_),(5,_),(6,_),(7,_)] mixo (by kernel_rfl) (Dv 0 O.y1<|Dv 1 O.y3<|Dv 2 O.y1<|Dv 3 O.y3<|Dv 4 O.y1<|DL.bu 5 (G2:=[(0,.obj (eyuccaref9_maker_r.cells s2.1)),(5,.obj (eAlt_0.cells a2)),(6,.obj [I64 (w64 (1+x1)),oR eI s2.2.1,I64 (-1),SS x7.Code,.nils,I64 s2.2.2.2.1]),(7,I64 s2.2.2.2.2),(8,.obj (ePart.cells x7))]) (U:=[(3,105,some (I64 x7.At)),(2,104,some (.ptr ⟨8,[]⟩ 5))]) (EffOk.v (EO.eff (EO.sO (G2:=[(0,.obj (eyuccaref9_maker_r.cells s2.1)),(5,.obj (eAlt_0.cells a2)),(6,.obj [I64 (w64 (1+x1)),oR eI s2.2.1,I64 (-1),SS x7.Code,.nils,I64 s2.2.2.2.1]),(7,I64 s2.2.2.2.2),(8,.obj (ePart.cells x7))]) (cs2:=[I64 (w64 (1+x1)),oR eI s2.2.1,I64 (-1),SS x7.Code,.nils,I64 s2.2.2.2.1]) q q q (.ptr q) (.lit q) q sz9 q q q q (.n q q (.n q q (.b q (.n q q (.n q q .nil)))))))) q q (by kernel_rfl) q q q (.c (.inr (.inl ⟨_,q⟩)) q q q q q (Gd.wanted .none) (O.ldOl q .z5 ct3 q) (.c (.inr (.inr (.inr (.inl ⟨8,_,_,q,q,of_blt q,by simp,_,q,of_blt q⟩)))) q q q q q (Gd.wanted .none) (O.fO q .z4 fd60_2 q) .nil)) (by kernel_rfl)<|Dv 6 O.y1<|DL.bpz 7 (EO.sv1 [0,5,6,7])<|DL.fin q q q (tn4 q q q q)) ?_
         exact sm h ▸ Px.jt
        ·refine W.rq [0,5,6,7,8] (Rv (O.mv .z4)<|Rv (O.nlP .z5)<|Rv O.y2<|Rv O.y3<|Rv (O.add .z1 .z8)<|Rv (O.nlP .z5)<|Rv O.y2<|RunL.f' (EO.sv1 [0,5,6,7,8])<|Fk q) ?_
         refine W.sq'<|bd h fun x15 hx15 h=>bd h fun x16 hx16 h=>W.rd [[],[],[1],[1,2],[1,2,3],[1,2,3,4],[],[6],[6,7],[6,7,8],[6,7,8,9],[],[11],[11,12],[11,12,13],rn 6 9 [],[],[16],[],[],[19],[18,19,20],[],[22],rn 6 18 [],rn 6 19 [],rn 1 25 [],rn 0 27 [],rn 0 28 [],rn 0 29 [],rn 0 30 []] [(0,_),(5,_),(6,_),(7,_)] mixo (by kernel_rfl) (Dv 0 (O.mv .z4)<|Dv 1 (O.mv .z4)<|Dv 2 (O.nlP .z5)<|Dv 3 O.y2<|Dv 4 O.y2<|Dv 5 (O.y5 (y:=.brw eProd_0.z ⟨0,[2]⟩ s2.1.f_g.Prods.length))<|Dv 6 (O.mv .z4)<|Dv 7 (O.nlP .z5)<|Dv 8 O.y2<|Dv 9 (O.y5 (y:=.brw eS.z ⟨0,[7]⟩ s2.1.f_lefts.length))<|Dv 10 (O.lenO .z6 sl205)<|Dv 11 (O.mv .z4)<|Dv 12 (O.nlP .z5)<|Dv 13 O.y2<|Dv 14 O.y3<|Dv 15 (O.add .z1 .z1)<|Dv 16 O.y1<|Dv 17 O.y3<|Dv 18 (O.bs (ys:=[]) eI ([]:List Int) sl22 q q q q q q zt3 q q)<|Dv 19 O.y1<|Dv 20 (O.y5 (y:=.brw eI.z ⟨6,[1]⟩ s2.2.1.length))<|Dv 21 (O.ap (en:=eI) (r:=x15) .z3 q .z6 (.flat eI q) ap22 q hx15)<|Dv 22 O.y1<|Dv 23 O.y3<|Dv 24 (O.bu (cs:=[I64 (w64 ((s2.1.f_lefts.length:Int)+(w64 (s2.1.f_inner+1)))),.nils,I64 (-1),SS x7.Code,.brw eI.z ⟨57,[]⟩ (([]:List Int).length+s2.2.1.length),I64 x7.At]) sc80 ze80 q q q)<|Dv 25 (O.bsL (ys:=[.agg [I64 (w64 ((s2.1.f_lefts.length:Int)+(w64 (s2.1.f_inner+1)))),.nils,I64 (-1),SS x7.Code,.brw eI.z ⟨57,[]⟩ (([]:List Int).length+s2.2.1.length),I64 x7.At]]) (cs:=[I64 (w64 ((s2.1.f_lefts.length:Int)+(w64 (s2.1.f_inner+1)))),.nils,I64 (-1),SS x7.Code,.brw eI.z ⟨57,[]⟩ (([]:List Int).length+s2.2.1.length),I64 x7.At]) sl26 q q q q q zt80 q q)<|Dv 26 (O.apL' (en:=eProd_0) (M:=[(⟨w64 ((s2.1.f_lefts.length:Int)+(w64 (s2.1.f_inner+1))),([]:List Int),(-1),x7.Code,([]:List Int)++s2.2.1,x7.At⟩:Prod)]) (r:=x16) .z6 q .z3 q q q q ap26 q hx16 (noQ_spec (by kernel_rfl) (by kernel_rfl)))<|Dv 27 (O.nlP .z5)<|Dv 28 O.y2<|Dv 29 O.y2<|DL.bpz 30 (G2:=[(0,.obj [oR eTok s2.1.f_g.Toks,oR eNon s2.1.f_g.Nons,oR eProd_0 (s2.1.f_g.Prods++[(⟨w64 ((s2.1.f_lefts.length:Int)+(w64 (s2.1.f_inner+1))),([]:List Int),(-1),x7.Code,([]:List Int)++s2.2.1,x7.At⟩:Prod)]),SS s2.1.f_g.Pro,SS s2.1.f_g.Tail,oR eB s2.1.f_given,oR eNon s2.1.f_types,oR eS s2.1.f_lefts,I64 s2.1.f_e,I64 s2.1.f_at,SS s2.1.f_name,I64 s2.1.f_level,I64 (w64 (s2.1.f_inner+1))]),(5,.obj (eAlt_0.cells a2)),(6,.obj [I64 (w64 (1+x1)),oR eI s2.2.1,I64 (-1),SS s2.2.2.1,.nils,I64 s2.2.2.2.1]),(7,I64 s2.2.2.2.2)]) (EO.stP (g1:=_) (en:=eProd_0) (M:=[(⟨w64 ((s2.1.f_lefts.length:Int)+(w64 (s2.1.f_inner+1))),([]:List Int),(-1),x7.Code,([]:List Int)++s2.2.1,x7.At⟩:Prod)]) (cs2:=[oR eTok s2.1.f_g.Toks,oR eNon s2.1.f_g.Nons,oR eProd_0 (s2.1.f_g.Prods++[(⟨w64 ((s2.1.f_lefts.length:Int)+(w64 (s2.1.f_inner+1))),([]:List Int),(-1),x7.Code,([]:List Int)++s2.2.1,x7.At⟩:Prod)]),SS s2.1.f_g.Pro,SS s2.1.f_g.Tail,oR eB s2.1.f_given,oR eNon s2.1.f_types,oR eS s2.1.f_lefts,I64 s2.1.f_e,I64 s2.1.f_at,SS s2.1.f_name,I64 s2.1.f_level,I64 (w64 (s2.1.f_inner+1))]) q q (.ptr q) (.pend q) q q q (.f (.f (.f (.f (.pn q q q .ns (.f .nil)))))) (.f (.z (.f (.f (.z (hv:=Vw.pn q q) (.f .nil)))))) q q sz26 q q q q (.b q (.n q q (.n q q (.n q q .nil)))))<|DL.fin q q q (tn4 q q q q)) ?_
         refine Px.sq<|bd h fun x17 hx17 h=>W.rd [[],[0],[],[2],[2,3],[2,3,4],[2,3,4,5],rn 2 5 [],[],[8],[8,9],[8,9,10],rn 2 10 [],rn 2 11 [],rn 0 14 [],rn 0 15 [],rn 0 16 []] [(0,_),(5,_),(6,_),(7,_)] mixo (by kernel_rfl) (Dv 0 O.y1<|Dv 1 (O.y5 (y:=.brw eI.z ⟨6,[1]⟩ s2.2.1.length))<|Dv 2 (O.mv .z4)<|Dv 3 (O.nlP .z5)<|Dv 4 O.y2<|Dv 5 (O.y5 (y:=.brw eS.z ⟨0,[7]⟩ s2.1.f_lefts.length))<|Dv 6 (O.lenO .z6 sl205)<|Dv 7 (O.add .z8 .z1)<|Dv 8 (O.mv .z4)<|Dv 9 (O.nlP .z5)<|Dv 10 O.y2<|Dv 11 O.y3<|Dv 12 (O.add .z1 .z1)<|DL.vi 13 (x:=iR eI [w64 ((w64 (1000+(s2.1.f_lefts.length:Int)))+(w64 (s2.1.f_inner+1)))]) (O.bs (ys:=[I64 (w64 ((w64 (1000+(s2.1.f_lefts.length:Int)))+(w64 (s2.1.f_inner+1))))]) eI [w64 ((w64 (1000+(s2.1.f_lefts.length:Int)))+(w64 (s2.1.f_inner+1)))] sl22 q q q q q q zt3 q q) q q q q .none<|Dv 14 (O.ap (en:=eI) (r:=x17) .z6 q .z2 .i ap22 q hx17)<|Dv 15 O.y1<|DL.bpz 16 (EO.sp [0,5,6,7])<|DL.fin q q q (tn4 q q q q)) ?_
         exact sm h ▸ Px.jt
       exact sm h ▸ Px.jt
     exact Px.bk<|sm h ▸ Px.jt
    exact Px.bk<|sm h ▸ Px.jt
   refine Px.sq<|W.rk [0,5,6,7] (Vm q<|Rv (O.add .z1 .z8)<|RunL.rk [0,5,6,23] q<|RunL.au) ?_
   exact sm h ▸ Px.gt
  ·exact W.xi<|Px.sqE<|sm h ▸ Px.t1
 refine Px.bkH<|Px.sq<|W.sq'<|W.aq [0,5,6,9] ?_
 refine W.bk<|bd h fun x19 hl h=>W.l1 ((-1),0) (fun (s18:Int × Int)=>[(6,.obj [I64 (w64 (1+x1)),oR eI x3.2.1,I64 s18.1,SS x3.2.2.1,.nils,I64 x3.2.2.2]),(9,I64 s18.2)]) [0,5,6,9] 3 (fun (x19:Int)=>[(6,.obj [I64 (w64 (1+x1)),oR eI x3.2.1,I64 x19,SS x3.2.2.1,.nils,I64 x3.2.2.2])]) [0,5,6] hl (fun s18 o h=>?_) ?_
 ·clear hl
  refine W.sq'<|W.aq [0,5,6,9,112] ?_
  refine W.ch h q (fun hb21 h=>?_) (fun hb21 h=>?_)
  ·refine W.sk<|Px.sq<|W.sq'<|bd h fun j22 hj h=>W.jq [0,5,6,9] [(6,.obj [I64 (w64 (1+x1)),oR eI x3.2.1,I64 j22,SS x3.2.2.1,.nils,I64 x3.2.2.2])] ?_ ?_
   ·clear h; have h:=hj; clear hj
    refine W.bk<|bd h fun x23 hx23 h=>W.rq [0,5,6,9,120] (Rv O.y1<|Rv (O.y5 (y:=.brw eI.z ⟨6,[1]⟩ x3.2.1.length))<|Vm q<|Rv (O.ixO (en:=eI) q .z6 .z1 sl22 hx23 q)<|Rv (O.ldE (en:=eI) (x':=I64 x23) q .z5 ct3 hx23 q q)<|RunL.au) ?_
    refine bd h fun j24 hj h=>W.jq [0,5,6,9] [(6,.obj [I64 (w64 (1+x1)),oR eI x3.2.1,I64 j24,SS x3.2.2.1,.nils,I64 x3.2.2.2])] ?_ ?_
    ·clear h; have h:=hj; clear hj
     refine W.ch h q (fun hb25 h=>?_) (fun hb25 h=>?_)
     ·refine bd h fun x26 hx26 h=>W.rk [0,5,6,9] (Rv O.y1<|Rv (O.y5 (y:=.brw eI.z ⟨6,[1]⟩ x3.2.1.length))<|Vm q<|Rv (O.ixO (en:=eI) q .z6 .z1 sl22 hx26 q)<|Rv (O.ldE (en:=eI) (x':=I64 x26) q .z5 ct3 hx26 q q)<|Rv O.y1<|RunL.f' (EO.sv1 [0,5,6,9])<|Fk q) ?_
      exact sm h ▸ Px.jt
     ·exact W.sk<|sm h ▸ Px.jt
    exact Px.bk<|sm h ▸ Px.jt
   refine Px.sq<|W.rk [0,5,6,9] (Vm q<|Rv (O.add .z1 .z8)<|RunL.rk [0,5,6,114] q<|RunL.au) ?_
   exact sm h ▸ Px.gt
  ·exact W.xi<|Px.sqE<|sm h ▸ Px.t1
 refine Px.bkH<|Px.sq<|W.sq'<|W.aq [0,5,6,130] ?_
 refine bd h fun j27 hj h=>W.jq [0,6] [(0,.obj (eyuccaref9_maker_r.cells j27.1)),(6,.obj [I64 (w64 (1+x1)),oR eI x3.2.1,I64 j27.2,SS x3.2.2.1,.nils,I64 x3.2.2.2])] ?_ ?_
 ·clear h; have h:=hj; clear hj
  refine W.ch h q (fun hb28 h=>?_) (fun hb28 h=>?_)
  ·refine W.rq [0,5,6] (Rv O.y1<|RunL.f' (EO.sv1 [0,5,6])<|Fk q) ?_
   refine bd h fun c31 hj h=>W.rz [0,5,6,142] [(142,BB c31)] ?_ ?_
   ·refine Rv O.y1<|Rv O.y2<|Rv O.y3<|Rv (O.mv (.lit q)) ?_
    rcases cnd hj with ⟨hb29,hj⟩ | ⟨hb29,hj⟩
    ·exact sm hj ▸ RunL.au
    ·refine Yv hb29 (O.mv .z4)<|Yv hb29 O.y1<|Yv hb29 O.y2<|Yv hb29 O.y3 ?_
     exact bd hj fun x30 hx30 hj=>sm hj ▸ (RunL.c (PC.vz (ys:=[.ptr ⟨0,[]⟩ 0,SS a2.Prec.Name]) q (.c (View.p0 q q) (.s .nil)) (CF.go hx30)) q q (.yb q q hb29)<|RunL.au)
   refine bd h fun j32 hj h=>W.jq [0,6] [(0,.obj (eyuccaref9_maker_r.cells j32.1)),(6,.obj [I64 (w64 (1+x1)),oR eI x3.2.1,I64 j32.2,SS x3.2.2.1,.nils,I64 x3.2.2.2])] ?_ ?_
   ·clear h; have h:=hj; clear hj
    refine W.ch h q (fun hb33 h=>?_) (fun hb33 h=>?_)
    ·refine bd h fun x34 hx34 h=>W.rk [0,6] (Rv (O.mv .z4)<|Rv O.y1<|Rv (O.ldON (cs':=eSym.cells a2.Prec) q .z5 at56 q q)<|RunL.ef q (EO.call q q (CallOk.ln (G2:=[(6,.obj [I64 (w64 (1+x1)),oR eI x3.2.1,I64 (-1),SS x3.2.2.1,.nils,I64 x3.2.2.2])]) (A:=[]) (ys:=[.ptr ⟨0,[]⟩ 0,.agg (eSym.cells a2.Prec)]) (args:=[.obj (eyuccaref9_maker_r.cells x3.1),.agg (eSym.cells a2.Prec)]) (cs':=eyuccaref9_maker_r.cells x34.2) (k0:=0) q q q q (.b q (.n q .nil)) q (CF.go hx34) call131 (.n q .nil) q q (.n q .nil) .nil q))<|Rv O.y1<|RunL.f' (EO.sv1 [0,6])<|Fk q) ?_
     exact sm h ▸ Px.jt
    ·refine bd h fun x35 hx35 h=>W.rk [0,6] (Rv (O.mv .z4)<|Rv O.y1<|Rv O.y2<|Rv O.y3<|Rv O.y1<|Rv O.y2<|Rv O.y3<|RunL.ef q (EO.call q q (CallOk.ln (G2:=[(6,.obj [I64 (w64 (1+x1)),oR eI x3.2.1,I64 (-1),SS x3.2.2.1,.nils,I64 x3.2.2.2])]) (A:=[]) (ys:=[.ptr ⟨0,[]⟩ 0,I64 a2.Prec.At,SS a2.Prec.Name]) (args:=[.obj (eyuccaref9_maker_r.cells x3.1),I64 a2.Prec.At,SS a2.Prec.Name]) (cs':=eyuccaref9_maker_r.cells x35) (k0:=0) q q q q (.b q (.n q (.n q .nil))) q (CF.go hx35) call108 (.n q .nil) q q (.n q .nil) .nil q))<|Fk q) ?_
     exact sm h ▸ Px.jt
   exact sm h ▸ Px.jt
  ·exact W.sk<|sm h ▸ Px.jt
 refine Px.sq<|bd h fun x36 hx36 h=>W.rq [0,6] (Rv (O.bs (ys:=[]) eI ([]:List Int) sl22 q q q q q q zt3 q q)<|Rv O.y1<|Rv (O.y5 (y:=.brw eI.z ⟨6,[1]⟩ x3.2.1.length))<|Rv (O.ap (en:=eI) (r:=x36) .z3 q .z6 (.flat eI q) ap22 q hx36)<|Rv O.y1<|RunL.f' (EO.sp [0,6])<|Fk q) ?_
 refine W.fz (G1:=[(0,_),(6,.obj [I64 (w64 (1+x1)),iR eI x3.2.1,I64 j27.2,SS x3.2.2.1,oR eI (([]:List Int)++x3.2.1),I64 x3.2.2.2])]) [6] (.n q q (.z q q (FzL.obj (.f (.z (.f (.f (.f (.f .nil))))))) .nil)) ?_
 refine W.fz (G1:=[(0,_),(6,.obj [I64 (w64 (1+x1)),iR eI x3.2.1,I64 j27.2,SS x3.2.2.1,iR eI (([]:List Int)++x3.2.1),I64 x3.2.2.2])]) [6] (.n q q (.z q q (FzL.obj (.f (.f (.f (.f (.z (.f .nil))))))) .nil)) ?_
 refine bd h fun x37 hx37 h=>W.rd [[],[],[1],[1,2],[1,2,3],[1,2,3,4],[],[6],rn 1 7 [],rn 0 9 [],rn 0 10 [],rn 0 11 [],rn 0 12 []] [(0,_)] mixo (by kernel_rfl) (Dv 0 (O.mv .z4)<|Dv 1 (O.mv .z4)<|Dv 2 (O.nlP .z5)<|Dv 3 O.y2<|Dv 4 O.y2<|Dv 5 (O.y5 (y:=.brw eProd_0.z ⟨0,[2]⟩ j27.1.f_g.Prods.length))<|Dv 6 (O.ldON (cs':=[I64 (w64 (1+x1)),iR eI x3.2.1,I64 j27.2,SS x3.2.2.1,iR eI (([]:List Int)++x3.2.1),I64 x3.2.2.2]) q .z4 at80 q q)<|DL.vi 7 (x:=iR eProd_0 [(⟨w64 (1+x1),x3.2.1,j27.2,x3.2.2.1,([]:List Int)++x3.2.1,x3.2.2.2⟩:Prod)]) (O.bs (ys:=[.agg [I64 (w64 (1+x1)),iR eI x3.2.1,I64 j27.2,SS x3.2.2.1,iR eI (([]:List Int)++x3.2.1),I64 x3.2.2.2]]) eProd_0 [(⟨w64 (1+x1),x3.2.1,j27.2,x3.2.2.1,([]:List Int)++x3.2.1,x3.2.2.2⟩:Prod)] sl26 q q q q q q zt80 q q) q q q q .none<|Dv 8 (O.ap (en:=eProd_0) (r:=x37) .z6 q .z2 .i ap26 q hx37)<|Dv 9 (O.nlP .z5)<|Dv 10 O.y2<|Dv 11 O.y2<|DL.bpz 12 (EO.sp [0])<|DL.fin q q q (.n q .nil)) ?_
 exact sm h ▸ Px.fin (Fin.ro .nil q (ode (by kernel_rfl)) (.so q q (.no (.no .nil))) q (.inl q))
instance con111 {a0:yuccaref9_maker}{a1:ByteArray}{a2:Alt}{r:yuccaref9_maker}:CF Tryz.prog 111 (pf111 a0 a1 a2=some r) [.obj (eyuccaref9_maker_r.cells a0),SS a1,.agg (eAlt_0.cells a2)] [some (.obj [oR eTok r.f_g.Toks,oR eNon r.f_g.Nons,oR eProd_0 r.f_g.Prods,SS r.f_g.Pro,SS r.f_g.Tail,oR eB r.f_given,oR eNon r.f_types,oR eS r.f_lefts,I64 r.f_e,I64 r.f_at,SS r.f_name,I64 r.f_level,I64 r.f_inner]),none,none] (.tup []):=⟨con111l a0 a1 a2 _⟩
instance con113 {a0:Int}{r:ByteArray}:CF Tryz.prog 113 (pf113 a0=some r) [I64 a0] [none] (SS r):=⟨fun h=>by unfold pf113 at h; exact Con.au (N:=⟨32,[]⟩) [0,2,3,4,8,16,28] (.jn [0,3] (fun (j1:Int)=>[(3,.lit (.int .u64 j1))]) .e (.lp (fun (s3:Int × ByteArray)=>[(3,.lit (.int .u64 s3.1)),(4,SS s3.2)]) [0,3,4] 0 (fun (x4:ByteArray)=>[(4,SS x4)]) [0,4] (.rj 5 [0,3,4,16] (fun (c7:Bool)=>[(16,BB c7)]) .e) .e)) Tryz.func113 rfl rfl rfl rfl rfl goW⟩
theorem con79l (a0:Source) (r:Grammar × Int × Int × ByteArray) (h:pf79 a0=some r):Con Tryz.prog 79 [.agg (eSource_0.cells a0)] [none] (.tup [.agg (eGrammar_0.cells r.1),I64 r.2.1,I64 r.2.2.1,SS r.2.2.2]):=by
 unfold pf79 at h
 refine Con.go (N:=⟨435,[]⟩) Tryz.func79 q q q q (W.fin ?_)
 refine W.st [(0,.agg (eSource_0.cells a0))] ?_
 refine W.rq [1,2] (Rv (O.box (.aggF q q) q)<|Rv (O.al (cs:=[.nils,.nils,.nils,SS S0,SS S0]) ze28 q q)<|RunL.au) ?_
 refine W.sq'<|bd h fun x1 hx1 h=>W.rq [1,2,28] (Rv (O.ldON (cs':=eSource_0.cells a0) q .z4 at70 q q)<|Rc (PC.gz (.cc (.aggF q q) .nil) (CF.go hx1))<|RunL.au) ?_
 refine W.ch h q (fun hb2 h=>?_) (fun hb2 h=>?_)
 ·refine W.rq [2,3,4,5] (Rv (O.bu (cs:=[.nils,.nils,.nils,SS S0,SS S0]) sc28 ze28 q q q)<|RunL.f' (EO.sva [2])<|RunL.au) ?_
  refine W.fz (G1:=[(2,.obj [iR eTok ([]:List Tok),iR eNon ([]:List Non),iR eProd_0 ([]:List Prod),SS S0,SS S0]),(3,_),(4,_),(5,_)]) [2] (.z q q (FzL.obj (.z (.z (.z (.f (.f .nil)))))) (.n q q (.n q q (.n q q .nil)))) ?_
  exact W.rt<|Px.sqR<|sm h ▸ Pr (.c (ys0:=[iR eTok ([]:List Tok),iR eNon ([]:List Non),iR eProd_0 ([]:List Prod),SS S0,SS S0]) q at28 q q q (.f q (.f q (.f q (.f q (.f q .nil))))) (.f q q (.f q q (.f q q .nil))))
 ·refine W.sk<|Px.sq<|bd h fun x3 hx3 h=>W.rq [1,2,6] (Rv (O.mk (en:=eB) (z0:=false) sl204 .z8 .z8 ze4 q q hx3 bb4 q)<|Rv (O.bu (cs:=[.nils,.nils,.nils,SS S0,SS S0,.brw eB.z ⟨30,[]⟩ x3.length,.nils,.nils,I64 0,I64 0,SS S0,I64 0,I64 0]) sc207 ze207 q q q)<|Rv (O.box (.aggF q q) q)<|RunL.ea (G2:=[(1,.obj (eSource_0.cells a0)),(2,.obj [.nils,.nils,.nils,SS S0,SS S0])]) q (EO.aG (y':=.obj [.nils,.nils,.nils,SS S0,SS S0,oR eB x3,.nils,.nils,I64 0,I64 0,SS S0,I64 0,I64 0]) q q (.obj q) (.b q (.f (.f (.f (.f (.f (.r q (.f (.f (.f (.f (.f (.f (.f .nil))))))))))))) .nil) .refl (tn2 q q) q q)<|Fk q) ?_
  refine W.rq [1,2,6] (Rv (O.mv .z4)<|Rv (O.bu (cs:=[SS ({ data:=#[36,101,110,100] }),BB false,I64 0,I64 0,I64 0,SS S0]) sc110 ze110 q q q)<|Rv (O.bu (cs:=[SS ({ data:=#[101,114,114,111,114] }),BB false,I64 (-1),I64 0,I64 0,SS S0]) sc110 ze110 q q q)<|Rv (O.bu (cs:=[SS ({ data:=#[36,117,110,107] }),BB false,I64 (-1),I64 0,I64 0,SS S0]) sc110 ze110 q q q)<|Rv (O.bs (ys:=[.agg [SS ({ data:=#[36,101,110,100] }),BB false,I64 0,I64 0,I64 0,SS S0],.agg [SS ({ data:=#[101,114,114,111,114] }),BB false,I64 (-1),I64 0,I64 0,SS S0],.agg [SS ({ data:=#[36,117,110,107] }),BB false,I64 (-1),I64 0,I64 0,SS S0]]) eTok [(⟨{ data:=#[36,101,110,100] },false,0,0,0,S0⟩:Tok),(⟨{ data:=#[101,114,114,111,114] },false,(-1),0,0,S0⟩:Tok),(⟨{ data:=#[36,117,110,107] },false,(-1),0,0,S0⟩:Tok)] sl24 q q q q q q zt110 q q)<|Rv (O.nlP .z5)<|Rv O.y2<|Rv O.y2<|RunL.f' (EO.sw [1,2,6])<|Fk q) ?_
  refine W.aq [1,2,6,7] ?_
  refine W.sq'<|W.aq [1,2,6,7,8] ?_
  refine W.bk<|bd h fun x5 hl h=>W.l1 ((⟨(⟨[(⟨{ data:=#[36,101,110,100] },false,0,0,0,S0⟩:Tok),(⟨{ data:=#[101,114,114,111,114] },false,(-1),0,0,S0⟩:Tok),(⟨{ data:=#[36,117,110,107] },false,(-1),0,0,S0⟩:Tok)],[],[],S0,S0⟩:Grammar),x3,[],[],0,0,S0,0,0⟩:yuccaref9_maker),S0,0) (fun (s4:yuccaref9_maker × ByteArray × Int)=>[(6,.obj (eyuccaref9_maker_r.cells s4.1)),(7,SS s4.2.1),(8,I64 s4.2.2)]) [1,2,6,7,8] 0 (fun (x5:yuccaref9_maker × ByteArray)=>[(6,.obj (eyuccaref9_maker_r.cells x5.1)),(7,SS x5.2)]) [1,2,6,7] hl (fun s4 o h=>?_) ?_
  ·clear hl
   refine W.sq'<|W.aq [1,2,6,7,8,45] ?_
   refine W.ch h q (fun hb7 h=>?_) (fun hb7 h=>?_)
   ·refine W.sk<|Px.sq<|W.sq'<|W.bk<|bd h fun x8 hx8 h=>W.rq [1,2,6,7,8,9] (Rv O.y1<|Rv (O.y5 (y:=iR eDecl_0 a0.Decls))<|Vm q<|Rv (O.y4 hx8)<|Rv (O.ldIN (cs':=eDecl_0.cells x8) .z7 at210 q q)<|Rv (O.al (cs:=[I64 0,SS S0,.nils,I64 0]) ze210 q q)<|RunL.f' (EO.sva [1,2,6,7,8,9])<|Fk q) ?_
    refine W.sq'<|bd h fun c10 hj h=>W.rz [1,2,6,7,8,9,60] [(60,BB c10)] ?_ ?_
    ·refine Rv O.y1<|Rv O.y3<|Rv (O.geq .z1 .z8)<|Rv (O.mv (.lit q)) ?_
     rcases cnd hj with ⟨hb9,hj⟩ | ⟨hb9,hj⟩
     ·exact sm hj ▸ RunL.au
     ·exact sm hj ▸ RunL.au
    refine bd h fun j11 hj h=>W.jq [1,2,6,7,8,9] [(6,.obj [oR eTok s4.1.f_g.Toks,oR eNon s4.1.f_g.Nons,oR eProd_0 s4.1.f_g.Prods,SS s4.1.f_g.Pro,SS s4.1.f_g.Tail,oR eB s4.1.f_given,oR eNon s4.1.f_types,oR eS s4.1.f_lefts,I64 s4.1.f_e,I64 s4.1.f_at,SS s4.1.f_name,I64 j11,I64 s4.1.f_inner])] ?_ ?_
    ·clear h; have h:=hj; clear hj
     refine W.ch h q (fun hb12 h=>?_) (fun hb12 h=>?_)
     ·refine W.rk [1,2,6,7,8,9] (Rv (O.mv .z4)<|Rv (O.nlP .z5)<|Rv O.y2<|Rv O.y3<|Rv (O.add .z1 .z8)<|Rv (O.nlP .z5)<|Rv O.y2<|RunL.f' (EO.sv1 [1,2,6,7,8,9])<|Fk q) ?_
      exact sm h ▸ Px.jt
     ·exact W.sk<|sm h ▸ Px.jt
    refine Px.sq<|W.aq [1,2,6,7,8,9,10] ?_
    refine W.bk<|bd h fun x14 hl h=>W.l1 ((⟨s4.1.f_g,s4.1.f_given,s4.1.f_types,s4.1.f_lefts,s4.1.f_e,s4.1.f_at,s4.1.f_name,j11,s4.1.f_inner⟩:yuccaref9_maker),s4.2.1,0) (fun (s13:yuccaref9_maker × ByteArray × Int)=>[(6,.obj (eyuccaref9_maker_r.cells s13.1)),(7,SS s13.2.1),(10,I64 s13.2.2)]) [1,2,6,7,8,9,10] 2 (fun (x14:yuccaref9_maker × ByteArray)=>[(6,.obj (eyuccaref9_maker_r.cells x14.1)),(7,SS x14.2)]) [1,2,6,7,8] hl (fun s13 o h=>?_) ?_
    ·clear hl
     refine W.sq'<|W.aq [1,2,6,7,8,9,10,72] ?_
     refine W.ch h q (fun hb16 h=>?_) (fun hb16 h=>?_)
     ·refine W.sk<|Px.sq<|W.sq'<|bd h fun j17 hj h=>W.jq [1,2,6,7,8,9,10] [(6,.obj (eyuccaref9_maker_r.cells j17.1)),(7,SS j17.2)] ?_ ?_
      ·clear h; have h:=hj; clear hj
       refine W.bk<|W.sq'<|W.aq [1,2,6,7,8,9,10,77] ?_
       refine W.ch h q (fun hb18 h=>?_) (fun hb18 h=>?_)
       ·refine W.sq'<|bd h fun x19 hx19 h=>bd h fun x20 hx20 h=>W.rd [[],[],[],[2],[],[2,3,4],[2,3,4,5],rn 0 7 []] [(1,_),(2,_),(6,_),(7,_),(8,_),(9,_),(10,_)] mixo (by kernel_rfl) (Dv 0 (O.mv .z4)<|Dv 1 (O.ldON (cs':=eDecl_0.cells x8) q .z4 at210 q q)<|Dv 2 O.y1<|Dv 3 (O.y5 (y:=iR eSym x8.Syms))<|Dv 4 (O.mv (.lit q))<|Dv 5 (O.y4 hx19)<|Dv 6 (O.ldIN (cs':=eSym.cells x19) .z7 at56 q q)<|DL.bpz 7 (G2:=[(85,.tup []),(6,.obj (eyuccaref9_maker_r.cells x20)),(1,.obj (eSource_0.cells a0)),(2,.obj [.nils,.nils,.nils,SS S0,SS S0]),(7,SS s13.2.1),(8,I64 s4.2.2),(9,.obj (eDecl_0.cells x8)),(10,I64 s13.2.2)]) (EO.call q q (CallOk.ln (G2:=[(1,.obj (eSource_0.cells a0)),(2,.obj [.nils,.nils,.nils,SS S0,SS S0]),(7,SS s13.2.1),(8,I64 s4.2.2),(9,.obj (eDecl_0.cells x8)),(10,I64 s13.2.2)]) (A:=[]) (ys:=[.ptr ⟨6,[]⟩ 0,.agg (eDecl_0.cells x8),.agg (eSym.cells x19)]) (args:=[.obj (eyuccaref9_maker_r.cells s13.1),.agg (eDecl_0.cells x8),.agg (eSym.cells x19)]) (cs':=eyuccaref9_maker_r.cells x20) (k0:=0) q q q q (.b q (.n q (.n q .nil))) q (CF.go hx20) call107 (tn6 q q q q q q) q q (tn6 q q q q q q) .nil q))<|DL.fin q q q (tn7 q q q q q q q)) ?_
        exact Px.sq<|W.xi<|Px.sqE<|Px.bkH<|sm h ▸ Px.jt
       ·refine W.sk<|Px.sq<|W.sq'<|W.aq [1,2,6,8,9,10,87] ?_
        refine bd h fun j21 hj h=>W.jq [1,2,6,8,9,10] [(6,.obj (eyuccaref9_maker_r.cells j21))] ?_ ?_
        ·clear h; have h:=hj; clear hj
         refine W.ch h q (fun hb22 h=>?_) (fun hb22 h=>?_)
         ·refine bd h fun x23 hx23 h=>bd h fun x24 hx24 h=>bd h fun x25 hx25 h=>W.rd [[],[],[1],[],[1,2,3],[1,2,3,4],rn 1 5 [],[],[7],[],[7,8,9],[7,8,9,10],rn 7 5 [],rn 0 13 []] [(1,_),(2,_),(6,_),(8,_),(9,_),(10,_)] mixo (by kernel_rfl) (Dv 0 (O.mv .z4)<|Dv 1 O.y1<|Dv 2 (O.y5 (y:=iR eSym x8.Syms))<|Dv 3 (O.mv (.lit q))<|Dv 4 (O.y4 hx23)<|Dv 5 O.y8<|Dv 6 (O.y6 (x:=I64 x23.At))<|Dv 7 O.y1<|Dv 8 (O.y5 (y:=iR eSym x8.Syms))<|Dv 9 (O.mv (.lit q))<|Dv 10 (O.y4 hx24)<|Dv 11 O.y8<|Dv 12 (O.y6 (x:=SS x24.Name))<|DL.bpz 13 (G2:=[(101,.tup []),(6,.obj (eyuccaref9_maker_r.cells x25)),(1,.obj (eSource_0.cells a0)),(2,.obj [.nils,.nils,.nils,SS S0,SS S0]),(8,I64 s4.2.2),(9,.obj (eDecl_0.cells x8)),(10,I64 s13.2.2)]) (EO.call q q (CallOk.ln (G2:=[(1,.obj (eSource_0.cells a0)),(2,.obj [.nils,.nils,.nils,SS S0,SS S0]),(8,I64 s4.2.2),(9,.obj (eDecl_0.cells x8)),(10,I64 s13.2.2)]) (A:=[]) (ys:=[.ptr ⟨6,[]⟩ 0,I64 x23.At,SS x24.Name]) (args:=[.obj (eyuccaref9_maker_r.cells s13.1),I64 x23.At,SS x24.Name]) (cs':=eyuccaref9_maker_r.cells x25) (k0:=0) q q q q (.b q (.n q (.n q .nil))) q (CF.go hx25) call108 (tn5 q q q q q) q q (tn5 q q q q q) .nil q))<|DL.fin q q q (tn6 q q q q q q)) ?_
          exact sm h ▸ Px.jt
         ·exact W.sk<|sm h ▸ Px.jt
        refine Px.sq<|bd h fun x26 hx26 h=>W.ak [1,2,6,7,8,9,10] ?_
        exact Px.bk<|sm h ▸ Px.jt
      refine Px.sq<|W.rk [1,2,6,7,8,9,10] (Vm q<|Rv (O.add .z1 .z8)<|RunL.rk [1,2,6,7,8,9,74] q<|RunL.au) ?_
      exact sm h ▸ Px.gt
     ·exact W.xi<|Px.sqE<|sm h ▸ Px.t1
    refine Px.bkH<|Px.bk<|Px.sq<|W.rk [1,2,6,7,8] (Vm q<|Rv (O.add .z1 .z8)<|RunL.rk [1,2,6,7,47] q<|RunL.au) ?_
    exact sm h ▸ Px.gt
   ·exact W.xi<|Px.sqE<|sm h ▸ Px.t1
  refine Px.bkH<|Px.sq<|W.sq'<|W.aq [1,2,6,7,11] ?_
  refine W.bk<|bd h fun x28 hl h=>W.l1 (x5.1,0) (fun (s27:yuccaref9_maker × Int)=>[(6,.obj (eyuccaref9_maker_r.cells s27.1)),(11,I64 s27.2)]) [1,2,6,7,11] 4 (fun (x28:yuccaref9_maker)=>[(6,.obj (eyuccaref9_maker_r.cells x28))]) [1,2,6,7] hl (fun s27 o h=>?_) ?_
  ·clear hl
   refine W.sq'<|W.aq [1,2,6,7,11,112] ?_
   refine W.ch h q (fun hb30 h=>?_) (fun hb30 h=>?_)
   ·refine W.sk<|Px.sq<|W.sq'<|bd h fun j31 hj h=>W.jq [1,2,6,7,11] [(6,.obj (eyuccaref9_maker_r.cells j31))] ?_ ?_
    ·clear h; have h:=hj; clear hj
     refine W.bk<|bd h fun x32 hx32 h=>W.rq [1,2,6,7,11,12] (Rv O.y1<|Rv (O.y5 (y:=iR eRule_0 a0.Rules))<|Vm q<|Rv (O.y4 hx32)<|Rv (O.ldIN (cs':=eRule_0.cells x32) .z7 at64 q q)<|Rv (O.al (cs:=[SS S0,.nils,I64 0]) ze64 q q)<|RunL.f' (EO.sva [1,2,6,7,11,12])<|Fk q) ?_
     refine W.sq'<|bd h fun x33 hx33 h=>W.rq [1,2,6,7,11,12,125] (Rv (O.mv .z4)<|Rv O.y1<|Rv O.y3<|Rv (O.bu (cs:=[SS x32.Left,BB false,I64 0,I64 0]) sc56 ze56 q q q)<|Rc (PC.vz (ys:=[.ptr ⟨6,[]⟩ 0,.agg [SS x32.Left,BB false,I64 0,I64 0]]) q (.c (View.p0 q q) (.c (.ag (.s (.s (.s (.s .nil))))) .nil)) (CF.go hx33))<|RunL.au) ?_
     refine bd h fun j34 hj h=>W.jq [1,2,6,7,11,12] [(6,.obj (eyuccaref9_maker_r.cells j34))] ?_ ?_
     ·clear h; have h:=hj; clear hj
      refine W.ch h q (fun hb35 h=>?_) (fun hb35 h=>?_)
      ·refine bd h fun x36 hx36 h=>W.rk [1,2,6,7,11,12] (Rv (O.mv .z4)<|Rv O.y1<|Rv O.y3<|Rv O.y1<|Rv O.y3<|RunL.ef q (EO.call q q (CallOk.ln (G2:=[(1,.obj (eSource_0.cells a0)),(2,.obj [.nils,.nils,.nils,SS S0,SS S0]),(7,SS x5.2),(11,I64 s27.2),(12,.obj (eRule_0.cells x32))]) (A:=[]) (ys:=[.ptr ⟨6,[]⟩ 0,I64 x32.At,SS x32.Left]) (args:=[.obj (eyuccaref9_maker_r.cells s27.1),I64 x32.At,SS x32.Left]) (cs':=eyuccaref9_maker_r.cells x36) (k0:=0) q q q q (.b q (.n q (.n q .nil))) q (CF.go hx36) call108 (tn5 q q q q q) q q (tn5 q q q q q) .nil q))<|Fk q) ?_
       exact sm h ▸ Px.jt
      ·exact W.sk<|sm h ▸ Px.jt
     refine Px.sq<|bd h fun x37 hx37 h=>W.rq [1,2,6,7,11,12,136] (Rv (O.mv .z4)<|Rv O.y1<|Rv O.y3<|Rc (PC.vz (ys:=[.ptr ⟨6,[]⟩ 0,SS x32.Left]) q (.c (View.p0 q q) (.s .nil)) (CF.go hx37))<|RunL.au) ?_
     refine bd h fun j38 hj h=>W.jq [1,2,6,7,11] [(6,.obj [oR eTok j34.f_g.Toks,oR eNon j34.f_g.Nons,oR eProd_0 j34.f_g.Prods,SS j34.f_g.Pro,SS j34.f_g.Tail,oR eB j34.f_given,oR eNon j34.f_types,oR eS j38,I64 j34.f_e,I64 j34.f_at,SS j34.f_name,I64 j34.f_level,I64 j34.f_inner])] ?_ ?_
     ·clear h; have h:=hj; clear hj
      refine W.ch h q (fun hb39 h=>?_) (fun hb39 h=>?_)
      ·refine bd h fun x40 hx40 h=>W.rd [[],[],[1],[1,2],[1,2,3],[],[5],[5,6],rn 1 7 [],rn 0 9 [],rn 0 10 [],rn 0 11 []] [(1,_),(2,_),(6,_),(7,_),(11,_)] mixo (by kernel_rfl) (Dv 0 (O.mv .z4)<|Dv 1 (O.mv .z4)<|Dv 2 (O.nlP .z5)<|Dv 3 O.y2<|Dv 4 (O.y5 (y:=.brw eS.z ⟨6,[7]⟩ j34.f_lefts.length))<|Dv 5 O.y1<|Dv 6 O.y3<|DL.vi 7 (x:=iR eS [x32.Left]) (O.bs (ys:=[SS x32.Left]) eS [x32.Left] sl205 q q q q q q zt9 q q) q q q q .none<|Dv 8 (O.ap (en:=eS) (r:=x40) .z6 q .z2 .i ap205 q hx40)<|Dv 9 (O.nlP .z5)<|Dv 10 O.y2<|DL.bpz 11 (EO.sp [1,2,6,7,11])<|DL.fin q q q (tn5 q q q q q)) ?_
       exact sm h ▸ Px.jt
      ·exact W.sk<|sm h ▸ Px.jt
     exact Px.bk<|sm h ▸ Px.jt
    refine Px.sq<|W.rk [1,2,6,7,11] (Vm q<|Rv (O.add .z1 .z8)<|RunL.rk [1,2,6,7,114] q<|RunL.au) ?_
    exact sm h ▸ Px.gt
   ·exact W.xi<|Px.sqE<|sm h ▸ Px.t1
  refine Px.bkH<|Px.sq<|W.sq'<|W.aq [1,2,6,7,13] ?_
  refine W.bk<|bd h fun x42 hl h=>W.l1 (x28,0) (fun (s41:yuccaref9_maker × Int)=>[(6,.obj (eyuccaref9_maker_r.cells s41.1)),(13,I64 s41.2)]) [1,2,6,7,13] 6 (fun (x42:yuccaref9_maker)=>[(6,.obj (eyuccaref9_maker_r.cells x42))]) [1,2,6,7] hl (fun s41 o h=>?_) ?_
  ·clear hl
   refine W.sq'<|W.aq [1,2,6,7,13,152] ?_
   refine W.ch h q (fun hb44 h=>?_) (fun hb44 h=>?_)
   ·refine W.sk<|Px.sq<|W.sq'<|W.bk<|W.aq [1,2,6,7,13,14] ?_
    refine W.bk<|bd h fun x46 hl h=>W.l1 (s41.1,0) (fun (s45:yuccaref9_maker × Int)=>[(6,.obj (eyuccaref9_maker_r.cells s45.1)),(14,I64 s45.2)]) [1,2,6,7,13,14] 8 (fun (x46:yuccaref9_maker)=>[(6,.obj (eyuccaref9_maker_r.cells x46))]) [1,2,6,7,13] hl (fun s45 o h=>?_) ?_
    ·clear hl
     refine W.sq'<|bd h fun x48 hx48 h=>W.aq [1,2,6,7,13,14,163] ?_
     refine W.ch h q (fun hb49 h=>?_) (fun hb49 h=>?_)
     ·refine W.sk<|Px.sq<|W.sq'<|bd h fun j50 hj h=>W.jq [1,2,6,7,13,14] [(6,.obj (eyuccaref9_maker_r.cells j50))] ?_ ?_
      ·clear h; have h:=hj; clear hj
       refine W.bk<|bd h fun x51 hx51 h=>bd h fun x52 hx52 h=>W.rq [1,2,6,7,13,14,15] (Rv O.y1<|Rv (O.y5 (y:=iR eDecl_0 a0.Decls))<|Vm q<|Rv (O.y4 hx51)<|Rv O.y8<|Rv (O.y6 (x:=iR eSym x51.Syms))<|Vm q<|Rv (O.y4 hx52)<|Rv (O.ldIN (cs':=eSym.cells x52) .z7 at56 q q)<|Rv (O.al (cs:=[SS S0,BB false,I64 0,I64 0]) ze56 q q)<|RunL.f' (EO.sva [1,2,6,7,13,14,15])<|Fk q) ?_
       refine bd h fun c56 hj h=>W.rz [1,2,6,7,13,14,15,188] [(188,BB c56)] ?_ ?_
       ·refine Rv O.y1<|Rv (O.y5 (y:=iR eDecl_0 a0.Decls))<|Rv (O.mv (.lit q)) ?_
        refine bd hj fun x53 hx53 hj=>Rv (O.y4 hx53)<|Rv O.y8<|Rv (O.y6 (x:=I64 x53.Kind))<|Rv (O.geq .z1 .z8)<|Rv (O.mv (.lit q)) ?_
        rcases cnd hj with ⟨hb54,hj⟩ | ⟨hb54,hj⟩
        ·refine Yv hb54 (O.mv .z4)<|Yv hb54 O.y1<|Yv hb54 O.y3 ?_
         exact bd hj fun x55 hx55 hj=>sm hj ▸ (RunL.c (PC.vz (ys:=[.ptr ⟨6,[]⟩ 0,SS x52.Name]) q (.c (View.p0 q q) (.s .nil)) (CF.go hx55)) q q (.yb q q hb54)<|RunL.au)
        ·exact sm hj ▸ RunL.au
       refine bd h fun j57 hj h=>W.jq [1,2,6,7,13,14] [(6,.obj (eyuccaref9_maker_r.cells j57))] ?_ ?_
       ·clear h; have h:=hj; clear hj
        refine W.ch h q (fun hb58 h=>?_) (fun hb58 h=>?_)
        ·refine bd h fun x59 hx59 h=>W.rk [1,2,6,7,13,14] (Rv (O.mv .z4)<|Rv O.y1<|Rv O.y3<|Rv O.y1<|Rv O.y3<|RunL.ef q (EO.call q q (CallOk.ln (G2:=[(1,.obj (eSource_0.cells a0)),(2,.obj [.nils,.nils,.nils,SS S0,SS S0]),(7,SS x5.2),(13,I64 s41.2),(14,I64 s45.2)]) (A:=[]) (ys:=[.ptr ⟨6,[]⟩ 0,I64 x52.At,SS x52.Name]) (args:=[.obj (eyuccaref9_maker_r.cells s45.1),I64 x52.At,SS x52.Name]) (cs':=eyuccaref9_maker_r.cells x59) (k0:=0) q q q q (.b q (.n q (.n q .nil))) q (CF.go hx59) call108 (tn5 q q q q q) q q (tn5 q q q q q) .nil q))<|Fk q) ?_
         exact sm h ▸ Px.jt
        ·exact W.sk<|sm h ▸ Px.jt
       exact Px.bk<|sm h ▸ Px.jt
      refine Px.sq<|W.rk [1,2,6,7,13,14] (Vm q<|Rv (O.add .z1 .z8)<|RunL.rk [1,2,6,7,13,165] q<|RunL.au) ?_
      exact sm h ▸ Px.gt
     ·exact W.xi<|Px.sqE<|sm h ▸ Px.t1
    refine Px.bkH<|Px.bk<|Px.sq<|W.rk [1,2,6,7,13] (Vm q<|Rv (O.add .z1 .z8)<|RunL.rk [1,2,6,7,154] q<|RunL.au) ?_
    exact sm h ▸ Px.gt
   ·exact W.xi<|Px.sqE<|sm h ▸ Px.t1
  refine Px.bkH<|Px.sq<|W.sq'<|W.aq [1,2,6,7,196] ?_
  refine bd h fun j60 hj h=>W.jq [1,2,6,7] [(7,SS j60)] ?_ ?_
  ·clear h; have h:=hj; clear hj
   refine W.ch h q (fun hb61 h=>?_) (fun hb61 h=>?_)
   ·refine bd h fun x62 hx62 h=>W.rk [1,2,6,7] (Rv O.y1<|Rv (O.y5 (y:=iR eRule_0 a0.Rules))<|Rv (O.ixI .z2 .z8 sl67 hx62)<|Rv O.y8<|Rv (O.y6 (x:=SS x62.Left))<|RunL.rk [1,2,6,201] q<|RunL.au) ?_
    exact sm h ▸ Px.jt
   ·exact W.sk<|sm h ▸ Px.jt
  refine Px.sq<|bd h fun x63 hx63 h=>W.rq [1,2,6] (Rv (O.mv .z4)<|Rv (O.mv .z4)<|Vm q<|Rc (PC.vz (ys:=[.ptr ⟨6,[]⟩ 0,SS j60]) q (.c (View.p0 q q) (.s .nil)) (CF.go hx63))<|Rv (O.add .z8 .z1)<|RunL.vi (x:=iR eI [w64 (1001+x63)]) (O.bs (ys:=[I64 (w64 (1001+x63))]) eI [w64 (1001+x63)] sl22 q q q q q q zt3 q q) q q .none<|RunL.vi (x:=.agg [I64 0,iR eI [w64 (1001+x63)],I64 (-1),SS S0,iR eI ([]:List Int),I64 0]) (O.bu (cs:=[I64 0,iR eI [w64 (1001+x63)],I64 (-1),SS S0,.nils,I64 0]) sc80 ze80 q q q) q q .none<|Rv (O.bs (ys:=[.agg [I64 0,iR eI [w64 (1001+x63)],I64 (-1),SS S0,iR eI ([]:List Int),I64 0]]) eProd_0 [(⟨0,[w64 (1001+x63)],(-1),S0,([]:List Int),0⟩:Prod)] sl26 q q q q q q zt80 q q)<|Rv (O.nlP .z5)<|Rv O.y2<|Rv O.y2<|RunL.f' (EO.sw [1,2,6])<|Fk q) ?_
  refine W.sq'<|W.aq [1,2,6,16] ?_
  refine W.bk<|bd h fun x65 hl h=>W.l1 ((⟨(⟨x42.f_g.Toks,x42.f_g.Nons,[(⟨0,[w64 (1001+x63)],(-1),S0,([]:List Int),0⟩:Prod)],x42.f_g.Pro,x42.f_g.Tail⟩:Grammar),x42.f_given,x42.f_types,x42.f_lefts,x42.f_e,x42.f_at,x42.f_name,x42.f_level,x42.f_inner⟩:yuccaref9_maker),0) (fun (s64:yuccaref9_maker × Int)=>[(6,.obj (eyuccaref9_maker_r.cells s64.1)),(16,I64 s64.2)]) [1,2,6,16] 10 (fun (x65:yuccaref9_maker)=>[(6,.obj (eyuccaref9_maker_r.cells x65))]) [1,2,6] hl (fun s64 o h=>?_) ?_
  ·clear hl
   refine W.sq'<|W.aq [1,2,6,16,217] ?_
   refine W.ch h q (fun hb67 h=>?_) (fun hb67 h=>?_)
   ·refine W.sk<|Px.sq<|W.sq'<|W.bk<|W.aq [1,2,6,16,17] ?_
    refine W.bk<|bd h fun x69 hl h=>W.l1 (s64.1,0) (fun (s68:yuccaref9_maker × Int)=>[(6,.obj (eyuccaref9_maker_r.cells s68.1)),(17,I64 s68.2)]) [1,2,6,16,17] 12 (fun (x69:yuccaref9_maker)=>[(6,.obj (eyuccaref9_maker_r.cells x69))]) [1,2,6,16] hl (fun s68 o h=>?_) ?_
    ·clear hl
     refine W.sq'<|bd h fun x71 hx71 h=>W.aq [1,2,6,16,17,228] ?_
     refine W.ch h q (fun hb72 h=>?_) (fun hb72 h=>?_)
     ·refine W.sk<|Px.sq<|W.sq'<|W.bk<|bd h fun x73 hx73 h=>bd h fun x74 hx74 h=>bd h fun x75 hx75 h=>bd h fun x76 hx76 h=>W.rd [[],[],[1],[],[1,2,3],[1,2,3,4],rn 1 5 [],[],[7],[],[7,8,9],[7,8,9,10],rn 7 5 [],[],rn 7 7 [],rn 7 8 [],rn 0 16 []] [(1,_),(2,_),(6,_),(16,_),(17,_)] mixo (by kernel_rfl) (Dv 0 (O.mv .z4)<|Dv 1 O.y1<|Dv 2 (O.y5 (y:=iR eRule_0 a0.Rules))<|Dv 3 (O.mv (.lit q))<|Dv 4 (O.y4 hx73)<|Dv 5 O.y8<|Dv 6 (O.y6 (x:=SS x73.Left))<|Dv 7 O.y1<|Dv 8 (O.y5 (y:=iR eRule_0 a0.Rules))<|Dv 9 (O.mv (.lit q))<|Dv 10 (O.y4 hx74)<|Dv 11 O.y8<|Dv 12 (O.y6 (x:=iR eAlt_0 x74.Alts))<|Dv 13 (O.mv (.lit q))<|Dv 14 (O.y4 hx75)<|Dv 15 (O.ldIN (cs':=eAlt_0.cells x75) .z7 at58 q q)<|DL.bpz 16 (G2:=[(247,.tup []),(6,.obj (eyuccaref9_maker_r.cells x76)),(1,.obj (eSource_0.cells a0)),(2,.obj [.nils,.nils,.nils,SS S0,SS S0]),(16,I64 s64.2),(17,I64 s68.2)]) (EO.call q q (CallOk.ln (G2:=[(1,.obj (eSource_0.cells a0)),(2,.obj [.nils,.nils,.nils,SS S0,SS S0]),(16,I64 s64.2),(17,I64 s68.2)]) (A:=[]) (ys:=[.ptr ⟨6,[]⟩ 0,SS x73.Left,.agg (eAlt_0.cells x75)]) (args:=[.obj (eyuccaref9_maker_r.cells s68.1),SS x73.Left,.agg (eAlt_0.cells x75)]) (cs':=eyuccaref9_maker_r.cells x76) (k0:=0) q q q q (.b q (.n q (.n q .nil))) q (CF.go hx76) call111 (tn4 q q q q) q q (tn4 q q q q) .nil q))<|DL.fin q q q (tn5 q q q q q)) ?_
      refine Px.bk<|Px.sq<|W.rk [1,2,6,16,17] (Vm q<|Rv (O.add .z1 .z8)<|RunL.rk [1,2,6,16,230] q<|RunL.au) ?_
      exact sm h ▸ Px.gt
     ·exact W.xi<|Px.sqE<|sm h ▸ Px.t1
    refine Px.bkH<|Px.bk<|Px.sq<|W.rk [1,2,6,16] (Vm q<|Rv (O.add .z1 .z8)<|RunL.rk [1,2,6,219] q<|RunL.au) ?_
    exact sm h ▸ Px.gt
   ·exact W.xi<|Px.sqE<|sm h ▸ Px.t1
  refine Px.bkH<|Px.sq<|W.sq'<|W.aq [1,2,6,252] ?_
  refine W.ch h q (fun hb77 h=>?_) (fun hb77 h=>?_)
  ·refine W.sq'<|W.rd [[],[],[1],[1,2],[1,2,3],[],[5],[5,6],[5,6,7],[],[9],[9,10],[9,10,11],[0],rn 0 5 [13],rn 0 9 [13,14],rn 0 16 []] [(2,_),(3,_),(4,_),(5,_)] mixo (by kernel_rfl) (Dv 0 (O.bu (cs:=[.nils,.nils,.nils,SS S0,SS S0]) sc28 ze28 q q q)<|Dv 1 (O.mv .z4)<|Dv 2 (O.nlP .z5)<|Dv 3 O.y2<|Dv 4 O.y3<|Dv 5 (O.mv .z4)<|Dv 6 (O.nlP .z5)<|Dv 7 O.y2<|Dv 8 O.y3<|Dv 9 (O.mv .z4)<|Dv 10 (O.nlP .z5)<|Dv 11 O.y2<|Dv 12 O.y3<|DL.bu 13 (G2:=[(2,.obj [.nils,.nils,.nils,SS S0,SS S0]),(6,.obj (eyuccaref9_maker_r.cells x65))]) (U:=[(12,265,some (SS x65.f_name)),(11,264,some (.ptr ⟨6,[]⟩ 10)),(10,263,some (.ptr ⟨6,[]⟩ 0)),(9,262,some (.ptr ⟨6,[]⟩ 0)),(8,261,some (I64 x65.f_at)),(7,260,some (.ptr ⟨6,[]⟩ 9)),(6,259,some (.ptr ⟨6,[]⟩ 0)),(5,258,some (.ptr ⟨6,[]⟩ 0)),(4,257,some (I64 x65.f_e)),(3,256,some (.ptr ⟨6,[]⟩ 8)),(2,255,some (.ptr ⟨6,[]⟩ 0)),(1,254,some (.ptr ⟨6,[]⟩ 0))]) (EffOk.v (EO.eff (EO.sO (G2:=[(2,.obj [.nils,.nils,.nils,SS S0,SS S0]),(6,.obj (eyuccaref9_maker_r.cells x65))]) (cs2:=[.nils,.nils,.nils,SS S0,SS S0]) q q q (.obj q) (.aggF q q) q sz28 q q q q (.b q (.n q q .nil))))) q q (by kernel_rfl) q q q (.c (.inr (.inl ⟨_,q⟩)) q q q q q (Gd.wanted .none) (O.ldOl q .z5 ct9 q) (.c (.inr (.inr (.inr (.inl ⟨6,_,_,q,q,of_blt q,by simp,_,q,of_blt q⟩)))) q q q q q (Gd.wanted .none) (O.fO q .z5 fd207_6 q) (.c (.inr (.inr (.inr (.inl ⟨6,_,_,q,q,of_blt q,by simp,_,q,of_blt q⟩)))) q q q q q (Gd.wanted .none) (O.nlP .z5) (.c (.inr (.inr (.inr (.inl ⟨6,_,_,q,q,of_blt q,by simp,_,q,of_blt q⟩)))) q q q q q (Gd.wanted .none) (O.mv .z4) (.c (.inr (.inl ⟨_,q⟩)) q q q q q (Gd.wanted .none) (O.ldOl q .z5 ct3 q) (.c (.inr (.inr (.inr (.inl ⟨6,_,_,q,q,of_blt q,by simp,_,q,of_blt q⟩)))) q q q q q (Gd.wanted .none) (O.fO q .z5 fd207_5 q) (.c (.inr (.inr (.inr (.inl ⟨6,_,_,q,q,of_blt q,by simp,_,q,of_blt q⟩)))) q q q q q (Gd.wanted .none) (O.nlP .z5) (.c (.inr (.inr (.inr (.inl ⟨6,_,_,q,q,of_blt q,by simp,_,q,of_blt q⟩)))) q q q q q (Gd.wanted .none) (O.mv .z4) (.c (.inr (.inl ⟨_,q⟩)) q q q q q (Gd.wanted .none) (O.ldOl q .z5 ct3 q) (.c (.inr (.inr (.inr (.inl ⟨6,_,_,q,q,of_blt q,by simp,_,q,of_blt q⟩)))) q q q q q (Gd.wanted .none) (O.fO q .z5 fd207_4 q) (.c (.inr (.inr (.inr (.inl ⟨6,_,_,q,q,of_blt q,by simp,_,q,of_blt q⟩)))) q q q q q (Gd.wanted .none) (O.nlP .z5) (.c (.inr (.inr (.inr (.inl ⟨6,_,_,q,q,of_blt q,by simp,_,q,of_blt q⟩)))) q q q q q (Gd.wanted .none) (O.mv .z4) .nil)))))))))))) (by kernel_rfl)<|Dv 14 (O.az (.lit q))<|Dv 15 (O.az (.lit q))<|Dv 16 (O.az (.lit q))<|DL.fin q q q (tn4 q q q q)) ?_
   refine Px.sq<|W.fz (G1:=[(2,.obj [iR eTok ([]:List Tok),iR eNon ([]:List Non),iR eProd_0 ([]:List Prod),SS S0,SS S0]),(3,_),(4,_),(5,_)]) [2] (.z q q (FzL.obj (.z (.z (.z (.f (.f .nil)))))) (.n q q (.n q q (.n q q .nil)))) ?_
   exact W.rt<|Px.sqR<|sm h ▸ Pr (.c (ys0:=[iR eTok ([]:List Tok),iR eNon ([]:List Non),iR eProd_0 ([]:List Prod),SS S0,SS S0]) q at28 q q q (.f q (.f q (.f q (.f q (.f q .nil))))) (.f q q (.f q q (.f q q .nil))))
  ·refine W.sk<|Px.sq<|W.rq [1,2,6] (Rv (O.mv .z4)<|Rv (O.bu (cs:=[SS ({ data:=#[36,97,99,99,101,112,116] }),SS S0]) sc217 ze217 q q q)<|Rv (O.bs (ys:=[.agg [SS ({ data:=#[36,97,99,99,101,112,116] }),SS S0]]) eNon [(⟨{ data:=#[36,97,99,99,101,112,116] },S0⟩:Non)] sl25 q q q q q q zt217 q q)<|Rv (O.nlP .z5)<|Rv O.y2<|Rv O.y2<|RunL.f' (EO.sw [1,2,6])<|Fk q) ?_
   refine W.sq'<|W.aq [1,2,6,18] ?_
   refine W.bk<|bd h fun x79 hl h=>W.l1 ([(⟨{ data:=#[36,97,99,99,101,112,116] },S0⟩:Non)],0) (fun (s78:List Non × Int)=>[(6,.obj [oR eTok x65.f_g.Toks,oR eNon s78.1,oR eProd_0 x65.f_g.Prods,SS x65.f_g.Pro,SS x65.f_g.Tail,oR eB x65.f_given,oR eNon x65.f_types,oR eS x65.f_lefts,I64 x65.f_e,I64 x65.f_at,SS x65.f_name,I64 x65.f_level,I64 x65.f_inner]),(18,I64 s78.2)]) [1,2,6,18] 14 (fun (x79:List Non)=>[(6,.obj [oR eTok x65.f_g.Toks,oR eNon x79,oR eProd_0 x65.f_g.Prods,SS x65.f_g.Pro,SS x65.f_g.Tail,oR eB x65.f_given,oR eNon x65.f_types,oR eS x65.f_lefts,I64 x65.f_e,I64 x65.f_at,SS x65.f_name,I64 x65.f_level,I64 x65.f_inner])]) [1,2,6] hl (fun s78 o h=>?_) ?_
   ·clear hl
    refine W.sq'<|W.aq [1,2,6,18,278] ?_
    refine W.ch h q (fun hb81 h=>?_) (fun hb81 h=>?_)
    ·refine W.sk<|Px.sq<|W.sq'<|W.bk<|bd h fun x82 hx82 h=>W.rq [1,2,6,18,19] (Rv (O.mv .z4)<|Rv (O.nlP .z5)<|Rv O.y2<|Rv (O.y5 (y:=.brw eS.z ⟨6,[7]⟩ x65.f_lefts.length))<|Vm q<|Rv (O.ixO (en:=eS) q .z6 .z1 sl205 hx82 q)<|Rv (O.ldE (en:=eS) (x':=SS x82) q .z5 ct9 hx82 q q)<|Rv (O.bu (cs:=[SS x82,SS S0]) sc217 ze217 q q q)<|Rv (O.al (cs:=[SS S0,SS S0]) ze217 q q)<|RunL.f' (EO.sva [1,2,6,18,19])<|Fk q) ?_
     refine W.sq'<|bd h fun x83 hx83 h=>W.rq [1,2,6,18,19,20] (Rv (O.mv .z4)<|Rv O.y1<|Rv O.y3<|Rc (PC.vz (ys:=[.ptr ⟨6,[]⟩ 0,SS x82]) q (.c (View.p0 q q) (.s .nil)) (CF.go hx83))<|RunL.au) ?_
     refine W.aq [1,2,6,18,19,20,294] ?_
     refine bd h fun j84 hj h=>W.jq [1,2,6,18,19] [(19,.obj [SS x82,SS j84])] ?_ ?_
     ·clear h; have h:=hj; clear hj
      refine W.ch h q (fun hb85 h=>?_) (fun hb85 h=>?_)
      ·refine bd h fun x86 hx86 h=>W.rk [1,2,6,18,19] (Rv (O.mv .z4)<|Rv (O.nlP .z5)<|Rv O.y2<|Rv (O.y5 (y:=.brw eNon.z ⟨6,[6]⟩ x65.f_types.length))<|Vm q<|Rv (O.ixO (en:=eNon) q .z6 .z1 sl25 hx86 q)<|Rv (O.fE (en:=eNon) q .z5 fd217_1 hx86 q q)<|Rv (O.ldE (en:=eNon) (x':=SS x86.Tag) q .z5 ct9 hx86 q q)<|Rv O.y1<|RunL.f' (EO.sv1 [1,2,6,18,19])<|Fk q) ?_
       exact sm h ▸ Px.jt
      ·exact W.sk<|sm h ▸ Px.jt
     refine Px.sq<|bd h fun x87 hx87 h=>W.rd [[],[],[1],[1,2],[1,2,3],[1,2,3,4],[],[6],rn 1 7 [],rn 0 9 [],rn 0 10 [],rn 0 11 [],rn 0 12 []] [(1,_),(2,_),(6,_),(18,_)] mixo (by kernel_rfl) (Dv 0 (O.mv .z4)<|Dv 1 (O.mv .z4)<|Dv 2 (O.nlP .z5)<|Dv 3 O.y2<|Dv 4 O.y2<|Dv 5 (O.y5 (y:=.brw eNon.z ⟨6,[1]⟩ s78.1.length))<|Dv 6 (O.ldON (cs':=[SS x82,SS j84]) q .z4 at217 q q)<|DL.vi 7 (x:=iR eNon [(⟨x82,j84⟩:Non)]) (O.bs (ys:=[.agg [SS x82,SS j84]]) eNon [(⟨x82,j84⟩:Non)] sl25 q q q q q q zt217 q q) q q q q .none<|Dv 8 (O.ap (en:=eNon) (r:=x87) .z6 q .z2 .i ap25 q hx87)<|Dv 9 (O.nlP .z5)<|Dv 10 O.y2<|Dv 11 O.y2<|DL.bpz 12 (EO.sp [1,2,6,18])<|DL.fin q q q (tn4 q q q q)) ?_
     refine Px.bk<|Px.sq<|W.rk [1,2,6,18] (Vm q<|Rv (O.add .z1 .z8)<|RunL.rk [1,2,6,280] q<|RunL.au) ?_
     exact sm h ▸ Px.gt
    ·exact W.xi<|Px.sqE<|sm h ▸ Px.t1
   refine Px.bkH<|Px.sq<|W.sq'<|W.aq [1,2,6,21] ?_
   refine W.bk<|bd h fun x89 hl h=>W.l1 (x79,1) (fun (s88:List Non × Int)=>[(6,.obj [oR eTok x65.f_g.Toks,oR eNon s88.1,oR eProd_0 x65.f_g.Prods,SS x65.f_g.Pro,SS x65.f_g.Tail,oR eB x65.f_given,oR eNon x65.f_types,oR eS x65.f_lefts,I64 x65.f_e,I64 x65.f_at,SS x65.f_name,I64 x65.f_level,I64 x65.f_inner]),(21,I64 s88.2)]) [1,2,6,21] 16 (fun (x89:List Non)=>[(6,.obj [oR eTok x65.f_g.Toks,oR eNon x89,oR eProd_0 x65.f_g.Prods,SS x65.f_g.Pro,SS x65.f_g.Tail,oR eB x65.f_given,oR eNon x65.f_types,oR eS x65.f_lefts,I64 x65.f_e,I64 x65.f_at,SS x65.f_name,I64 x65.f_level,I64 x65.f_inner])]) [1,2,6] hl (fun s88 o h=>?_) ?_
   ·clear hl
    refine W.sq'<|W.aq [1,2,6,21,321] ?_
    refine W.ch h q (fun hb91 h=>?_) (fun hb91 h=>?_)
    ·refine W.sk<|Px.sq<|W.sq'<|W.bk<|bd h fun x92 hx92 h=>bd h fun x93 hx93 h=>bd h fun x94 hx94 h=>W.rd [[],[],[1],[1,2],[1,2,3],[1,2,3,4],[],[6],[6,7],[6,7,8],[6,7,8,9],rn 1 10 [],rn 0 12 [],rn 0 13 [],rn 0 14 [],rn 0 15 []] [(1,_),(2,_),(6,_),(21,_)] mixo (by kernel_rfl) (Dv 0 (O.mv .z4)<|Dv 1 (O.mv .z4)<|Dv 2 (O.nlP .z5)<|Dv 3 O.y2<|Dv 4 O.y2<|Dv 5 (O.y5 (y:=.brw eNon.z ⟨6,[1]⟩ s88.1.length))<|Dv 6 (O.mv (.lit q))<|Dc 7 (PC.gz (.cc (.lit q) .nil) (CF.go hx92))<|Dv 8 (O.cat .z8 .z1 hx93)<|Dv 9 (O.bu (cs:=[SS x93,SS S0]) sc217 ze217 q q q)<|DL.vi 10 (x:=iR eNon [(⟨x93,S0⟩:Non)]) (O.bs (ys:=[.agg [SS x93,SS S0]]) eNon [(⟨x93,S0⟩:Non)] sl25 q q q q q q zt217 q q) q q q q .none<|Dv 11 (O.ap (en:=eNon) (r:=x94) .z6 q .z2 .i ap25 q hx94)<|Dv 12 (O.nlP .z5)<|Dv 13 O.y2<|Dv 14 O.y2<|DL.bpz 15 (EO.sp [1,2,6,21])<|DL.fin q q q (tn4 q q q q)) ?_
     refine Px.bk<|Px.sq<|W.rk [1,2,6,21] (Vm q<|Rv (O.add .z1 .z8)<|RunL.rk [1,2,6,323] q<|RunL.au) ?_
     exact sm h ▸ Px.gt
    ·exact W.xi<|Px.sqE<|sm h ▸ Px.t1
   refine Px.bkH<|Px.sq<|W.aq [1,2,6,22] ?_
   refine W.sq'<|W.aq [1,2,6,22,23] ?_
   refine W.bk<|bd h fun x96 hl h=>W.l1 (x65.f_g.Toks,57346,3) (fun (s95:List Tok × Int × Int)=>[(6,.obj [oR eTok s95.1,oR eNon x89,oR eProd_0 x65.f_g.Prods,SS x65.f_g.Pro,SS x65.f_g.Tail,oR eB x65.f_given,oR eNon x65.f_types,oR eS x65.f_lefts,I64 x65.f_e,I64 x65.f_at,SS x65.f_name,I64 x65.f_level,I64 x65.f_inner]),(22,I64 s95.2.1),(23,I64 s95.2.2)]) [1,2,6,22,23] 18 (fun (x96:List Tok)=>[(6,.obj [oR eTok x96,oR eNon x89,oR eProd_0 x65.f_g.Prods,SS x65.f_g.Pro,SS x65.f_g.Tail,oR eB x65.f_given,oR eNon x65.f_types,oR eS x65.f_lefts,I64 x65.f_e,I64 x65.f_at,SS x65.f_name,I64 x65.f_level,I64 x65.f_inner])]) [1,2,6] hl (fun s95 o h=>?_) ?_
   ·clear hl
    refine W.sq'<|W.aq [1,2,6,22,23,346] ?_
    refine W.ch h q (fun hb98 h=>?_) (fun hb98 h=>?_)
    ·refine W.sk<|Px.sq<|W.sq'<|bd h fun j99 hj h=>W.jq [1,2,6,22,23] [(6,.obj [oR eTok j99.1,oR eNon x89,oR eProd_0 x65.f_g.Prods,SS x65.f_g.Pro,SS x65.f_g.Tail,oR eB x65.f_given,oR eNon x65.f_types,oR eS x65.f_lefts,I64 x65.f_e,I64 x65.f_at,SS x65.f_name,I64 x65.f_level,I64 x65.f_inner]),(22,I64 j99.2)] ?_ ?_
     ·clear h; have h:=hj; clear hj
      refine W.bk<|bd h fun x100 hx100 h=>W.rq [1,2,6,22,23,356] (Rv (O.mv .z4)<|Rv (O.nlP .z5)<|Rv O.y2<|Rv (O.y5 (y:=.brw eB.z ⟨6,[5]⟩ x65.f_given.length))<|Vm q<|Rv (O.ixO (en:=eB) q .z6 .z1 sl204 hx100 q)<|Rv (O.ldE (en:=eB) (x':=BB x100) q .z5 ct4 hx100 q q)<|RunL.au) ?_
      refine bd h fun j101 hj h=>W.jq [1,2,6,22,23] [(6,.obj [oR eTok j101.1,oR eNon x89,oR eProd_0 x65.f_g.Prods,SS x65.f_g.Pro,SS x65.f_g.Tail,oR eB x65.f_given,oR eNon x65.f_types,oR eS x65.f_lefts,I64 x65.f_e,I64 x65.f_at,SS x65.f_name,I64 x65.f_level,I64 x65.f_inner]),(22,I64 j101.2)] ?_ ?_
      ·clear h; have h:=hj; clear hj
       refine W.ch h q (fun hb102 h=>?_) (fun hb102 h=>?_)
       ·refine bd h fun x103 hx103 h=>W.rq [1,2,6,22,23] (Rv (O.mv .z4)<|Rv (O.nlP .z5)<|Rv O.y2<|Rv O.y2<|Rv (O.y5 (y:=.brw eTok.z ⟨6,[0]⟩ s95.1.length))<|Vm q<|Vm q<|Rv (O.ixO (en:=eTok) q .z6 .z1 sl24 hx103 q)<|Rv (O.fE (en:=eTok) q .z5 fd110_2 hx103 q q)<|RunL.f' (EO.se (en:=eTok) (y2:=(⟨x103.Name,x103.Lit,s95.2.1,x103.Level,x103.Assoc,x103.Tag⟩:Tok)) [1,2,6,22,23] hx103)<|Fk q) ?_
        refine W.rk [1,2,6,22,23] (Vm q<|Rv (O.add .z1 .z8)<|RunL.rk [1,2,6,23,367] q<|RunL.au) ?_
        exact sm h ▸ Px.jt
       ·exact W.sk<|sm h ▸ Px.jt
      exact Px.bk<|sm h ▸ Px.jt
     refine Px.sq<|W.rk [1,2,6,22,23] (Vm q<|Rv (O.add .z1 .z8)<|RunL.rk [1,2,6,22,348] q<|RunL.au) ?_
     exact sm h ▸ Px.gt
    ·exact W.xi<|Px.sqE<|sm h ▸ Px.t1
   refine Px.bkH<|Px.sq<|bd h fun c106 hj h=>W.rz [1,2,6,24] [(24,BB c106)] ?_ ?_
   ·refine Rv (O.mv .z4)<|Rv (O.nlP .z5)<|Rv O.y2<|Rv O.y2<|Rv (O.y5 (y:=.brw eTok.z ⟨6,[0]⟩ x96.length))<|Rv (O.lenO .z6 sl24)<|Rv (O.gtr .z1 .z8)<|Rv (O.mv (.lit q)) ?_
    rcases cnd hj with ⟨hb104,hj⟩ | ⟨hb104,hj⟩
    ·exact sm hj ▸ RunL.au
    ·refine Yv hb104 (O.mv .z4)<|Yv hb104 (O.nlP .z5)<|Yv hb104 O.y2<|Yv hb104 O.y2<|Yv hb104 (O.y5 (y:=.brw eNon.z ⟨6,[1]⟩ x89.length))<|Yv hb104 (O.lenO .z6 sl25)<|Yv hb104 (O.gtr .z1 .z8)<|Rv (O.pkF .z1 hb104 .z1)<|Rv (O.mv (.lit q)) ?_
     rcases cnd hj with ⟨hb105,hj⟩ | ⟨hb105,hj⟩
     ·exact sm hj ▸ RunL.au
     ·exact sm hj ▸ (Yv hb105 (O.mv .z4)<|RunL.au)
   refine W.sq'<|W.aq [1,2,6,24,25] ?_
   refine W.bk<|bd h fun x108 hl h=>W.l1 (c106,0) (fun (s107:Bool × Int)=>[(24,BB s107.1),(25,I64 s107.2)]) [1,2,6,24,25] 20 (fun (x108:Bool)=>[(24,BB x108)]) [1,2,6,24] hl (fun s107 o h=>?_) ?_
   ·clear hl
    refine W.sq'<|W.aq [1,2,6,24,25,400] ?_
    refine W.ch h q (fun hb110 h=>?_) (fun hb110 h=>?_)
    ·refine W.sk<|Px.sq<|W.sq'<|W.bk<|bd h fun c113 hj h=>W.rx [(1,.obj (eSource_0.cells a0)),(2,.obj [.nils,.nils,.nils,SS S0,SS S0]),(6,.obj [oR eTok x96,oR eNon x89,oR eProd_0 x65.f_g.Prods,SS x65.f_g.Pro,SS x65.f_g.Tail,oR eB x65.f_given,oR eNon x65.f_types,oR eS x65.f_lefts,I64 x65.f_e,I64 x65.f_at,SS x65.f_name,I64 x65.f_level,I64 x65.f_inner]),(24,BB c113),(25,I64 s107.2)] ?_ ?_
     ·refine Vm q<|Rv (O.mv (.lit q)) ?_
      rcases cnd hj with ⟨hb111,hj⟩ | ⟨hb111,hj⟩
      ·exact sm hj ▸ (Ps hb111<|Ps hb111<|Ps hb111<|Ps hb111<|Ps hb111<|Ps hb111<|Ps hb111<|Ps hb111<|Ps hb111<|Ps hb111<|Ps hb111<|Rv (O.pkT .z1 hb111 .z8)<|RunL.rk [1,2,6,25,416] q<|RunL.au)
      ·refine Yv hb111 (O.mv .z4)<|Yv hb111 (O.nlP .z5)<|Yv hb111 O.y2<|Yv hb111 O.y2<|Yv hb111 (O.y5 (y:=.brw eProd_0.z ⟨6,[2]⟩ x65.f_g.Prods.length))<|Yv hb111 (O.mv (.lit q)) ?_
       exact bd hj fun x112 hx112 hj=>sm hj ▸ (Yv hb111 (O.ixO (en:=eProd_0) q .z6 .z1 sl26 hx112 q)<|Yv hb111 (O.fE (en:=eProd_0) q .z5 fd80_1 hx112 q q)<|Yv hb111 (O.ldE (en:=eProd_0) (x':=iR eI x112.Right) q .z5 ct22 hx112 q q)<|Yv hb111 O.y9<|Yv hb111 (O.gtr .z1 .z8)<|Rv (O.pkF .z1 hb111 .z1)<|RunL.rk [1,2,6,25,416] q<|RunL.au)
     refine Px.bk<|Px.sq<|W.rk [1,2,6,24,25] (Vm q<|Rv (O.add .z1 .z8)<|RunL.rk [1,2,6,24,402] q<|RunL.au) ?_
     exact sm h ▸ Px.gt
    ·exact W.xi<|Px.sqE<|sm h ▸ Px.t1
   refine Px.bkH<|Px.sq<|W.sq'<|W.aq [1,2,6,417] ?_
   refine W.ch h q (fun hb114 h=>?_) (fun hb114 h=>?_)
   ·refine W.rq [2,3,4,5] (Rv (O.bu (cs:=[.nils,.nils,.nils,SS S0,SS S0]) sc28 ze28 q q q)<|RunL.f' (EO.sva [2])<|RunL.au) ?_
    refine W.fz (G1:=[(2,.obj [iR eTok ([]:List Tok),iR eNon ([]:List Non),iR eProd_0 ([]:List Prod),SS S0,SS S0]),(3,_),(4,_),(5,_)]) [2] (.z q q (FzL.obj (.z (.z (.z (.f (.f .nil)))))) (.n q q (.n q q (.n q q .nil)))) ?_
    exact W.rt<|Px.sqR<|sm h ▸ Pr (.c (ys0:=[iR eTok ([]:List Tok),iR eNon ([]:List Non),iR eProd_0 ([]:List Prod),SS S0,SS S0]) q at28 q q q (.f q (.f q (.f q (.f q (.f q .nil))))) (.f q q (.f q q (.f q q .nil))))
   ·refine W.sk<|Px.sq<|W.sq'<|W.rd [[],[],[],[2],[],[4],[0,2,3],[0,2,3,6],[0,2,3,6,7],[0,2,3,6,7,8],rn 0 10 [],rn 0 11 [],rn 0 12 [],rn 0 13 []] [(2,_),(6,_)] mixo (by kernel_rfl) (Dv 0 (O.mv .z4)<|Dv 1 (O.mv .z4)<|Dv 2 O.y1<|Dv 3 O.y3<|Dv 4 O.y1<|Dv 5 O.y3<|Dv 6 (O.nlP .z5)<|Dv 7 O.y2<|Dv 8 O.y2<|DL.bu 9 (G2:=[(1,.obj (eSource_0.cells a0)),(2,.obj [.nils,.nils,.nils,SS S0,SS S0]),(6,.obj [oR eTok x96,oR eNon x89,oR eProd_0 x65.f_g.Prods,SS a0.Pro,SS x65.f_g.Tail,oR eB x65.f_given,oR eNon x65.f_types,oR eS x65.f_lefts,I64 x65.f_e,I64 x65.f_at,SS x65.f_name,I64 x65.f_level,I64 x65.f_inner])]) (U:=[(5,424,some (SS a0.Tail)),(4,423,some (.ptr ⟨1,[]⟩ 3)),(1,420,some (.ptr ⟨6,[]⟩ 0))]) (EffOk.v (EO.eff (EO.sO (G2:=[(1,.obj (eSource_0.cells a0)),(2,.obj [.nils,.nils,.nils,SS S0,SS S0]),(6,.obj [oR eTok x96,oR eNon x89,oR eProd_0 x65.f_g.Prods,SS a0.Pro,SS x65.f_g.Tail,oR eB x65.f_given,oR eNon x65.f_types,oR eS x65.f_lefts,I64 x65.f_e,I64 x65.f_at,SS x65.f_name,I64 x65.f_level,I64 x65.f_inner])]) (cs2:=[oR eTok x96,oR eNon x89,oR eProd_0 x65.f_g.Prods,SS a0.Pro,SS x65.f_g.Tail,oR eB x65.f_given,oR eNon x65.f_types,oR eS x65.f_lefts,I64 x65.f_e,I64 x65.f_at,SS x65.f_name,I64 x65.f_level,I64 x65.f_inner]) q q q (.ptr q) (.lit q) q sz9 q q q q (.n q q (.n q q (.b q .nil)))))) q q (by kernel_rfl) q q q (.c (.inr (.inl ⟨_,q⟩)) q q q q q (Gd.wanted .none) (O.ldOl q .z5 ct9 q) (.c (.inr (.inr (.inr (.inl ⟨1,_,_,q,q,of_blt q,by simp,_,q,of_blt q⟩)))) q q q q q (Gd.wanted .none) (O.fO q .z4 fd70_3 q) (.c (.inr (.inr (.inr (.inl ⟨6,_,_,q,q,of_blt q,by simp,_,q,of_blt q⟩)))) q q q q q (Gd.wanted .none) (O.mv .z4) .nil))) (by kernel_rfl)<|Dv 10 (O.nlP .z5)<|Dv 11 O.y2<|Dv 12 O.y2<|DL.bpz 13 (EO.sv1 [2,6])<|DL.fin q q q (tn2 q q)) ?_
    refine Px.sq<|W.sq'<|W.fz (G1:=[(2,_),(6,.obj [iR eTok x96,iR eNon x89,iR eProd_0 x65.f_g.Prods,SS a0.Pro,SS a0.Tail,oR eB x65.f_given,oR eNon x65.f_types,oR eS x65.f_lefts,I64 x65.f_e,I64 x65.f_at,SS x65.f_name,I64 x65.f_level,I64 x65.f_inner])]) [6] (.n q q (.z q q (FzL.obj (.z (.z (.z (.f (.f (.f (.f (.f (.f (.f (.f (.f (.f .nil)))))))))))))) .nil)) ?_
    refine W.rk [2,3,4,5] (Rv (O.mv .z4)<|Rv (O.nlP .z5)<|Rv O.y2<|Rv (O.ldON (cs':=[iR eTok x96,iR eNon x89,iR eProd_0 x65.f_g.Prods,SS a0.Pro,SS a0.Tail]) q .z5 at28 q q)<|RunL.f' (EO.sva [2])<|RunL.au) ?_
    exact Px.sq<|W.rt<|sm h ▸ Pr (.c (ys0:=[iR eTok x96,iR eNon x89,iR eProd_0 x65.f_g.Prods,SS a0.Pro,SS a0.Tail]) q at28 q q q (.f q (.f q (.f q (.f q (.f q .nil))))) (.f q q (.f q q (.f q q .nil))))
end Go.Proofs
