/- Parts of the proof that the last text states. -/
import Derived.Test.YtcfiphoaldlmiaaGreatDoorE8
namespace Go.Proofs
open Go Go.Own
set_option maxRecDepth 100000
set_option linter.unusedVariables false
theorem va {α:Type}{l:List α}{i:Int}{y:α}(h:idx l i=some y):y∈l:=List.mem_of_getElem? (u' h).2.2
theorem e_.FO {m:fh}(h:e_ m) {k:Nat}{t t':Tok}(hk:m.aA.aW[k]?=some t) (az:t'.Name=t.Name) (ah:t'.Lit=t.Lit) (hu:t'.bT=t.bT):yf (m.aA.aW.set k t') m.cg/\(m.cO=0->s4 (m.aA.aW.set k t') m.cg) :=
 ⟨h.a.set hk az ah (by rw [hu]; exact h.a.le t (List.mem_of_getElem? hk)) rfl,λe=>(h.b e).FO hk hu⟩
theorem e_.Hx {m bm:fh}(h:e_ m) (ax:qV m bm/\bm.cO≠0):e_ (⟨(⟨m.aA.aW,bm.aA.bA,bm.aA.a7,bm.aA.b_,bm.aA.ch⟩:bx),bm.cg,bm.cx,bm.bX,bm.cO,bm.c8,bm.c5,bm.ca,bm.bU⟩:fh) :=
 ⟨by show yf m.aA.aW bm.cg; rw [ax.1.gf]; exact h.a,λe=>absurd e ax.2,by show ∀ y∈bm.bX,_; rw [ax.1.e6]; exact h.e6⟩
theorem Yn (m:fh) (d:Decl) (x:Sym) (hm:e_ m) (j:jP x) (ax:x.Name.size<=eV):Par (vv m d x) e_:=by
 unfold vv;refine Par.bB (λ_=>?_) (λ_=>?_)
 ·refine .aB (Ξ:=λ_=>True) (λ_ _=>trivial) λk _=>.aB (Ξ:=e_) ?_ λbm hm=>.al hm;refine Par.bD (λ_=>Par.ap λ_=>.al ⟨hm.a,hm.b,hm.e6⟩) (λ_=>?_);refine .go λy _=>.aB (Ξ:=e_) (Par.bB (λ_=>.aB (sE m _ _) λbm h=>.al (hm.fail h)) (λ_=>.al hm)) λbm hm=>.al hm
 ·refine .aB (Pt m x hm j ax) λr aj=>?_;obtain ⟨aj,iX⟩:=aj;refine .go λy ai=>?_;refine .aB (Ξ:=e_) ?_ λfl lC=>?_
  ·refine Par.bB (λ_=>?_) (λ_=>.al aj);refine .aB (Ξ:=e_) (Par.bB (λ_=>.aB (sE r.2 _ _) λbm h=>.al (aj.Hx h)) (λ_=>.al aj)) λcZ r9=>?_;refine .go λz aS=>?_;obtain ⟨_,_,aS⟩:=u' aS;rw [List.set_set];obtain ⟨h1,af⟩:=r9.FO (t':=(⟨z.Name,z.Lit,z.bT,cZ.ca,aR (d.Kind - 1),z.Tag⟩:Tok)) aS rfl rfl rfl;exact .al ⟨h1,af,r9.e6⟩
  refine .go λy _=>?_;refine .aB (Ξ:=e_) ?_ λeJ uG=>?_
  ·refine Par.bD (λpK=>?_) (λ_=>.al lC);refine .aB (Ξ:=λc:Bool=>c=false->r.1≠1/\∀ (i:Nat) (t:Tok),3<=i->fl.aA.aW[i]?=some t->t.bT≠x.bT) ?_ λc J=>?_
   ·refine Par.bD (λ_=>.al λh=>by cases h) (λh1=>.go λgf _=>Par.bB (λ_=>.al λh=>by cases h) (λ_=>.aB (Pu fl x.bT lC.a.lo lC.a.hi) λo aM=>.al λh=>⟨h1,aM (by have:=of_decide_eq_false h; omega)⟩))
   refine .aB (Ξ:=λaa=>e_ aa/\(aa.cO=0->r.1≠1/\∀ (i:Nat) (t:Tok),3<=i->aa.aA.aW[i]?=some t->t.bT≠x.bT)) (Par.bB (λ_=>.aB (sE fl _ _) λbm h=>.al ⟨lC.Hx h,λe=>absurd e h.2⟩) (λh=>.al ⟨lC,λ_=>J h⟩)) λdw q8=>?_;obtain ⟨q8,az⟩:=q8;refine .go λz aS=>.go λgf rf=>.al ?_;obtain ⟨aH,aN,aS⟩:=u' aS;obtain ⟨_,V8,rf⟩:=u' rf;have hle:=j.num;refine ⟨q8.a.set (t':=(⟨z.Name,z.Lit,x.bT,z.Level,z.e9,z.Tag⟩:Tok)) aS rfl rfl hle.2 (by simp),λe=>?_,q8.e6⟩;obtain ⟨aJ,bo⟩:=az e;have au:=q8.b e;refine au.Za (t':=(⟨z.Name,z.Lit,x.bT,z.Level,z.e9,z.Tag⟩:Tok)) aS (by omega) V8 pK λi t ak=>?_;by_cases acz:3<=i
   ·grind
   ·have:=au.aO i t (by omega) ak
    grind
  refine .go λy _=>.aB (Ξ:=e_) ?_ λaa ag=>.al ag;refine Par.bB (λ_=>?_) (λ_=>.al uG);refine .aB (Ξ:=λ_=>True) (λ_ _=>trivial) λc _=>?_;refine .aB (Ξ:=e_) (Par.bB (λ_=>.aB (sE eJ _ _) λbm h=>.al (uG.Hx h)) (λ_=>.al uG)) λkb AY=>?_;refine .go λz aS=>?_;obtain ⟨_,_,aS⟩:=u' aS;obtain ⟨h1,af⟩:=AY.FO (t':=(⟨z.Name,z.Lit,z.bT,z.Level,z.e9,d.Tag⟩:Tok)) aS rfl rfl rfl;exact .al ⟨h1,af,AY.e6⟩
theorem Pv (m:fh) (x:Sym) (hm:e_ m) (j:jP x) (ax:x.Name.size<=eV):Par (sF m x) λr=>e_ r.2:=by
 unfold sF;refine Par.bB (λ_=>.aB (Pt m x hm j ax) λr aj=>.al aj.1) (λ_=>.aB (Ξ:=λ_=>True) (λ_ _=>trivial) λk _=>Par.bB (λ_=>.al hm) (λ_=>.aB (Ξ:=λ_=>True) (λ_ _=>trivial) λt _=>Par.bB (λ_=>.aB (sE m _ _) λbm h=>.al (hm.fail h)) (λ_=>.al hm)))
theorem Yp (m:fh) (left:ByteArray) (a:Alt) (hm:e_ m) (au:vJ a) (aQ:(∀ p∈a.Parts,jP p.Sym)/\jP a.Prec):Par (vx m left a) e_:=by
 have az:=au.n;unfold vx;refine .aB (Ξ:=λ_=>True) (λ_ _=>trivial) λaX _=>?_;refine .aB (Ξ:=λr:fh × List Int × ByteArray × Int=>e_ r.1) ?_ λaZ aJ=>?_
 ·refine Par.loop (λs=>e_ s.1/\0<=s.2.2.2.2) ⟨hm,Int.le_refl 0⟩ λs ax=>?_;obtain ⟨m1,rt,bB,at_,i⟩:=s;obtain ⟨ax,aH⟩:=ax;simp only at ax aH ⊢;refine Par.bD (λaN=>?_) (λ_=>.al ax);refine .aB (Ξ:=λaa:fh × List Int × ByteArray × Int=>e_ aa.1) ?_ λaa ag=>.al ⟨ag,by show 0<=aR (i+1); rw [cD]; omega⟩;refine .go λy ai=>.aB (Ξ:=λaa:fh × List Int × ByteArray × Int=>e_ aa.1) ?_ λaa ag=>.al ag;have Ow:=(va ai);refine .aB (Ξ:=λaa:fh × List Int × ByteArray × Int=>e_ aa.1) ?_ λaa ag=>.al ag;refine Par.bB (λ_=>?_) (λ_=>?_)
  ·exact .aB (Pv m1 y.Sym ax (aQ.1 y Ow) (au.parts y Ow).1) λr aj=>Par.ap λ_=>.al aj
  ·exact .aB (Ξ:=λ_=>True) (λ_ _=>trivial) λaa _=>.al ⟨ax.a,ax.b,ax.e6⟩
 ·refine .aB (Ξ:=λ_=>True) (λ_ _=>trivial) λgN _=>?_;refine .aB (Ξ:=λaa:fh × Int=>e_ aa.1) ?_ λaa ag=>Par.ap λ_=>Par.ap λ_=>.al ⟨ag.a,ag.b,ag.e6⟩;refine Par.bB (λ_=>?_) (λ_=>.al aJ);refine .aB (Ξ:=λ_=>True) (λ_ _=>trivial) λc _=>.aB (Ξ:=λaa:fh × Int=>e_ aa.1) ?_ λaa ag=>.al ag;exact Par.bB (λ_=>.aB (Pv aZ.1 a.Prec aJ aQ.2 au.prec) λr aj=>.al aj) (λ_=>.aB (sE aZ.1 _ _) λbm h=>.al (aJ.fail h))
structure qQ (g:bx):Prop where
 aO:∀ (i:Nat) (t:Tok),i<3->g.aW[i]?=some t->t.bT<=0
 pos:∀ (i:Nat) (t:Tok),3<=i->g.aW[i]?=some t->0<t.bT/\t.bT<=100000
 un:∀ (i aa:Nat) (s t:Tok),g.aW[i]?=some s->g.aW[aa]?=some t->0<s.bT->s.bT=t.bT->i=aa
 zc:∀ t∈g.aW,t.Name.size<=eV/\(t.Lit=true->t.Name.size=1)
 c_:∀ x∈g.bA,x.Name.size<=4 * eV
theorem Yl (s:Source) (au:qW s):Par (vu s) λr=>r.2.1=0->qQ r.1:=by
 have VH:=au.yx;have BG:=au.aF;unfold vu;refine .aB (Ym s au) λc J=>Par.bB (λ_=>.al λh=>absurd h (by decide)) (λig=>?_);have ok:LD s:=J (by simpa using ig);refine .aB (Ξ:=λl=>l=List.replicate 3 false) (λa e=>by unfold nM at e; split at e <;> cases e; rfl) λaZ lb=>?_;subst lb
 -- declarations
 refine .aB (Ξ:=λr:fh × ByteArray=>e_ r.1) ?_ λcd cu=>?_
 ·refine Par.loop (λz=>e_ z.1/\0<=z.2.2) ⟨⟨⟨rfl,Nat.le_refl 3,by show 3<=lim; unfold lim; omega,λt ak=>?_,λt ak=>?_⟩,λ_=>⟨λi t hi ak=>?_,λi aa a b aQ au aH he=>?_,λi t hi ak=>?_⟩,λy ai=>by cases ai⟩,Int.le_refl 0⟩ λz aS=>?_
  ·have ak:t∈[_,_,_]:=ak;simp only [List.mem_cons,List.not_mem_nil,or_false] at ak;rcases ak with rfl | rfl | rfl <;> exact ⟨by decide,λh=>by cases h⟩
  ·have ak:t∈[_,_,_]:=ak;simp only [List.mem_cons,List.not_mem_nil,or_false] at ak;rcases ak with rfl | rfl | rfl <;> decide
  ·have ak:t∈[_,_,_]:=List.mem_of_getElem? ak;simp only [List.mem_cons,List.not_mem_nil,or_false] at ak;rcases ak with rfl | rfl | rfl <;> decide
  ·have aQ:a∈[_,_,_]:=List.mem_of_getElem? aQ;simp only [List.mem_cons,List.not_mem_nil,or_false] at aQ;rcases aQ with rfl | rfl | rfl <;> exact absurd aH (by decide)
  ·have:=(List.getElem?_eq_some_iff.1 ak).1;have:i<3:=this;omega
  ·obtain ⟨m,st,i⟩:=z;obtain ⟨hm,aH⟩:=aS;simp only at hm aH ⊢;refine Par.bD (λaN=>?_) (λ_=>.al hm);refine .go λd aO=>?_;have jz:=va aO;refine .aB (Ξ:=λ_=>True) (λ_ _=>trivial) λ_ _=>.aB (Ξ:=λ_=>True) (λ_ _=>trivial) λjF _=>?_;refine .aB (Ξ:=λr:fh × ByteArray=>e_ r.1) ?_ λr aj=>.al ⟨aj,by show 0<=aR (i+1); rw [cD]; omega⟩;refine Par.loop (λz=>e_ z.1/\0<=z.2.2) ⟨⟨hm.a,hm.b,hm.e6⟩,Int.le_refl 0⟩ λz aS=>?_;obtain ⟨m,st,k⟩:=z;obtain ⟨hm,HG⟩:=aS;simp only at hm HG ⊢;have Bk:=(au.decls d jz).n;refine Par.bD (λwF=>?_) (λ_=>.al hm);refine .aB (Ξ:=λr:fh × ByteArray=>e_ r.1) ?_ λr aj=>.al ⟨aj,by show 0<=aR (k+1); rw [cD]; omega⟩;refine Par.bB (λ_=>.go λx j=>?_) (λ_=>?_)
   ·have u9:=va j;exact .aB (Yn m d x hm (ok.decls d jz x u9) ((au.decls d jz).syms x u9)) λbm hT=>.al hT
   ·refine .aB (Ξ:=e_) (Par.bB (λ_=>.go λ_ _=>.go λ_ _=>.aB (sE m _ _) λbm h=>.al (hm.fail h)) (λ_=>.al hm)) λbm hT=>.go λ_ _=>.al hT
 -- what stands on the left
 refine .aB (Ξ:=e_) ?_ λcz HK=>?_
 ·refine Par.loop (λz=>e_ z.1/\0<=z.2) ⟨cu,Int.le_refl 0⟩ λz aS=>?_;obtain ⟨m,i⟩:=z;obtain ⟨hm,aH⟩:=aS;simp only at hm aH ⊢;refine Par.bD (λaN=>?_) (λ_=>.al hm);refine .aB (Ξ:=e_) ?_ λr aj=>.al ⟨aj,by show 0<=aR (i+1); rw [cD]; omega⟩;refine .go λr aj=>.aB (Ξ:=λ_=>True) (λ_ _=>trivial) λ_ _=>?_;refine .aB (Ξ:=e_) (Par.bB (λ_=>.aB (sE m _ _) λbm h=>.al (hm.fail h)) (λ_=>.al hm)) λij oO=>?_;refine .aB (Ξ:=λ_=>True) (λ_ _=>trivial) λ_ _=>?_;refine .aB (Ξ:=λl:List ByteArray=>∀ y∈l,y.size<=eV) (Par.bB (λ_=>Par.ap λ_=>.al λy ai=>?_) (λ_=>.al oO.e6)) λl ah=>.al ⟨oO.a,oO.b,ah⟩;rcases List.mem_append.1 ai with ai | ai
  ·exact oO.e6 y ai
  ·rw [List.mem_singleton.1 ai]; exact (au.rules r (va aj)).left
 -- types and starts
 refine .aB (Ξ:=e_) ?_ λgb tj=>?_
 ·refine Par.loop (λz=>e_ z.1) HK λz hm=>?_;obtain ⟨m,i⟩:=z;simp only at hm ⊢;refine Par.bD (λaN=>?_) (λ_=>.al hm);refine .aB (Ξ:=e_) ?_ λr aj=>.al aj;refine Par.loop (λz=>e_ z.1) hm λz hm=>?_;obtain ⟨m,k⟩:=z;simp only at hm ⊢;refine .go λd _=>Par.bD (λaN=>?_) (λ_=>.al hm);refine .aB (Ξ:=e_) ?_ λr aj=>.al aj;refine .go λ_ _=>.go λ_ _=>.aB (Ξ:=λ_=>True) (λ_ _=>trivial) λ_ _=>?_;exact .aB (Ξ:=e_) (Par.bB (λ_=>.aB (sE m _ _) λbm h=>.al (hm.fail h)) (λ_=>.al hm)) λbm hT=>.al hT
 refine .aB (Ξ:=λ_=>True) (λ_ _=>trivial) λw4 _=>.aB (Ξ:=λ_=>True) (λ_ _=>trivial) λme _=>?_
 -- the alternatives
 refine .aB (Ξ:=e_) ?_ λbl nB=>?_
 ·refine Par.loop (λz=>e_ z.1/\0<=z.2) ⟨⟨tj.a,tj.b,tj.e6⟩,Int.le_refl 0⟩ λz aS=>?_;obtain ⟨m,i⟩:=z;obtain ⟨hm,aH⟩:=aS;simp only at hm aH ⊢;refine Par.bD (λaN=>?_) (λ_=>.al hm);refine .aB (Ξ:=e_) ?_ λr aj=>.al ⟨aj,by show 0<=aR (i+1); rw [cD]; omega⟩;refine Par.loop (λz=>e_ z.1/\0<=z.2) ⟨hm,Int.le_refl 0⟩ λz aS=>?_;obtain ⟨m,k⟩:=z;obtain ⟨hm,HG⟩:=aS;simp only at hm HG ⊢;refine .go λd aO=>Par.bD (λwF=>?_) (λ_=>.al hm);have jz:=va aO;have Bk:=(au.rules d jz).n;refine .go λd1 NH=>.go λd2 yK=>.go λa aQ=>?_;rw [aO] at NH yK;cases NH; cases yK;have NB:=va aQ;exact .aB (Yp m d.Left a hm ((au.rules d jz).alts a NB) (ok.rules d jz a NB)) λbm hT=>.al ⟨hT,by show 0<=aR (k+1); rw [cD]; omega⟩
 refine Par.pq (λh=>.al λaL=>absurd aL h) (λhe=>?_);have Jf:=nB.b he
 -- nonterminals
 refine .aB (Ξ:=λl:List fb=>1<=l.length/\∀ x∈l,x.Name.size<=4 * eV) ?_ λrW HO=>?_
 ·refine Par.loop (λz=>1<=z.1.length/\∀ x∈z.1,x.Name.size<=4 * eV) ⟨Nat.le_refl 1,λx j=>?_⟩ λz aS=>?_
  ·rw [List.mem_singleton.1 j]; decide
  ·refine Par.bB (λ_=>.go λy ai=>.go λ_ _=>.aB (Ξ:=λ_=>True) (λ_ _=>trivial) λ_ _=>Par.ap λ_=>.al ⟨by show 1<=(z.1++[_]).length; simp,λx j=>?_⟩) (λ_=>.al aS);rcases List.mem_append.1 j with j | j
   ·exact aS.2 x j
   ·rw [List.mem_singleton.1 j];have:=nB.e6 y (va ai);show y.size<=4 * eV;omega
 refine .aB (Ξ:=λl:List fb=>l.length<=24->∀ x∈l,x.Name.size<=4 * eV) ?_ λj4 Nh=>?_
 ·refine Par.loop (λz=>(z.1.length<=24->∀ x∈z.1,x.Name.size<=4 * eV)/\0<=z.2/\z.2<=z.1.length) ⟨λ_=>HO.2,by show (0:Int)<=1; decide,by have:=HO.1; show (1:Int)<=(rW.length:Int); omega⟩ λz aS=>?_;obtain ⟨l,i⟩:=z;obtain ⟨ah,aH,hi⟩:=aS;simp only at ah aH hi ⊢;refine Par.bD (λhle=>.go λy ai=>?_) (λ_=>.al ah);refine Par.cat (Par.ap λsk=>.al ⟨λhlen x j=>?_,by show 0<=aR (i+1); unfold lim at sk; simp only [List.length_cons,List.length_nil] at sk; rw [cD]; omega,by show aR (i+1)<=(((l++[_]).length:Nat):Int); unfold lim at sk; simp only [List.length_cons,List.length_nil,List.length_append] at sk ⊢; rw [cD]; omega⟩);have hlen:(l++[_]).length<=24:=hlen;simp only [List.length_append,List.length_cons,List.length_nil] at hlen;rcases List.mem_append.1 j with j | j
  ·exact ah (by omega) x j
  ·rw [List.mem_singleton.1 j];have dL:=(t13 i aH (by omega)).eq ai;show (_++y).size<=4 * eV;rw [ByteArray.size_append];show 1+y.size<=4 * eV;simp only [eV]; omega
 -- numbers
 have dn:=nB.a;have sk:bl.aA.aW.length<=1000000000000000:=by have:=dn.hi; unfold lim at this; omega
 refine .aB (Ξ:=λl:List Tok=>∃ (i next:Int),l.length=bl.aA.aW.length/\(l.length:Int)<=i/\(∀ (aa:Nat) (t:Tok),l[aa]?=some t->∃ t0,bl.aA.aW[aa]?=some t0/\t.Name=t0.Name/\t.Lit=t0.Lit/\((t.bT=t0.bT/\(¬ (3<=aa/\(aa:Int)<i)\/bl.cg[aa]?=some true))\/(57346<=t.bT/\t.bT<next/\3<=aa/\(aa:Int)<i)))/\(∀ (aa k:Nat) (s t:Tok),l[aa]?=some s->l[k]?=some t->57346<=s.bT->s.bT=t.bT->aa=k)/\57346<=next/\next<=57343+i/\i<=l.length) ?_ λlQ Ni=>?_
 ·refine Par.loop (λz=>z.1.length=bl.aA.aW.length/\(∀ (aa:Nat) (t:Tok),z.1[aa]?=some t->∃ t0,bl.aA.aW[aa]?=some t0/\t.Name=t0.Name/\t.Lit=t0.Lit/\((t.bT=t0.bT/\(¬ (3<=aa/\(aa:Int)<z.2.2)\/bl.cg[aa]?=some true))\/(57346<=t.bT/\t.bT<z.2.1/\3<=aa/\(aa:Int)<z.2.2)))/\(∀ (aa k:Nat) (s t:Tok),z.1[aa]?=some s->z.1[k]?=some t->57346<=s.bT->s.bT=t.bT->aa=k)/\57346<=z.2.1/\z.2.1<=57343+z.2.2/\3<=z.2.2/\z.2.2<=z.1.length) ⟨rfl,λaa t ak=>⟨t,ak,rfl,rfl,.inl ⟨rfl,.inl (by show ¬ (3<=aa/\(aa:Int)<3); omega)⟩⟩,λaa k s t ax ak aH he=>?_,by show (57346:Int)<=57346; decide,by show (57346:Int)<=57343+3; decide,Int.le_refl 3,by have:=dn.lo; show (3:Int)<=(bl.aA.aW.length:Nat); omega⟩ λz aS=>?_
  ·have:=dn.le s (List.mem_of_getElem? ax); omega
  obtain ⟨l,next,i⟩:=z;obtain ⟨ah,f',qj,l6,qm,VV,IM⟩:=aS;simp only at ah f' qj l6 qm VV IM ⊢;have hw:aR (i+1)=i+1:=by rw [cD]; omega
  have WT:aR (next+1)=next+1:=by rw [cD]; omega
  rw [hw,WT];refine Par.bD (λaN=>?_) (λdY=>.al ⟨i,next,ah,by omega,f',qj,l6,qm,IM⟩);have NR:i.toNat<l.length:=by omega
  refine .aB (Ξ:=λaa:List Tok × Int=>aa.1.length=bl.aA.aW.length/\(∀ (k:Nat) (t:Tok),aa.1[k]?=some t->∃ t0,bl.aA.aW[k]?=some t0/\t.Name=t0.Name/\t.Lit=t0.Lit/\((t.bT=t0.bT/\(¬ (3<=k/\(k:Int)<i+1)\/bl.cg[k]?=some true))\/(57346<=t.bT/\t.bT<aa.2/\3<=k/\(k:Int)<i+1)))/\(∀ (a k:Nat) (s t:Tok),aa.1[a]?=some s->aa.1[k]?=some t->57346<=s.bT->s.bT=t.bT->a=k)/\57346<=aa.2/\aa.2<=57343+(i+1)) ?_ λaa ag=>.al ⟨ag.1,ag.2.1,ag.2.2.1,ag.2.2.2.1,ag.2.2.2.2,by show 3<=i+1; omega,by show i+1<=(aa.1.length:Nat); rw [ag.1,<- ah]; omega⟩;refine .go λgf rf=>.aB (Ξ:=λaa:List Tok × Int=>aa.1.length=bl.aA.aW.length/\(∀ (k:Nat) (t:Tok),aa.1[k]?=some t->∃ t0,bl.aA.aW[k]?=some t0/\t.Name=t0.Name/\t.Lit=t0.Lit/\((t.bT=t0.bT/\(¬ (3<=k/\(k:Int)<i+1)\/bl.cg[k]?=some true))\/(57346<=t.bT/\t.bT<aa.2/\3<=k/\(k:Int)<i+1)))/\(∀ (a k:Nat) (s t:Tok),aa.1[a]?=some s->aa.1[k]?=some t->57346<=s.bT->s.bT=t.bT->a=k)/\57346<=aa.2/\aa.2<=57343+(i+1)) ?_ λaa ag=>.al ag;obtain ⟨_,_,rf⟩:=u' rf;refine Par.bB (λaI=>.go λy ai=>.al ?_) (λaI=>.al ⟨ah,λk t ak=>?_,qj,l6,by omega⟩)
  ·obtain ⟨_,_,ai⟩:=u' ai;obtain ⟨t0,e0,bO,b7,e1⟩:=f' _ y ai;have ade:y.bT<next:=by
    rcases e1 with ⟨e1,_⟩ | e1
    ·have:=dn.le t0 (List.mem_of_getElem? e0); omega
    ·exact e1.2.1
   have lF:∀ (k:Nat) (t:Tok),l[k]?=some t->t.bT<next:=λk t ak=>by
    obtain ⟨t1,f0,_,_,f3⟩:=f' k t ak;rcases f3 with ⟨f3,_⟩ | f3
    ·have:=dn.le t1 (List.mem_of_getElem? f0); omega
    ·exact f3.2.1
   refine ⟨by show (l.set _ _).length=_; rw [List.length_set]; exact ah,λk t ak=>?_,λa k s t ax ak aH he=>?_,by show 57346<=next+1; omega,by show next+1<=_; omega⟩
   ·have ak:(l.set i.toNat _)[k]?=some t:=ak;rw [rO NR] at ak;by_cases e:k=i.toNat
    ·rw [if_pos e] at ak;cases ak;subst e;exact ⟨t0,e0,bO,b7,.inr ⟨l6,by show next<next+1; omega,by omega,by omega⟩⟩
    ·rw [if_neg e] at ak;obtain ⟨t1,f0,f1,f2,f3⟩:=f' k t ak;refine ⟨t1,f0,f1,f2,?_⟩;rcases f3 with ⟨f3,f4⟩ | f3
     ·exact .inl ⟨f3,f4.imp (λh=>by omega) id⟩
     ·exact .inr ⟨f3.1,by show t.bT<next+1; omega,f3.2.2.1,by omega⟩
   ·have ax:(l.set i.toNat _)[a]?=some s:=ax;have ak:(l.set i.toNat _)[k]?=some t:=ak;rw [rO NR] at ax ak;by_cases e:a=i.toNat
    ·rw [if_pos e] at ax;cases ax;by_cases bZ:k=i.toNat
     ·omega
     ·rw [if_neg bZ] at ak;have h1:=lF k t ak;have he:next=t.bT:=he;omega
    ·rw [if_neg e] at ax;by_cases bZ:k=i.toNat
     ·rw [if_pos bZ] at ak;cases ak;have h1:=lF a s ax;have he:s.bT=next:=he;omega
     ·rw [if_neg bZ] at ak;exact qj a k s t ax ak aH he
  ·obtain ⟨t1,f0,f1,f2,f3⟩:=f' k t ak;refine ⟨t1,f0,f1,f2,?_⟩;rcases f3 with ⟨f3,f4⟩ | f3
   ·by_cases e:k=i.toNat
    ·refine .inl ⟨f3,.inr ?_⟩;rw [e,rf];simpa using aI
    ·exact .inl ⟨f3,f4.imp (λh=>by omega) id⟩
   ·exact .inr ⟨f3.1,f3.2.1,f3.2.2.1,by omega⟩
 -- limits
 refine .aB (Ξ:=λc=>c=false->lQ.length<=40/\j4.length<=24) ?_ λAF HH=>?_
 ·exact Par.bD (λ_=>.al λh=>by cases h) (λh1=>Par.bD (λ_=>.al λh=>by cases h) (λaf=>.al λh=>by omega))
 refine .aB (Ξ:=λc=>c=false->AF=false) ?_ λz_ HI=>?_
 ·refine Par.loop (λz=>z.1=false->AF=false) id λz aS=>?_;refine Par.bB (λ_=>?_) (λ_=>.al aS);exact .aB (Ξ:=λc=>c=false->AF=false) (Par.bB (λ_=>.al λh=>by cases h) (λh=>.go λ_ _=>.al λ_=>aS h)) λc J=>.al J
 refine Par.bB (λ_=>.al λh=>absurd h (by decide)) (λJ=>.al λ_=>?_);obtain ⟨jD,gZ⟩:=HH (HI J);obtain ⟨i,next,ah,dY,f',qj,l6,qm,IM⟩:=Ni;refine ⟨λaa t ag ak=>?_,λaa t ag ak=>?_,λaa k s t ax ak aH Bl=>?_,λt ak=>?_,Nh gZ⟩
 ·obtain ⟨t0,e0,_,_,e1⟩:=f' aa t ak;rcases e1 with ⟨e1,_⟩ | e1
  ·rw [e1]; exact Jf.aO aa t0 ag e0
  ·omega
 ·have eW:aa<lQ.length:=(List.getElem?_eq_some_iff.1 ak).1;obtain ⟨t0,e0,_,_,e1⟩:=f' aa t ak;rcases e1 with ⟨e1,qh⟩ | e1
  ·rcases qh with qh | qh
   ·omega
   ·have h1:=(Jf.gf aa t0 ag e0).1 qh;have af:=dn.le t0 (List.mem_of_getElem? e0);omega
  ·omega
 ·by_cases HN:57346<=s.bT
  ·exact qj aa k s t ax ak HN Bl
  ·obtain ⟨eD,e0,_,_,e1⟩:=f' aa s ax;obtain ⟨t0,f0,_,_,f3⟩:=f' k t ak;rcases e1 with ⟨e1,_⟩ | e1
   ·rcases f3 with ⟨f3,_⟩ | f3
    ·exact Jf.un aa k eD t0 e0 f0 (by omega) (by omega)
    ·omega
   ·omega
 ·obtain ⟨aa,ag,rfl⟩:=List.mem_iff_getElem.1 ak;obtain ⟨t0,e0,bO,b7,_⟩:=f' aa _ (List.getElem?_eq_getElem ag);have:=dn.zc t0 (List.mem_of_getElem? e0);rw [bO,b7]; exact this
theorem YG:(List.range 256).all (λb=>match zz (b:Int),zu (b:Int) with | some x,some y=>decide (x=y)&&Nat.ble x.size 4 | _,_=>false)=true:=by kernel_rfl
theorem XV (b:Int) (aH:0<=b) (h1:b<=255):∃ r,zz b=some r/\zu b=some r/\r.size<=4:=by
 have h:=List.all_eq_true.1 YG b.toNat (by simp; omega);have e:((b.toNat:Nat):Int)=b:=by omega
 rw [e] at h;cases h1:zz b with
 | none=>rw [h1] at h; cases h
 | some x =>
  cases af:zu b with
  | none=>rw [h1,af] at h; cases h
  | some y =>
   rw [h1,af] at h;simp only [Bool.and_eq_true,decide_eq_true_eq,Nat.ble_eq] at h;obtain ⟨rfl,h⟩:=h;exact ⟨x,rfl,rfl,h⟩
theorem J5 (g:bx) (aM:fV g) (aI:qQ g) (s:Int) (h:oF g.aW.length (g.bA.length - 1) s):∃ r,nj g s=some r/\qA g s=some r/\r.size<=4 * eV+4:=by
 have dn:=aM.j2;have a8:=aM.c_;rcases h with ⟨aH,h1⟩ | ⟨aH,h1⟩
 ·have c1:decide (0<=s)=true:=decide_eq_true aH;have c2:decide (s<(g.aW.length:Int))=true:=decide_eq_true h1;have j8:decide (1000<=s)=false:=decide_eq_false (by omega);obtain ⟨t,ak,nH⟩:=kx aH h1;have az:=aI.zc t nH;unfold nj qA CR;simp only [c1,c2,j8,cond_true,cond_false,ak,Option.bind_some,Bool.not_true];cases ah:t.Lit with
  | true =>
   have ax:=az.2 ah;have au:=Sh t.Name 0;obtain ⟨r,bO,b7,e1⟩:=XV (jv t.Name 0) au.1 au.2;have e0:iP t.Name 0=some (jv t.Name 0):=by unfold iP; rw [if_pos (by omega)]
   simp only [cond_true,e0,Option.bind_some,bO,b7];exact ⟨r,rfl,rfl,by omega⟩
  | false =>
   simp only [cond_false];exact ⟨_,rfl,rfl,by have:=az.1; omega⟩
 ·have c1:decide (0<=s)=true:=decide_eq_true (by omega);have c2:decide (s<(g.aW.length:Int))=false:=decide_eq_false (by omega);have j8:decide (1000<=s)=true:=decide_eq_true aH;have hw:aR (s - 1000)=s - 1000:=by rw [cD]; omega
  have oc:aR (1000+(g.bA.length:Int))=1000+g.bA.length:=by rw [cD]; omega
  have c4:decide (s - 1000<(g.bA.length:Int))=true:=decide_eq_true (by omega);have jf:decide (s<1000+(g.bA.length:Int))=true:=decide_eq_true (by omega);obtain ⟨t,ak,nH⟩:=kx (l:=g.bA) (i:=s - 1000) (by omega) (by omega);have az:=aI.c_ t nH;unfold nj qA CR;simp only [c1,c2,j8,cond_true,cond_false,hw,oc,c4,jf,ak,Option.bind_some,Bool.not_true];exact ⟨_,rfl,rfl,by omega⟩
theorem eQ {a b:ByteArray}(h:a.size+b.size<=4611686018427387904):cj a b=some (a++b):=by unfold cj; rw [if_pos h]
theorem n52 (g:bx) (aM:fV g) (aI:qQ g) (x:Item):Rel (xo g x) (vt g x) λa b=>a=b/\a.size<=60000:=by
 have dn:=aM.j2;have a8:=aM.c_;obtain ⟨c,J,h1⟩:=Hs g x;obtain ⟨ta,dX,kr⟩:=Hr g x;have e:c=ta:=by rw [Bool.eq_iff_iff]; exact h1.trans kr.symm
 subst e;unfold xo vt;rw [J,dX];simp only [Option.bind_some];refine Rel.bB rfl (λ_=>.al ⟨rfl,Nat.zero_le _⟩) (λh=>?_);obtain ⟨q,ba,aH,af⟩:=h1.1 (by simpa using h);have k':=va ba;have av:=aM.gN q k';have adn:=aM.aF q k';rw [ba];simp only [Option.bind_some];have ah:=av.left;obtain ⟨t,ak,nH⟩:=kx (l:=g.bA) (i:=q.Left) ah.1 (by omega);have az:=aI.c_ t nH;have hw:aR (1000+q.Left)=1000+q.Left:=by rw [cD]; omega
 have oc:aR (1000+q.Left - 1000)=q.Left:=by rw [cD]; omega
 have bO:nj g (1000+q.Left)=some t.Name:=by
  have c1:decide (0<=1000+q.Left)=true:=decide_eq_true (by omega);have c2:decide (1000+q.Left<(g.aW.length:Int))=false:=decide_eq_false (by omega);have j8:decide (1000<=1000+q.Left)=true:=decide_eq_true (by omega);have c4:decide (q.Left<(g.bA.length:Int))=true:=decide_eq_true (by omega);unfold nj;simp only [c1,c2,j8,oc,c4,cond_true,cond_false,Option.bind_some,ak]
 rw [hw,bO,ak];simp only [eV] at az;have la:(⟨#[32,58]⟩:ByteArray).size=2:=rfl;have uW:(⟨#[32]⟩:ByteArray).size=1:=rfl;have Oa:(⟨#[32,46]⟩:ByteArray).size=2:=rfl;simp only [Option.bind_some];rw [eQ (by omega)];simp only [Option.bind_some];refine Rel.aB (Ξ:=λa b=>a=b/\a.size<=50000) ?_ λa b uJ=>?_
 ·refine Rel.upto (λs=>s.2) q.eI.length (λk s t=>s=t/\s.2=(k:Int)/\s.1.size<=4002+k * 4010) rfl (by omega) ⟨rfl,rfl,by show (t.Name++_).size<=_; rw [ByteArray.size_append]; omega⟩ λk s t hk he bb=>?_;obtain ⟨rfl,_,dL⟩:=bb;obtain ⟨s,i⟩:=s;simp only at he dL ⊢;subst he;rw [eE k (by omega)];refine Rel.bB rfl (λaN=>?_) (λdY=>.al ⟨rfl,?_⟩)
  ·have aN:=of_decide_eq_true aN;have aN:k<q.eI.length:=by omega
   rw [ep aN];obtain ⟨r,o2,jJ,rL⟩:=J5 g aM aI q.eI[k] (av.right _ (List.getElem_mem aN));simp only [eV] at rL;have key:∃ u,((bif decide ((k:Int)=x.cP) then ((cj s (⟨#[32,46]⟩)).bind λe8=>some e8) else some s)=some u)/\u.size<=s.size+2:=by
    by_cases aO:(k:Int)=x.cP
    ·exact ⟨_,by rw [decide_eq_true aO,cond_true,eQ (by omega)]; rfl,by rw [ByteArray.size_append]; omega⟩
    ·exact ⟨_,by rw [decide_eq_false aO,cond_false],by omega⟩
   obtain ⟨u,hu,ih⟩:=key;rw [hu];simp only [Option.bind_some,o2,jJ];rw [eQ (by omega)];have Wz:((⟨#[32]⟩:ByteArray)++r).size=1+r.size:=by rw [ByteArray.size_append,uW]
   have adt:(u++(⟨#[32]⟩:ByteArray)).size=u.size+1:=by rw [ByteArray.size_append,uW]
   simp only [Option.bind_some];rw [eQ (by omega),eQ (by omega)];simp only [Option.bind_some];rw [eQ (by omega)];simp only [Option.bind_some];refine .al ⟨aN,rfl,?_,rfl,?_⟩
   ·show (_,_)=(_,_);rw [ByteArray.append_assoc]
   ·show (u++_).size<=_;rw [ByteArray.size_append,Wz];omega
  ·show s.size<=_;omega
 ·obtain ⟨rfl,dL⟩:=uJ;by_cases aO:x.cP=(q.eI.length:Int)
  ·rw [decide_eq_true aO,cond_true,eQ (by omega)];exact .al ⟨rfl,by rw [ByteArray.size_append]; omega⟩
  ·rw [decide_eq_false aO,cond_false];exact .al ⟨rfl,by omega⟩
open Go Go.Own Go.Lib
theorem Ma {a b:ByteArray}(h:a.data.toList=b.data.toList):a=b:=by
 cases a; cases b; congr; exact Array.ext' h
theorem R5 (a b:ByteArray):(a++b).data.toList=a.data.toList++b.data.toList:=by rw [ByteArray.data_append,Array.toList_append]
theorem yo (a:ByteArray):a.size=a.data.toList.length:=(Array.length_toList ..).symm
theorem R4 {a:ByteArray}(h:a.size=0):a=⟨#[]⟩:=Ma (List.eq_nil_of_length_eq_zero (by rw [<- yo,h]))
theorem Mb (a b:ByteArray):(a++b).size=a.size+b.size:=ByteArray.size_append
theorem XW (u:Nat):1<=(decDigits u).length:=by rw [decDigits_length]; exact nDigits_pos u
theorem Cl {u:Nat}(h:u<18446744073709551616):(decDigits u).length<=20:=by
 rw [decDigits_length];rcases Nat.eq_zero_or_pos u with rfl | h1
 ·rw [nDigits_small (by omega)]; omega
 ·have:=numDigits_eq u h1 h
  split at this <;> omega
theorem MJ (u:Nat) (hu:u<18446744073709551616) (f:Int × ByteArray->Option ((Int × ByteArray) ⊕ ByteArray))
  (aU:f=λ(dE:Int × ByteArray) =>
((bif decide (0<dE.1) then some true else some (decide (dE.2=⟨#[]⟩)))).bind λpn =>
(bif pn then
(o3 dE.1 10).bind λcR =>
(cj (strOfNums [tZ (IntKind.u64.wrap (48+cR))]) dE.2).bind λbR =>
(o1 dE.1 10).bind λdt =>
some (.inl (dt,bR))
else
some (.inr dE.2))):b0 (R:=ByteArray) f ((u:Int),⟨#[]⟩)=some ⟨(decDigits u).toArray⟩:=by
 suffices h:Tot (b0 (R:=ByteArray) f ((u:Int),⟨#[]⟩)) λr=>r=⟨(decDigits u).toArray⟩ by
  obtain ⟨r,aj,e⟩:=h; rw [aj,e]
 refine Tot.loop (λs=>∃ m:Nat,s.1=m/\m<18446744073709551616/\((s.2.size=0/\m=u)\/(0<s.2.size/\(if m=0 then [] else decDigits m)++s.2.data.toList=decDigits u)))
  (λs=>if s.1=0 then (if s.2.size=0 then 1 else 0) else (decDigits s.1.toNat).length+1) ⟨u,rfl,hu,.inl ⟨rfl,rfl⟩⟩ ?_ ?_
 ·show (if (u:Int)=0 then _ else _)<1000000000000000000
  have:=Cl hu;split
  ·split <;> omega
  ·simp only [Int.toNat_natCast]; omega
 ·rintro ⟨x,s⟩ ⟨m,j,hm,ax⟩;simp only at j ax;subst j;rw [aU];by_cases Bq:0<m\/s.size=0
  ·have J:(bif decide (0<((m:Int),s).1) then some true else some (decide (((m:Int),s).2=⟨#[]⟩)))=some true:=by
    simp only;by_cases aH:0<(m:Int)
    ·rw [decide_eq_true aH]; rfl
    ·rw [decide_eq_false aH];show some (decide (s=⟨#[]⟩))=some true;rw [decide_eq_true (R4 (by omega))]
   simp only [J,Option.bind_some,cond_true];have EJ:(m:Int).tmod 10=((m % 10:Nat):Int):=by
    rw [Int.tmod_eq_emod_of_nonneg (by omega)]; omega
   have hdiv:IntKind.u64.wrap ((m:Int).tdiv 10)=((m / 10:Nat):Int):=by
    rw [Int.tdiv_eq_ediv_of_nonneg (by omega),IntKind.wrap_u64]; omega
   have VG:tZ (IntKind.u64.wrap (48+(m:Int).tmod 10))=((48+m % 10:Nat):Int):=by
    show IntKind.u8.wrap _=_;rw [EJ,IntKind.wrap_u64,IntKind.wrap_u8]; omega
   have fy:(strOfNums [((48+m % 10:Nat):Int)]).data.toList=[UInt8.ofNat (48+m % 10)]:=rfl;have dL:(strOfNums [((48+m % 10:Nat):Int)]).size=1:=strOfNums_size _
   -- what is there behind the step
   have r':(if m / 10=0 then [] else decDigits (m / 10))++(UInt8.ofNat (48+m % 10)::s.data.toList)=decDigits u:=by
    have bE:(if m / 10=0 then [] else decDigits (m / 10))++[UInt8.ofNat (48+m % 10)]=decDigits m:=by
     by_cases wm:m<10
     ·rw [if_pos (by omega),decDigits,dif_pos wm,Nat.mod_eq_of_lt wm]; rfl
     ·rw [if_neg (by omega)]
      conv=>rhs; rw [decDigits,dif_neg wm]
    rw [show UInt8.ofNat (48+m % 10)::s.data.toList=[UInt8.ofNat (48+m % 10)]++s.data.toList from rfl,<- List.append_assoc,bE]
    rcases ax with ⟨aH,rfl⟩ | ⟨aH,h1⟩
    ·rw [List.eq_nil_of_length_eq_zero (l:=s.data.toList) (by rw [<- yo]; exact aH),List.append_nil]
    ·rw [if_neg (by omega)] at h1; exact h1
   have adp:s.size+1<=20:=by
    have h1:=congrArg List.length r';have af:=Cl hu;rw [List.length_append,List.length_cons,<- yo] at h1;omega
   refine .bi (.o3 (by omega) (.bi ?_));rw [VG];refine .cat (by rw [dL]; omega) (.bi (.o1 (by omega) (.al ?_)));rw [hdiv];refine ⟨⟨m / 10,rfl,by omega,.inr ⟨by rw [Mb,dL]; omega,?_⟩⟩,?_⟩
   ·show _++(strOfNums [((48+m % 10:Nat):Int)]++s).data.toList=_;rw [R5,fy]; exact r'
   ·show (if ((m / 10:Nat):Int)=0 then (if (strOfNums [((48+m % 10:Nat):Int)]++s).size=0 then 1 else 0) else (decDigits ((m / 10:Nat):Int).toNat).length+1)<(if (m:Int)=0 then (if s.size=0 then 1 else 0) else (decDigits (m:Int).toNat).length+1)
    rw [Mb,dL];simp only [Int.toNat_natCast];by_cases aH:m=0
    ·have:s.size=0:=by omega
     subst aH;simp [this]
    ·have yU:¬ (m:Int)=0:=by omega
     rw [if_neg yU];by_cases wm:m<10
     ·rw [if_pos (show ((m / 10:Nat):Int)=0 by omega),if_neg (by omega)];have:=XW m; omega
     ·rw [if_neg (show ¬ ((m / 10:Nat):Int)=0 by omega)];have:decDigits m=decDigits (m / 10)++[UInt8.ofNat (48+m % 10)]:=by conv=>lhs; rw [decDigits,dif_neg wm]
      rw [this,List.length_append]; simp
  ·have aH:m=0:=by omega
   subst aH;have N':0<s.size:=by omega
   have cU:¬ s=⟨#[]⟩:=λe=>by rw [e] at N'; exact absurd N' (by decide)
   simp only [Int.natCast_zero,Int.lt_irrefl,decide_false,cond_false,Option.bind_some,decide_eq_false cU];refine .al ?_;rcases ax with ⟨h,_⟩ | ⟨_,h⟩
   ·omega
   ·rw [if_pos rfl] at h;exact Ma h
theorem l1 (n:Int) (h:-9223372036854775808<=n/\n<=9223372036854775807):kf n=some ⟨(tG n).toArray⟩:=by
 rw [JD h];unfold kf Lib.itoa;by_cases aH:n<0
 ·have e:IntKind.u64.wrap (-(IntKind.u64.wrap n))=((n.natAbs:Nat):Int):=by
   rw [IntKind.wrap_u64,IntKind.wrap_u64]; omega
  simp only [decide_eq_true aH,cond_true,Option.bind_some,e,if_pos aH];rw [MJ n.natAbs (by omega) _ rfl,Option.bind_some];have dL:({ data:=(decDigits n.natAbs).toArray }:ByteArray).size<=20:=by rw [yo]; exact Cl (by omega)
  have:cj ⟨#[45]⟩ ⟨(decDigits n.natAbs).toArray⟩=some ⟨(45::decDigits n.natAbs).toArray⟩:=by
   unfold cj;rw [if_pos (by have:(⟨#[45]⟩:ByteArray).size=1:=rfl; omega)];rfl
  rw [this]; rfl
 ·have e:IntKind.u64.wrap n=((n.toNat:Nat):Int):=by rw [IntKind.wrap_u64]; omega
  simp only [decide_eq_false aH,cond_false,Option.bind_some,e,if_neg aH];rw [MJ n.toNat (by omega) _ rfl]; rfl
theorem OH (n:Int) (h:-9223372036854775808<=n/\n<=9223372036854775807):(tG n).length<=21:=by
 rw [JD h];unfold Lib.itoa;split
 ·have:=Cl (u:=n.natAbs) (by omega); simp only [List.length_cons]; omega
 ·have:=Cl (u:=n.toNat) (by omega); omega
theorem Mt (n:Int) (h:-9223372036854775808<=n/\n<=9223372036854775807):nK n=some ⟨(tG n).toArray⟩:=by unfold nK; rw [if_pos h]
open Go Go.Own Go.Sort
def ik (a b:Int):Bool:=decide (a<b)
theorem O2 {a b:Int}:ik a b=true↔a<b:=by simp [ik]
theorem J2 {a b:Int}:ik a b=false↔¬ a<b:=by simp [ik]
theorem Fv:Ord ik where
 swo:=⟨λx=>by rw [J2]; omega,λx y z h1 af=>by rw [O2] at *; omega,λx y z h1 af=>by rw [J2] at *; omega⟩
 i':=λx y h1 af=>by rw [J2] at *; omega
theorem RP {l:List Int}(ah:fo ik l) {i aa:Nat}(hi:i<l.length) (ag:aa<l.length) (h:i<aa):ik l[i] l[aa]=true:=List.pairwise_iff_getElem.1 ah i aa hi ag h
theorem Ha (l:List Int) (x:Int) (ah:fo ik l) (az:l.length<=100000):Tot (qB l x) λr=>fo ik r/\r.length<=l.length+1/\(∀ y,y∈r↔y∈l\/y=x):=by
 unfold qB;refine .aB (Ξ:=λz:Int=>∃ k:Nat,z=(k:Int)/\k<=l.length/\(∀ (i:Nat) (h:i<l.length),k<=i->ik x l[i]=true)/\∀ (h:0<k),ik x (l[k - 1]?.getD default)=false) ?_ λz aS=>?_
 ·refine Tot.count (λs=>-s) 1 (λs=>∃ k:Nat,s=(k:Int)/\k<=l.length/\∀ (i:Nat) (h:i<l.length),k<=i->ik x l[i]=true) ⟨l.length,rfl,Nat.le_refl _,λi h hk=>by omega⟩ (by show 1 - -(l.length:Int)<_; omega) λs ax=>?_;obtain ⟨k,rfl,hk,wP⟩:=ax;refine .aB (Ξ:=λc:Bool=>(c=true->0<k/\ik x (l[k - 1]?.getD default)=true)/\(c=false->∀ (h:0<k),ik x (l[k - 1]?.getD default)=false)) ?_ λc J=>Tot.bB (λh=>?_) (λh=>.al ⟨k,rfl,hk,wP,J.2 h⟩)
  ·refine Tot.bD (λh=>?_) (λh=>.al ⟨λaL=>(by cases aL),λ_ aL=>by omega⟩);have eM:k - 1<l.length:=by omega
   have hw:aR ((k:Int) - 1)=((k - 1:Nat):Int):=by rw [cD]; omega
   rw [hw,ep eM,List.getElem?_eq_getElem eM];simp only [Option.bind_some,Option.getD_some];exact .al ⟨λaL=>⟨by omega,aL⟩,λaL _=>aL⟩
  ·obtain ⟨aH,h1⟩:=J.1 h;refine .al ⟨⟨k - 1,by rw [cD]; omega,by omega,λi hi IV=>?_⟩,by show -(k:Int) < -aR _; rw [cD]; omega,by show -aR _<=1; rw [cD]; omega⟩
   grind
 ·obtain ⟨k,rfl,hk,wP,lF⟩:=aS;refine .aB (Ξ:=λc:Bool=>(c=true↔(0<k/\l[k - 1]?.getD default=x))) ?_ λc J=>Tot.bB (λh=>?_) (λh=>?_)
  ·refine Tot.bD (λh=>?_) (λh=>.al ⟨λaL=>(by cases aL),λaL=>by omega⟩);have eM:k - 1<l.length:=by omega
   have hw:aR ((k:Int) - 1)=((k - 1:Nat):Int):=by rw [cD]; omega
   rw [hw,ep eM,List.getElem?_eq_getElem eM];simp only [Option.bind_some,Option.getD_some];generalize l[k - 1]=y;refine .al ?_
   grind
  ·obtain ⟨aH,h1⟩:=J.1 h;have eM:k - 1<l.length:=by omega
   rw [List.getElem?_eq_getElem eM] at h1;have j:x∈l:=by rw [<- h1]; exact List.getElem_mem eM
   exact .al ⟨ah,by omega,λy=>⟨.inl,λh=>h.elim id λe=>e ▸ j⟩⟩
  ·have cU:∀ (i:Nat) (hi:i<l.length),i<k->ik l[i] x=true:=by
    intro i hi rh;have eM:k - 1<l.length:=by omega
    have lF:=lF (by omega);have az:l[k - 1]?.getD default≠x:=λe=>by rw [J.2 ⟨by omega,e⟩] at h; cases h
    rw [List.getElem?_eq_getElem eM] at lF az;simp only [Option.getD_some] at lF az;have fk:ik l[k - 1] x=true:=by
     grind [ik]
    by_cases e:i=k - 1
    ·grind
    ·exact Fv.swo.trans _ _ _ (RP ah hi eM (by omega)) fk
   refine .aB (Ξ:=λz=>z=l.take k) (Tot.sub ⟨by omega,by omega,by omega⟩ (by simp)) λz aS=>?_;subst aS;refine .aB (Ξ:=λ_=>True) (Tot.ap (by simp [lim]; omega) trivial) λ_ _=>.aB (Ξ:=λ_=>True) (Tot.ap (by simp [lim]; omega) trivial) λ_ _=>?_;refine .aB (Ξ:=λz=>z=l.drop k) (Tot.sub ⟨by omega,by omega,by omega⟩ ?_) λz aS=>?_
   ·grind [List.take_of_length_le]
   subst aS;refine .aB (Ξ:=λ_=>True) (Tot.ap (by simp [lim]; omega) trivial) λ_ _=>.al ?_;rw [List.nil_append];refine ⟨?_,?_,?_⟩
   ·have h1:∀ a∈l.take k,ik a x=true:=by
     grind [List.mem_iff_getElem]
    have af:∀ a∈l.drop k,ik x a=true:=by
     grind [List.mem_iff_getElem]
    unfold fo;rw [List.append_assoc,List.pairwise_append];refine ⟨List.Pairwise.sublist (List.take_sublist k l) ah,?_,λa aQ b au=>?_⟩
    ·rw [List.singleton_append,List.pairwise_cons];exact ⟨af,List.Pairwise.sublist (List.drop_sublist k l) ah⟩
    ·rcases List.mem_append.1 au with au | au
     ·grind
     ·exact Fv.swo.trans _ _ _ (h1 a aQ) (af b au)
   ·grind
   grind [List.take_append_drop]
theorem TF (x y:Item):(decide (x.Prod=y.Prod)&&(decide (x.cP=y.cP)&&true))=decide (x=y):=by
 obtain ⟨aX,x2⟩:=x;obtain ⟨bS,y2⟩:=y;simp
theorem Su (a b:List Item) (h:a.length<=1000000):Tot (C1 a b) λc=>(c=true↔a=b):=by
 unfold C1;refine Tot.pq (λcU=>.al ⟨λh=>(by cases h),λe=>absurd (by rw [e]) cU⟩) (λhe=>?_);have ah:a.length=b.length:=by omega
 refine Tot.aB (Ξ:=h8 (λ_=>a=b) (λx:Bool=>x=false/\a≠b)) ?_ λx j=>?_
 ·refine Tot.count (λs=>s) a.length (λs=>∃ k:Nat,k<=a.length/\s=(k:Int)/\∀ (aa:Nat) (h:aa<a.length),aa<k->a[aa]=b[aa]) ⟨0,Nat.zero_le _,rfl,λaa _ ag=>absurd ag (Nat.not_lt_zero _)⟩ (by show (a.length:Int) - 0<_; omega) λs ax=>?_;obtain ⟨k,hk,rfl,kO⟩:=ax;rw [eE k (by omega)];refine Tot.bD (λaN=>?_) (λdY=>.al ?_)
  ·have aN:k<a.length:=by omega
   have yT:k<b.length:=by omega
   rw [ep aN,ep yT];simp only [Option.bind_some,TF];refine Tot.pq (λcU=>.al ⟨rfl,λe=>cU (by subst e; rfl)⟩) (λheq=>.al ⟨⟨k+1,by omega,rfl,λaa ag fY=>?_⟩,by show (k:Int)<((k+1:Nat):Int); omega,by show ((k+1:Nat):Int)<=_; omega⟩);by_cases e:aa=k
   ·subst e; exact heq
   ·exact kO aa ag (by omega)
  ·exact List.ext_getElem ah λi h1 af=>kO i h1 (by omega)
 ·rcases x with _ | x
  ·exact .al ⟨λ_=>j,λ_=>rfl⟩
  ·obtain ⟨rfl,cU⟩:x=false/\a≠b:=j;exact .al ⟨λh=>(by cases h),λh=>absurd h cU⟩
def syms (g:bx):List Int:=(List.range g.aW.length).map (λk:Nat=>(k:Int))++(List.range g.bA.length).map (λk:Nat=>1000+(k:Int))
theorem Mo (g:bx) (aM:fV g):Tot (CS g) λl=>l=syms g:=by
 have dn:=aM.j2;have a8:=aM.c_;unfold CS;refine .aB (Ξ:=λl:List Int=>l=(List.range g.aW.length).map (λk:Nat=>(k:Int))) ?_ λl ah=>?_
 ·refine Tot.upto (λs=>s.2) g.aW.length (λk s=>s.1=(List.range k).map (λk:Nat=>(k:Int))) rfl (by omega) rfl λk s hk he bb=>?_;obtain ⟨l,i⟩:=s;simp only at he bb ⊢;subst he bb;rw [eE k (by omega)];refine Tot.bD (λaN=>?_) (λdY=>.al ?_)
  ·refine .aB (Ξ:=λ_=>True) (Tot.ap (by simp [lim]; omega) trivial) λ_ _=>.al ⟨by omega,rfl,?_⟩;show _=(List.range (k+1)).map _;rw [List.range_succ,List.map_append]; rfl
  ·have:k=g.aW.length:=by omega
   subst this; rfl
 ·subst ah;refine .aB (Ξ:=λl:List Int=>l=syms g) ?_ λr aj=>.al aj;refine Tot.upto (λs=>s.2) g.bA.length (λk s=>s.1=(List.range g.aW.length).map (λk:Nat=>(k:Int))++(List.range k).map (λk:Nat=>1000+(k:Int))) rfl (by omega) (by simp) λk s hk he bb=>?_;obtain ⟨l,i⟩:=s;simp only at he bb ⊢;subst he bb;rw [eE k (by omega)];refine Tot.bD (λaN=>?_) (λdY=>.al ?_)
  ·refine .aB (Ξ:=λ_=>True) (Tot.ap (by simp [lim]; omega) trivial) λ_ _=>.al ⟨by omega,rfl,?_⟩;have hw:aR (1000+(k:Int))=1000+(k:Int):=by rw [cD]; omega
   show _=_++(List.range (k+1)).map _;rw [hw,List.range_succ,List.map_append,List.append_assoc]; rfl
  ·have:k=g.bA.length:=by omega
   subst this; rfl
theorem Zw (g:bx):(syms g).length=g.aW.length+g.bA.length:=by simp [syms]
theorem XP {g:bx}{s:Int}:s∈syms g↔(0<=s/\s<g.aW.length)\/(1000<=s/\s<1000+g.bA.length):=by
 unfold syms;rw [List.mem_append,List.mem_map,List.mem_map];constructor
 ·rintro (⟨k,hk,rfl⟩ | ⟨k,hk,rfl⟩)
  ·rw [List.mem_range] at hk; exact .inl (by omega)
  ·rw [List.mem_range] at hk; exact .inr (by omega)
 ·rintro (h | h)
  ·exact .inl ⟨s.toNat,by rw [List.mem_range]; omega,by omega⟩
  ·exact .inr ⟨(s - 1000).toNat,by rw [List.mem_range]; omega,by omega⟩
theorem Zx {g:bx}(aM:fV g):(syms g).Nodup:=by
 have ak:=aM.j2;unfold syms;rw [List.nodup_append];refine ⟨List.pairwise_map.2 ((List.nodup_range (n:=g.aW.length)).imp λ{a b} h e=>h (by omega)),List.pairwise_map.2 ((List.nodup_range (n:=g.bA.length)).imp λ{a b} h e=>h (by omega)),λa aQ b au=>?_⟩;obtain ⟨i,hi,rfl⟩:=List.mem_map.1 aQ;obtain ⟨aa,ag,rfl⟩:=List.mem_map.1 au;rw [List.mem_range] at hi;omega
structure x6 (g:bx) (K:List Item):Prop where
 a:fo fT K
 i:∀ x∈K,gL g x
theorem x6.len {g:bx}(aM:fV g) {K:List Item}(h:x6 g K):K.length<=540:=r3 aM h.a h.i
theorem yv (l:List Int) (x:Int) (h:l.length<=1000000):Tot (zs l x) λc=>(c=true↔x∈l):=by
 unfold zs;refine .aB (Ξ:=h8 (λ_=>x∉l) (λr:Bool=>r=true/\x∈l)) ?_ λr aj=>?_
 ·refine Tot.upto (λs=>s) l.length (λk s=>x∉l.take k) rfl (by omega) (by simp) λk s hk he bb=>?_;subst he;rw [eE k (by omega)];refine Tot.bD (λaN=>?_) (λdY=>.al ?_)
  ·have aN:k<l.length:=by omega
   rw [ep aN];simp only [Option.bind_some];refine Tot.bD (λe=>.al ⟨rfl,by rw [<- e]; exact List.getElem_mem aN⟩) (λe=>.al ⟨aN,rfl,?_⟩);rw [p6 aN,List.mem_append,List.mem_singleton];exact λh=>h.elim bb λh=>e h.symm
  ·rw [List.take_of_length_le (by omega)] at bb;exact bb
 ·rcases r with r | r
  ·exact .al ⟨λh=>(by cases h),λh=>absurd h aj⟩
  ·obtain ⟨rfl,h⟩:=aj;exact .al ⟨λ_=>h,λ_=>rfl⟩
theorem AG (m:List State) (k:List Item) (aH:m.length<=1000) (h1:∀ st∈m,st.Kernel.length<=1000000):Tot (CU m k) λr=>-1<=r/\r<m.length:=by
 unfold CU;refine .aB (Ξ:=h8 (λ_=>True) (λr:Int=>0<=r/\r<m.length)) ?_ λx j=>?_
 ·refine Tot.upto (λs=>s) m.length (λ_ _=>True) rfl (by omega) trivial λaa s ag he _=>?_;subst he;rw [eE aa (by omega)];refine Tot.bD (λaN=>?_) (λdY=>.al trivial);have aN:aa<m.length:=by omega
  rw [ep aN];refine Tot.sm (.aB (Su _ k (h1 _ (List.getElem_mem aN))) λc J=>Tot.bB (λh=>.al ⟨by omega,by omega⟩) (λh=>.al ⟨aN,rfl,trivial⟩))
 ·rcases x with x | x
  ·exact .al ⟨by omega,by omega⟩
  ·have j:0<=x/\x<m.length:=j;exact .al ⟨by omega,by omega⟩
structure x_ (g:bx) (n:Nat) (v:Move):Prop where
 s:v.Sym∈syms g
 t0:0<=v.hF
 t1:v.hF<n
structure lT (g:bx) (m:List State) (q aa:Nat):Prop where
 gr:0<m.length
 lh:m.length<=150
 oV:∀ st∈m,x6 g st.Kernel
 ms:∀ (i:Nat) (st:State),m[i]?=some st->(st.de.map (·.Sym)).Sublist (if i<q then syms g else if i=q then (syms g).take aa else [])
 a1:∀ st∈m,∀ v∈st.de,x_ g m.length v
structure k4 (g:bx) (m:List State):Prop where
 gr:0<m.length
 lh:m.length<=150
 oV:∀ st∈m,x6 g st.Kernel
 vj:∀ st∈m,st.de.length<=64
 nd:∀ st∈m,(st.de.map (·.Sym)).Nodup
 a1:∀ st∈m,∀ v∈st.de,x_ g m.length v
theorem x_.up {g:bx}{n ck:Nat}{v:Move}(h:x_ g n v) (az:n<=ck):x_ g ck v:=⟨h.s,h.t0,by have:=h.t1; omega⟩
theorem lT.put {g:bx}{m:List State}{q aa:Nat}(h:lT g m q aa) {st:State}(ba:m[q]?=some st) {v:Move}(hv:x_ g m.length v) (ag:(syms g)[aa]?=some v.Sym):lT g (m.set q ⟨st.Kernel,st.de++[v]⟩) q (aa+1):=by
 have k':=(List.getElem?_eq_some_iff.1 ba).1;have hm:=List.mem_of_getElem? ba;refine ⟨by rw [List.length_set]; exact h.gr,by rw [List.length_set]; exact h.lh,λs ax=>?_,λi s ax=>?_,λs ax w hw=>?_⟩
 ·rcases List.mem_or_eq_of_mem_set ax with aL | aL
  ·exact h.oV s aL
  ·rw [aL]; exact h.oV st hm
 ·rw [rO k'] at ax;by_cases e:i=q
  ·subst e;rw [if_pos rfl] at ax; cases ax;have:=h.ms i st ba;rw [if_neg (by omega),if_pos rfl] at this ⊢;rw [List.map_append,List.take_add_one,ag];exact this.append (List.Sublist.refl _)
  ·rw [if_neg e] at ax;have:=h.ms i s ax;rw [if_neg e] at this ⊢;exact this
 ·rw [List.length_set];rcases List.mem_or_eq_of_mem_set ax with aL | aL
  ·exact h.a1 s aL w hw
  ·rw [aL] at hw;rcases List.mem_append.1 hw with hw | hw
   ·exact h.a1 st hm w hw
   ·rw [List.mem_singleton.1 hw]; exact hv
theorem lT.more {g:bx}{m:List State}{q aa:Nat}(h:lT g m q aa) (ah:m.length<150) {K:List Item}(hk:x6 g K):lT g (m++[⟨K,[]⟩]) q aa:=by
 refine ⟨by simp,by simp; omega,λs ax=>?_,λi s ax=>?_,λs ax w hw=>?_⟩
 ·rcases List.mem_append.1 ax with ax | ax
  ·exact h.oV s ax
  ·rw [List.mem_singleton.1 ax]; exact hk
 ·by_cases e:i<m.length
  ·rw [List.getElem?_append_left e] at ax; exact h.ms i s ax
  ·rw [List.getElem?_append_right (by omega)] at ax;have:s=⟨K,[]⟩:=by
    have:=List.mem_of_getElem? ax;simpa using this
   rw [this]; exact List.nil_sublist _
 ·rcases List.mem_append.1 ax with ax | ax
  ·exact (h.a1 s ax w hw).up (by simp)
  ·rw [List.mem_singleton.1 ax] at hw; cases hw
theorem lT.mono {g:bx}{m:List State}{q aa ve:Nat}(h:lT g m q aa) (ag:aa<=ve):lT g m q ve:=by
 refine ⟨h.gr,h.lh,h.oV,λi s ax=>?_,h.a1⟩;have:=h.ms i s ax;split
 ·rename_i e; rw [if_pos e] at this; exact this
 ·rename_i e; rw [if_neg e] at this;split
  ·rename_i bZ; rw [if_pos bZ] at this;exact this.trans (List.take_sublist_take_left ag)
  ·rename_i bZ; rw [if_neg bZ] at this; exact this
theorem lT.next {g:bx}{m:List State}{q aa:Nat}(h:lT g m q aa):lT g m (q+1) 0:=by
 refine ⟨h.gr,h.lh,h.oV,λi s ax=>?_,h.a1⟩;have:=h.ms i s ax;by_cases e:i<q+1
 ·rw [if_pos e]
  split at this
  ·exact this
  ·split at this
   ·exact this.trans (List.take_sublist _ _)
   ·exact this.trans (List.nil_sublist _)
 ·rw [if_neg (by omega),if_neg (by omega)] at this;rw [if_neg e];exact this.trans (List.nil_sublist _)
theorem tc (g:bx) (aM:fV g):Tot (zr g) λr=>(r.2=0/\k4 g r.1)\/r.2=4:=by
 have dn:=aM.j2;have a8:=aM.c_;have cV:=aM.lK;unfold zr;refine Tot.aB (Mo g aM) λaX h1=>?_;subst h1;have ji:=Zw g;refine Tot.aB (Ξ:=h8 (λm=>lT g m m.length 0) (λr:List State × Int=>r.2=4)) ?_ λx j=>?_
 ·refine Tot.loop (λs=>∃ q:Nat,s.2=(q:Int)/\q<=s.1.length/\lT g s.1 q 0) (λs=>151 - s.2.toNat) ⟨0,rfl,Nat.zero_le _,⟨by simp,by simp,λs ax=>?_,λi s ax=>?_,λs ax v hv=>?_⟩⟩ (by show 151 - 0<1000000000000000000; omega) λs bM=>?_
  ·rw [List.mem_singleton.1 ax];refine ⟨List.pairwise_singleton ..,λx j=>?_⟩;rw [List.mem_singleton.1 j];obtain ⟨q,ba⟩:∃ q,g.a7[0]?=some q:=⟨g.a7[0]'(by omega),List.getElem?_eq_getElem _⟩;exact OE (p:=0) ba
  ·have:=List.mem_of_getElem? ax;rw [List.mem_singleton.1 this]; exact List.nil_sublist _
  ·rw [List.mem_singleton.1 ax] at hv; cases hv
  obtain ⟨q,he,ba,yD⟩:=bM;obtain ⟨m,i⟩:=s;simp only at he ba yD ⊢;subst he;have qm:=yD.lh;rw [eE q (by omega)];refine Tot.bD (λaN=>?_) (λdY=>.al ?_)
  ·have aN:q<m.length:=by omega
   rw [ep aN];have dz:=yD.oV _ (List.getElem_mem aN);refine Tot.sm (Tot.aB (D5 g aM _ (by have:=dz.len aM; omega)) λc J=>?_);have h3:=r3 aM J.1 λx j=>((J.2 x).1 j).gL;refine Tot.aB (Ξ:=λl:List Int=>l.length<=1000) ?_ λRy acS=>?_
   ·refine Tot.upto (λs=>s.2) c.length (λk s=>fo ik s.1/\s.1.length<=k) rfl (by omega) ⟨.nil,Nat.le_refl 0⟩ λk s hk he bb=>?_;obtain ⟨l,i⟩:=s;obtain ⟨g1,g2⟩:=bb;simp only at he g1 g2 ⊢;subst he;rw [eE k (by omega)];refine Tot.bD (λaN=>?_) (λdY=>.al (show l.length<=1000 by omega));have aN:k<c.length:=by omega
    rw [ep aN];refine .aB (Ξ:=λl:List Int=>fo ik l/\l.length<=k+1) ?_ λo aM=>.al ⟨aN,rfl,aM⟩;refine Tot.sm ?_;rw [Hq g _];refine Tot.sm (.aB (Ξ:=λl:List Int=>fo ik l/\l.length<=k+1) ?_ λo aM=>.al aM);refine Tot.bD (λav=>.aB (Ha l _ g1 (by omega)) λr aj=>.al ⟨aj.1,by have:=aj.2.1; omega⟩) (λav=>.al ⟨g1,by omega⟩)
   ·refine Tot.aB (Ξ:=h8 (λm=>lT g m q (syms g).length/\q<m.length) (λr:List State × Int=>r.2=4)) ?_ λx j=>?_
    ·refine Tot.upto (λs=>s.2) (syms g).length (λk s=>lT g s.1 q k/\q<s.1.length) rfl (by omega) ⟨yD,aN⟩ λk s hk he bb=>?_;obtain ⟨m,i⟩:=s;obtain ⟨tn,k'⟩:=bb;simp only at he tn k' ⊢;subst he;rw [eE k (by omega)];have sl:=tn.lh;refine Tot.bD (λaN=>?_) (λdY=>.al ?_)
     ·have aN:k<(syms g).length:=by omega
      have pN:=List.getElem_mem aN;have oS:(syms g)[k]?=some (syms g)[k]:=List.getElem?_eq_getElem aN;rw [ep aN];generalize (syms g)[k]=s at *;refine Tot.sm (Tot.aB (yv Ry s (by omega)) λc6 _=>?_);refine Tot.bB (λ_=>.al ⟨aN,rfl,tn.mono (by omega),k'⟩) (λ_=>?_);have pF:m[q]?=some m[q]:=List.getElem?_eq_getElem k';have dz:=tn.oV _ (List.getElem_mem k');rw [ep k'];generalize m[q]=st at *;refine Tot.sm (Tot.sm (Tot.aB (Sn g aM st.Kernel s (by have:=dz.len aM; omega)) λDH Ev=>?_));have hS:x6 g DH:=⟨Ev.1,λy ai=>((Ev.2 y).1 ai).gL aM⟩;refine Tot.aB (AG m DH (by omega) λt ak=>by have:=(tn.oV t ak).len aM; omega) λz aS=>?_;have Ww:=(tn.ms q st pF).length_le;rw [if_neg (by omega),if_pos rfl,List.length_map,List.length_take] at Ww;refine Tot.bD (λadi=>Tot.bD (λ_=>.al rfl) (λadj=>?_)) (λpK=>?_)
      ·refine .aB (Ξ:=λ_=>True) (Tot.ap (by simp [lim]; omega) trivial) λ_ _=>?_;have UP:=tn.more (by omega) hS;have NO:(m++[(⟨DH,[]⟩:State)])[q]?=some st:=by rw [List.getElem?_append_left k']; exact pF
       have Br:idx (m++[(⟨DH,[]⟩:State)]) (q:Int)=some st:=by simp only [idx,if_pos (show (0:Int)<=(q:Int) by omega),Int.toNat_natCast]; exact NO
       rw [Br];refine Tot.sm (Tot.sm ?_);refine .aB (Ξ:=λ_=>True) (Tot.ap (by simp [lim]; omega) trivial) λ_ _=>.al ⟨aN,rfl,?_⟩;refine ⟨?_,by show q<(List.set _ _ _).length; rw [List.length_set]; simp; omega⟩;show lT g (List.set _ (q:Int).toNat _) q (k+1);rw [Int.toNat_natCast];exact UP.put NO ⟨pN,by show (0:Int)<=(m.length:Int); omega,by show (m.length:Int)<_; simp; omega⟩ oS
      ·refine Tot.sm (Tot.sm ?_);refine .aB (Ξ:=λ_=>True) (Tot.ap (by simp [lim]; omega) trivial) λ_ _=>.al ⟨aN,rfl,?_⟩;refine ⟨?_,by show q<(List.set _ _ _).length; rw [List.length_set]; exact k'⟩;show lT g (List.set _ (q:Int).toNat _) q (k+1);rw [Int.toNat_natCast];exact tn.put pF ⟨pN,by show 0<=z; omega,aS.2⟩ oS
     ·have:k=(syms g).length:=by omega
      subst this;exact ⟨tn,k'⟩
    ·rcases x with x | x
     ·obtain ⟨h1,af⟩:=j;refine .al ⟨⟨q+1,rfl,af,h1.next⟩,?_⟩;show 151 - ((q+1:Nat):Int).toNat<151 - (q:Int).toNat;omega
     ·exact .al j
  ·have:q=m.length:=by omega
   subst this;exact yD
 ·rcases x with x | x
  ·have j:lT g x x.length 0:=j;have key:∀ st∈x,(st.de.map (·.Sym)).Sublist (syms g):=λst bM=>by
    obtain ⟨i,hi⟩:=List.getElem?_of_mem bM;have:=j.ms i st hi;rw [if_pos (List.getElem?_eq_some_iff.1 hi).1] at this;exact this
   refine .al (.inl ⟨rfl,j.gr,j.lh,j.oV,λst bM=>?_,λst bM=>(key st bM).nodup (Zx aM),j.a1⟩);have:=(key st bM).length_le;rw [List.length_map] at this; omega
  ·exact .al (.inr j)
theorem Xl {α:Type}{m:List α}{q:Nat}{x:α}(h:m[q]?=some x):idx m (q:Int)=some x:=by simp [idx,h]
def GoTo (m:List State) (a s r:Int):Prop:=(r=-1/\∀ st,idx m a=some st->∀ v∈st.de,v.Sym≠s)\/∃ st v,idx m a=some st/\v∈st.de/\v.Sym=s/\r=v.hF
theorem D6 (m:List State) (a s:Int) (hm:∀ st∈m,st.de.length<=64):Tot (rJ m a s) (GoTo m a s):=by
 unfold rJ;by_cases aH:0<=a/\a<(m.length:Int)
 ·obtain ⟨st,bM,pJ⟩:=kx aH.1 aH.2;have ah:=hm st pJ;have d1:decide (0<=a)=true:=decide_eq_true aH.1;have d2:decide (a<(m.length:Int))=true:=decide_eq_true aH.2;rw [d1,d2];simp only [cond_true,bM,Option.bind_some];refine .aB (Ξ:=h8 (λ_=>∀ v∈st.de,v.Sym≠s) (λr:Int=>∃ v,v∈st.de/\v.Sym=s/\r=v.hF)) ?_ λx j=>?_
  ·refine Tot.upto (λs=>s) st.de.length (λk _=>∀ v∈st.de.take k,v.Sym≠s) rfl (by omega) (by simp) λk i hk he bb=>?_;subst he;rw [eE k (by omega)];refine Tot.bD (λaN=>?_) (λdY=>.al (by
    show ∀ v∈st.de,v.Sym≠s;rw [List.take_of_length_le (by omega)] at bb; exact bb))
   have aN:k<st.de.length:=by omega
   rw [ep aN];simp only [Option.bind_some];refine Tot.bD (λe=>.al ⟨_,List.getElem_mem aN,e,rfl⟩) (λe=>.al ⟨aN,rfl,λv hv=>?_⟩);rw [p6 aN,List.mem_append,List.mem_singleton] at hv;rcases hv with hv | rfl
   ·exact bb v hv
   ·exact e
  ·rcases x with x | x
   ·exact .al (.inl ⟨rfl,λFY aL=>by rw [bM] at aL; cases aL; exact j⟩)
   ·obtain ⟨v,h1,af,aJ⟩:=j;exact .al (.inr ⟨st,v,bM,h1,af,aJ⟩)
 ·refine .aB (Ξ:=h8 (λ_=>True) (λ_:Int=>False)) (Tot.loop (λ_=>True) (λ_=>0) trivial (by show 0<1000000000000000000; omega) λi _=>?_) λx j=>?_
  ·refine .aB (Ξ:=λc=>c=false) ?_ λc J=>by subst J; exact .al trivial
   refine Tot.bD (λh1=>Tot.bD (λaf=>absurd ⟨h1,af⟩ aH) (λ_=>.al rfl)) (λ_=>.al rfl)
  ·rcases x with x | x
   ·refine .al (.inl ⟨rfl,λst aL=>absurd ⟨(mA aL).1,(mA aL).2.1⟩ aH⟩)
   ·exact j.elim
theorem GoTo.aP {g:bx}{m:List State}(hm:k4 g m) {a s r:Int}(h:GoTo m a s r):-1<=r/\r<m.length:=by
 rcases h with ⟨rfl,_⟩ | ⟨st,v,h1,af,_,rfl⟩
 ·have:=hm.gr; exact ⟨by omega,by omega⟩
 ·have:=hm.a1 st (mA h1).2.2 v af;exact ⟨by have:=this.t0; omega,this.t1⟩
theorem GoTo.yes {g:bx}{m:List State}(hm:k4 g m) {a s r:Int}(h:GoTo m a s r) {st:State}{v:Move}(ax:idx m a=some st) (hv:v∈st.de) (e:v.Sym=s):0<=r/\r<m.length:=by
 rcases h with ⟨rfl,h⟩ | ⟨st,v,h1,af,_,rfl⟩
 ·exact absurd e (h st ax v hv)
 ·have:=hm.a1 st (mA h1).2.2 v af;exact ⟨this.t0,this.t1⟩
theorem Mq {g:bx}{m:List State}(hm:k4 g m) (a:Int) (l:List Int) (aQ:-1<=a/\a<m.length) (ah:l.length<=1000):Tot (zx m a l) λr=>-1<=r/\r<m.length:=by
 unfold zx;refine .aB (Ξ:=λr:Int=>-1<=r/\r<m.length) ?_ λr aj=>.al aj;refine Tot.upto (λs=>s.2) l.length (λ_ s=>-1<=s.1/\s.1<m.length) rfl (by omega) aQ λk s hk he bb=>?_;obtain ⟨r,i⟩:=s;simp only at he bb ⊢;subst he;rw [eE k (by omega)];refine .aB (Ξ:=λc=>c=true->k<l.length) (Tot.bD (λh=>.al λ_=>by omega) (λ_=>.al λh=>by cases h)) λc J=>Tot.bB (λh=>?_) (λ_=>.al bb);have aN:=J h;rw [ep aN];exact Tot.sm (.aB (D6 m r _ hm.vj) λz aS=>.al ⟨aN,rfl,aS.aP hm⟩)
def ur (m:List State) (t:Trans):Prop:=∃ st v,idx m t.State=some st/\v∈st.de/\v.Sym=t.fb/\1000<=t.fb
structure vT (m:List State) (l:List Trans):Prop where
 n:l.length<=9600
 ok:∀ t∈l,ur m t
 hQ:∀ (q:Nat) (st:State) (v:Move),m[q]?=some st->v∈st.de->1000<=v.Sym->(⟨q,v.Sym⟩:Trans)∈l
theorem Ss {g:bx}{m:List State}(hm:k4 g m):Tot (pZ m) (vT m):=by
 have az:=hm.lh;unfold pZ;refine .aB (Ξ:=vT m) ?_ λr aj=>.al aj;refine Tot.upto (λs=>s.2) m.length (λk s=>s.1.length<=64 * k/\(∀ t∈s.1,ur m t)/\∀ (q:Nat) (st:State) (v:Move),q<k->m[q]?=some st->v∈st.de->1000<=v.Sym->(⟨q,v.Sym⟩:Trans)∈s.1) rfl (by omega) ⟨Nat.le_refl 0,λt h=>(by cases h),λq _ _ h=>absurd h (Nat.not_lt_zero _)⟩ λk s hk he bb=>?_;obtain ⟨l,i⟩:=s;obtain ⟨h1,af,aJ⟩:=bb;simp only at he h1 af aJ ⊢;subst he;rw [eE k (by omega)];refine Tot.bD (λaN=>?_) (λdY=>.al ⟨?_,af,λq st v ba=>aJ q st v ?_ ba⟩)
 ·have aN:k<m.length:=by omega
  have pF:m[k]?=some m[k]:=List.getElem?_eq_getElem aN;have pJ:=List.getElem_mem aN;rw [ep aN];generalize m[k]=st at *;have sl:=hm.vj st pJ;simp only [Option.bind_some];refine .aB (Ξ:=λvh:List Trans=>vh.length<=64 * (k+1)/\(∀ t∈vh,ur m t)/\(∀ t∈l,t∈vh)/\∀ v∈st.de,1000<=v.Sym->(⟨k,v.Sym⟩:Trans)∈vh) ?_ λvh ht=>.al ⟨aN,rfl,ht.1,ht.2.1,λq FY v ba bo cu dC=>?_⟩
  ·refine Tot.upto (λs=>s.2) st.de.length (λaa s=>s.1.length<=64 * k+aa/\(∀ t∈s.1,ur m t)/\(∀ t∈l,t∈s.1)/\∀ v∈st.de.take aa,1000<=v.Sym->(⟨k,v.Sym⟩:Trans)∈s.1) rfl (by omega) ⟨h1,af,λ_ h=>h,λv hv=>by simp at hv⟩ λaa s ag he bb=>?_;obtain ⟨o,i⟩:=s;obtain ⟨g1,g2,g3,g4⟩:=bb;simp only at he g1 g2 g3 g4 ⊢;subst he;rw [eE aa (by omega)];refine Tot.bD (λaN=>?_) (λdY=>.al ⟨by show o.length<=_; omega,g2,g3,by
    rw [List.take_of_length_le (by omega)] at g4; exact g4⟩)
   have aN:aa<st.de.length:=by omega
   have hK:=p6 aN;have ET:=List.getElem_mem aN;rw [ep aN];generalize st.de[aa]=v at *;simp only [Option.bind_some];refine .aB (Ξ:=λo:List Trans=>o.length<=64 * k+(aa+1)/\(∀ t∈o,ur m t)/\(∀ t∈l,t∈o)/\∀ v∈st.de.take (aa+1),1000<=v.Sym->(⟨k,v.Sym⟩:Trans)∈o) ?_ λo aM=>.al ⟨aN,rfl,aM⟩;refine .aB (Ξ:=λo:List Trans=>o.length<=64 * k+(aa+1)/\(∀ t∈o,ur m t)/\(∀ t∈l,t∈o)/\∀ v∈st.de.take (aa+1),1000<=v.Sym->(⟨k,v.Sym⟩:Trans)∈o) (Tot.bD (λh=>?_) (λh=>.al ⟨by omega,g2,g3,λw hw ax=>?_⟩)) λo aM=>.al aM
   ·refine .aB (Ξ:=λ_=>True) (Tot.ap (by simp [lim]; omega) trivial) λ_ _=>.al ⟨by simp; omega,λt ak=>?_,λt ak=>List.mem_append_left _ (g3 t ak),λw hw ax=>?_⟩
    ·rcases List.mem_append.1 ak with ak | ak
     ·exact g2 t ak
     ·rw [List.mem_singleton.1 ak];exact ⟨st,v,Xl pF,ET,rfl,h⟩
    ·rw [hK,List.mem_append,List.mem_singleton] at hw;rcases hw with hw | rfl
     ·exact List.mem_append_left _ (g4 w hw ax)
     ·simp
   ·rw [hK,List.mem_append,List.mem_singleton] at hw;rcases hw with hw | rfl
    ·exact g4 w hw ax
    ·exact absurd ax h
  ·by_cases e:q=k
   ·subst e;rw [pF] at bo; cases bo;exact ht.2.2.2 v cu dC
   ·exact ht.2.2.1 _ (aJ q FY v (by omega) bo cu dC)
 ·show l.length<=9600;omega
 ·have:=(List.getElem?_eq_some_iff.1 ba).1;omega
theorem AH (l:List Trans) (a n:Int) (ah:l.length<=9600):Tot (zC l a n) λr=>-1<=r/\r<l.length/\((⟨a,n⟩:Trans)∈l->0<=r):=by
 unfold zC;refine .aB (Ξ:=h8 (λ_=>(⟨a,n⟩:Trans)∉l) (λr:Int=>0<=r/\r<l.length)) ?_ λx j=>?_
 ·refine Tot.upto (λs=>s) l.length (λk _=>(⟨a,n⟩:Trans)∉l.take k) rfl (by omega) (by simp) λk i hk he bb=>?_;subst he;rw [eE k (by omega)];refine Tot.bD (λaN=>?_) (λdY=>.al (by
   show (⟨a,n⟩:Trans)∉l;rw [List.take_of_length_le (by omega)] at bb; exact bb))
  have aN:k<l.length:=by omega
  have hK:=p6 aN;rw [ep aN];generalize l[k]=y at *;simp only [Option.bind_some];refine .aB (Ξ:=λc:Bool=>c=false->y≠⟨a,n⟩) (Tot.bD (λh=>.al λaL e=>?_) (λh=>.al λ_ e=>h (by rw [e]))) λc J=>Tot.bB (λh=>.al ⟨by show (0:Int)<=k; omega,by show (k:Int)<_; omega⟩) (λh=>.al ⟨aN,rfl,?_⟩)
  ·have:=of_decide_eq_false aL;exact this (by rw [e])
  ·rw [hK,List.mem_append,List.mem_singleton];exact λaL=>aL.elim bb λe=>J h e.symm
 ·rcases x with x | x
  ·refine .al ⟨by omega,by omega,λh=>absurd h j⟩
  ·have j:0<=x/\x<l.length:=j;exact .al ⟨by omega,j.2,λ_=>j.1⟩
theorem Sv (l:List Item) (ah:l.length<=1000000):Tot (C2 l) λ_=>True:=by
 unfold C2;refine .aB (Ξ:=λ_=>True) ?_ λx j=>by
  rcases x with x | x
  ·exact .al trivial
  ·exact .al trivial
 refine Tot.upto (λs=>s) l.length (λ_ _=>True) rfl (by omega) trivial λk i hk he _=>?_;subst he;rw [eE k (by omega)];refine Tot.bD (λaN=>?_) (λ_=>.al trivial);have aN:k<l.length:=by omega
 rw [ep aN];simp only [Option.bind_some];refine .aB (Ξ:=λ_=>True) (Tot.bD (λ_=>.al trivial) (λ_=>.al trivial)) λc _=>Tot.bB (λ_=>.al trivial) (λ_=>.al ⟨aN,rfl,trivial⟩)
theorem Ms (B:List Bool) (l:List Int) (ah:l.length<=1000) (h:∀ s∈l,s<1000\/(1000<=s/\s - 1000<B.length)) (f':B.length<=1000):Tot (zD B l) λ_=>True:=by
 unfold zD;refine .aB (Ξ:=λ_=>True) ?_ λx j=>by
  rcases x with x | x
  ·exact .al trivial
  ·exact .al trivial
 refine Tot.upto (λs=>s) l.length (λ_ _=>True) rfl (by omega) trivial λk i hk he _=>?_;subst he;rw [eE k (by omega)];refine Tot.bD (λaN=>?_) (λ_=>.al trivial);have aN:k<l.length:=by omega
 have ai:=h _ (List.getElem_mem aN);rw [ep aN];generalize l[k]=y at *;simp only [Option.bind_some];refine .aB (Ξ:=λ_=>True) (Tot.bD (λ_=>.al trivial) (λh1=>?_)) λc _=>Tot.bB (λ_=>.al trivial) (λ_=>.al ⟨aN,rfl,trivial⟩);have hw:aR (y - 1000)=y - 1000:=by rw [cD]; omega
 rw [hw];obtain ⟨b,au,_⟩:=kx (l:=B) (i:=y - 1000) (by omega) (by omega);rw [au];exact .al trivial
theorem PH {g:bx}(aI:fV g) {q:Prod}(ba:q∈g.a7) {B:List Bool}(f':B.length=g.bA.length):∀ s∈q.eI,s<1000\/(1000<=s/\s - 1000<B.length):=λs ax=>by
 have ak:=aI.j2;have az:=aI.c_;rcases (aI.gN q ba).right s ax with h | h <;> omega
theorem Mr (g:bx) (aI:fV g):Tot (zB g) λB=>B.length=g.bA.length:=by
 have ak:=aI.j2;have az:=aI.c_;have av:=aI.lK;unfold zB;refine .aB (Ξ:=λB=>B=List.replicate g.bA.length false) (Tot.mk (by simp [lim]; omega) (by simp)) λaav Ux=>?_;subst Ux;refine .aB (Ξ:=λB:List Bool=>B.length=g.bA.length) ?_ λB f'=>.al f';refine Tot.loop (λs=>s.1.length=g.bA.length) (λs=>2 * (g.bA.length - gI s.1)+s.2.toNat) (by simp) (by
  show 2 * (g.bA.length - gI _)+1<1000000000000000000; omega) λs ax=>?_
 obtain ⟨B,f⟩:=s;simp only at ax ⊢;refine Tot.bB (λaU=>?_) (λ_=>.al ax);subst aU;refine .aB (Ξ:=λr:List Bool × Bool=>r.1.length=g.bA.length/\gI B<=gI r.1/\(r.2=true->gI B<gI r.1)) ?_ λr aj=>?_
 ·refine Tot.upto (λs=>s.2.2) g.a7.length (λ_ s=>s.1.length=g.bA.length/\gI B<=gI s.1/\(s.2.1=true->gI B<gI s.1)) rfl (by omega) ⟨ax,Nat.le_refl _,λh=>by cases h⟩ λk s hk he bb=>?_;obtain ⟨C,f,i⟩:=s;obtain ⟨h1,af,aJ⟩:=bb;simp only at he h1 af aJ ⊢;subst he;rw [eE k (by omega)];refine Tot.bD (λaN=>?_) (λdY=>.al ⟨h1,af,aJ⟩);have aN:k<g.a7.length:=by omega
  have k':=List.getElem_mem aN;rw [ep aN];generalize g.a7[k]=q at *;have ba:=aI.gN q k';have Ja:=ba.left;obtain ⟨b,au,_⟩:=kx (l:=C) (i:=q.Left) Ja.1 (by omega);simp only [Option.bind_some,au];refine .aB (Ξ:=λr:List Bool × Bool=>r.1.length=g.bA.length/\gI B<=gI r.1/\(r.2=true->gI B<gI r.1)) ?_ λr aj=>.al ⟨aN,rfl,aj⟩;refine .aB (Ξ:=λc:Bool=>c=true->b=false) ?_ λc J=>?_
  ·cases b with
   | true=>exact .al λh=>by cases h
   | false =>
    refine .aB (Ms C q.eI (by have:=aI.aF q k'; omega) (PH aI k' h1) (by omega)) λ_ _=>.al λ_=>rfl
  ·refine .aB (Ξ:=λr:List Bool × Bool=>r.1.length=g.bA.length/\gI B<=gI r.1/\(r.2=true->gI B<gI r.1)) (Tot.bB (λh=>.al ?_) (λh=>.al ⟨h1,af,aJ⟩)) λr aj=>.al aj;have Vx:=J h;subst Vx;have pH:q.Left.toNat<C.length:=by omega
   have pF:C.getD q.Left.toNat false=false:=by
    unfold idx at au;rw [if_pos Ja.1] at au;rw [List.getD_eq_getElem?_getD,au]; rfl
   have:=ux C q.Left.toNat pH pF;exact ⟨by rw [List.length_set]; exact h1,by show gI B<=gI (C.set _ _); omega,λ_=>by show gI B<gI (C.set _ _); omega⟩
 ·obtain ⟨h1,af,aJ⟩:=aj;refine .al ⟨h1,?_⟩;have J:=Hj r.1;show 2 * (g.bA.length - gI r.1)+r.2.toNat<2 * (g.bA.length - gI B)+true.toNat;cases hU:r.2 with
  | false=>simp only [Bool.toNat_false,Bool.toNat_true]; omega
  | true =>
   have:=aJ hU;simp only [Bool.toNat_true]; omega
structure iN (T:Nat) (r:List Int):Prop where
 a:fo ik r
 i:∀ x∈r,0<=x/\x<T
theorem iN.len {T:Nat}{r:List Int}(h:iN T r):r.length<=T:=by
 have:=za (m:=(List.range T).map λk:Nat=>(k:Int)) (h.a.nd Fv) λx j=>by
  have:=h.i x j;exact List.mem_map.2 ⟨x.toNat,by rw [List.mem_range]; omega,by omega⟩
 grind
theorem iN.nil {T:Nat}:iN T []:=⟨.nil,λx h=>by cases h⟩
theorem iN.put {T:Nat}(dn:T<=100000) {r:List Int}(h:iN T r) {x:Int}(j:0<=x/\x<T):Tot (qB r x) λdk=>iN T dk/\r.length<=dk.length:=by
 have ah:=h.len;refine (Ha r x h.a (by omega)).use λdk ee=>⟨⟨ee.1,λy ai=>?_⟩,za (h.a.nd Fv) λy ai=>(ee.2.2 y).2 (.inl ai)⟩;rcases (ee.2.2 y).1 ai with aL | rfl
 ·exact h.i y aL
 grind
def l' (L:List (List Int)) (i:Nat):Nat:=(L.getD i []).length
def i' (L:List (List Int)):Nat:=(L.map List.length).sum
theorem Qw:∀ (L L':List (List Int)),L.length=L'.length->(∀ i,l' L i<=l' L' i)->i' L<=i' L'/\((∃ i,l' L i<l' L' i)->i' L<i' L')
 | [],[],_,_=>⟨Nat.le_refl _,λ⟨i,h⟩=>absurd h (Nat.lt_irrefl _)⟩
 | a::L,b::L',ah,h=>by
  obtain ⟨h1,af⟩:=Qw L L' (by simpa using ah) λi=>by simpa [l'] using h (i+1)
  have aH:a.length<=b.length:=by simpa [l'] using h 0
  have bO:i' (a::L)=a.length+i' L:=by simp [i']
  have b7:i' (b::L')=b.length+i' L':=by simp [i']
  rw [bO,b7];refine ⟨by omega,λ⟨i,hi⟩=>?_⟩;cases i with
  | zero =>
   have:a.length<b.length:=by simpa [l'] using hi
   omega
  | succ i =>
   have:=af ⟨i,by simpa [l'] using hi⟩;omega
def Sets (T:Nat) (L:List (List Int)):Prop:=∀ r∈L,iN T r
theorem Qv {T:Nat}:∀ {L:List (List Int)},Sets T L->i' L<=L.length * T
 | [],_=>by simp [i']
 | a::L,h=>by
  have h1:=(h a (by simp)).len;have af:=Qv (L:=L) λr aj=>h r (by simp [aj]);have bO:i' (a::L)=a.length+i' L:=by simp [i']
  rw [bO,List.length_cons,Nat.succ_mul]; omega
structure oG (T:Nat) (L L':List (List Int)):Prop where
 n:L'.length=L.length
 s:Sets T L'
 u:∀ i,l' L i<=l' L' i
theorem oG.refl {T:Nat}{L:List (List Int)}(h:Sets T L):oG T L L:=⟨rfl,h,λ_=>Nat.le_refl _⟩
theorem oG.trans {T:Nat}{A B C:List (List Int)}(h:oG T A B) (aL:oG T B C):oG T A C:=⟨aL.n.trans h.n,aL.s,λi=>Nat.le_trans (h.u i) (aL.u i)⟩
theorem oG.set {T:Nat}{L:List (List Int)}{k:Nat}{r dk:List Int}(ax:Sets T L) (hk:L[k]?=some r) (h:iN T dk) (ah:r.length<=dk.length):oG T L (L.set k dk):=by
 have dc:=(List.getElem?_eq_some_iff.1 hk).1;refine ⟨List.length_set ..,λx j=>?_,λi=>?_⟩
 ·rcases List.mem_or_eq_of_mem_set j with aL | aL
  ·exact ax x aL
  grind
 grind [l']
theorem Xm {L:List (List Int)}{k:Nat}{r:List Int}(h:L[k]?=some r):l' L k=r.length:=by
 grind [l']
theorem Xk {α:Type}{l:List α}{i:Int}{y:α}(h:idx l i=some y):l[i.toNat]?=some y:=by
 grind [idx]
theorem Mp (T:Nat) (dn:T<=1000) (a0 aw:List (List Int)) (az:a0.length<=9600) (he:aw.length=a0.length) (aH:Sets T a0) (h1:Sets a0.length aw):Tot (zv a0 aw) λr=>r.length=a0.length/\Sets T r:=by
 unfold zv;refine .aB (Ξ:=λr:List (List Int)=>r.length=a0.length/\Sets T r) ?_ λr aj=>.al aj;have au:a0.length * T<=9600 * 1000:=Nat.mul_le_mul az dn;refine Tot.loop (λs=>s.1.length=a0.length/\Sets T s.1) (λs=>2 * (a0.length * T - i' s.1)+s.2.toNat) ⟨rfl,aH⟩ (by
  show 2 * (a0.length * T - i' _)+1<1000000000000000000;omega) λs ax=>?_
 obtain ⟨L,f⟩:=s;obtain ⟨ah,ax⟩:=ax;simp only at ah ax ⊢;refine Tot.bB (λaU=>?_) (λ_=>.al ⟨ah,ax⟩);subst aU;refine .aB (Ξ:=λr:List (List Int) × Bool=>oG T L r.1/\(r.2=true->∃ i,l' L i<l' r.1 i)) ?_ λr aj=>?_
 ·refine Tot.upto (λs=>s.2.2) L.length (λ_ s=>oG T L s.1/\(s.2.1=true->∃ i,l' L i<l' s.1 i)) rfl (by omega) ⟨.refl ax,λh=>by cases h⟩ λk s hk h4 bb=>?_;obtain ⟨C,f,i⟩:=s;obtain ⟨hu,pE⟩:=bb;simp only at h4 hu pE ⊢;subst h4;rw [eE k (by omega)];have Od:=hu.n;refine Tot.bD (λaN=>?_) (λdY=>.al ⟨hu,pE⟩);have NU:k<C.length:=by omega
  have eM:k<aw.length:=by omega
  have acZ:C[k]?=some C[k]:=List.getElem?_eq_getElem NU;have jB:=h1 _ (List.getElem_mem eM);rw [ep eM,ep NU];generalize aw[k]=row at *;generalize C[k]=iF at *;simp only [Option.bind_some];have uU:=jB.len;refine .aB (Ξ:=λD:List (List Int)=>oG T C D) ?_ λD r'=>?_
  ·refine Tot.upto (λs=>s.2) row.length (λ_ s=>oG T C s.1) rfl (by omega) (.refl hu.s) λaa s ag h4 bb=>?_;obtain ⟨D,i⟩:=s;simp only at h4 bb ⊢;subst h4;rw [eE aa (by omega)];have UA:=bb.n;refine Tot.bD (λaN=>?_) (λ_=>.al bb);have aN:aa<row.length:=by omega
   have ai:=jB.i _ (List.getElem_mem aN);rw [ep aN];generalize row[aa]=y at *;simp only [Option.bind_some];refine .aB (Ξ:=λE:List (List Int)=>oG T C E) ?_ λE kO=>.al ⟨aN,rfl,kO⟩;refine Tot.count (λs=>s.2) T (λs=>∃ n:Nat,s.2=(n:Int)/\oG T C s.1) ⟨0,rfl,bb⟩ (by show (T:Int) - 0<_; omega) λs ax=>?_;obtain ⟨E,i⟩:=s;obtain ⟨n,EK,kO⟩:=ax;simp only at EK kO ⊢;subst EK;have acL:=kO.n;obtain ⟨z,aS,Xh⟩:=kx (l:=E) (i:=y) ai.1 (by omega);have og:=kO.s z Xh;have u_:=og.len;have IU:k<E.length:=by omega
   have VU:E[k]?=some E[k]:=List.getElem?_eq_getElem IU;rw [aS];simp only [Option.bind_some];refine Tot.bD (λaN=>?_) (λ_=>.al kO);have aN:n<z.length:=by omega
   rw [eE n (by omega),ep IU,ep aN];simp only [Option.bind_some];refine .aB ((kO.s _ (List.getElem_mem IU)).put (by omega) (og.i _ (List.getElem_mem aN))) λdk ee=>.al ⟨⟨n+1,rfl,?_⟩,by show (n:Int)<((n+1:Nat):Int); omega,by show ((n+1:Nat):Int)<=T; omega⟩;exact kO.trans (.set kO.s VU ee.1 ee.2)
  ·have UA:=r'.n;have NV:k<D.length:=by omega
   have ac0:D[k]?=some D[k]:=List.getElem?_eq_getElem NV;have y1:=hu.trans r';refine .aB (Ξ:=λc:Bool=>c=true->∃ i,l' L i<l' D i) ?_ λc J=>.al ⟨by omega,rfl,y1,J⟩;refine Tot.bB (λaU=>.al λ_=>?_) (λ_=>?_)
   ·obtain ⟨i,hi⟩:=pE aU;exact ⟨i,Nat.lt_of_lt_of_le hi (r'.u i)⟩
   ·rw [ep NV];refine Tot.sm (.al λh=>⟨k,?_⟩);have aJ:=r'.u k;have bo:=hu.u k
    grind [Xm]
 ·obtain ⟨hu,aU⟩:=aj;have BG:=hu.n;obtain ⟨aJ,bo⟩:=Qw L r.1 BG.symm hu.u;have cu:=Qv hu.s;rw [show r.1.length=a0.length by omega] at cu;refine .al ⟨⟨by show r.1.length=_; omega,hu.s⟩,?_⟩;show 2 * (a0.length * T - i' r.1)+r.2.toNat<2 * (a0.length * T - i' L)+true.toNat;cases hU:r.2 with
  | false=>simp only [Bool.toNat_false,Bool.toNat_true]; omega
  | true =>
   grind
theorem k4.sym {g:bx}(aI:fV g) {m:List State}(hm:k4 g m) {st:State}(bM:st∈m) {v:Move}(hv:v∈st.de):0<=v.Sym/\(v.Sym<1000->v.Sym<g.aW.length)/\(1000<=v.Sym->v.Sym - 1000<g.bA.length):=by
 have ak:=aI.j2;rcases XP.1 (hm.a1 st bM v hv).s with h | h
 ·exact ⟨h.1,λ_=>h.2,λaL=>by omega⟩
 ·exact ⟨by omega,λaL=>by omega,λ_=>by omega⟩
theorem ur.go {g:bx}{m:List State}(hm:k4 g m) {t:Trans}(h:ur m t):Tot (rJ m t.State t.fb) λr=>0<=r/\r<m.length:=by
 obtain ⟨st,v,h1,af,aJ,_⟩:=h;exact (D6 m t.State t.fb hm.vj).use λr aj=>aj.yes hm h1 af aJ
theorem Qb {T:Nat}{L:List (List Int)}{r:List Int}(h:Sets T L) (aj:iN T r):Sets T (L++[r]):=λx j=>by
 rcases List.mem_append.1 j with j | j
 ·exact h x j
 ·rw [List.mem_singleton.1 j]; exact aj
theorem Sp (g:bx) (aI:fV g) {m:List State}(hm:k4 g m):Tot (CV m) λr=>∃ dr,pZ m=some dr/\vT m dr/\r.length=dr.length/\Sets g.aW.length r:=by
 have ak:=aI.j2;obtain ⟨dr,py,hx⟩:=Ss hm;have wO:=hx.n;unfold CV;rw [py];refine Tot.sm (.aB (Ξ:=λr:List (List Int)=>r.length=dr.length/\Sets g.aW.length r) ?_ λr aj=>.al ⟨dr,rfl,hx,aj⟩);refine Tot.upto (λs=>s.2) dr.length (λk s=>s.1.length=k/\Sets g.aW.length s.1) rfl (by omega) ⟨rfl,λr h=>by cases h⟩ λk s hk he bb=>?_;obtain ⟨L,i⟩:=s;obtain ⟨h1,af⟩:=bb;simp only at he h1 af ⊢;subst he;rw [eE k (by omega)];refine Tot.bD (λaN=>?_) (λdY=>.al ⟨by show L.length=_; omega,af⟩);have aN:k<dr.length:=by omega
 have hK:=hx.ok _ (List.getElem_mem aN);rw [ep aN];generalize dr[k]=t at *;simp only [Option.bind_some];refine .aB (hK.go hm) λto BL=>?_;obtain ⟨st,bM,pN⟩:=kx BL.1 BL.2;have dz:=hm.oV st pN;have sl:=hm.vj st pN;rw [bM];simp only [Option.bind_some];refine .aB (Sv _ (by have:=dz.len aI; omega)) λc _=>?_;refine .aB (Ξ:=iN g.aW.length) (Tot.bB (λ_=>?_) (λ_=>.al .nil)) λzK yX=>?_
 ·refine .aB (Ξ:=λ_=>True) (Tot.ap (by simp [lim]) trivial) λ_ _=>.al ⟨List.pairwise_singleton ..,λx j=>?_⟩;rw [List.mem_singleton.1 j]; omega
 refine .aB (Ξ:=iN g.aW.length) ?_ λr aj=>?_
 ·refine Tot.upto (λs=>s.2) st.de.length (λk s=>iN g.aW.length s.1) rfl (by omega) yX λaa s ag he bb=>?_;obtain ⟨r,i⟩:=s;simp only at he bb ⊢;subst he;rw [eE aa (by omega)];refine Tot.bD (λaN=>?_) (λ_=>.al bb);have aN:aa<st.de.length:=by omega
  have hv:=hm.sym aI pN (List.getElem_mem aN);rw [ep aN];generalize st.de[aa]=v at *;simp only [Option.bind_some];refine .aB (Ξ:=iN g.aW.length) ?_ λr aj=>.al ⟨aN,rfl,aj⟩;refine .aB (Ξ:=iN g.aW.length) (Tot.bD (λh=>?_) (λ_=>.al bb)) λr aj=>.al aj;exact .aB (bb.put (by omega) ⟨hv.1,hv.2.1 h⟩) λr aj=>.al aj.1
 ·refine .aB (Ξ:=λ_=>True) (Tot.ap (by simp [lim]; omega) trivial) λ_ _=>.al ⟨aN,rfl,by simp; omega,Qb af aj⟩
theorem Sq (g:bx) (aI:fV g) {m:List State}(hm:k4 g m) {dr:List Trans}(py:pZ m=some dr) (hx:vT m dr):Tot (CW g m) λr=>r.length=dr.length/\Sets dr.length r:=by
 have ak:=aI.j2;have kQ:=aI.c_;have wO:=hx.n;unfold CW;rw [py];refine Tot.sm (.aB (Mr g aI) λB f'=>.aB (Ξ:=λr:List (List Int)=>r.length=dr.length/\Sets dr.length r) ?_ λr aj=>.al aj);refine Tot.upto (λs=>s.2) dr.length (λk s=>s.1.length=k/\Sets dr.length s.1) rfl (by omega) ⟨rfl,λr h=>by cases h⟩ λk s hk he bb=>?_;obtain ⟨L,i⟩:=s;obtain ⟨h1,af⟩:=bb;simp only at he h1 af ⊢;subst he;rw [eE k (by omega)];refine Tot.bD (λaN=>?_) (λdY=>.al ⟨by show L.length=_; omega,af⟩);have aN:k<dr.length:=by omega
 have hK:=hx.ok _ (List.getElem_mem aN);rw [ep aN];generalize dr[k]=t at *;simp only [Option.bind_some];refine .aB (hK.go hm) λto BL=>?_;obtain ⟨st,bM,pN⟩:=kx BL.1 BL.2;have ob:=Xk bM;have sl:=hm.vj st pN;rw [bM];simp only [Option.bind_some];refine .aB (Ξ:=iN dr.length) ?_ λr aj=>?_
 ·refine Tot.upto (λs=>s.2) st.de.length (λk s=>iN dr.length s.1) rfl (by omega) .nil λaa s ag he bb=>?_;obtain ⟨r,i⟩:=s;simp only at he bb ⊢;subst he;rw [eE aa (by omega)];refine Tot.bD (λaN=>?_) (λ_=>.al bb);have aN:aa<st.de.length:=by omega
  have ET:=List.getElem_mem aN;have hv:=hm.sym aI pN ET;rw [ep aN];generalize st.de[aa]=v at *;simp only [Option.bind_some];refine .aB (Ξ:=iN dr.length) ?_ λr aj=>.al ⟨aN,rfl,aj⟩;refine .aB (Ξ:=λc:Bool=>c=true->1000<=v.Sym) (Tot.bD (λh=>?_) (λ_=>.al λh=>by cases h)) λc J=>?_
  ·have hw:aR (v.Sym - 1000)=v.Sym - 1000:=by
    have:=hv.2.2 h;rw [cD]; omega
   rw [hw];obtain ⟨b,au,_⟩:=kx (l:=B) (i:=v.Sym - 1000) (by omega) (by have:=hv.2.2 h; omega);rw [au];exact Tot.sm (.al λ_=>h)
  ·refine .aB (Ξ:=iN dr.length) (Tot.bB (λh=>?_) (λ_=>.al bb)) λr aj=>.al aj;have yN:=hx.hQ to.toNat st v ob ET (J h);rw [show ((to.toNat:Nat):Int)=to by omega] at yN;refine .aB (AH dr to v.Sym wO) λz aS=>?_;exact .aB (bb.put (by omega) ⟨aS.2.2 yN,aS.2.1⟩) λr aj=>.al aj.1
 ·refine .aB (Ξ:=λ_=>True) (Tot.ap (by simp [lim]; omega) trivial) λ_ _=>.al ⟨aN,rfl,by simp; omega,Qb af aj⟩
theorem Sr (g:bx) (aI:fV g) {m:List State}(hm:k4 g m) {dr:List Trans}(py:pZ m=some dr) (hx:vT m dr):Tot (CX g m) λr=>r.length=dr.length/\Sets dr.length r:=by
 have ak:=aI.j2;have kQ:=aI.c_;have yW:=aI.lK;have wO:=hx.n;unfold CX;rw [py];refine Tot.sm (.aB (Mr g aI) λB f'=>.aB (Ξ:=λr=>r=List.replicate dr.length ([]:List Int)) (Tot.mk (by simp [lim]; omega) (by simp)) λaax UL=>.aB (Ξ:=λr:List (List Int)=>r.length=dr.length/\Sets dr.length r) ?_ λr aj=>.al aj);subst UL;have aau:∀ {L:List (List Int)},(L.length=dr.length/\Sets dr.length L)->∀ {z:Int}{r dk:List Int},idx L z=some r->iN dr.length dk->(L.set z.toNat dk).length=dr.length/\Sets dr.length (L.set z.toNat dk):=λ{L} ji {z r dk} _ ee=>⟨by rw [List.length_set]; exact ji.1,λx j=>by
  rcases List.mem_or_eq_of_mem_set j with aL | aL
  ·exact ji.2 x aL
  ·rw [aL]; exact ee⟩
 refine Tot.upto (λs=>s.2) dr.length (λk s=>s.1.length=dr.length/\Sets dr.length s.1) rfl (by omega) ⟨by simp,λr h=>by rw [List.eq_of_mem_replicate h]; exact .nil⟩ λk s hk he bb=>?_;obtain ⟨L,i⟩:=s;simp only at he bb ⊢;subst he;rw [eE k (by omega)];refine Tot.bD (λaN=>?_) (λdY=>.al bb);have aN:k<dr.length:=by omega
 have hK:=hx.ok _ (List.getElem_mem aN);rw [ep aN];generalize dr[k]=t at *;simp only [Option.bind_some];refine .aB (Ξ:=λr:List (List Int)=>r.length=dr.length/\Sets dr.length r) ?_ λr aj=>.al ⟨aN,rfl,aj⟩;refine Tot.upto (λs=>s.2) g.a7.length (λk s=>s.1.length=dr.length/\Sets dr.length s.1) rfl (by omega) bb λp s av he bb=>?_;obtain ⟨L,i⟩:=s;simp only at he bb ⊢;subst he;rw [eE p (by omega)];refine Tot.bD (λEG=>?_) (λdY=>.al bb);have EG:p<g.a7.length:=by omega
 have k':=List.getElem_mem EG;rw [ep EG];generalize g.a7[p]=q at *;have ba:=aI.gN q k';have BG:=aI.aF q k';have wN:=PH aI k' f';simp only [Option.bind_some];refine .aB (Ξ:=λr:List (List Int)=>r.length=dr.length/\Sets dr.length r) ?_ λr aj=>.al ⟨EG,rfl,aj⟩;refine Tot.bB (λ_=>.al bb) (λ_=>.aB (Ξ:=λr:List (List Int)=>r.length=dr.length/\Sets dr.length r) ?_ λr aj=>.al aj);refine Tot.upto (λs=>s.2) q.eI.length (λk s=>s.1.length=dr.length/\Sets dr.length s.1) rfl (by omega) bb λaa s ag he bb=>?_;obtain ⟨L,i⟩:=s;simp only at he bb ⊢;subst he;rw [eE aa (by omega)];refine Tot.bD (λlG=>?_) (λdY=>.al bb);have lG:aa<q.eI.length:=by omega
 rw [ep lG];generalize q.eI[aa]=y at *;simp only [Option.bind_some];refine .aB (Ξ:=λr:List (List Int)=>r.length=dr.length/\Sets dr.length r) ?_ λr aj=>.al ⟨lG,rfl,aj⟩;refine .aB (Ξ:=λ_=>True) (Tot.bD (λ_=>.al trivial) (λ_=>?_)) λc _=>Tot.bB (λ_=>.al bb) (λ_=>?_)
 ·refine .aB (Ξ:=λr=>r=q.eI.drop (aa+1)) (Tot.sub ⟨by omega,by omega,by omega⟩ ?_) λr aj=>?_
  ·rw [List.take_of_length_le]
   ·congr 1
   ·rw [List.length_drop]; omega
  ·subst aj;exact .aB (Ms B _ (by rw [List.length_drop]; omega) (λs ax=>wN s (List.mem_of_mem_drop ax)) (by omega)) λ_ _=>.al trivial
 refine .aB (Ξ:=λr=>r.length<=8) (Tot.sub ⟨by omega,by omega,by omega⟩ (by rw [List.length_take,List.length_drop]; omega)) λr aj=>?_;obtain ⟨st,_,bM,_⟩:=hK;have Jd:=mA bM;refine .aB (Mq hm t.State r ⟨by omega,Jd.2.1⟩ (by omega)) λz aS=>?_;refine .aB (Ξ:=λr:List (List Int)=>r.length=dr.length/\Sets dr.length r) (Tot.bB (λ_=>?_) (λ_=>.al bb)) λr aj=>.al aj;refine .aB (AH dr z y wO) λn az=>?_;refine .aB (Ξ:=λr:List (List Int)=>r.length=dr.length/\Sets dr.length r) (Tot.bD (λaH=>?_) (λ_=>.al bb)) λr aj=>.al aj;obtain ⟨zK,yX,Jc⟩:=kx (l:=L) aH (by rw [bb.1]; exact az.2.1);rw [yX];refine Tot.sm (.aB ((bb.2 zK Jc).put (by omega) ⟨by omega,by omega⟩) λdk ee=>.al (aau bb yX ee.1))
theorem Sj (g:bx) (aI:fV g) {m:List State}(hm:k4 g m):Tot (zt g m) λr=>∃ dr,pZ m=some dr/\vT m dr/\r.length=dr.length/\Sets g.aW.length r:=by
 have ak:=aI.j2;unfold zt;refine .aB (Sp g aI hm) λo2 h1=>?_;obtain ⟨dr,py,hx,IY,uW⟩:=h1;have wO:=hx.n;refine .aB (Sq g aI hm py hx) λjJ af=>.aB (Mp g.aW.length (by omega) o2 jJ (by omega) (by omega) uW (by rw [IY]; exact af.2)) λrL aJ=>?_;refine .aB (Sr g aI hm py hx) λtR bo=>.aB (Mp g.aW.length (by omega) rL tR (by omega) (by omega) aJ.2 (by rw [aJ.1,IY]; exact bo.2)) λzL cu=>?_;exact .al ⟨dr,py,hx,by omega,cu.2⟩
def qe (g:bx) (p:Int):Prop:=0<p/\p<g.a7.length
theorem Sk (g:bx) (aI:fV g) (K:List Item) (ah:K.length<=1000000):Tot (CK g K) λr=>r.length<=540/\∀ p∈r,qe g p:=by
 unfold CK;refine .aB (D5 g aI K ah) λc J=>?_;have h3:=r3 aI J.1 λx j=>((J.2 x).1 j).gL;refine .aB (Ξ:=λr:List Int=>r.length<=540/\∀ p∈r,qe g p) ?_ λr aj=>.al aj;refine Tot.upto (λs=>s.2) c.length (λk s=>s.1.length<=k/\∀ p∈s.1,qe g p) rfl (by omega) ⟨Nat.le_refl 0,λp h=>by cases h⟩ λk s hk he bb=>?_;obtain ⟨L,i⟩:=s;obtain ⟨h1,af⟩:=bb;simp only at he h1 af ⊢;subst he;rw [eE k (by omega)];refine Tot.bD (λaN=>?_) (λdY=>.al ⟨by show L.length<=_; omega,af⟩);have aN:k<c.length:=by omega
 have hi:=((J.2 _).1 (List.getElem_mem aN)).gL;rw [ep aN];generalize c[k]=x at *;obtain ⟨q,ba,aJ,bo⟩:=hi;simp only [Option.bind_some];refine .aB (Ξ:=λL:List Int=>L.length<=k+1/\∀ p∈L,qe g p) ?_ λr aj=>.al ⟨aN,rfl,aj⟩;refine .aB (Ξ:=λc:Bool=>c=true->0<x.Prod) (Tot.bD (λh=>?_) (λ_=>.al λh=>by cases h)) λc J=>?_
 ·rw [ba]; exact Tot.sm (.al λ_=>h)
 refine .aB (Ξ:=λL:List Int=>L.length<=k+1/\∀ p∈L,qe g p) (Tot.bB (λh=>?_) (λ_=>.al ⟨by omega,af⟩)) λr aj=>.al aj;refine .aB (Ξ:=λ_=>True) (Tot.ap (by simp [lim]; omega) trivial) λ_ _=>.al ⟨by simp; omega,λp av=>?_⟩;rcases List.mem_append.1 av with av | av
 ·exact af p av
 ·rw [List.mem_singleton.1 av]; exact ⟨J h,(mA ba).2.1⟩
theorem Sl (g:bx) (aI:fV g) {m:List State}(hm:k4 g m) {dr:List Trans}(py:pZ m=some dr) (hx:vT m dr) (q p:Int):Tot (CL g m q p) λr=>r.length<=9600/\∀ x∈r,0<=x/\x<dr.length:=by
 have wO:=hx.n;have yW:=aI.lK;have kQ:=aI.c_;unfold CL;refine .aB (Ξ:=λc:Bool=>c=false->0<=p/\p<g.a7.length) (Tot.bD (λ_=>.al λh=>by cases h) (λ_=>Tot.bD (λ_=>.al λh=>by cases h) (λ_=>Tot.bD (λ_=>.al λh=>by cases h) (λh=>.al λaL=>by have:=of_decide_eq_false aL; omega)))) λc J=>Tot.bB (λ_=>.al ⟨Nat.zero_le _,λx h=>by cases h⟩) (λh=>?_);obtain ⟨aH,h1⟩:=J h;rw [py];refine Tot.sm ?_;refine .aB (Ξ:=λr:List Int=>r.length<=9600/\∀ x∈r,0<=x/\x<dr.length) ?_ λr aj=>.al aj;obtain ⟨gN,I_,Wl⟩:=kx aH h1;have BG:=aI.aF gN Wl;refine Tot.upto (λs=>s.2) dr.length (λk s=>s.1.length<=k/\∀ x∈s.1,0<=x/\x<dr.length) rfl (by omega) ⟨Nat.le_refl 0,λp h=>by cases h⟩ λk s hk he bb=>?_;obtain ⟨L,i⟩:=s;obtain ⟨af,aJ⟩:=bb;simp only at he af aJ ⊢;subst he;rw [eE k (by omega)];refine Tot.bD (λaN=>?_) (λdY=>.al ⟨by show L.length<=_; omega,aJ⟩);have aN:k<dr.length:=by omega
 have hK:=hx.ok _ (List.getElem_mem aN);rw [ep aN,I_];generalize dr[k]=t at *;obtain ⟨st,_,bM,_⟩:=hK;have Jd:=mA bM;simp only [Option.bind_some];refine .aB (Ξ:=λL:List Int=>L.length<=k+1/\∀ x∈L,0<=x/\x<dr.length) ?_ λr aj=>.al ⟨aN,rfl,aj⟩;refine .aB (Ξ:=λ_=>True) (Tot.bD (λh=>?_) (λ_=>.al trivial)) λc J=>?_
 ·exact .aB (Mq hm t.State gN.eI ⟨by omega,Jd.2.1⟩ (by omega)) λ_ _=>.al trivial
 refine .aB (Ξ:=λL:List Int=>L.length<=k+1/\∀ x∈L,0<=x/\x<dr.length) (Tot.bB (λh=>?_) (λ_=>.al ⟨by omega,aJ⟩)) λr aj=>.al aj;refine .aB (Ξ:=λ_=>True) (Tot.ap (by simp [lim]; omega) trivial) λ_ _=>.al ⟨by simp; omega,λp av=>?_⟩;rcases List.mem_append.1 av with av | av
 ·exact aJ p av
 ·rw [List.mem_singleton.1 av]; exact ⟨by omega,by omega⟩
structure x9 (g:bx) (l:kJ):Prop where
 p:qe g l.Prod
 t:iN g.aW.length l.aW
theorem AB (g:bx) (aI:fV g) {m:List State}(hm:k4 g m):Tot (CG g m) λr=>r.length<=81000/\∀ l∈r,x9 g l:=by
 have ak:=aI.j2;have qm:=hm.lh;unfold CG;refine .aB (Sj g aI hm) λF aE=>?_;obtain ⟨dr,py,hx,acM,iT⟩:=aE;have wO:=hx.n;refine .aB (Ξ:=λr:List kJ=>r.length<=81000/\∀ l∈r,x9 g l) ?_ λr aj=>.al aj;refine Tot.upto (λs=>s.2) m.length (λk s=>s.1.length<=540 * k/\∀ l∈s.1,x9 g l) rfl (by omega) ⟨Nat.le_refl 0,λp h=>by cases h⟩ λk s hk he bb=>?_;obtain ⟨L,i⟩:=s;obtain ⟨h1,af⟩:=bb;simp only at he h1 af ⊢;subst he;rw [eE k (by omega)];refine Tot.bD (λaN=>?_) (λdY=>.al ⟨by show L.length<=_; omega,af⟩);have aN:k<m.length:=by omega
 have dz:=hm.oV _ (List.getElem_mem aN);rw [ep aN];generalize m[k]=st at *;refine Tot.sm (.aB (Sk g aI st.Kernel (by have:=dz.len aI; omega)) λE kO=>?_);obtain ⟨acK,UB⟩:=kO;refine .aB (Ξ:=λL:List kJ=>L.length<=540 * (k+1)/\∀ l∈L,x9 g l) ?_ λr aj=>.al ⟨aN,rfl,aj⟩;refine Tot.upto (λs=>s.2) E.length (λaa s=>s.1.length<=540 * k+aa/\∀ l∈s.1,x9 g l) rfl (by omega) ⟨h1,af⟩ λaa s ag he bb=>?_;obtain ⟨L,i⟩:=s;obtain ⟨h1,af⟩:=bb;simp only at he h1 af ⊢;subst he;rw [eE aa (by omega)];refine Tot.bD (λlG=>?_) (λdY=>.al ⟨by show L.length<=_; omega,af⟩);have lG:aa<E.length:=by omega
 have av:=UB _ (List.getElem_mem lG);rw [ep lG];generalize E[aa]=p at *;simp only [Option.bind_some];refine .aB (Sl g aI hm py hx k p) λB f'=>?_;obtain ⟨acJ,Uz⟩:=f';refine .aB (Ξ:=iN g.aW.length) ?_ λS a_=>?_
 ·refine Tot.upto (λs=>s.2) B.length (λ_ s=>iN g.aW.length s.1) rfl (by omega) .nil λb s au he bb=>?_;obtain ⟨S,i⟩:=s;simp only at he bb ⊢;subst he;rw [eE b (by omega)];refine Tot.bD (λyT=>?_) (λdY=>.al bb);have yT:b<B.length:=by omega
  have j:=Uz _ (List.getElem_mem yT);rw [ep yT];generalize B[b]=x at *;obtain ⟨row,jB,Jc⟩:=kx (l:=F) j.1 (by omega);have lH:=iT row Jc;have uU:=lH.len;simp only [Option.bind_some,jB];refine .aB (Ξ:=iN g.aW.length) ?_ λS a_=>.al ⟨yT,rfl,a_⟩;refine Tot.upto (λs=>s.2) row.length (λ_ s=>iN g.aW.length s.1) rfl (by omega) bb λz s aS he bb=>?_;obtain ⟨S,i⟩:=s;simp only at he bb ⊢;subst he;rw [eE z (by omega)];refine Tot.bD (λpI=>?_) (λdY=>.al bb);have pI:z<row.length:=by omega
  rw [ep pI];exact Tot.sm (.aB (bb.put (by omega) (lH.i _ (List.getElem_mem pI))) λr aj=>.al ⟨pI,rfl,aj.1⟩)
 ·refine .aB (Ξ:=λ_=>True) (Tot.ap (by simp [lim]; omega) trivial) λ_ _=>.al ⟨lG,rfl,by simp; omega,λl ah=>?_⟩;rcases List.mem_append.1 ah with ah | ah
  ·exact af l ah
  ·rw [List.mem_singleton.1 ah]; exact ⟨av,a_⟩
def Di (c:Cell):Nat:=c.a7.length+(if 0<=c.jd then 1 else 0)+(if c.lx then 1 else 0)
theorem ZO {x:Option Int}{c:Cell}(ah:c.a7.length<=1000) (e:x=(((bif decide (0<=c.jd) then
some (aR ((c.a7.length:Int)+1))
else
some (c.a7.length:Int))).bind λiZ =>
((bif c.lx then
some (aR (iZ+1))
else
some iZ)).bind λhW =>
some hW)):x=some (Di c:Int):=by
 subst e;have hw:aR ((c.a7.length:Int)+1)=(c.a7.length:Int)+1:=by rw [cD]; omega
 have oc:aR ((c.a7.length:Int)+1+1)=(c.a7.length:Int)+1+1:=by rw [cD]; omega
 unfold Di;by_cases h:0<=c.jd
 ·cases af:c.lx <;> simp [h,hw,oc]
 ·cases af:c.lx <;> simp [h,hw]
theorem Tr (c:Cell) (ah:c.a7.length<=1000):CJ c=some (Di c:Int):=ZO ah (by unfold CJ; rfl)
structure nV (g:bx) (n:Nat) (c:Cell):Prop where
 s:0<=c.State/\c.State<n
 t:0<=c.Tok/\c.Tok<g.aW.length
 f:-1<=c.jd/\c.jd<n
 p:fo ik c.a7
 q:∀ p∈c.a7,qe g p
 ZK:0<Di c
theorem nV.len {g:bx}(aI:fV g) {n:Nat}{c:Cell}(h:nV g n c):c.a7.length<=60:=by
 have:=aI.lK;have:=iN.len (T:=g.a7.length) ⟨h.p,λx j=>⟨by have:=(h.q x j).1; omega,(h.q x j).2⟩⟩;omega
def xY (a b:Cell):Prop:=a.State<b.State\/(a.State=b.State/\a.Tok<b.Tok)
structure Gx (g:bx) (n:Nat) (l:List Cell):Prop where
 ok:∀ c∈l,nV g n c
 adG:l.Pairwise xY
 n:l.length<=6000
theorem Si (g:bx) (aI:fV g) {m:List State}(hm:k4 g m) (vi:List kJ) (ah:vi.length<=81000) (hk:∀ l∈vi,x9 g l):Tot (CF g m vi) (Gx g m.length):=by
 have ak:=aI.j2;have qm:=hm.lh;have yW:=aI.lK;unfold CF;refine .aB (Ξ:=Gx g m.length) ?_ λr aj=>.al aj;refine Tot.upto (λs=>s.2) m.length (λk s=>s.1.length<=40 * k/\(∀ c∈s.1,nV g m.length c)/\s.1.Pairwise xY/\∀ c∈s.1,c.State<k) rfl (by omega) ⟨Nat.le_refl 0,λp h=>(by cases h),.nil,λp h=>by cases h⟩ λk s Bt he bb=>?_;obtain ⟨L,i⟩:=s;obtain ⟨h1,af,aJ,bo⟩:=bb;simp only at he h1 af aJ bo ⊢;subst he;rw [eE k (by omega)];refine Tot.bD (λaN=>?_) (λdY=>.al ⟨af,aJ,by show L.length<=_; omega⟩);have aN:k<m.length:=by omega
 have dz:=hm.oV _ (List.getElem_mem aN);rw [ep aN];generalize m[k]=st at *;have acN:=dz.len aI;refine .aB (Ξ:=λL:List Cell=>L.length<=40 * (k+1)/\(∀ c∈L,nV g m.length c)/\L.Pairwise xY/\∀ c∈L,c.State<(k+1:Nat)) ?_ λr aj=>.al ⟨aN,rfl,aj⟩;refine Tot.upto (λs=>s.2) g.aW.length (λaa s=>s.1.length<=40 * k+aa/\(∀ c∈s.1,nV g m.length c)/\s.1.Pairwise xY/\∀ c∈s.1,c.State<k\/(c.State=k/\c.Tok<aa)) rfl (by omega) ⟨h1,af,aJ,λc J=>.inl (bo c J)⟩ λaa s ag he bb=>?_;obtain ⟨L,i⟩:=s;obtain ⟨h1,af,aJ,bo⟩:=bb;simp only at he h1 af aJ bo ⊢;subst he;rw [eE aa (by omega)];refine Tot.bD (λlG=>?_) (λdY=>.al ⟨by show L.length<=_; omega,af,aJ,λc J=>by rcases bo c J with h | h <;> omega⟩);refine .aB (Ξ:=λL:List Cell=>L.length<=40 * k+(aa+1)/\(∀ c∈L,nV g m.length c)/\L.Pairwise xY/\∀ c∈L,c.State<k\/(c.State=k/\c.Tok<(aa+1:Nat))) ?_ λr aj=>.al ⟨by omega,rfl,aj⟩;refine .aB (D6 m k aa hm.vj) λsh EP=>?_;have Wu:=EP.aP hm;refine .aB (Ξ:=λ_=>True) ?_ λac _=>?_
 ·refine Tot.upto (λs=>s.2) st.Kernel.length (λ_ _=>True) rfl (by omega) trivial λz s aS he _=>?_;obtain ⟨b,i⟩:=s;simp only at he ⊢;subst he;rw [eE z (by omega)];simp only [Option.bind_some];refine Tot.bD (λpI=>?_) (λ_=>.al trivial);have pI:z<st.Kernel.length:=by omega
  rw [ep pI];simp only [Option.bind_some];refine .aB (Ξ:=λ_=>True) (Tot.bB (λ_=>.al trivial) (λ_=>Tot.bD (λ_=>Tot.bD (λ_=>.al trivial) (λ_=>.al trivial)) (λ_=>.al trivial))) λ_ _=>.al ⟨pI,rfl,trivial⟩
 refine .aB (Ξ:=λP:List Int=>fo ik P/\∀ p∈P,qe g p) ?_ λP cV=>?_
 ·refine Tot.upto (λs=>s.2) vi.length (λ_ s=>fo ik s.1/\∀ p∈s.1,qe g p) rfl (by omega) ⟨.nil,λp h=>by cases h⟩ λz s aS he bb=>?_;obtain ⟨P,i⟩:=s;obtain ⟨g1,g2⟩:=bb;simp only at he g1 g2 ⊢;subst he;rw [eE z (by omega)];refine Tot.bD (λpI=>?_) (λdY=>.al ⟨g1,g2⟩);have pI:z<vi.length:=by omega
  have ji:=hk _ (List.getElem_mem pI);rw [ep pI];generalize vi[z]=l at *;have Jg:=ji.t.len;have Ew:=iN.len (T:=g.a7.length) ⟨g1,λx j=>⟨by have:=(g2 x j).1; omega,(g2 x j).2⟩⟩;simp only [Option.bind_some];refine .aB (Ξ:=λP:List Int=>fo ik P/\∀ p∈P,qe g p) ?_ λr aj=>.al ⟨pI,rfl,aj⟩;refine .aB (Ξ:=λ_=>True) (Tot.bD (λ_=>.aB (yv l.aW aa (by omega)) λ_ _=>.al trivial) (λ_=>.al trivial)) λc _=>?_;refine .aB (Ξ:=λP:List Int=>fo ik P/\∀ p∈P,qe g p) (Tot.bB (λ_=>?_) (λ_=>.al ⟨g1,g2⟩)) λr aj=>.al aj;refine .aB (Ha P l.Prod g1 (by omega)) λr aj=>.al ⟨aj.1,λp av=>?_⟩;rcases (aj.2.2 p).1 av with h | rfl
  ·exact g2 p h
  ·exact ji.p
 ·have Ew:=iN.len (T:=g.a7.length) ⟨cV.1,λx j=>⟨by have:=(cV.2 x j).1; omega,(cV.2 x j).2⟩⟩;rw [Tr _ (by show P.length<=_; omega)];refine Tot.sm (.aB (Ξ:=λL:List Cell=>L.length<=40 * k+(aa+1)/\(∀ c∈L,nV g m.length c)/\L.Pairwise xY/\∀ c∈L,c.State<k\/(c.State=k/\c.Tok<(aa+1:Nat))) (Tot.bD (λaH=>?_) (λ_=>.al ⟨by omega,af,aJ,λc J=>by rcases bo c J with h | h <;> omega⟩)) λr aj=>.al aj);refine .aB (Ξ:=λ_=>True) (Tot.ap (by simp [lim]; omega) trivial) λ_ _=>.al ⟨by simp; omega,λc J=>?_,List.pairwise_append.2 ⟨aJ,List.pairwise_singleton ..,λa aQ b au=>?_⟩,λc J=>?_⟩
  ·rcases List.mem_append.1 J with J | J
   ·exact af c J
   ·rw [List.mem_singleton.1 J];exact ⟨⟨by show (0:Int)<=k; omega,by show (k:Int)<_; omega⟩,⟨by show (0:Int)<=aa; omega,by show (aa:Int)<_; omega⟩,Wu,cV.1,cV.2,by omega⟩
  ·rw [List.mem_singleton.1 au];rcases bo a aQ with h | h
   ·exact .inl h
   ·exact .inr h
  ·rcases List.mem_append.1 J with J | J
   ·rcases bo c J with h | h
    ·exact .inl h
    ·exact .inr ⟨h.1,by omega⟩
   ·rw [List.mem_singleton.1 J];exact .inr ⟨rfl,by show (aa:Int)<_; omega⟩
theorem pk (s:Source) (au:qW s):Tot (zl s) λr=>r.2.2=true->fV r.1/\k4 r.1 r.2.1:=by
 unfold zl;refine .aB (t38 s au) λr aj=>Tot.bB (λ_=>.al λh=>by cases h) (λh=>?_);have aI:=aj (by simpa using h);refine .aB (tc r.1 aI) λm hm=>.al λh=>⟨aI,?_⟩;have h:m.2=0:=of_decide_eq_true h;rcases hm with hm | hm
 ·exact hm.2
 ·omega
structure Gv (g:bx) (m:List State) (cs:List Cell):Prop where
 Eo:fV g
 XN:k4 g m
 ce:Gx g m.length cs
theorem n3 (s:Source) (au:qW s):Tot (tO s) λr=>r.2.2.2=true->Gv r.1 r.2.1 r.2.2.1:=by
 unfold tO;refine .aB (pk s au) λr aj=>Tot.bB (λ_=>.al λh=>by cases h) (λh=>?_);obtain ⟨aI,hm⟩:=aj (by simpa using h);exact .aB (AB r.1 aI hm) λvi NY=>.aB (Si r.1 aI hm vi NY.1 NY.2) λcs gl=>.al λ_=>⟨aI,hm,gl⟩
def y_ (g:bx) (p:Int):Int × Int:=match idx g.a7 p with
 | some q=>match idx g.aW q.Prec with
  | some t=>(t.Level,t.e9)
  | none=>(0,0)
 | none=>(0,0)
def dec (g:bx) (p t:Int):Int:=match idx g.aW t with
 | some k=>if (y_ g p).1=0\/k.Level=0 then 0 else if (y_ g p).1<k.Level then 1 else if k.Level<(y_ g p).1 then 2 else if k.e9=1 then 2 else if k.e9=2 then 1 else 3
 | none=>0
def r1 (g:bx) (c:Cell):Act:=match c.a7 with
 | []=>if c.lx=true then ⟨3,0⟩ else ⟨1,c.jd⟩
 | p::_=>if c.lx=true then ⟨3,0⟩ else if c.jd<0 then ⟨2,p⟩ else if dec g p c.Tok=2 then ⟨2,p⟩ else if dec g p c.Tok=3 then ⟨4,0⟩ else ⟨1,c.jd⟩
def uw (g:bx) (c:Cell):List eS:=match c.a7 with
 | []=>[]
 | p::r=>r.map (λx=>(⟨c.State,c.Tok,p,x⟩:eS))++(if c.lx=true\/(0<=c.jd/\dec g p c.Tok=0) then [(⟨c.State,c.Tok,-1,p⟩:eS)] else [])
structure qP (g:bx) (n:Nat) (a:Act):Prop where
 k:0<=a.Kind/\a.Kind<=4
 gr:a.Kind=0->a.N=0
 lh:a.Kind=1->0<=a.N/\a.N<n
 qy:a.Kind=2->qe g a.N
 XT:a.Kind=3->a.N=0
 XU:a.Kind=4->a.N=0
theorem Rv {g:bx}{n:Nat}{c:Cell}(h:nV g n c):qP g n (r1 g c)/\(r1 g c).Kind≠0:=by
 have BK:=h.ZK;have aU:=h.f;have a3:qP g n ⟨3,0⟩:=⟨⟨by decide,by decide⟩,λh=>(by cases h),λh=>(by cases h),λh=>(by cases h),λ_=>rfl,λh=>by cases h⟩;have a4:qP g n ⟨4,0⟩:=⟨⟨by decide,by decide⟩,λh=>(by cases h),λh=>(by cases h),λh=>(by cases h),λ_=>rfl,λ_=>rfl⟩;have aw:0<=c.jd->qP g n ⟨1,c.jd⟩:=λaH=>⟨⟨by show (0:Int)<=1; decide,by show (1:Int)<=4; decide⟩,λh=>(by cases h),λ_=>⟨aH,aU.2⟩,λh=>(by cases h),λh=>(by cases h),λh=>by cases h⟩;have a2:∀ p∈c.a7,qP g n ⟨2,p⟩:=λp av=>⟨⟨by show (0:Int)<=2; decide,by show (2:Int)<=4; decide⟩,λh=>(by cases h),λh=>(by cases h),λ_=>h.q p av,λh=>(by cases h),λh=>by cases h⟩;unfold r1;unfold Di at BK;cases cV:c.a7 with
 | nil =>
  simp only;rw [cV] at BK;by_cases h1:c.lx=true
  ·rw [if_pos h1]; exact ⟨a3,by decide⟩
  ·rw [if_neg h1];rw [if_neg h1] at BK;refine ⟨aw ?_,by show (1:Int)≠0; decide⟩;by_cases af:0<=c.jd
   ·exact af
   ·rw [if_neg af] at BK; simp at BK
 | cons p r =>
  simp only;have av:=a2 p (by rw [cV]; simp);split
  ·exact ⟨a3,by decide⟩
  ·split
   ·exact ⟨av,by show (2:Int)≠0; decide⟩
   ·split
    ·exact ⟨av,by show (2:Int)≠0; decide⟩
    ·split
     ·exact ⟨a4,by decide⟩
     ·exact ⟨aw (by omega),by show (1:Int)≠0; decide⟩
theorem SC {g:bx}(aI:fV g) {n:Nat}{c:Cell}(h:nV g n c):(uw g c).length<=60:=by
 have ah:=h.len aI;unfold uw;cases cV:c.a7 with
 | nil=>simp
 | cons p r =>
  rw [cV,List.length_cons] at ah;simp only [List.length_append,List.length_map];split
  ·simp; omega
  ·simp; omega
def rowOf (g:bx) (l:List Cell):List Act:=l.foldl (λrow c=>row.set c.Tok.toNat (r1 g c)) (List.replicate g.aW.length ⟨0,0⟩)
def mi (cs:List Cell) (q:Nat):List Cell:=cs.filter λc=>decide (c.State=(q:Int))
def go (m:List State) (q s:Int):Int:=(rJ m q s).getD (-1)
theorem go_eq {g:bx}{m:List State}(hm:k4 g m) (q s:Int):rJ m q s=some (go m q s)/\GoTo m q s (go m q s):=by
 obtain ⟨r,aj,h⟩:=D6 m q s hm.vj;unfold go;rw [aj];exact ⟨rfl,h⟩
theorem PJ (g:bx):∀ (l:List Cell),(rowOf g l).length=g.aW.length:=λl=>by
 suffices h:∀ (l:List Cell) (r:List Act),(l.foldl (λrow c=>row.set c.Tok.toNat (r1 g c)) r).length=r.length by
  unfold rowOf; rw [h]; simp
 intro l
 induction l with
 | nil=>intro r; rfl
 | cons c l aK=>intro r; rw [List.foldl_cons,aK,List.length_set]
theorem YU (g:bx) (l:List Cell) (c:Cell):rowOf g (l++[c])=(rowOf g l).set c.Tok.toNat (r1 g c):=by
 unfold rowOf; rw [List.foldl_append]; rfl
theorem YR {g:bx}{n:Nat}:∀ {l:List Cell},(∀ c∈l,nV g n c)->∀ a∈rowOf g l,qP g n a:=by
 intro l h
 suffices ax:∀ (l:List Cell) (r:List Act),(∀ c∈l,nV g n c)->(∀ a∈r,qP g n a)->∀ a∈l.foldl (λrow c=>row.set c.Tok.toNat (r1 g c)) r,qP g n a by
  refine ax l _ h λa aQ=>?_;rw [List.eq_of_mem_replicate aQ];exact ⟨⟨by decide,by decide⟩,λ_=>rfl,λh=>(by cases h),λh=>(by cases h),λh=>(by cases h),λh=>by cases h⟩
 intro l
 induction l with
 | nil=>intro r _ aj; exact aj
 | cons c l aK =>
  intro r ah aj;rw [List.foldl_cons];refine aK _ (λd aO=>ah d (by simp [aO])) λa aQ=>?_;rcases List.mem_or_eq_of_mem_set aQ with h | h
  ·exact aj a h
  ·rw [h]; exact (Rv (ah c (by simp))).1
def uE (g:bx) (m:List State) (q:Nat):List Int:=(List.range g.bA.length).map λa:Nat=>go m q (1000+(a:Int))
def k8 (g:bx) (l:List Cell):List eS:=l.flatMap (uw g)
theorem Hi {g:bx}(aI:fV g) {n:Nat}:∀ {l:List Cell},(∀ c∈l,nV g n c)->(k8 g l).length<=60 * l.length
 | [],_=>by simp [k8]
 | c::l,h=>by
  have h1:=SC aI (h c (by simp));have af:=Hi aI (l:=l) λd aO=>h d (by simp [aO]);unfold k8 at af ⊢;rw [List.flatMap_cons,List.length_append,List.length_cons];omega
theorem ZJ {α:Type}{l:List α}{k:Nat}(h:k<l.length) (p:α->Bool):(l.take (k+1)).filter p=(l.take k).filter p++(if p l[k] then [l[k]] else []):=by
 rw [p6 h,List.filter_append];congr 1;rw [List.filter_cons]
 split <;> simp
structure GA (g:bx) (m:List State) (cs:List Cell) (d:kn):Prop where
 a:d.fm=(List.range m.length).map λq=>rowOf g (mi cs q)
 o:d.eP=(List.range m.length).map λq=>uE g m q
structure Gy (g:bx) (n:Nat) (d:kn):Prop where
 gr:0<n/\n<=150
 Eo:fV g
 a:d.fm.length=n
 oJ:∀ r∈d.fm,r.length=g.aW.length/\∀ a∈r,qP g n a
 o:d.eP.length=n
 Yd:∀ r∈d.eP,r.length=g.bA.length/\∀ v∈r,-1<=v/\v<n
theorem GA.aP {g:bx}{m:List State}{cs:List Cell}{d:kn}(h:GA g m cs d) (dm:Gv g m cs):Gy g m.length d:=by
 obtain ⟨aI,hm,J⟩:=dm;refine ⟨⟨hm.gr,hm.lh⟩,aI,by rw [h.a]; simp,λr aj=>?_,by rw [h.o]; simp,λr aj=>?_⟩
 ·rw [h.a] at aj;obtain ⟨q,_,rfl⟩:=List.mem_map.1 aj;exact ⟨PJ g _,YR λc rb=>J.ok c (List.mem_filter.1 rb).1⟩
 ·rw [h.o] at aj;obtain ⟨q,_,rfl⟩:=List.mem_map.1 aj;refine ⟨by simp [uE],λv hv=>?_⟩;obtain ⟨a,_,rfl⟩:=List.mem_map.1 hv;exact (go_eq hm q _).2.aP hm
theorem MM (g:bx) (t:Int):zy g t=some (match idx g.aW t with | some k=>(k.Level,k.e9) | none=>(0,0)):=by
 unfold zy;by_cases aH:t<0
 ·rw [vb (.inl aH)]; simp [aH]
 ·by_cases h1:(g.aW.length:Int)<=t
  ·rw [vb (.inr h1)]; simp [h1]
  ·obtain ⟨k,hk,_⟩:=kx (l:=g.aW) (i:=t) (by omega) (by omega);simp [aH,h1,hk]
theorem Tu (g:bx) (p:Int):CY g p=some (y_ g p):=by
 unfold CY y_;by_cases aH:p<0
 ·rw [vb (.inl aH)]; simp [aH]
 ·by_cases h1:(g.a7.length:Int)<=p
  ·rw [vb (.inr h1)]; simp [h1]
  ·obtain ⟨k,hk,_⟩:=kx (l:=g.a7) (i:=p) (by omega) (by omega);simp only [aH,h1,hk,decide_false,cond_false,Option.bind_some,MM]
   first | done | (cases idx g.aW k.Prec <;> rfl)
theorem Tl (g:bx) (p t:Int):dec g p t=0\/dec g p t=1\/dec g p t=2\/dec g p t=3:=by
 unfold dec;split
 ·repeat' split
  all_goals simp
 ·exact .inl rfl
theorem Tt (g:bx) (p t:Int):CN g p t=some (dec g p t):=by
 unfold CN;rw [Tu,MM];unfold dec;generalize y_ g p=x;cases hk:idx g.aW t with
 | none =>
  simp only [Option.bind_some];by_cases h1:x.1=0 <;> simp [h1]
 | some k =>
  simp only [Option.bind_some];by_cases h1:x.1=0
  ·simp [h1]
  ·by_cases af:k.Level=0
   ·simp [h1,af]
   ·rw [if_neg (by omega)];simp only [h1,af,decide_false,cond_false,Option.bind_some];by_cases aJ:x.1<k.Level
    ·simp [aJ]
    ·by_cases bo:k.Level<x.1
     ·have:¬ k.Level=x.1:=by omega
      simp [aJ,bo,this]
     ·have:k.Level=x.1:=by omega
      rw [if_neg aJ,if_neg bo];by_cases cu:k.e9=1
      ·simp [this,cu]
      ·by_cases dC:k.e9=2
       ·simp [this,dC]
       ·simp [this,cu,dC]
theorem L2 {p:Int}{r:List Int}(h:fo ik (p::r)):∀ x∈r,p<x:=λx j=>O2.1 ((List.pairwise_cons.1 h).1 x j)
theorem yu (p:Int) (r:List Int) (ah:r.length<=1000) (h:fo ik (p::r)):vr (p::r)=some p:=by
 suffices ax:Tot (vr (p::r)) λz=>z=p by
  obtain ⟨z,aS,e⟩:=ax; rw [aS,e]
 have aN:=L2 h;unfold vr;refine Tot.bD (λh=>by rw [List.length_cons] at h; omega) (λ_=>?_);have e0:idx (p::r) 0=some p:=rfl;rw [e0];refine Tot.sm (.aB (Ξ:=λz:Int=>z=p) ?_ λz aS=>.al aS);refine Tot.count (λs=>s.2) ((p::r).length:Int) (λs=>s.1=p/\1<=s.2) ⟨rfl,Int.le_refl _⟩ (by rw [List.length_cons]; show ((r.length+1:Nat):Int) - 1<_; omega) λs ax=>?_;obtain ⟨z,i⟩:=s;obtain ⟨h1,af⟩:=ax;simp only at h1 af ⊢;subst h1;have V6:(z::r).length=r.length+1:=rfl;refine Tot.bD (λEF=>?_) (λ_=>.al rfl);obtain ⟨y,ai,hm⟩:=kx (l:=z::r) (i:=i) (by omega) EF;rw [ai];have Xf:z<=y:=by
  rcases List.mem_cons.1 hm with rfl | hm
  ·exact Int.le_refl _
  ·have:=aN y hm; omega
 refine Tot.sm (.al ⟨⟨Int.min_eq_left Xf,?_⟩,?_,?_⟩)
 ·show 1<=aR (i+1);rw [cD]; omega
 ·show i<aR (i+1);rw [cD]; omega
 ·show aR (i+1)<=_;rw [cD]; omega
def Hh (g:bx) (c:Cell):Bool:=match c.a7 with
 | []=>false
 | p::_=>decide (c.lx=true\/(0<=c.jd/\dec g p c.Tok=0))
theorem Tq (g:bx) (aI:fV g) {n:Nat}(c:Cell) (h:nV g n c):CH g c=some (r1 g c,Hh g c):=by
 have ah:=h.len aI;have av:=h.p;unfold CH r1 Hh;cases cV:c.a7 with
 | nil =>
  simp only;cases h1:c.lx <;> simp
 | cons p r =>
  rw [cV,List.length_cons] at ah;rw [cV] at av;have dl:decide (((p::r).length:Int)=0)=false:=decide_eq_false (by simp; omega);simp only [dl,cond_false,yu p r (by omega) av,Option.bind_some,Tt];have aO:=Tl g p c.Tok;generalize dec g p c.Tok=v at *;cases h1:c.lx
  ·by_cases af:c.jd<0
   ·have aJ:¬ 0<=c.jd:=by omega
    simp [af,aJ]
   ·have aJ:0<=c.jd:=by omega
    rcases aO with rfl | rfl | rfl | rfl <;> simp [af,aJ]
  ·simp
theorem Ts:∀ k:Fin 24,CM [-1] ((k.val+1:Nat):Int)=some (List.replicate (k.val+1) (-1)):=by decide +kernel
theorem AD (g:bx) (aI:fV g) {m:List State}(hm:k4 g m):Tot (zm g m) λd=>d.fm=(List.range m.length).map (λ_=>List.replicate g.aW.length (⟨0,0⟩:Act))/\d.eP=(List.range m.length).map λq=>uE g m q:=by
 have ak:=aI.j2;have az:=aI.c_;have qm:=hm.lh;unfold zm;refine .aB (Ξ:=λr:List (List Act) × List (List Int)=>r.1=(List.range m.length).map (λ_=>List.replicate g.aW.length (⟨0,0⟩:Act))/\r.2=(List.range m.length).map λq=>uE g m q) ?_ λr aj=>.al aj;refine Tot.upto (λs=>s.2.2) m.length (λk s=>s.1=(List.range k).map (λ_=>List.replicate g.aW.length (⟨0,0⟩:Act))/\s.2.1=(List.range k).map λq=>uE g m q) rfl (by omega) ⟨rfl,rfl⟩ λk s hk he bb=>?_;obtain ⟨A,G,i⟩:=s;obtain ⟨h1,af⟩:=bb;simp only at he h1 af ⊢;subst he h1 af;rw [eE k (by omega)];refine Tot.bD (λaN=>?_) (λdY=>.al ?_)
 ·have aN:k<m.length:=by omega
  have bM:idx m (k:Int)=some m[k]:=ep aN;have pN:=List.getElem_mem aN;rw [bM];generalize m[k]=st at *;have sl:=hm.vj st pN;have ft:=hm.nd st pN;have ML:=Ts ⟨g.bA.length - 1,by omega⟩;simp only [show g.bA.length - 1+1=g.bA.length by omega] at ML;simp only [Option.bind_some,ML];refine .aB (Ξ:=λL:List Int=>L=uE g m k) ?_ λL ji=>?_
  ·refine Tot.upto (λs=>s.2) st.de.length (λaa s=>s.1.length=g.bA.length/\∀ a:Nat,a<g.bA.length->(∃ v∈st.de.take aa,v.Sym=1000+(a:Int)/\s.1[a]?=some v.hF)\/((∀ v∈st.de.take aa,v.Sym≠1000+(a:Int))/\s.1[a]?=some (-1))) rfl (by omega) ⟨by simp,λa aQ=>.inr ⟨by simp,by simp [aQ]⟩⟩ λaa s ag he bb=>?_;obtain ⟨L,i⟩:=s;obtain ⟨h1,af⟩:=bb;simp only at he h1 af ⊢;subst he;rw [eE aa (by omega)];refine Tot.bD (λlG=>?_) (λdY=>.al ?_)
   ·have lG:aa<st.de.length:=by omega
    have WA:=p6 lG;have u4:=hm.sym aI pN (List.getElem_mem lG);have adk:∀ v∈st.de.take aa,v.Sym≠(st.de[aa]).Sym:=λv hv e=>by
     obtain ⟨i,hi,rfl⟩:=List.mem_iff_getElem.1 hv;rw [List.length_take] at hi;rw [List.getElem_take] at e;have:=List.pairwise_iff_getElem.1 ft i aa (by rw [List.length_map]; omega) (by rw [List.length_map]; omega) (by omega);rw [List.getElem_map,List.getElem_map] at this;exact this e
    simp only [ep lG,Option.bind_some];generalize st.de[aa]=v at *;refine .aB (Ξ:=λL:List Int=>L.length=g.bA.length/\∀ a:Nat,a<g.bA.length->(∃ v∈st.de.take (aa+1),v.Sym=1000+(a:Int)/\L[a]?=some v.hF)\/((∀ v∈st.de.take (aa+1),v.Sym≠1000+(a:Int))/\L[a]?=some (-1))) ?_ λL ji=>.al ⟨lG,rfl,ji⟩;rw [WA];have mem:∀ w,w∈st.de.take aa++[v]↔w∈st.de.take aa\/w=v:=λw=>by simp
    refine .aB (Ξ:=λL:List Int=>L.length=g.bA.length/\∀ a:Nat,a<g.bA.length->(∃ w∈st.de.take aa++[v],w.Sym=1000+(a:Int)/\L[a]?=some w.hF)\/((∀ w∈st.de.take aa++[v],w.Sym≠1000+(a:Int))/\L[a]?=some (-1))) (Tot.bD (λh=>?_) (λh=>.al ⟨h1,λa aQ=>?_⟩)) λL ji=>.al ji
    ·have au:=u4.2.2 h;have hw:aR (v.Sym - 1000)=v.Sym - 1000:=by rw [cD]; omega
     rw [hw];obtain ⟨y,ai,_⟩:=kx (l:=L) (i:=v.Sym - 1000) (by omega) (by omega);rw [ai];refine Tot.sm (.al ⟨by rw [List.length_set]; exact h1,λa aQ=>?_⟩);rw [rO (by omega)];by_cases e:a=(v.Sym - 1000).toNat
     ·rw [if_pos e];exact .inl ⟨v,(mem v).2 (.inr rfl),by omega,rfl⟩
     ·rw [if_neg e];rcases af a aQ with ⟨w,tD,oc,Jk⟩ | ⟨tD,oc⟩
      ·exact .inl ⟨w,(mem w).2 (.inl tD),oc,Jk⟩
      ·refine .inr ⟨λw hw=>?_,oc⟩;rcases (mem w).1 hw with hw | rfl
       ·exact tD w hw
       ·omega
    ·rcases af a aQ with ⟨w,tD,oc,Jk⟩ | ⟨tD,oc⟩
     ·exact .inl ⟨w,(mem w).2 (.inl tD),oc,Jk⟩
     ·refine .inr ⟨λw hw=>?_,oc⟩;rcases (mem w).1 hw with hw | rfl
      ·exact tD w hw
      ·omega
   ·have e:st.de.take aa=st.de:=List.take_of_length_le (by omega);rw [e] at af;show L=uE g m k;refine List.ext_getElem? λa=>?_;unfold uE;by_cases aQ:a<g.bA.length
    ·rw [List.getElem?_map,List.getElem?_range aQ];have Bq:=(go_eq hm k (1000+(a:Int))).2;show _=some (go m k (1000+(a:Int)));rcases af a aQ with ⟨v,my,qq,WJ⟩ | ⟨my,qq⟩
     ·rw [WJ];rcases Bq with ⟨_,bo⟩ | ⟨FY,w,bo,cu,dC,jh⟩
      ·exact absurd qq (bo st bM v my)
      ·rw [bM] at bo; cases bo;have:v=w:=by
        obtain ⟨i,hi,rfl⟩:=List.mem_iff_getElem.1 my;obtain ⟨wX,ac3,rfl⟩:=List.mem_iff_getElem.1 cu;have key:i=wX:=by
         by_cases c1:i<wX
         ·have:=List.pairwise_iff_getElem.1 ft i wX (by rw [List.length_map]; omega) (by rw [List.length_map]; omega) c1;rw [List.getElem_map,List.getElem_map] at this;exact absurd (qq.trans dC.symm) this
         ·by_cases c2:wX<i
          ·have:=List.pairwise_iff_getElem.1 ft wX i (by rw [List.length_map]; omega) (by rw [List.length_map]; omega) c2;rw [List.getElem_map,List.getElem_map] at this;exact absurd (dC.trans qq.symm) this
          ·omega
        subst key; rfl
       rw [jh,this]
     ·rw [qq];rcases Bq with ⟨bo,_⟩ | ⟨FY,w,bo,cu,dC,jh⟩
      ·rw [bo]
      ·rw [bM] at bo; cases bo;exact absurd dC (my w cu)
    ·rw [List.getElem?_eq_none (by omega),List.getElem?_eq_none (by simp; omega)]
  ·subst ji;refine .aB (Ξ:=λ_=>True) (Tot.ap (by simp [lim]; omega) trivial) λ_ _=>?_;refine .aB (Ξ:=λr=>r=List.replicate g.aW.length (⟨0,0⟩:Act)) (Tot.mk (by simp [lim]; omega) (by simp)) λs3 fj=>?_;subst fj;refine .aB (Ξ:=λ_=>True) (Tot.ap (by simp [lim]; omega) trivial) λ_ _=>.al ⟨aN,rfl,?_,?_⟩
   ·show _=(List.range (k+1)).map _;rw [List.range_succ,List.map_append]; rfl
   ·show _=(List.range (k+1)).map _;rw [List.range_succ,List.map_append]; rfl
 ·have:k=m.length:=by omega
  subst this;exact ⟨rfl,rfl⟩
theorem R1 {cs:List Cell}{k:Nat}(h:k<cs.length) (q:Nat):mi (cs.take (k+1)) q=mi (cs.take k) q++(if cs[k].State=(q:Int) then [cs[k]] else []):=by
 unfold mi;rw [ZJ h];by_cases e:cs[k].State=(q:Int) <;> simp [e]
theorem SE (g:bx) (l:List Cell) (c:Cell):k8 g (l++[c])=k8 g l++uw g c:=by
 unfold k8;rw [List.flatMap_append]; simp
theorem td (g:bx) (m:List State) (cs:List Cell) (dm:Gv g m cs):Tot (xw g m cs) λr=>GA g m cs r.1/\r.2=k8 g cs:=by
 obtain ⟨aI,hm,J⟩:=dm;have ak:=aI.j2;have qm:=hm.lh;have IB:=J.n;unfold xw;refine .aB (AD g aI hm) λd aO=>?_;obtain ⟨EC,VI⟩:=aO;refine .aB (Ξ:=λr:List (List Act) × List eS=>r.1=(List.range m.length).map (λq=>rowOf g (mi cs q))/\r.2=k8 g cs) ?_ λr aj=>.al ⟨⟨aj.1,VI⟩,aj.2⟩;rw [EC];refine Tot.upto (λs=>s.2.2) cs.length (λk s=>s.1=(List.range m.length).map (λq=>rowOf g (mi (cs.take k) q))/\s.2.1=k8 g (cs.take k)) rfl (by omega) ⟨by simp [mi,rowOf],by simp [k8]⟩ λk s hk he bb=>?_;obtain ⟨A,C,i⟩:=s;obtain ⟨h1,af⟩:=bb;simp only at he h1 af ⊢;subst he h1 af;rw [eE k (by omega)];refine Tot.bD (λaN=>?_) (λdY=>.al ?_)
 ·have aN:k<cs.length:=by omega
  have hK:=p6 aN;have e5:=R1 aN;have dp:=J.ok _ (List.getElem_mem aN);have h3:(k8 g (cs.take k)).length<=360000:=by
   have h1:=Hi aI (l:=cs.take k) λc rb=>J.ok c (List.mem_of_mem_take rb);rw [List.length_take] at h1;omega
  rw [ep aN];generalize cs[k]=c at *;have bM:=dp.s;have uU:=PJ g (mi (cs.take k) c.State.toNat);have Tx:idx ((List.range m.length).map λq=>rowOf g (mi (cs.take k) q)) c.State=some (rowOf g (mi (cs.take k) c.State.toNat)):=by
   unfold idx;rw [if_pos bM.1,List.getElem?_map,List.getElem?_range (by omega)]; rfl
  obtain ⟨a0,qi,_⟩:=kx (l:=rowOf g (mi (cs.take k) c.State.toNat)) (i:=c.Tok) dp.t.1 (by rw [uU]; exact dp.t.2);have MU:((List.range m.length).map λq=>rowOf g (mi (cs.take k) q)).set c.State.toNat ((rowOf g (mi (cs.take k) c.State.toNat)).set c.Tok.toNat (r1 g c))=(List.range m.length).map λq=>rowOf g (mi (cs.take (k+1)) q):=by
   refine List.ext_getElem? λq=>?_;rw [rO (by simp; omega),List.getElem?_map,List.getElem?_map];by_cases e:q=c.State.toNat
   ·rw [if_pos e,e,List.getElem?_range (by omega)];show _=some (rowOf g (mi (cs.take (k+1)) c.State.toNat));rw [e5,if_pos (by omega),YU]
   ·rw [if_neg e];by_cases ba:q<m.length
    ·rw [List.getElem?_range ba];show some (rowOf g (mi (cs.take k) q))=some (rowOf g (mi (cs.take (k+1)) q));rw [e5,if_neg (by omega),List.append_nil]
    ·rw [List.getElem?_eq_none (by simp; omega)]; rfl
  have Ew:=dp.len aI;simp only [Option.bind_some,Tq g aI c dp,Tx,qi];refine .aB (Ξ:=λr:List (List Act) × List eS=>r.1=(List.range m.length).map (λq=>rowOf g (mi (cs.take (k+1)) q))/\r.2=k8 g (cs.take (k+1))) ?_ λr aj=>.al ⟨aN,rfl,aj⟩;rw [hK,SE,<- hK];cases cV:c.a7 with
  | nil =>
   refine Tot.bD (λ_=>.al ⟨MU,?_⟩) (λh=>absurd rfl h);show k8 g (cs.take k)=_;unfold uw;rw [cV,List.append_nil]
  | cons p r =>
   have Ig:=dp.p;rw [cV] at Ig Ew;rw [List.length_cons] at Ew;have pH:=L2 Ig;refine Tot.bD (λh=>by rw [List.length_cons] at h; omega) (λ_=>?_);rw [yu p r (by omega) Ig];refine Tot.sm (.aB (Ξ:=λl:List eS=>l=k8 g (cs.take k)++r.map (λx=>(⟨c.State,c.Tok,p,x⟩:eS))) ?_ λl ah=>?_)
   ·refine Tot.upto (λs=>s.2) (p::r).length (λaa s=>s.1=k8 g (cs.take k)++(r.take (aa - 1)).map (λx=>(⟨c.State,c.Tok,p,x⟩:eS))) rfl (by rw [List.length_cons]; omega) (by simp) λaa s ag he bb=>?_;obtain ⟨L,i⟩:=s;simp only at he bb ⊢;subst he bb;rw [eE aa (by rw [List.length_cons] at ag; omega)];refine Tot.bD (λlG=>?_) (λdY=>.al ?_)
    ·have lG:aa<(p::r).length:=by omega
     rw [ep lG];simp only [Option.bind_some];refine .aB (Ξ:=λl:List eS=>l=k8 g (cs.take k)++(r.take (aa+1 - 1)).map (λx=>(⟨c.State,c.Tok,p,x⟩:eS))) ?_ λl ah=>.al ⟨lG,rfl,ah⟩;cases aa with
     | zero =>
      refine .aB (Ξ:=λl:List eS=>l=k8 g (cs.take k)++(r.take (0+1 - 1)).map (λx=>(⟨c.State,c.Tok,p,x⟩:eS))) (Tot.pq (λh=>absurd rfl h) (λ_=>.al ?_)) λl ah=>.al ah;simp
     | succ aa =>
      rw [List.length_cons] at lG;have NZ:aa<r.length:=by omega
      have cU:=pH _ (List.getElem_mem NZ);rw [List.getElem_cons_succ];have hx:=p6 NZ;refine .aB (Ξ:=λl:List eS=>l=k8 g (cs.take k)++(r.take (aa+1+1 - 1)).map (λx=>(⟨c.State,c.Tok,p,x⟩:eS))) (Tot.pq (λ_=>?_) (λh=>by omega)) λl ah=>.al ah;refine .aB (Ξ:=λ_=>True) (Tot.ap (by simp [lim]; omega) trivial) λ_ _=>.al ?_;rw [Nat.add_sub_cancel,Nat.add_sub_cancel,hx,List.map_append,List.append_assoc]; rfl
    ·rw [List.length_cons] at dY ag;have e:r.take (aa - 1)=r:=List.take_of_length_le (by omega);rw [e]; rfl
   ·subst ah;refine .aB (Ξ:=λl:List eS=>l=k8 g (cs.take k)++uw g c) ?_ λl ah=>.al ⟨MU,ah⟩;unfold uw Hh;rw [cV];simp only;refine Tot.bD (λh=>?_) (λh=>.al ?_)
    ·rw [if_pos h];refine .aB (Ξ:=λ_=>True) (Tot.ap (by simp [lim]; omega) trivial) λ_ _=>.al (by rw [List.append_assoc])
    ·rw [if_neg h,List.append_nil]
 ·have e:cs.take k=cs:=List.take_of_length_le (by omega);rw [e];exact ⟨rfl,rfl⟩
abbrev room:Nat:=140737488355328
theorem Ay {a b:ByteArray}(h:a.size+b.size<=140737488355328):mP a b=some (a++b):=by unfold mP; rw [if_pos h]
theorem dg (n:Int) (h:-9223372036854775808<=n/\n<=9223372036854775807):∃ r,nK n=some r/\kf n=some r/\r.size<=21:=by
 refine ⟨_,Mt n h,l1 n h,?_⟩;have:=OH n h;rw [yo]; exact this
def g_ (t:ByteArray):ByteArray:=(⟨#[9]⟩++t)++⟨#[10]⟩
theorem O0 (t:ByteArray):(g_ t).size=t.size+2:=by
 unfold g_;rw [ByteArray.size_append,ByteArray.size_append];show 1+t.size+1=_;omega
theorem Eb (g:bx) (s t:ByteArray) (h:s.size+t.size+2<=140737488355328):pY ⟨g,s⟩ t=some ⟨g,s++g_ t⟩:=by
 have h1:(⟨#[9]⟩:ByteArray).size=1:=rfl;have af:(⟨#[10]⟩:ByteArray).size=1:=rfl;have ah:=O0 t;unfold pY;rw [eQ (by omega),Option.bind_some,eQ (by rw [ByteArray.size_append]; omega),Option.bind_some];show (mP s (g_ t)).bind _=_;rw [Ay (by omega)];rfl
theorem a54 {g:bx}{n:Nat}{a:Act}(h:qP g n a) (az:n<=150) (av:g.a7.length<=100):(a.Kind=0->rK a=some ⟨#[]⟩)/\(a.Kind≠0->∃ r,sI a=some r/\rK a=some (⟨#[32]⟩++r)/\r.size<=30):=by
 have hk:=h.k;have h1:=h.lh;have af:=h.qy;have a8:-9223372036854775808<=a.N/\a.N<=9223372036854775807:=by
  by_cases k0:a.Kind=0
  ·have:=h.gr k0; omega
  ·by_cases rD:a.Kind=1
   ·have:=h1 rD; omega
   ·by_cases gm:a.Kind=2
    ·have:=af gm; have aJ:=this.1; have bo:=this.2; omega
    ·by_cases OL:a.Kind=3
     ·have:=h.XT OL; omega
     ·have:=h.XU (by omega); omega
 obtain ⟨r,bO,b7,e1⟩:=dg a.N a8;refine ⟨λk=>?_,λk=>?_⟩
 ·unfold rK;rw [k]; rfl
 ·have:a.Kind=1\/a.Kind=2\/a.Kind=3\/a.Kind=4:=by omega
  rcases this with k | k | k | k
  ·refine ⟨⟨#[115,104,105,102,116,32]⟩++r,?_,?_,?_⟩
   ·unfold sI;rw [k,b7];show (cj _ r).bind _=_;rw [eQ (by show 6+r.size<=_; omega)]; rfl
   ·unfold rK;rw [k,bO];show (cj _ r).bind _=_;rw [eQ (by show 7+r.size<=_; omega),<- ByteArray.append_assoc]; rfl
   ·rw [ByteArray.size_append]; show 6+r.size<=30; omega
  ·refine ⟨⟨#[114,101,100,117,99,101,32]⟩++r,?_,?_,?_⟩
   ·unfold sI;rw [k,b7];show (cj _ r).bind _=_;rw [eQ (by show 7+r.size<=_; omega)]; rfl
   ·unfold rK;rw [k,bO];show (cj _ r).bind _=_;rw [eQ (by show 8+r.size<=_; omega),<- ByteArray.append_assoc]; rfl
   ·rw [ByteArray.size_append]; show 7+r.size<=30; omega
  ·refine ⟨⟨#[97,99,99,101,112,116]⟩,?_,?_,?_⟩
   ·unfold sI; rw [k]; rfl
   ·unfold rK; rw [k]; rfl
   ·show 6<=30; omega
  ·refine ⟨⟨#[101,114,114,111,114]⟩,?_,?_,?_⟩
   ·unfold sI; rw [k]; rfl
   ·unfold rK; rw [k]; rfl
   ·show 5<=30; omega
abbrev DQ (g:bx) (s:ByteArray) (z:Nat) (k:Nat) (a:eH × Int) (b:ByteArray × Int):Prop:=a.1=⟨g,b.1⟩/\b.2=(k:Int)/\b.1.size<=s.size+k * z/\s.size<=b.1.size
theorem XH (g:bx) (r:List Item) (aj:∀ x∈r,∃ u,xo g x=some u/\vt g x=some u/\u.size<=60000) (az:r.length<=540) (s:ByteArray) (ax:s.size<=1000000000000) :
  Rel (b0 (R:=eH) (λ(cL:eH × Int) =>
  (bif decide (cL.2<(r.length:Int)) then
  (idx r cL.2).bind λbR =>
  (xo cL.1.aA bR).bind λdt =>
  (pY cL.1 dt).bind λc0 =>
  some (.inl (c0,aR (cL.2+1)))
  else
  some (.inr cL.1))) ((⟨g,s⟩:eH),0))
  (b0 (R:=ByteArray) (λ(gO:ByteArray × Int) =>
  (bif decide (gO.2<(r.length:Int)) then
  (cj gO.1 (⟨#[9]⟩)).bind λdF =>
  (idx r gO.2).bind λb8 =>
  (vt g b8).bind λbG =>
  (cj dF bG).bind λeu =>
  (cj eu (⟨#[10]⟩)).bind λe3 =>
  some (.inl (e3,aR (gO.2+1)))
  else
  some (.inr gO.1))) (s,0))
  λa b=>a=⟨g,b⟩/\b.size<=s.size+540 * 60002/\s.size<=b.size:=by
 refine Rel.upto (λs=>s.2) r.length (λk a b=>DQ g s 60002 k a b) rfl (by omega) ⟨rfl,rfl,by show s.size<=_; omega,Nat.le_refl _⟩ λk a b hk he bb=>?_;obtain ⟨h1,af,aJ,bo⟩:=bb;obtain ⟨a,i⟩:=a;obtain ⟨t,aa⟩:=b;simp only at he h1 af aJ bo ⊢;subst he h1 af;refine Rel.bB rfl (λaN=>?_) (λdY=>.al ⟨rfl,?_,bo⟩)
 ·have aN:=of_decide_eq_true aN;have aN:k<r.length:=by omega
  rw [ep aN];obtain ⟨u,bO,b7,e1⟩:=aj r[k] (List.getElem_mem aN);have ah:=O0 u;have bh:(⟨#[9]⟩:ByteArray).size=1:=rfl;have z2:(⟨#[10]⟩:ByteArray).size=1:=rfl;have Bu:k * 60002<=540 * 60002:=Nat.mul_le_mul_right _ (by omega);simp only [Option.bind_some,bO,b7];rw [Eb g t u (by omega),eQ (by omega)];simp only [Option.bind_some];rw [eQ (by rw [ByteArray.size_append]; omega)];simp only [Option.bind_some];rw [eQ (by rw [ByteArray.size_append,ByteArray.size_append]; omega)];simp only [Option.bind_some];refine .al ⟨aN,eE k (by omega),?_,eE k (by omega),?_,?_⟩
  ·show (⟨g,t++g_ u⟩:eH)=⟨g,t++⟨#[9]⟩++u++⟨#[10]⟩⟩;unfold g_;rw [<- ByteArray.append_assoc,<- ByteArray.append_assoc]
  ·show (t++⟨#[9]⟩++u++⟨#[10]⟩).size<=_;rw [ByteArray.size_append,ByteArray.size_append,ByteArray.size_append,Nat.add_mul];omega
  ·show _<=(t++⟨#[9]⟩++u++⟨#[10]⟩).size;rw [ByteArray.size_append,ByteArray.size_append,ByteArray.size_append];omega
 ·exact Nat.le_trans aJ (Nat.add_le_add_left (Nat.mul_le_mul_right _ (by omega)) _)
structure DE (g:bx) (c:eS):Prop where
 t:0<=c.Tok/\c.Tok<g.aW.length
 d:-9223372036854775808<=c.Drop/\c.Drop<=9223372036854775807
theorem XF (g:bx) (aM:fV g) (aI:qQ g) (q:Int) (l:List eS) (aj:∀ x∈l,DE g x) (az:l.length<=360000) (s:ByteArray) (ax:s.size<=1000000000000) :
  Rel (b0 (R:=eH) (λ(dS:eH × Int) =>
  (bif decide (dS.2<(l.length:Int)) then
  ((idx l dS.2).bind λeu =>
  ((bif decide (eu.State=q) then
  (nj dS.1.aA eu.Tok).bind λfU =>
  (cj (⟨#[99,111,110,102,108,105,99,116,32]⟩) fU).bind λgB =>
  (cj gB (⟨#[58,32]⟩)).bind λfa =>
  (nK eu.Drop).bind λhg =>
  (cj fa hg).bind λgP =>
  (cj gP (⟨#[32,108,101,102,116,32,111,117,116]⟩)).bind λkk =>
  (pY dS.1 kk).bind λlq =>
  some lq
  else
  some dS.1)).bind λeJ =>
  some eJ).bind λky =>
  some (.inl (ky,aR (dS.2+1)))
  else
  some (.inr dS.1))) ((⟨g,s⟩:eH),0))
  (b0 (R:=ByteArray) (λ(iG:ByteArray × Int) =>
  (bif decide (iG.2<(l.length:Int)) then
  ((idx l iG.2).bind λgP =>
  ((bif decide (gP.State=q) then
  (cj iG.1 (⟨#[9,99,111,110,102,108,105,99,116,32]⟩)).bind λcz =>
  (idx l iG.2).bind λev =>
  (qA g ev.Tok).bind λgC =>
  (cj cz gC).bind λlr =>
  (cj lr (⟨#[58,32]⟩)).bind λeO =>
  (idx l iG.2).bind λlu =>
  (kf lu.Drop).bind λgD =>
  (cj eO gD).bind λgu =>
  (cj gu (⟨#[32,108,101,102,116,32,111,117,116,10]⟩)).bind λlP =>
  some lP
  else
  some iG.1)).bind λdw =>
  some dw).bind λrC =>
  some (.inl (rC,aR (iG.2+1)))
  else
  some (.inr iG.1))) (s,0))
  λa b=>a=⟨g,b⟩/\b.size<=s.size+360000 * 5000/\s.size<=b.size:=by
 refine Rel.upto (λs=>s.2) l.length (λk a b=>DQ g s 5000 k a b) rfl (by omega) ⟨rfl,rfl,by show s.size<=_; omega,Nat.le_refl _⟩ λk a b hk he bb=>?_;obtain ⟨h1,af,aJ,bo⟩:=bb;obtain ⟨a,i⟩:=a;obtain ⟨t,aa⟩:=b;simp only at he h1 af aJ bo ⊢;subst he h1 af;refine Rel.bB rfl (λaN=>?_) (λdY=>.al ⟨rfl,?_,bo⟩)
 ·have aN:=of_decide_eq_true aN;have aN:k<l.length:=by omega
  rw [ep aN];have j:=aj l[k] (List.getElem_mem aN);obtain ⟨u,bO,b7,e1⟩:=J5 g aM aI l[k].Tok (.inl j.t);obtain ⟨d,d1,d2,d3⟩:=dg l[k].Drop j.d;simp only [eV] at e1;have Bu:k * 5000<=360000 * 5000:=Nat.mul_le_mul_right _ (by omega);simp only [Option.bind_some,bO,b7,d1,d2];by_cases ba:l[k].State=q
  ·rw [decide_eq_true ba];simp only [cond_true];have bS:(⟨#[99,111,110,102,108,105,99,116,32]⟩:ByteArray).size=9:=rfl;have y2:(⟨#[58,32]⟩:ByteArray).size=2:=rfl;have eb:(⟨#[32,108,101,102,116,32,111,117,116]⟩:ByteArray).size=9:=rfl;have hl:(⟨#[9,99,111,110,102,108,105,99,116,32]⟩:ByteArray).size=10:=rfl;have dT:(⟨#[32,108,101,102,116,32,111,117,116,10]⟩:ByteArray).size=10:=rfl;rw [eQ (by omega)];simp only [Option.bind_some];rw [eQ (by rw [ByteArray.size_append]; omega)];simp only [Option.bind_some];rw [eQ (by rw [ByteArray.size_append,ByteArray.size_append]; omega)];simp only [Option.bind_some];rw [eQ (by rw [ByteArray.size_append,ByteArray.size_append,ByteArray.size_append]; omega)];simp only [Option.bind_some];rw [Eb g t _ (by rw [ByteArray.size_append,ByteArray.size_append,ByteArray.size_append,ByteArray.size_append]; omega)];simp only [Option.bind_some];rw [eQ (by omega)];simp only [Option.bind_some];rw [eQ (by rw [ByteArray.size_append]; omega)];simp only [Option.bind_some];rw [eQ (by rw [ByteArray.size_append,ByteArray.size_append]; omega)];simp only [Option.bind_some];rw [eQ (by rw [ByteArray.size_append,ByteArray.size_append,ByteArray.size_append]; omega)];simp only [Option.bind_some];rw [eQ (by rw [ByteArray.size_append,ByteArray.size_append,ByteArray.size_append,ByteArray.size_append]; omega)];simp only [Option.bind_some];refine .al ⟨aN,eE k (by omega),?_,eE k (by omega),?_,?_⟩
   ·have eR:(⟨#[9,99,111,110,102,108,105,99,116,32]⟩:ByteArray)=⟨#[9]⟩++⟨#[99,111,110,102,108,105,99,116,32]⟩:=rfl;have eY:(⟨#[32,108,101,102,116,32,111,117,116,10]⟩:ByteArray)=⟨#[32,108,101,102,116,32,111,117,116]⟩++⟨#[10]⟩:=rfl;simp only [eR,eY,g_,ByteArray.append_assoc]
   ·simp only [ByteArray.size_append,Nat.add_mul];omega
   ·simp only [ByteArray.size_append];omega
  ·rw [decide_eq_false ba];simp only [cond_false,Option.bind_some];refine .al ⟨aN,eE k (by omega),rfl,eE k (by omega),?_,bo⟩;show t.size<=_;rw [Nat.add_mul];omega
 ·exact Nat.le_trans aJ (Nat.add_le_add_left (Nat.mul_le_mul_right _ (by omega)) _)
theorem XE (g:bx) (aM:fV g) (aI:qQ g) (d:kn) (q:Int) (n:Nat) (az:n<=150) (r:List Act) (aO:idx d.fm q=some r) (ah:r.length=g.aW.length) (aj:∀ x∈r,qP g n x) (s:ByteArray) (ax:s.size<=1000000000000) :
  Rel (b0 (R:=eH) (λ(kh:eH × Int) =>
  (bif decide (kh.2<(r.length:Int)) then
  ((idx r kh.2).bind λgD =>
  (rK gD).bind λgu =>
  ((bif !decide (gu=⟨#[]⟩) then
  (nj kh.1.aA kh.2).bind λcI =>
  (cj cI gu).bind λjL =>
  (pY kh.1 jL).bind λrU =>
  some rU
  else
  some kh.1)).bind λkb =>
  some kb).bind λB7 =>
  some (.inl (B7,aR (kh.2+1)))
  else
  some (.inr kh.1))) ((⟨g,s⟩:eH),0))
  (b0 (R:=ByteArray) (λ(iH:ByteArray × Int) =>
  (bif decide (iH.2<(g.aW.length:Int)) then
  ((idx d.fm q).bind λgb =>
  (idx gb iH.2).bind λo9 =>
  ((bif !decide (o9.Kind=0) then
  (cj iH.1 (⟨#[9]⟩)).bind λmc =>
  (qA g iH.2).bind λk1 =>
  (cj mc k1).bind λsT =>
  (cj sT (⟨#[32]⟩)).bind λxQ =>
  (idx d.fm q).bind λqM =>
  (idx qM iH.2).bind λnu =>
  (sI nu).bind λj3 =>
  (cj xQ j3).bind λnS =>
  (cj nS (⟨#[10]⟩)).bind λp8 =>
  some p8
  else
  some iH.1)).bind λw2 =>
  some w2).bind λw1 =>
  some (.inl (w1,aR (iH.2+1)))
  else
  some (.inr iH.1))) (s,0))
  λa b=>a=⟨g,b⟩/\b.size<=s.size+40 * 5000/\s.size<=b.size:=by
 have dn:=aM.j2;have cV:=aM.lK;refine Rel.upto (λs=>s.2) r.length (λk a b=>DQ g s 5000 k a b) rfl (by omega) ⟨rfl,rfl,by show s.size<=_; omega,Nat.le_refl _⟩ λk a b hk he bb=>?_;obtain ⟨h1,af,aJ,bo⟩:=bb;obtain ⟨a,i⟩:=a;obtain ⟨t,aa⟩:=b;simp only at he h1 af aJ bo ⊢;subst he h1 af;refine Rel.bB (by rw [ah]) (λaN=>?_) (λdY=>.al ⟨rfl,?_,bo⟩)
 ·have aN:=of_decide_eq_true aN;have aN:k<r.length:=by omega
  simp only [aO,Option.bind_some];rw [ep aN];have j:=aj r[k] (List.getElem_mem aN);obtain ⟨a0,aw⟩:=a54 j az (by omega);obtain ⟨u,bO,b7,e1⟩:=J5 g aM aI (k:Int) (.inl ⟨by omega,by omega⟩);simp only [eV] at e1;have Bu:k * 5000<=40 * 5000:=Nat.mul_le_mul_right _ (by omega);simp only [Option.bind_some,bO,b7];by_cases ba:r[k].Kind=0
  ·rw [a0 ba,decide_eq_true ba];simp only [Option.bind_some,Bool.not_true,cond_false,decide_true];refine .al ⟨aN,eE k (by omega),rfl,eE k (by omega),?_,bo⟩;show t.size<=_;rw [Nat.add_mul];omega
  ·obtain ⟨v,v1,v2,v3⟩:=aw ba;have bS:(⟨#[32]⟩:ByteArray).size=1:=rfl;have y2:(⟨#[9]⟩:ByteArray).size=1:=rfl;have eb:(⟨#[10]⟩:ByteArray).size=1:=rfl;have w:(!decide ((⟨#[32]⟩++v:ByteArray)=⟨#[]⟩))=true:=by
    rw [decide_eq_false]; rfl;intro e;have:=congrArg ByteArray.size e;rw [ByteArray.size_append] at this;have z:(⟨#[]⟩:ByteArray).size=0:=rfl;omega
   rw [v2,v1,decide_eq_false ba];simp only [Option.bind_some,Bool.not_false,cond_true];rw [w];simp only [cond_true];rw [eQ (by rw [ByteArray.size_append]; omega)];simp only [Option.bind_some];rw [Eb g t _ (by rw [ByteArray.size_append,ByteArray.size_append]; omega)];simp only [Option.bind_some];rw [eQ (by omega)];simp only [Option.bind_some];rw [eQ (by rw [ByteArray.size_append]; omega)];simp only [Option.bind_some];rw [eQ (by rw [ByteArray.size_append,ByteArray.size_append]; omega)];simp only [Option.bind_some];rw [eQ (by rw [ByteArray.size_append,ByteArray.size_append,ByteArray.size_append]; omega)];simp only [Option.bind_some];rw [eQ (by rw [ByteArray.size_append,ByteArray.size_append,ByteArray.size_append,ByteArray.size_append]; omega)];simp only [Option.bind_some];refine .al ⟨aN,eE k (by omega),?_,eE k (by omega),?_,?_⟩
   ·simp only [g_,ByteArray.append_assoc]
   ·simp only [ByteArray.size_append,Nat.add_mul];omega
   ·simp only [ByteArray.size_append];omega
 ·exact Nat.le_trans aJ (Nat.add_le_add_left (Nat.mul_le_mul_right _ (by omega)) _)
theorem XG (g:bx) (aM:fV g) (aI:qQ g) (d:kn) (q:Int) (n:Nat) (az:n<=150) (r:List Int) (aO:idx d.eP q=some r) (ah:r.length=g.bA.length) (aj:∀ v∈r,-1<=v/\v<n) (s:ByteArray) (ax:s.size<=1000000000000) :
  Rel (b0 (R:=eH) (λ(ki:eH × Int) =>
  (bif decide (ki.2<(r.length:Int)) then
  ((idx r ki.2).bind λk1 =>
  ((bif decide (0<=k1) then
  (nj ki.1.aA (aR (1000+ki.2))).bind λqM =>
  (cj qM (⟨#[32,103,111,116,111,32]⟩)).bind λnu =>
  (nK k1).bind λj3 =>
  (cj nu j3).bind λnS =>
  (pY ki.1 nS).bind λp8 =>
  some p8
  else
  some ki.1)).bind λB9 =>
  some B9).bind λB8 =>
  some (.inl (B8,aR (ki.2+1)))
  else
  some (.inr ki.1))) ((⟨g,s⟩:eH),0))
  (b0 (R:=ByteArray) (λ(iI:ByteArray × Int) =>
  (bif decide (iI.2<(g.bA.length:Int)) then
  ((idx d.eP q).bind λAa =>
  (idx Aa iI.2).bind λAb =>
  ((bif decide (0<=Ab) then
  (cj iI.1 (⟨#[9]⟩)).bind λt_ =>
  (idx g.bA iI.2).bind λbl =>
  (cj t_ bl.Name).bind λDr =>
  (cj Dr (⟨#[32,103,111,116,111,32]⟩)).bind λDs =>
  (idx d.eP q).bind λDt =>
  (idx Dt iI.2).bind λiq =>
  (kf iq).bind λir =>
  (cj Ds ir).bind λrV =>
  (cj rV (⟨#[10]⟩)).bind λDu =>
  some Du
  else
  some iI.1)).bind λw5 =>
  some w5).bind λw3 =>
  some (.inl (w3,aR (iI.2+1)))
  else
  some (.inr iI.1))) (s,0))
  λa b=>a=⟨g,b⟩/\b.size<=s.size+24 * 5000/\s.size<=b.size:=by
 have dn:=aM.j2;have a8:=aM.c_;refine Rel.upto (λs=>s.2) r.length (λk a b=>DQ g s 5000 k a b) rfl (by omega) ⟨rfl,rfl,by show s.size<=_; omega,Nat.le_refl _⟩ λk a b hk he bb=>?_;obtain ⟨h1,af,aJ,bo⟩:=bb;obtain ⟨a,i⟩:=a;obtain ⟨t,aa⟩:=b;simp only at he h1 af aJ bo ⊢;subst he h1 af;refine Rel.bB (by rw [ah]) (λaN=>?_) (λdY=>.al ⟨rfl,?_,bo⟩)
 ·have aN:=of_decide_eq_true aN;have aN:k<r.length:=by omega
  simp only [aO,Option.bind_some];rw [ep aN];have j:=aj r[k] (List.getElem_mem aN);obtain ⟨x,aX,x2,aZ⟩:=dg r[k] (by omega);have eM:idx g.bA (k:Int)=some g.bA[k]:=ep (by omega);have hm:=aI.c_ g.bA[k] (List.getElem_mem _);have hw:aR (1000+(k:Int))=1000+(k:Int):=by rw [cD]; omega
  have bO:nj g (1000+(k:Int))=some g.bA[k].Name:=by
   have c1:decide (0<=1000+(k:Int))=true:=decide_eq_true (by omega);have c2:decide (1000+(k:Int)<(g.aW.length:Int))=false:=decide_eq_false (by omega);have j8:decide (1000<=1000+(k:Int))=true:=decide_eq_true (by omega);have oc:aR (1000+(k:Int) - 1000)=(k:Int):=by rw [cD]; omega
   have c4:decide ((k:Int)<(g.bA.length:Int))=true:=decide_eq_true (by omega);unfold nj;simp only [c1,c2,j8,oc,c4,cond_true,cond_false,Option.bind_some,eM]
  simp only [eV] at hm;have Bu:k * 5000<=24 * 5000:=Nat.mul_le_mul_right _ (by omega);simp only [Option.bind_some,hw,bO,eM,aX,x2];by_cases ba:0<=r[k]
  ·have y0:(⟨#[32,103,111,116,111,32]⟩:ByteArray).size=6:=rfl;have y2:(⟨#[9]⟩:ByteArray).size=1:=rfl;have eb:(⟨#[10]⟩:ByteArray).size=1:=rfl;rw [decide_eq_true ba];simp only [cond_true];rw [eQ (by omega)];simp only [Option.bind_some];rw [eQ (by rw [ByteArray.size_append]; omega)];simp only [Option.bind_some];rw [Eb g t _ (by rw [ByteArray.size_append,ByteArray.size_append]; omega)];simp only [Option.bind_some];rw [eQ (by omega)];simp only [Option.bind_some];rw [eQ (by rw [ByteArray.size_append]; omega)];simp only [Option.bind_some];rw [eQ (by rw [ByteArray.size_append,ByteArray.size_append]; omega)];simp only [Option.bind_some];rw [eQ (by rw [ByteArray.size_append,ByteArray.size_append,ByteArray.size_append]; omega)];simp only [Option.bind_some];rw [eQ (by rw [ByteArray.size_append,ByteArray.size_append,ByteArray.size_append,ByteArray.size_append]; omega)];simp only [Option.bind_some];refine .al ⟨aN,eE k (by omega),?_,eE k (by omega),?_,?_⟩
   ·simp only [g_,ByteArray.append_assoc]
   ·simp only [ByteArray.size_append,Nat.add_mul];omega
   ·simp only [ByteArray.size_append];omega
  ·rw [decide_eq_false ba];simp only [cond_false,Option.bind_some];refine .al ⟨aN,eE k (by omega),rfl,eE k (by omega),?_,bo⟩;show t.size<=_;rw [Nat.add_mul];omega
 ·exact Nat.le_trans aJ (Nat.add_le_add_left (Nat.mul_le_mul_right _ (by omega)) _)
theorem Rel.yk {α β uc ud:Type}{x:Option uc}{f:uc->Option ud}{h:ud->Option α}{y:Option β}{Φ:α->β->Prop}(k:Rel (x.bind λa=>(f a).bind h) y Φ):Rel ((x.bind f).bind h) y Φ:=by
 rw [Option.bind_assoc]; exact k
theorem XI (g:bx) (aM:fV g) (aI:qQ g) (m:List State) (hm:k4 g m) (d:kn) (aO:Gy g m.length d) (l:List eS) (J:∀ x∈l,DE g x) (ah:l.length<=360000) :
  Rel (b0 (R:=eH) (λ(s1:eH × Int) =>
  (bif decide (s1.2<(m.length:Int)) then
  (idx m s1.2).bind λcd =>
  (zn s1.1 s1.2 cd d l).bind λb2 =>
  some (.inl (b2,aR (s1.2+1)))
  else
  some (.inr s1.1))) ((⟨g,⟨#[]⟩⟩:eH),0))
  (b0 (R:=ByteArray) (λ(s1:ByteArray × Int) =>
  (bif decide (s1.2<(m.length:Int)) then
  (cj s1.1 (⟨#[115,116,97,116,101,32]⟩)).bind λcd =>
  (kf s1.2).bind λb2 =>
  (cj cd b2).bind λbt =>
  (cj bt (⟨#[10]⟩)).bind λcf =>
  (idx m s1.2).bind λcR =>
  (sH g cR.Kernel).bind λbR =>
  (b0 (R:=ByteArray) (λ(gO:ByteArray × Int) =>
  (bif decide (gO.2<(bR.length:Int)) then
  (cj gO.1 (⟨#[9]⟩)).bind λdF =>
  (idx bR gO.2).bind λb8 =>
  (vt g b8).bind λbG =>
  (cj dF bG).bind λeu =>
  (cj eu (⟨#[10]⟩)).bind λe3 =>
  some (.inl (e3,aR (gO.2+1)))
  else
  some (.inr gO.1))) (cf,0)).bind λc0 =>
  (b0 (R:=ByteArray) (λ(iG:ByteArray × Int) =>
  (bif decide (iG.2<(l.length:Int)) then
  ((idx l iG.2).bind λgP =>
  ((bif decide (gP.State=s1.2) then
  (cj iG.1 (⟨#[9,99,111,110,102,108,105,99,116,32]⟩)).bind λcz =>
  (idx l iG.2).bind λev =>
  (qA g ev.Tok).bind λgC =>
  (cj cz gC).bind λlr =>
  (cj lr (⟨#[58,32]⟩)).bind λeO =>
  (idx l iG.2).bind λlu =>
  (kf lu.Drop).bind λgD =>
  (cj eO gD).bind λgu =>
  (cj gu (⟨#[32,108,101,102,116,32,111,117,116,10]⟩)).bind λlP =>
  some lP
  else
  some iG.1)).bind λdw =>
  some dw).bind λrC =>
  some (.inl (rC,aR (iG.2+1)))
  else
  some (.inr iG.1))) (c0,0)).bind λfU =>
  (b0 (R:=ByteArray) (λ(iH:ByteArray × Int) =>
  (bif decide (iH.2<(g.aW.length:Int)) then
  ((idx d.fm s1.2).bind λgb =>
  (idx gb iH.2).bind λo9 =>
  ((bif !decide (o9.Kind=0) then
  (cj iH.1 (⟨#[9]⟩)).bind λmc =>
  (qA g iH.2).bind λk1 =>
  (cj mc k1).bind λsT =>
  (cj sT (⟨#[32]⟩)).bind λxQ =>
  (idx d.fm s1.2).bind λqM =>
  (idx qM iH.2).bind λnu =>
  (sI nu).bind λj3 =>
  (cj xQ j3).bind λnS =>
  (cj nS (⟨#[10]⟩)).bind λp8 =>
  some p8
  else
  some iH.1)).bind λw2 =>
  some w2).bind λw1 =>
  some (.inl (w1,aR (iH.2+1)))
  else
  some (.inr iH.1))) (fU,0)).bind λcI =>
  (b0 (R:=ByteArray) (λ(iI:ByteArray × Int) =>
  (bif decide (iI.2<(g.bA.length:Int)) then
  ((idx d.eP s1.2).bind λAa =>
  (idx Aa iI.2).bind λAb =>
  ((bif decide (0<=Ab) then
  (cj iI.1 (⟨#[9]⟩)).bind λt_ =>
  (idx g.bA iI.2).bind λbl =>
  (cj t_ bl.Name).bind λDr =>
  (cj Dr (⟨#[32,103,111,116,111,32]⟩)).bind λDs =>
  (idx d.eP s1.2).bind λDt =>
  (idx Dt iI.2).bind λiq =>
  (kf iq).bind λir =>
  (cj Ds ir).bind λrV =>
  (cj rV (⟨#[10]⟩)).bind λDu =>
  some Du
  else
  some iI.1)).bind λw5 =>
  some w5).bind λw3 =>
  some (.inl (w3,aR (iI.2+1)))
  else
  some (.inr iI.1))) (cI,0)).bind λnT =>
  some (.inl (nT,aR (s1.2+1)))
  else
  some (.inr s1.1))) (⟨#[]⟩,0))
  λa b=>a=⟨g,b⟩/\b.size<=150 * 1840000000/\0<b.size:=by
 have EH:=hm.lh;have yU:=hm.gr;refine Rel.upto (λs=>s.2) m.length (λk a b=>a.1=⟨g,b.1⟩/\b.2=(k:Int)/\b.1.size<=k * 1840000000/\(0<k->0<b.1.size)) rfl (by omega) ⟨rfl,rfl,Nat.zero_le _,λh=>absurd h (by omega)⟩ λk a b hk he bb=>?_;obtain ⟨h1,af,aJ,bo⟩:=bb;obtain ⟨a,i⟩:=a;obtain ⟨t,aa⟩:=b;simp only at he h1 af aJ bo ⊢;subst he h1 af;have Bu:k * 1840000000<=150 * 1840000000:=Nat.mul_le_mul_right _ (by omega);refine Rel.bB rfl (λaN=>?_) (λdY=>.al ⟨rfl,Nat.le_trans aJ Bu,?_⟩)
 ·have aN:=of_decide_eq_true aN;have aN:k<m.length:=by omega
  rw [ep aN];have bM:=hm.oV m[k] (List.getElem_mem aN);have dm:idx d.fm (k:Int)=some (d.fm[k]'(by rw [aO.a]; exact aN)):=ep (by rw [aO.a]; exact aN);have hO:idx d.eP (k:Int)=some (d.eP[k]'(by rw [aO.o]; exact aN)):=ep (by rw [aO.o]; exact aN);obtain ⟨aw,a2⟩:=aO.oJ _ (List.getElem_mem (by rw [aO.a]; exact aN):d.fm[k]'(by rw [aO.a]; exact aN)∈d.fm);obtain ⟨X3,X4⟩:=aO.Yd _ (List.getElem_mem (by rw [aO.o]; exact aN):d.eP[k]'(by rw [aO.o]; exact aN)∈d.eP);obtain ⟨x,aX,x2,aZ⟩:=dg (k:Int) (by omega);have dc:m[k].Kernel.length<=1000000:=by have:=bM.len aM; omega
  obtain ⟨r,o2,jJ,rL,tR⟩:=Y5 g aM m[k].Kernel dc;have bS:(⟨#[115,116,97,116,101,32]⟩:ByteArray).size=6:=rfl;have y2:(⟨#[10]⟩:ByteArray).size=1:=rfl;simp only [Option.bind_some,x2];rw [eQ (by omega)];simp only [Option.bind_some];rw [eQ (by rw [ByteArray.size_append]; omega)];simp only [Option.bind_some];rw [eQ (by rw [ByteArray.size_append,ByteArray.size_append]; omega)];simp only [Option.bind_some];unfold zn;simp only [Option.bind_some,aX,o2,jJ];rw [eQ (by omega)];simp only [Option.bind_some];rw [eQ (by rw [ByteArray.size_append]; omega)];simp only [Option.bind_some];rw [Ay (by rw [ByteArray.size_append,ByteArray.size_append]; omega)];simp only [Option.bind_some];have e:t++((⟨#[115,116,97,116,101,32]⟩:ByteArray)++x++⟨#[10]⟩)=t++⟨#[115,116,97,116,101,32]⟩++x++⟨#[10]⟩:=by simp only [ByteArray.append_assoc]
  rw [e];have dL:(t++(⟨#[115,116,97,116,101,32]⟩:ByteArray)++x++⟨#[10]⟩).size<=t.size+28:=by
   rw [ByteArray.size_append,ByteArray.size_append,ByteArray.size_append]; omega
  have ads:0<(t++(⟨#[115,116,97,116,101,32]⟩:ByteArray)++x++⟨#[10]⟩).size:=by
   rw [ByteArray.size_append,ByteArray.size_append,ByteArray.size_append]; omega
  generalize (t++(⟨#[115,116,97,116,101,32]⟩:ByteArray)++x++⟨#[10]⟩)=t1 at *;refine Rel.yk ?_;refine Rel.aB (XH g r (λx j=>?_) rL t1 (by omega)) λa b uJ=>?_
  ·obtain ⟨u,_,bO,b7,rfl,e1⟩:=n52 g aM aI x;exact ⟨u,bO,b7,e1⟩
  obtain ⟨rfl,bh,v1⟩:=uJ;refine Rel.yk ?_;refine Rel.aB (XF g aM aI (k:Int) l J ah b (by omega)) λa c U6=>?_;obtain ⟨rfl,z2,v2⟩:=U6;refine Rel.yk ?_;refine Rel.l (Ξ:=λr=>r=d.fm[k]'(by rw [aO.a]; exact aN)) ⟨_,dm,rfl⟩ λ_ aV=>?_;subst aV;refine Rel.yk ?_;refine Rel.aB (XE g aM aI d (k:Int) m.length (by omega) _ dm aw a2 c (by omega)) λa e U7=>?_;obtain ⟨rfl,z3,v3⟩:=U7;refine Rel.yk ?_;refine Rel.l (Ξ:=λr=>r=d.eP[k]'(by rw [aO.o]; exact aN)) ⟨_,hO,rfl⟩ λ_ aV=>?_;subst aV;refine Rel.yk ?_;refine Rel.aB (XG g aM aI d (k:Int) m.length (by omega) _ hO X3 X4 e (by omega)) λa f U8=>?_;obtain ⟨rfl,z4,v4⟩:=U8;refine .al ⟨aN,eE k (by omega),rfl,eE k (by omega),?_,λ_=>?_⟩
  ·show f.size<=_;rw [Nat.add_mul]; omega
  ·show 0<f.size;omega
 ·exact bo (by have:=of_decide_eq_false dY; omega)
end Go.Proofs
