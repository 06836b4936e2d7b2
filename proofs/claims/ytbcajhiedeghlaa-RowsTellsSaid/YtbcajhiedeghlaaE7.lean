/-
  What is proved here: parts of the proof that the last text states: rules for walks through code, and of this program's functions what they answer. No condition of their own.
-/
import Derived.KernelRfl
import Derived.ProofKit
import Derived.RowKit3
import Derived.Test.YtbcajhiedeghlaaRows
import Derived.Test.YtbcajhiedeghlaaE6
namespace Go.Proofs
open Go Go.Own
set_option maxRecDepth 100000
set_option linter.unusedVariables false
theorem O3 (a0:jE) (r:(List Row)) (h:AY a0=some r):b_ Try.prog 24 [.agg [ag (bb cu) a0.cQ,ag (bb aG) a0.cL]] [none] (ag dO r):=by
 unfold AY at h
 refine b_.go (N:=⟨99,[]⟩) Try.func24 q q q q (W.fin ?_)
 refine W.st [(0,.agg [ag (bb cu) a0.cQ,ag (bb aG) a0.cL])] ?_
 refine W.bV [1] (ai (O.box (.b2 q q) q)<|aq.aV) ?_
 refine W.aT [1,3] ?_
 refine W.aX<|W.aT [1,3,4] ?_
 refine W.bf ?_
 obtain ⟨x2,ao,h⟩:=ax h
 refine W.ca (G1:=[(1,_),(3,ak dO ([]:List Row)),(4,_)]) (.n q (.w q q .lb (.n q .nil))) ?_
 refine W.eg (s:=(([]:List Row),0)) (λ(s1:List Row × Int)=>[(1,.obj [ag (bb cu) a0.cQ,ag (bb aG) a0.cL]),(3,ak dO s1.1),(4,j s1.2)]) 0 (λ(x2:List Row)=>[(3,ak dO x2)]) ao (λs1 o h=>?_) ?_
 ·clear ao
  refine W.aX<|W.aT [1,3,4,14] ?_
  refine W.bu h q (λc0 h=>?_) (λc0 h=>?_)
  ·refine W.bF<|ah.aU ?_
   refine W.aX<|W.bf ?_
   refine W.aT [1,3,4,5] ?_
   refine W.aX<|W.aT [1,3,4,5,6] ?_
   refine W.bf ?_
   obtain ⟨bP,ao,h⟩:=ax h
   refine W.ca (G1:=[(1,_),(3,_),(4,_),(5,ak aG ([]:List Int)),(6,_)]) (.n q (.n q (.n q (.w q q .lb (.n q .nil))))) ?_
   refine W.eg (s:=(([]:List Int),0)) (λ(cA:List Int × Int)=>[(1,.obj [ag (bb cu) a0.cQ,ag (bb aG) a0.cL]),(3,ak dO s1.1),(4,j s1.2),(5,ak aG cA.1),(6,j cA.2)]) 2 (λ(bP:List Int)=>[(1,.obj [ag (bb cu) a0.cQ,ag (bb aG) a0.cL]),(3,ak dO s1.1),(4,j s1.2),(5,ak aG bP)]) ao (λcA o h=>?_) ?_
   ·clear ao
    refine W.aX ?_
    obtain ⟨b1,hK,h⟩:=ax h
    refine W.aT [1,3,4,5,6,24] ?_
    refine W.bu h q (λdi h=>?_) (λdi h=>?_)
    ·refine W.bF<|ah.aU ?_
     refine W.aX ?_
     obtain ⟨kd,aa,h⟩:=ax h
     refine W.bs [(1,.obj [ag (bb cu) a0.cQ,ag (bb aG) a0.cL]),(3,ak dO s1.1),(4,j s1.2),(5,ak aG kd),(6,j cA.2)] ?_ ?_
     ·clear h; have h:=aa; clear aa
      refine W.bf ?_
      obtain ⟨bD,gQ,h⟩:=ax h
      obtain ⟨dh,kL,h⟩:=ax h
      refine W.aT [1,3,4,5,6,36] ?_
      obtain ⟨jQ,aa,h⟩:=ax h
      refine W.bs [(1,.obj [ag (bb cu) a0.cQ,ag (bb aG) a0.cL]),(3,ak dO s1.1),(4,j s1.2),(5,ak aG jQ),(6,j cA.2)] ?_ ?_
      ·clear h; have h:=aa; clear aa
       refine W.bu h q (λeD h=>?_) (λeD h=>?_)
       ·obtain ⟨cH,hI,h⟩:=ax h
        obtain ⟨cj,jY,h⟩:=ax h
        obtain ⟨bZ,gS,h⟩:=ax h
        refine W.bk [1,3,4,5,6] (ai (O.aC (.own q))<|ai (O.a_ q (.obj q) xo q)<|ai (O.cU (y:=ag (bb cu) a0.cQ) q (.ptr q) zc q q)<|bp q<|ai (O.cC (.aF q) (.lit q) Bv hI)<|ai (O.dd (x:=ag cu cH) (.bo q) EO q)<|bp q<|ai (O.cC (.aF q) (.lit q) ta jY)<|ai (O.ez (.bo q) qM)<|ai (O.dd (x:=j cj.N) (.bo q) ct q)<|aq.eY (x:=ag aG [cj.N]) (O.dg (ys:=[j cj.N]) aG [cj.N] eS q q q q q q nR q q) q q .none<|ai (O.ap (en:=aG) (r:=bZ) (.bl q) q (.aF q) .i nx q gS)<|aq.fN (G2:=[(1,.obj [ag (bb cu) a0.cQ,ag (bb aG) a0.cL]),(3,ak dO s1.1),(4,j s1.2),(6,j cA.2)]) q (b9.lp q q (.bR q) q q q (.n q q (.n q q (.n q q (.n q q .nil)))) q q)<|bK q) ?_
        obtain rfl:=au h
        exact ah.bs (dX q q q q q)
       ·refine W.bF ?_
        obtain rfl:=au h
        exact ah.bs (dX q q q q q)
      refine ah.bf ?_
      obtain rfl:=au h
      exact ah.bs (dX q q q q q)
     refine ah.aU<|W.bk [1,3,4,5,6] (bp q<|ai (O.add (.lit q) (.k q))<|aq.bk [1,3,4,5,26] q<|aq.aV) ?_
     obtain rfl:=au h
     exact ah.go (dX q q q q q)
    ·refine W.c9 ?_
     refine ah.c7 ?_
     obtain rfl:=au h
     exact ah.aD (dM q q q q)
   refine ah.c' ?_
   refine ah.aU ?_
   obtain ⟨dS,iG,h⟩:=ax h
   refine W.bV [1,3,4,7] (ai (O.aC (.own q))<|eE (cr.vw (ys:=[.bl aG.z ⟨5,[]⟩ bP.length]) q (.c (.row q) .nil) (Jz bP _ iG) call51 q)<|ai (O.dE (cs:=[j dS,.aI]) rl om q q q)<|ai (O.fq (cs:=[j 0,.aI]) om q q)<|aq.dx (G2:=[(1,_),(3,_),(4,_),(7,_)]) (cs2:=[j dS,.aI]) q (.obj q) (.b2 q q) q DT q q q q (.n q q (.n q q (.n q q (.b q .nil))))<|bK q) ?_
   refine W.aX<|W.aT [1,3,4,7,8] ?_
   refine W.bf ?_
   obtain ⟨dj,ao,h⟩:=ax h
   refine W.ca (G1:=[(1,_),(3,_),(4,_),(7,.obj [j dS,ak dC ([]:List cE)]),(8,_)]) (.n q (.n q (.n q (.w q q (jg.obj (.f (.o .nil))) (.n q .nil))))) ?_
   refine W.eg (s:=(([]:List cE),0)) (λ(c6:List cE × Int)=>[(1,.obj [ag (bb cu) a0.cQ,ag (bb aG) a0.cL]),(3,ak dO s1.1),(4,j s1.2),(7,.obj [j dS,ak dC c6.1]),(8,j c6.2)]) 4 (λ(dj:List cE)=>[(1,.obj [ag (bb cu) a0.cQ,ag (bb aG) a0.cL]),(3,ak dO s1.1),(4,j s1.2),(7,.obj [j dS,ak dC dj])]) ao (λc6 o h=>?_) ?_
   ·clear ao
    refine W.aX ?_
    obtain ⟨fx,nG,h⟩:=ax h
    refine W.aT [1,3,4,7,8,59] ?_
    refine W.bu h q (λgn h=>?_) (λgn h=>?_)
    ·refine W.bF<|ah.aU ?_
     refine W.aX ?_
     obtain ⟨vF,aa,h⟩:=ax h
     refine W.bs [(1,.obj [ag (bb cu) a0.cQ,ag (bb aG) a0.cL]),(3,ak dO s1.1),(4,j s1.2),(7,.obj [j dS,ak dC vF]),(8,j c6.2)] ?_ ?_
     ·clear h; have h:=aa; clear aa
      refine W.bf ?_
      obtain ⟨e6,k',h⟩:=ax h
      obtain ⟨gh,qa,h⟩:=ax h
      refine W.bV [1,3,4,7,8,9] (ai (O.a_ q (.obj q) xo q)<|ai (O.cU (y:=ag (bb cu) a0.cQ) q (.ptr q) zc q q)<|bp q<|ai (O.cC (.aF q) (.lit q) Bv k')<|ai (O.dd (x:=ag cu e6) (.bo q) EO q)<|bp q<|ai (O.cC (.aF q) (.lit q) ta qa)<|ai (O.iq (cs':=[j gh.Kind,j gh.N]) (.bo q) lG q q)<|ai (O.fq (cs:=[j 0,j 0]) lS q q)<|aq.dx (G2:=[(1,_),(3,_),(4,_),(7,_),(8,_),(9,_)]) (cs2:=[j gh.Kind,j gh.N]) q (.obj q) (.b2 q q) q mP q q q q (.n q q (.n q q (.n q q (.n q q (.n q q (.b q .nil))))))<|bK q) ?_
      obtain ⟨qH,aa,h⟩:=ax h
      refine W.rs [(1,.obj [ag (bb cu) a0.cQ,ag (bb aG) a0.cL]),(3,ak dO s1.1),(4,j s1.2),(7,.obj [j dS,ak dC c6.1]),(8,j c6.2),(9,.obj [j gh.Kind,j gh.N]),(84,a1 qH)] ?_ ?_
      ·refine ai (O.a_ q (.obj q) pb q)<|ai (O.cq q (.ptr q) ct q)<|ai (O.neq (.lit q) (.k q))<|ai (O.aC (.lit q)) ?_
       rcases cB aa with ⟨qV,aa⟩ | ⟨qV,aa⟩
       ·refine aW qV (O.a_ q (.obj q) pb q)<|aW qV (O.cq q (.ptr q) ct q)<|aW qV (O.neq (.lit q) (.k q))<|aW qV (O.aC (.lit q)) ?_
        rcases cB aa with ⟨i',aa⟩ | ⟨i',aa⟩
        ·obtain rfl:=au aa
         exact cF i'<|cF i'<|cF i'<|cF i'<|cF i'<|aW qV (O.eB (.lit q) i' (.k q))<|aq.aV
        ·obtain rfl:=au aa
         exact aW i' (O.a_ q (.obj q) qM q)<|aW i' (O.cq q (.ptr q) ct q)<|aW i' (O.a_ q (.obj q) xp q)<|aW i' (O.cq q (.ptr q) ct q)<|aW i' (O.neq (.lit q) (.lit q))<|aW qV (O.dL (.lit q) i' (.lit q))<|aq.aV
       ·obtain rfl:=au aa
        exact aq.aV
      obtain ⟨vH,aa,h⟩:=ax h
      refine W.bs [(1,.obj [ag (bb cu) a0.cQ,ag (bb aG) a0.cL]),(3,ak dO s1.1),(4,j s1.2),(7,.obj [j dS,ak dC vH]),(8,j c6.2)] ?_ ?_
      ·clear h; have h:=aa; clear aa
       refine W.bu h q (λvl h=>?_) (λvl h=>?_)
       ·obtain ⟨cZ,n3,h⟩:=ax h
        obtain ⟨gy,pq,h⟩:=ax h
        refine W.rd [[],[0],[],[],[3],[2,3,4],[2,3,4,5],aN 0 7 [],aN 0 8 [],aN 0 9 []] [(1,_),(3,_),(4,_),(7,_),(8,_)] ei (by kernel_rfl) (av 0 (O.a_ q (.obj q) qN q)<|av 1 (O.cU (y:=.bl dC.z ⟨7,[1]⟩ c6.1.length) q (.ptr q) u6 q q)<|av 2 (O.aC (.lit q))<|av 3 (O.dR (cs':=[j gh.Kind,j gh.N]) q (.obj q) lG q q)<|gR 4 (cr.go (.bT (.b2 q q) .nil) (OZ gh _ n3) call16 q)<|av 5 (O.dE (cs:=[j c6.2,j cZ]) uC uL q q q)<|bC.eY 6 (x:=ag dC [(⟨c6.2,cZ⟩:cE)]) (O.dg (ys:=[.agg [j c6.2,j cZ]]) dC [(⟨c6.2,cZ⟩:cE)] r6 q q q q q q wJ q q) q q q q .none<|av 7 (O.ap (en:=dC) (r:=gy) (.bl q) q (.aF q) .i B6 q pq)<|av 8 (O.a_ q (.obj q) qN q)<|bC.iZ 9 (G2:=[(1,.obj [ag (bb cu) a0.cQ,ag (bb aG) a0.cL]),(3,ak dO s1.1),(4,j s1.2),(7,.obj [j dS,ak dC (c6.1++[(⟨c6.2,cZ⟩:cE)])]),(8,j c6.2)]) (b9.kt (g1:=_) (en:=dC) (M:=[(⟨c6.2,cZ⟩:cE)]) (cs2:=[j dS,ak dC (c6.1++[(⟨c6.2,cZ⟩:cE)])]) q q (.ptr q) (.bR q) q q q .iH .gk q q DS q q q q (.n q q (.n q q (.n q q (.b q (.n q q .nil)))))) q q q q (by kernel_rfl) (by kernel_rfl)<|bC.fin q q q (dX q q q q q)) ?_
        obtain rfl:=au h
        exact ah.bs (dX q q q q q)
       ·refine W.bF ?_
        obtain rfl:=au h
        exact ah.bs (dX q q q q q)
      refine ah.bf ?_
      obtain rfl:=au h
      exact ah.bs (dX q q q q q)
     refine ah.aU<|W.bk [1,3,4,7,8] (bp q<|ai (O.add (.lit q) (.k q))<|aq.bk [1,3,4,7,61] q<|aq.aV) ?_
     obtain rfl:=au h
     exact ah.go (dX q q q q q)
    ·refine W.c9 ?_
     refine ah.c7 ?_
     obtain rfl:=au h
     exact ah.aD (dM q q q q)
   refine ah.c' ?_
   refine ah.aU<|W.eF (G1:=[(1,_),(3,_),(4,_),(7,.obj [j dS,ag dC dj])]) [7] (.n q q (.n q q (.n q q (.z q q (gr.obj (.f (.z .nil))) .nil)))) ?_
   obtain ⟨gI,n4,h⟩:=ax h
   refine W.bk [1,3,4] (ai (O.aC (.own q))<|ai (O.dR (cs':=[j dS,ag dC dj]) q (.obj q) B' q q)<|aq.eY (x:=ag dO [(⟨dS,dj⟩:Row)]) (O.dg (ys:=[.agg [j dS,ag dC dj]]) dO [(⟨dS,dj⟩:Row)] rn q q q q q q yG q q) q q .none<|ai (O.ap (en:=dO) (r:=gI) (.bl q) q (.aF q) .i B5 q n4)<|aq.fN (G2:=[(1,.obj [ag (bb cu) a0.cQ,ag (bb aG) a0.cL]),(4,j s1.2)]) q (b9.lp q q (.bR q) q q q (.n q q (.n q q .nil)) q q)<|bK q) ?_
   refine ah.bf ?_
   refine ah.aU<|W.bk [1,3,4] (bp q<|ai (O.add (.lit q) (.k q))<|aq.bk [1,3,16] q<|aq.aV) ?_
   obtain rfl:=au h
   exact ah.go (dt q q q)
  ·refine W.c9 ?_
   refine ah.c7 ?_
   obtain rfl:=au h
   exact ah.aD (.n q .nil)
 refine ah.c' ?_
 refine ah.aU<|W.bV [2] (ai (O.aC (.own q))<|aq.fN (G2:=[]) q (b9.ik q q (.bl q) q .nil q q)<|bK q) ?_
 refine W.eF (G1:=[(2,ag dO x2)]) [2] (.z q q .ha .nil) ?_
 refine W.rt ?_
 obtain rfl:=au h
 exact cw (.f q q .nil)
theorem O4 (a0:jE) (r:(List Row)) (h:AZ a0=some r):b_ Try.prog 26 [.agg [ag (bb cu) a0.cQ,ag (bb aG) a0.cL]] [none] (ag dO r):=by
 unfold AZ at h
 refine b_.go (N:=⟨91,[]⟩) Try.func26 q q q q (W.fin ?_)
 refine W.st [(0,.agg [ag (bb cu) a0.cQ,ag (bb aG) a0.cL])] ?_
 refine W.bV [1] (ai (O.box (.b2 q q) q)<|aq.aV) ?_
 refine W.aT [1,3] ?_
 refine W.aX<|W.aT [1,3,4] ?_
 refine W.bf ?_
 obtain ⟨x2,ao,h⟩:=ax h
 refine W.ca (G1:=[(1,_),(3,ak dO ([]:List Row)),(4,_)]) (.n q (.w q q .lb (.n q .nil))) ?_
 refine W.eg (s:=(([]:List Row),0)) (λ(s1:List Row × Int)=>[(1,.obj [ag (bb cu) a0.cQ,ag (bb aG) a0.cL]),(3,ak dO s1.1),(4,j s1.2)]) 0 (λ(x2:List Row)=>[(3,ak dO x2)]) ao (λs1 o h=>?_) ?_
 ·clear ao
  refine W.aX ?_
  obtain ⟨qJ,aa,h⟩:=ax h
  refine W.rs [(1,.obj [ag (bb cu) a0.cQ,ag (bb aG) a0.cL]),(3,ak dO s1.1),(4,j s1.2),(22,a1 qJ)] ?_ ?_
  ·refine ai (O.a_ q (.obj q) sD q)<|ai (O.cU (y:=ag (bb aG) a0.cL) q (.ptr q) pY q q)<|ai (O.hc (.aF q) kQ)<|ai (O.gtr (.lit q) (.k q))<|ai (O.aC (.lit q)) ?_
   rcases cB aa with ⟨c0,aa⟩ | ⟨c0,aa⟩
   ·refine aW c0 (O.aC (.lit q))<|aW c0 (O.a_ q (.obj q) sD q)<|aW c0 (O.cU (y:=ag (bb aG) a0.cL) q (.ptr q) pY q q) ?_
    obtain ⟨cn,kM,aa⟩:=ax aa
    obtain rfl:=au aa
    exact aq.aV
   ·obtain rfl:=au aa
    exact aq.aV
  refine W.bu h q (λdn h=>?_) (λdn h=>?_)
  ·refine W.bF<|ah.aU ?_
   refine W.aX<|W.bf ?_
   refine W.aT [1,3,4,5] ?_
   refine W.aX<|W.aT [1,3,4,5,6] ?_
   refine W.bf ?_
   obtain ⟨cv,ao,h⟩:=ax h
   refine W.ca (G1:=[(1,_),(3,_),(4,_),(5,ak aG ([]:List Int)),(6,_)]) (.n q (.n q (.n q (.w q q .lb (.n q .nil))))) ?_
   refine W.eg (s:=(([]:List Int),0)) (λ(dT:List Int × Int)=>[(1,.obj [ag (bb cu) a0.cQ,ag (bb aG) a0.cL]),(3,ak dO s1.1),(4,j s1.2),(5,ak aG dT.1),(6,j dT.2)]) 2 (λ(cv:List Int)=>[(1,.obj [ag (bb cu) a0.cQ,ag (bb aG) a0.cL]),(3,ak dO s1.1),(4,j s1.2),(5,ak aG cv)]) ao (λdT o h=>?_) ?_
   ·clear ao
    refine W.aX<|W.aT [1,3,4,5,6,29] ?_
    refine W.bu h q (λe_ h=>?_) (λe_ h=>?_)
    ·refine W.bF<|ah.aU ?_
     refine W.aX ?_
     obtain ⟨fj,aa,h⟩:=ax h
     refine W.bs [(1,.obj [ag (bb cu) a0.cQ,ag (bb aG) a0.cL]),(3,ak dO s1.1),(4,j s1.2),(5,ak aG fj),(6,j dT.2)] ?_ ?_
     ·clear h; have h:=aa; clear aa
      refine W.bf ?_
      obtain ⟨eb,jX,h⟩:=ax h
      obtain ⟨dU,jP,h⟩:=ax h
      refine W.aT [1,3,4,5,6,40] ?_
      obtain ⟨nK,aa,h⟩:=ax h
      refine W.bs [(1,.obj [ag (bb cu) a0.cQ,ag (bb aG) a0.cL]),(3,ak dO s1.1),(4,j s1.2),(5,ak aG nK),(6,j dT.2)] ?_ ?_
      ·clear h; have h:=aa; clear aa
       refine W.bu h q (λgf h=>?_) (λgf h=>?_)
       ·obtain ⟨bZ,gS,h⟩:=ax h
        obtain ⟨dS,iG,h⟩:=ax h
        obtain ⟨fp,l5,h⟩:=ax h
        refine W.bk [1,3,4,5,6] (ai (O.aC (.own q))<|ai (O.a_ q (.obj q) sD q)<|ai (O.cU (y:=ag (bb aG) a0.cL) q (.ptr q) pY q q)<|bp q<|ai (O.cC (.aF q) (.lit q) kQ gS)<|ai (O.dd (x:=ag aG bZ) (.bo q) hC q)<|bp q<|ai (O.cC (.aF q) (.lit q) eS iG)<|ai (O.dd (x:=j dS) (.bo q) ct q)<|aq.eY (x:=ag aG [dS]) (O.dg (ys:=[j dS]) aG [dS] eS q q q q q q nR q q) q q .none<|ai (O.ap (en:=aG) (r:=fp) (.bl q) q (.aF q) .i nx q l5)<|aq.fN (G2:=[(1,.obj [ag (bb cu) a0.cQ,ag (bb aG) a0.cL]),(3,ak dO s1.1),(4,j s1.2),(6,j dT.2)]) q (b9.lp q q (.bR q) q q q (.n q q (.n q q (.n q q (.n q q .nil)))) q q)<|bK q) ?_
        obtain rfl:=au h
        exact ah.bs (dX q q q q q)
       ·refine W.bF ?_
        obtain rfl:=au h
        exact ah.bs (dX q q q q q)
      refine ah.bf ?_
      obtain rfl:=au h
      exact ah.bs (dX q q q q q)
     refine ah.aU<|W.bk [1,3,4,5,6] (bp q<|ai (O.add (.lit q) (.k q))<|aq.bk [1,3,4,5,31] q<|aq.aV) ?_
     obtain rfl:=au h
     exact ah.go (dX q q q q q)
    ·refine W.c9 ?_
     refine ah.c7 ?_
     obtain rfl:=au h
     exact ah.aD (dM q q q q)
   refine ah.c' ?_
   refine ah.aU ?_
   obtain ⟨dj,n2,h⟩:=ax h
   refine W.bV [1,3,4,7] (ai (O.aC (.own q))<|eE (cr.vw (ys:=[.bl aG.z ⟨5,[]⟩ cv.length]) q (.c (.row q) .nil) (Jz cv _ n2) call51 q)<|ai (O.dE (cs:=[j dj,.aI]) rl om q q q)<|ai (O.fq (cs:=[j 0,.aI]) om q q)<|aq.dx (G2:=[(1,_),(3,_),(4,_),(7,_)]) (cs2:=[j dj,.aI]) q (.obj q) (.b2 q q) q DT q q q q (.n q q (.n q q (.n q q (.b q .nil))))<|bK q) ?_
   refine W.aX<|W.aT [1,3,4,7,8] ?_
   refine W.bf ?_
   obtain ⟨fx,ao,h⟩:=ax h
   refine W.ca (G1:=[(1,_),(3,_),(4,_),(7,.obj [j dj,ak dC ([]:List cE)]),(8,_)]) (.n q (.n q (.n q (.w q q (jg.obj (.f (.o .nil))) (.n q .nil))))) ?_
   refine W.eg (s:=(([]:List cE),0)) (λ(jB:List cE × Int)=>[(1,.obj [ag (bb cu) a0.cQ,ag (bb aG) a0.cL]),(3,ak dO s1.1),(4,j s1.2),(7,.obj [j dj,ak dC jB.1]),(8,j jB.2)]) 4 (λ(fx:List cE)=>[(1,.obj [ag (bb cu) a0.cQ,ag (bb aG) a0.cL]),(3,ak dO s1.1),(4,j s1.2),(7,.obj [j dj,ak dC fx])]) ao (λjB o h=>?_) ?_
   ·clear ao
    refine W.aX<|W.aT [1,3,4,7,8,59] ?_
    refine W.bu h q (λvi h=>?_) (λvi h=>?_)
    ·refine W.bF<|ah.aU ?_
     refine W.aX ?_
     obtain ⟨vG,aa,h⟩:=ax h
     refine W.bs [(1,.obj [ag (bb cu) a0.cQ,ag (bb aG) a0.cL]),(3,ak dO s1.1),(4,j s1.2),(7,.obj [j dj,ak dC vG]),(8,j jB.2)] ?_ ?_
     ·clear h; have h:=aa; clear aa
      refine W.bf ?_
      obtain ⟨gh,qa,h⟩:=ax h
      obtain ⟨fE,l6,h⟩:=ax h
      refine W.aT [1,3,4,7,8,9] ?_
      obtain ⟨qH,aa,h⟩:=ax h
      refine W.rs [(1,.obj [ag (bb cu) a0.cQ,ag (bb aG) a0.cL]),(3,ak dO s1.1),(4,j s1.2),(7,.obj [j dj,ak dC jB.1]),(8,j jB.2),(9,j fE),(77,a1 qH)] ?_ ?_
      ·refine bp q<|ai (O.geq (.lit q) (.k q))<|ai (O.aC (.lit q)) ?_
       rcases cB aa with ⟨i',aa⟩ | ⟨i',aa⟩
       ·obtain rfl:=au aa
        exact aq.aV
       ·obtain rfl:=au aa
        exact aq.aV
      obtain ⟨vH,aa,h⟩:=ax h
      refine W.bs [(1,.obj [ag (bb cu) a0.cQ,ag (bb aG) a0.cL]),(3,ak dO s1.1),(4,j s1.2),(7,.obj [j dj,ak dC vH]),(8,j jB.2)] ?_ ?_
      ·clear h; have h:=aa; clear aa
       refine W.bu h q (λvl h=>?_) (λvl h=>?_)
       ·obtain ⟨cZ,n3,h⟩:=ax h
        refine W.bk [1,3,4,7,8] (ai (O.a_ q (.obj q) qN q)<|ai (O.cU (y:=.bl dC.z ⟨7,[1]⟩ jB.1.length) q (.ptr q) u6 q q)<|bp q<|bp q<|ai (O.dE (cs:=[j jB.2,j fE]) uC uL q q q)<|aq.eY (x:=ag dC [(⟨jB.2,fE⟩:cE)]) (O.dg (ys:=[.agg [j jB.2,j fE]]) dC [(⟨jB.2,fE⟩:cE)] r6 q q q q q q wJ q q) q q .none<|ai (O.ap (en:=dC) (r:=cZ) (.bl q) q (.aF q) .i B6 q n3)<|ai (O.a_ q (.obj q) qN q)<|aq.h_ (G2:=[(1,.obj [ag (bb cu) a0.cQ,ag (bb aG) a0.cL]),(3,ak dO s1.1),(4,j s1.2),(7,.obj [j dj,ak dC (jB.1++[(⟨jB.2,fE⟩:cE)])]),(8,j jB.2)]) q (b9.kt (g1:=_) (en:=dC) (M:=[(⟨jB.2,fE⟩:cE)]) (cs2:=[j dj,ak dC (jB.1++[(⟨jB.2,fE⟩:cE)])]) q q (.ptr q) (.bR q) q q q .iH .gk q q DS q q q q (.n q q (.n q q (.n q q (.b q (.n q q .nil))))))<|bK q) ?_
        obtain rfl:=au h
        exact ah.bs (dX q q q q q)
       ·refine W.bF ?_
        obtain rfl:=au h
        exact ah.bs (dX q q q q q)
      refine ah.bf ?_
      obtain rfl:=au h
      exact ah.bs (dX q q q q q)
     refine ah.aU<|W.bk [1,3,4,7,8] (bp q<|ai (O.add (.lit q) (.k q))<|aq.bk [1,3,4,7,61] q<|aq.aV) ?_
     obtain rfl:=au h
     exact ah.go (dX q q q q q)
    ·refine W.c9 ?_
     refine ah.c7 ?_
     obtain rfl:=au h
     exact ah.aD (dM q q q q)
   refine ah.c' ?_
   refine ah.aU<|W.eF (G1:=[(1,_),(3,_),(4,_),(7,.obj [j dj,ag dC fx])]) [7] (.n q q (.n q q (.n q q (.z q q (gr.obj (.f (.z .nil))) .nil)))) ?_
   obtain ⟨gy,pq,h⟩:=ax h
   refine W.bk [1,3,4] (ai (O.aC (.own q))<|ai (O.dR (cs':=[j dj,ag dC fx]) q (.obj q) B' q q)<|aq.eY (x:=ag dO [(⟨dj,fx⟩:Row)]) (O.dg (ys:=[.agg [j dj,ag dC fx]]) dO [(⟨dj,fx⟩:Row)] rn q q q q q q yG q q) q q .none<|ai (O.ap (en:=dO) (r:=gy) (.bl q) q (.aF q) .i B5 q pq)<|aq.fN (G2:=[(1,.obj [ag (bb cu) a0.cQ,ag (bb aG) a0.cL]),(4,j s1.2)]) q (b9.lp q q (.bR q) q q q (.n q q (.n q q .nil)) q q)<|bK q) ?_
   refine ah.bf ?_
   refine ah.aU<|W.bk [1,3,4] (bp q<|ai (O.add (.lit q) (.k q))<|aq.bk [1,3,24] q<|aq.aV) ?_
   obtain rfl:=au h
   exact ah.go (dt q q q)
  ·refine W.c9 ?_
   refine ah.c7 ?_
   obtain rfl:=au h
   exact ah.aD (.n q .nil)
 refine ah.c' ?_
 refine ah.aU<|W.bV [2] (ai (O.aC (.own q))<|aq.fN (G2:=[]) q (b9.ik q q (.bl q) q .nil q q)<|bK q) ?_
 refine W.eF (G1:=[(2,ag dO x2)]) [2] (.z q q .ha .nil) ?_
 refine W.rt ?_
 obtain rfl:=au h
 exact cw (.f q q .nil)
theorem O' (a0:Source) (aw:rv) (r:Bool) (h:A5 a0 aw=some r):b_ Try.prog 5 [.agg (da.cells a0),.agg (hE.cells aw)] [none,none] (a1 r):=by
 unfold A5 at h
 refine b_.go (N:=⟨51,[]⟩) Try.func5 q q q q (W.fin ?_)
 refine W.st [(0,.agg (da.cells a0)),(1,.agg (hE.cells aw))] ?_
 refine W.bV [2,3] (ai (O.box (.b2 q q) q)<|ai (O.box (.b2 q q) q)<|aq.aV) ?_
 refine W.aX ?_
 obtain ⟨aD,fF,h⟩:=ax h
 refine W.bV [2,3,12] (eE (cr.go .nil (OY  _ fF) call13 q)<|aq.aV) ?_
 refine W.bu h q (λcP h=>?_) (λcP h=>?_)
 ·refine W.aT [4] ?_
  refine W.rt ?_
  refine ah.c5 ?_
  obtain rfl:=au h
  exact cw (.f q q .nil)
 ·refine W.bF<|ah.aU ?_
  refine W.aX ?_
  obtain ⟨a8,hJ,h⟩:=ax h
  obtain ⟨b4,n5,h⟩:=ax h
  refine W.rd [[],[0],[],[0,1,2],[0,1,2,3],aN 0 5 []] [(5,_)] ei (by kernel_rfl) (av 0 (O.dR (cs':=[ae a0.bx,ag cx a0.Decls,ag eM a0.dD,ae a0.bA]) q (.obj q) qE q q)<|gR 1 (cr.go (.bT (.b2 q q) .nil) (O1 a0 _ hJ) call19 q)<|av 2 (O.dR (cs':=[j aw.bw,ag (bb aG) aw.dD,ag aG aw.ot,ag aG aw.mm,a1 aw.qx]) q (.obj q) N' q q)<|gR 3 (cr.go (.bT (.b2 q q) .nil) (O2 aw _ n5) call20 q)<|av 4 (O.dg (ys:=[.agg (da.cells a8),.agg (da.cells b4)]) da [a8,b4] HP q q q q q q Vr q q)<|bC.bv 5 (G2:=[]) (b9.ik q q (.own q) q .nil q q) q q q q (by kernel_rfl) (by kernel_rfl)<|bC.fin q q q (.n q .nil)) ?_
  refine ah.aU<|W.aX ?_
  refine W.aT [5,6] ?_
  refine W.bf ?_
  obtain ⟨bP,ao,h⟩:=ax h
  refine W.ca (G1:=[(5,_),(6,_)]) (fC q q) ?_
  refine W.jZ (s:=0) (λ(cA:Int)=>[(5,ak da [a8,b4]),(6,j cA)]) 0 (λ(bz:Unit)=>[]) (λ(b1:Bool)=>[(4,a1 b1)]) ao (λcA o h=>?_) (λbz J=>?_) (λb1 J=>?_)
  ·clear ao
   refine W.aX<|W.aT [5,6,21] ?_
   refine W.bu h q (λdi h=>?_) (λdi h=>?_)
   ·refine W.bF<|ah.aU ?_
    refine W.aX<|W.bf ?_
    obtain ⟨bM,iF,h⟩:=ax h
    obtain ⟨bD,gQ,h⟩:=ax h
    refine W.bV [5,6,8,10] (ai (O.aC (.own q))<|bp q<|ai (O.gY (en:=da) q (.bl q) (.lit q) HP iF q)<|ai (O.Tu (en:=da) (cs':=[ae bM.bx,ag cx bM.Decls,ag eM bM.dD,ae bM.bA]) q (.ptr q) qE iF q q)<|eE (cr.go (.bT (.b2 q q) .nil) (Ju bM _ gQ) call21 q)<|ai (O.aC (.cG q q))<|ai (O.ex (y:=.agg (ck.cells bD.1)) q q q)<|ai (O.ex (y:=.agg [ag (bb cu) bD.2.1.cQ,ag (bb aG) bD.2.1.cL]) q q q)<|ai (O.ex (y:=j bD.2.2.1) q q q)<|ai (O.ex (y:=a1 bD.2.2.2) q q q)<|ai (O.fq (cs:=[.aI,.aI,.aI,ae aA,ae aA]) oY q q)<|ai (O.fq (cs:=[.aI,.aI]) wG q q)<|aq.dx (G2:=[(5,_),(6,_),(7,_),(8,_),(31,_),(32,_),(33,_)]) (cs2:=[ag bq bD.1.ba,ag a7 bD.1.bw,ag bE bD.1.bc,ae bD.1.bx,ae bD.1.bA]) q (.obj q) (.b2 q q) q nt q q q q (.n q q (.n q q (.b q (.n q q (.n q q (.n q q (.n q q .nil)))))))<|aq.dx (G2:=[(5,_),(6,_),(8,_),(32,_),(33,_)]) (cs2:=[ag (bb cu) bD.2.1.cQ,ag (bb aG) bD.2.1.cL]) q (.obj q) (.b2 q q) q yy q q q q (.n q q (.n q q (.b q (.n q q (.n q q .nil)))))<|aq.aV) ?_
    refine W.aX ?_
    obtain ⟨uZ,aa,h⟩:=ax h
    refine W.rd [[],[0],[0,1],[0,1,2],[0,1],aN 0 5 [],aN 0 6 [],aN 0 7 [],aN 0 8 [],aN 0 9 [],aN 0 10 [],aN 0 9 [],aN 0 12 [],aN 0 13 [],aN 0 14 [],aN 0 15 [],aN 0 16 []] [(5,ak da [a8,b4]),(6,j cA),(50,a1 uZ)] ei (by kernel_rfl) ?_ ?_
    ·refine av 0 (O.aC (.lit q))<|av 1 (O.aC (.lit q)) ?_
     rcases cB aa with ⟨dz,aa⟩ | ⟨dz,aa⟩
     ·refine b8 2 dz (O.dR (cs':=[ag (bb cu) bD.2.1.cQ,ag (bb aG) bD.2.1.cL]) q (.obj q) pW q q) ?_
      obtain ⟨eb,jX,aa⟩:=ax aa
      refine bC.c 3 (cr.go (.bT (.b2 q q) .nil) (Jv bD.2.1 _ jX) call23 q) q q q q (.hf q q dz)<|b8 4 dz (O.dR (cs':=[ag (bb cu) bD.2.1.cQ,ag (bb aG) bD.2.1.cL]) q (.obj q) pW q q) ?_
      obtain ⟨dU,jP,aa⟩:=ax aa
      refine bC.c 5 (cr.go (.bT (.b2 q q) .nil) (O3 bD.2.1 _ jP) call24 q) q q q q (.hf q q dz) ?_
      obtain ⟨cH,hI,aa⟩:=ax aa
      refine bC.c 6 (cr.go (.bT (.aF q) (.bT (.aF q) .nil)) (Co eb dU _ hI) call22 q) q q q q (.hf q q dz)<|b8 7 dz (O.not (.lit q))<|b8 8 dz (O.aC (.lit q)) ?_
      rcases cB aa with ⟨gf,aa⟩ | ⟨gf,aa⟩
      ·obtain rfl:=au aa
       exact bS 9 gf<|bS 10 gf<|bS 11 gf<|bS 12 gf<|bS 13 gf<|bS 14 gf<|b8 15 dz (O.eB (.lit q) gf (.k q))<|av 16 (O.eB (.lit q) dz (.lit q))<|bC.fin q q q (dt q q q)
      ·refine b8 9 gf (O.dR (cs':=[ag (bb cu) bD.2.1.cQ,ag (bb aG) bD.2.1.cL]) q (.obj q) pW q q) ?_
       obtain ⟨bZ,gS,aa⟩:=ax aa
       refine bC.c 10 (cr.go (.bT (.b2 q q) .nil) (Jw bD.2.1 _ gS) call25 q) q q q q (.hf q q gf)<|b8 11 gf (O.dR (cs':=[ag (bb cu) bD.2.1.cQ,ag (bb aG) bD.2.1.cL]) q (.obj q) pW q q) ?_
       obtain ⟨dS,iG,aa⟩:=ax aa
       refine bC.c 12 (cr.go (.bT (.b2 q q) .nil) (O4 bD.2.1 _ iG) call26 q) q q q q (.hf q q gf) ?_
       obtain ⟨fp,l5,aa⟩:=ax aa
       obtain rfl:=au aa
       exact bC.c 13 (cr.go (.bT (.aF q) (.bT (.aF q) .nil)) (Co bZ dS _ l5) call22 q) q q q q (.hf q q gf)<|b8 14 gf (O.not (.lit q))<|b8 15 dz (O.dL (.lit q) gf (.lit q))<|av 16 (O.eB (.lit q) dz (.lit q))<|bC.fin q q q (dt q q q)
     ·obtain rfl:=au aa
      exact bS 2 dz<|bS 3 dz<|bS 4 dz<|bS 5 dz<|bS 6 dz<|bS 7 dz<|bS 8 dz<|fm 9<|fm 10<|fm 11<|fm 12<|fm 13<|fm 14<|bS 15 dz<|av 16 (O.dL (.lit q) dz (.k q))<|bC.fin q q q (dt q q q)
    refine ah.aU<|W.bu h q (λi_ h=>?_) (λi_ h=>?_)
    ·refine W.aT [4] ?_
     refine W.rt ?_
     refine ah.d_ ?_
     refine ah.c5 ?_
     obtain rfl:=au h
     exact ah.gx (.n q .nil)
    ·refine W.bF<|ah.bf ?_
     refine ah.aU<|W.bk [5,6] (bp q<|ai (O.add (.lit q) (.k q))<|aq.bk [5,23] q<|aq.aV) ?_
     obtain rfl:=au h
     exact ah.go (fC q q)
   ·refine W.c9 ?_
    refine ah.c7 ?_
    obtain rfl:=au h
    exact ah.x2 .nil
  ·subst J
   refine ah.c' ?_
   refine ah.aU<|W.aT [4] ?_
   refine W.rt ?_
   obtain rfl:=au h
   exact cw (.f q q .nil)
  ·subst J
   refine ah.d_ ?_
   refine ah.c5 ?_
   obtain rfl:=au h
   exact cw (.f q q .nil)
end Go.Proofs
namespace Go.Own
open Go Go.ChangeShapes Go.WideShapes Go.ChangeAt Go.RowKit
variable {H:Type}{enc:TypeId × Value->H}{P:Program}
theorem T4 {f:Func}{s:ChangeSpec}{apart fresh handsOn again:Bool}{W uS:World}{args:Array Value}{v:Value}{jL gs:List (DataW H)}{before lA pv:List MemPlace}
  (xy:DataW.Whole enc P f.params.toList s.vars apart W args.toList jL gs before) (hk:Is W uS) (sS:before=lA++pv)
  (xK:∀ (b:Nat) (sp:Nat->Bool) (aY:Bool),DataW.TrodAll enc P uS b sp aY f.resultTypes.toList (v.resultList f.resultTypes.size) (s.fn H (jL++gs)).results [])
  (oH:∀ sp:Nat->Bool,(∀ p∈before,sp p.block=true)->DataW.TrodAll enc P uS 0 sp true f.params.toList args.toList (s.fn H (jL++gs)).args lA)
  (Lr:∀ sp:Nat->Bool,(∀ p∈before,sp p.block=true)->DataW.TrodVars enc P uS sp s.vars (s.fn H (jL++gs)).vars pv)
  (fo:∀ (af:Nat) (t:TypeId) (r:Value),f.resultTypes[af]?=some t->(v.resultList f.resultTypes.size)[af]?=some r->Value.okWide P uS .any 0 t r) :
  s.post enc P f apart fresh handsOn again W args v uS:=by
 subst sS
 have bg:∀ p∈lA++pv,p.block<W.heap.size:=λp aH=>xy.lt p aH
 have k_:∀ p∈lA++pv,(λb=>decide (b<W.heap.size)) p.block=true:=λp aH=>decide_eq_true (bg p aH)
 have Q_:=xy
 obtain ⟨_,_,_,_,_,bJ,aL⟩:=Q_
 have aE:=trodAll_append (oH (λ_=>true) (λ_ _=>rfl)) (xK 0 (λ_=>true) true)
 refine ⟨jL,gs,lA++pv,[],lA,pv,xy,xK _ _ _,oH _ k_,Lr _ k_,hk.kept _,λ_=>⟨fo,_,_,lA++pv,⟨_,pv,aE,Lr _ (λ_ _=>rfl),rfl,λb off aH=>?_,aL⟩,λp aH _=>aH⟩⟩
 rw [hk.eF _ (bg _ aH)]
 exact bJ b off aH
end Go.Own
namespace Go.Proofs
open Go Go.Own
set_option maxRecDepth 100000
theorem U5:Try.prog.underlying 3=some (.int .i64):=by kernel_rfl
theorem U4:Try.prog.underlying 4=some .bool:=by kernel_rfl
theorem U7:Try.prog.underlying 9=some .string:=by kernel_rfl
def oQ (n:Int):Prop:=(Lit.int .i64 n).wf=true
def okB (_:Bool):Prop:=True
def vX (s:ByteArray):Prop:=s.size<=maxLen
def nq {α:Type}(p:α->Prop) (l:List α):Prop:=l.length<=maxLen/\∀ x∈l,p x
def AK (x:Sym):Prop:=vX x.Name/\okB x.Lit/\oQ x.cJ/\oQ x.At/\True
def Hm (x:Part):Prop:=AK x.Sym/\vX x.Code/\oQ x.At/\True
def Hk (x:Alt):Prop:=nq Hm x.h9/\AK x.Prec/\oQ x.At/\True
def Hn (x:fi):Prop:=vX x.Left/\nq Hk x.eT/\oQ x.At/\True
def Hl (x:Decl):Prop:=oQ x.Kind/\vX x.Tag/\nq AK x.eV/\oQ x.At/\True
def TO (x:Source):Prop:=vX x.bx/\nq Hl x.Decls/\nq Hn x.dD/\vX x.bA/\True
def TN (x:rv):Prop:=oQ x.bw/\nq (nq oQ) x.dD/\nq oQ x.ot/\nq oQ x.mm/\okB x.qx/\True
theorem sj:ih Try.prog aG 3 oQ:=.int U5 (by kernel_rfl) λ_=>rfl
theorem IE:ih Try.prog bH 4 okB:=.bool U4 (by kernel_rfl) λ_=>rfl
theorem w6:ih Try.prog cy 9 vX:=.str U7 (by kernel_rfl) λ_=>rfl
theorem U6:Try.prog.underlying 29=some (.slice 3):=by kernel_rfl
theorem Ee:ih Try.prog (bb aG) 29 (nq oQ):=sj.slice (t:=29) U6 (by kernel_rfl) (by decide)
theorem NC:ih Try.prog (bb (bb aG)) 34 (nq (nq oQ)):=Ee.slice (t:=34) (by kernel_rfl) (by kernel_rfl) (by decide)
theorem Ef:ih Try.prog dc 88 AK:=.struct (t:=88) (.cons w6 (.cons IE (.cons sj (.cons sj .nil)))) (λb=>(⟨b.1,b.2.1,b.2.2.1,b.2.2.2.1⟩:Sym)) (λx=>(x.Name,x.Lit,x.cJ,x.At,())) (λ_=>rfl) (λ_=>rfl) (by kernel_rfl) (by kernel_rfl)
theorem ND:ih Try.prog ed 90 Hm:=.struct (t:=90) (.cons Ef (.cons w6 (.cons sj .nil))) (λb=>(⟨b.1,b.2.1,b.2.2.1⟩:Part)) (λx=>(x.Sym,x.Code,x.At,())) (λ_=>rfl) (λ_=>rfl) (by kernel_rfl) (by kernel_rfl)
theorem NF:ih Try.prog (bb ed) 91 (nq Hm):=ND.slice (by kernel_rfl) (by kernel_rfl) (by decide)
theorem Nx:ih Try.prog dN 93 Hk:=.struct (t:=93) (.cons NF (.cons Ef (.cons sj .nil))) (λb=>(⟨b.1,b.2.1,b.2.2.1⟩:Alt)) (λx=>(x.h9,x.Prec,x.At,())) (λ_=>rfl) (λ_=>rfl) (by kernel_rfl) (by kernel_rfl)
theorem Ny:ih Try.prog (bb dN) 94 (nq Hk):=Nx.slice (by kernel_rfl) (by kernel_rfl) (by decide)
theorem NG:ih Try.prog eM 96 Hn:=.struct (t:=96) (.cons w6 (.cons Ny (.cons sj .nil))) (λb=>(⟨b.1,b.2.1,b.2.2.1⟩:fi)) (λx=>(x.Left,x.eT,x.At,())) (λ_=>rfl) (λ_=>rfl) (by kernel_rfl) (by kernel_rfl)
theorem NH:ih Try.prog (bb eM) 31 (nq Hn):=NG.slice (by kernel_rfl) (by kernel_rfl) (by decide)
theorem NJ:ih Try.prog (bb dc) 98 (nq AK):=Ef.slice (by kernel_rfl) (by kernel_rfl) (by decide)
theorem Nz:ih Try.prog cx 100 Hl:=.struct (t:=100) (.cons sj (.cons w6 (.cons NJ (.cons sj .nil)))) (λb=>(⟨b.1,b.2.1,b.2.2.1,b.2.2.2.1⟩:Decl)) (λx=>(x.Kind,x.Tag,x.eV,x.At,())) (λ_=>rfl) (λ_=>rfl) (by kernel_rfl) (by kernel_rfl)
theorem NA:ih Try.prog (bb cx) 30 (nq Hl):=Nz.slice (by kernel_rfl) (by kernel_rfl) (by decide)
def PO:cD Source:=⟨4,λx=>[ae x.bx,ag cx x.Decls,ag eM x.dD,ae x.bA],λ_=>rfl,λ_=>eU.bI⟩
theorem Mt:yx Try.prog 33 [9,30,31,9]=true:=by kernel_rfl
theorem NI:ih Try.prog PO 33 TO:=.struct (t:=33) (.cons w6 (.cons NA (.cons NH (.cons w6 .nil)))) (λb=>(⟨b.1,b.2.1,b.2.2.1,b.2.2.2.1⟩:Source)) (λx=>(x.bx,x.Decls,x.dD,x.bA,())) (λ_=>rfl) (λ_=>rfl) Mt (by kernel_rfl)
def PN:cD rv:=⟨5,λx=>[j x.bw,ag (bb aG) x.dD,ag aG x.ot,ag aG x.mm,a1 x.qx],λ_=>rfl,λ_=>eU.bI⟩
theorem Ms:yx Try.prog 36 [3,34,29,29,4]=true:=by kernel_rfl
theorem NB:ih Try.prog PN 36 TN:=.struct (t:=36) (.cons sj (.cons NC (.cons Ee (.cons Ee (.cons IE .nil))))) (λb=>(⟨b.1,b.2.1,b.2.2.1,b.2.2.2.1,b.2.2.2.2.1⟩:rv)) (λx=>(x.bw,x.dD,x.ot,x.mm,x.qx,())) (λ_=>rfl) (λ_=>rfl) Ms (by kernel_rfl)
theorem TV:laidOutB Try.prog=true:=by kernel_rfl
theorem TW:mapsRowed Try.prog=true:=by kernel_rfl
theorem TU:((List.range Try.prog.types.size).all λt=>match Try.prog.underlying t with | some (.slice e)=>decide (0<Try.prog.cellsOf e) | _=>true)=true:=by kernel_rfl
end Go.Proofs
