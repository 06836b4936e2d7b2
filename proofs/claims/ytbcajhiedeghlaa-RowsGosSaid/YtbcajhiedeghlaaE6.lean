/-
  What is proved here: parts of the proof that the last text states: rules for walks through code, and of this program's functions what they answer. No condition of their own.
-/
import Derived.KernelRfl
import Derived.ProofKit
import Derived.RowKit3
import Derived.Test.YtbcajhiedeghlaaRows
import Derived.Test.YtbcajhiedeghlaaE5
namespace Go.Proofs
open Go Go.Own
set_option maxRecDepth 100000
set_option linter.unusedVariables false
theorem O6 (a0:b_) (r:(List State) × Int) (h:A5 a0=some r):cb Try.prog 69 [.agg (cm.cells a0)] [none] (.cB [ah cP r.1,j r.2]):=by
 unfold A5 at h
 refine cb.go (N:=⟨106,[]⟩) Try.func69 q q q q (W.fin ?_)
 refine W.st [(0,.agg (cm.cells a0))] ?_
 refine W.bY [1] (aj (O.box (.b' q q) q)<|ar.aW) ?_
 refine W.bY [1,4] (aj (O.dR (cs:=[j 0,j 0]) Hz DN q q q)<|aj (O.uU (ys:=[.agg [j 0,j 0]]) (cs:=[j 0,j 0]) kb q q q q q H4 q q)<|aj (O.dR (cs:=[.bn 2 ⟨15,[]⟩ 1,.aK]) Mu Nb q q q)<|aj (O.uU (ys:=[.agg [.bn 2 ⟨15,[]⟩ 1,.aK]]) (cs:=[.bn 2 ⟨15,[]⟩ 1,.aK]) mP q q q q q Nh q q)<|ar.gd (G2:=[(1,.obj (cm.cells a0))]) q (cj.B1 (y':=ak gy [(⟨[(⟨0,0⟩:Item)],([]:List Move)⟩:State)]) q q (.own q) (.l q q (.l q q (.f (.f .nil)) (.f .nil)) .nil) (gU.own (.z (hv:=lb.TR (en:=dw) (L:=[(⟨0,0⟩:Item)]) (cs':=[j 0,j 0]) q q) (.o .nil))) (.n q .nil) q q)<|bS q) ?_
 obtain ⟨aF,fI,h⟩:=ay h
 refine W.bY [1,4,5] (aj (O.dW (cs':=[ah bp a0.a',ah a6 a0.bu,ah bG a0.ba,ai a0.bA,ai a0.bF]) q (.obj q) gv q q)<|ee (cu.go (.b0 (.b' q q) .nil) (Pb a0 _ fI) call79 q)<|ar.aW) ?_
 refine W.aZ<|W.aU [1,4,5,6] ?_
 refine W.bk ?_
 obtain ⟨a_,ao,h⟩:=ay h
 refine W.cf (G1:=[(1,_),(4,_),(5,_),(6,_)]) (dA q q q q) ?_
 refine W.iH (s:=([(⟨[(⟨0,0⟩:Item)],([]:List Move)⟩:State)],0)) (λ(s2:List State × Int)=>[(1,.obj (cm.cells a0)),(4,ak gy s2.1),(5,ah aI aF),(6,j s2.2)]) 0 (λ(bE:List State)=>[(4,ak gy bE)]) (λ(cq:List State × Int)=>[(2,ah cP cq.1),(3,j cq.2)]) ao (λs2 o h=>?_) (λbE J=>?_) (λcq J=>?_)
 ·clear ao
  refine W.aZ<|W.aU [1,4,5,6,23] ?_
  refine W.bw h q (λec h=>?_) (λec h=>?_)
  ·refine W.bI<|af.aX ?_
   refine W.aZ<|W.bk ?_
   refine W.aZ ?_
   obtain ⟨bz,gq,h⟩:=ay h
   obtain ⟨b3,ho,h⟩:=ay h
   refine W.rd [[],[],[],[1,2],[1,2,3],[1,2,3,4],aP 0 6 [],aP 0 7 []] [(1,_),(4,_),(5,_),(6,_),(7,_)] ez (by kernel_rfl) (av 0 (O.dW (cs':=[ah bp a0.a',ah a6 a0.bu,ah bG a0.ba,ai a0.bA,ai a0.bF]) q (.obj q) gv q q)<|av 1 (O.aA (.own q))<|av 2 (O.aA (.lit q))<|av 3 (O.gX (en:=gy) q (.bn q) (.lit q) mP gq q)<|av 4 (O.ki (en:=gy) q (.ptr q) u4 gq q q)<|av 5 (O.jv (en:=gy) (x':=ah dw bz.Kernel) q (.ptr q) u0 gq q q)<|iN 6 (cu.go (.b0 (.b' q q) (.b0 (.aE q) .nil)) (EA a0 bz.Kernel _ ho) call80 q)<|av 7 (O.dO (.aE q))<|bL.fin q q q (eW q q q q q)) ?_
   refine af.aX<|W.aU [1,4,5,6,7,8] ?_
   refine W.aZ<|W.aU [1,4,5,6,7,8,9] ?_
   refine W.bk ?_
   obtain ⟨bQ,ao,h⟩:=ay h
   refine W.cf (G1:=[(1,_),(4,_),(5,_),(6,_),(7,_),(8,ah aI ([]:List Int)),(9,_)]) (.n q (.n q (.n q (.n q (.n q (.w q q .xP (.n q .nil))))))) ?_
   refine W.eO (s:=(([]:List Int),0)) (λ(mb:List Int × Int)=>[(1,.obj (cm.cells a0)),(4,ak gy s2.1),(5,ah aI aF),(6,j s2.2),(7,ah dw b3),(8,ah aI mb.1),(9,j mb.2)]) 2 (λ(bQ:List Int)=>[(1,.obj (cm.cells a0)),(4,ak gy s2.1),(5,ah aI aF),(6,j s2.2),(8,ah aI bQ)]) ao (λmb o h=>?_) ?_
   ·clear ao
    refine W.aZ<|W.aU [1,4,5,6,7,8,9,36] ?_
    refine W.bw h q (λeb h=>?_) (λeb h=>?_)
    ·refine W.bI<|af.aX ?_
     refine W.aZ ?_
     obtain ⟨j7,aa,h⟩:=ay h
     refine W.bB [(1,.obj (cm.cells a0)),(4,ak gy s2.1),(5,ah aI aF),(6,j s2.2),(7,ah dw b3),(8,ah aI j7),(9,j mb.2)] ?_ ?_
     ·clear h; have h:=aa; clear aa
      refine W.bk<|W.aZ ?_
      obtain ⟨eo,km,h⟩:=ay h
      obtain ⟨cA,ic,h⟩:=ay h
      refine W.rd [[],[],[],[1,2],[1,2,3],aP 0 5 [],aP 0 6 []] [(1,_),(4,_),(5,_),(6,_),(7,_),(8,_),(9,_),(10,_)] ez (by kernel_rfl) (av 0 (O.dW (cs':=[ah bp a0.a',ah a6 a0.bu,ah bG a0.ba,ai a0.bA,ai a0.bF]) q (.obj q) gv q q)<|av 1 (O.aA (.aE q))<|av 2 (O.aA (.lit q))<|av 3 (O.cC (.aE q) (.lit q) kb km)<|av 4 (O.iV (cs':=[j eo.Prod,j eo.dP]) (.bo q) pP q q)<|iN 5 (cu.go (.b0 (.b' q q) (.b0 (.b' q q) .nil)) (EB a0 eo _ ic) call81 q)<|av 6 (O.dO (.lit q))<|bL.fin q q q (ko q q q q q q q q)) ?_
      refine af.aX<|W.aU [1,4,5,6,7,8,9,10,46] ?_
      obtain ⟨ni,aa,h⟩:=ay h
      refine W.bB [(1,.obj (cm.cells a0)),(4,ak gy s2.1),(5,ah aI aF),(6,j s2.2),(7,ah dw b3),(8,ah aI ni),(9,j mb.2)] ?_ ?_
      ·clear h; have h:=aa; clear aa
       refine W.bw h q (λvh h=>?_) (λvh h=>?_)
       ·obtain ⟨eZ,j5,h⟩:=ay h
        refine W.bm [1,4,5,6,7,8,9] (aj (O.aA (.aE q))<|bq q<|ee (cu.go (.b0 (.aE q) (.b0 (.lit q) .nil)) (uY mb.1 cA _ j5) call67 q)<|ar.bm [1,4,5,6,7,9,49] q<|ar.aW) ?_
        obtain rfl:=au h
        exact af.bB (hq q q q q q q q)
       ·refine W.bI ?_
        obtain rfl:=au h
        exact af.bB (hq q q q q q q q)
      refine af.bk ?_
      obtain rfl:=au h
      exact af.bB (hq q q q q q q q)
     refine af.aX<|W.bm [1,4,5,6,7,8,9] (bq q<|aj (O.add (.lit q) (.k q))<|ar.bm [1,4,5,6,7,8,38] q<|ar.aW) ?_
     obtain rfl:=au h
     exact af.go (hq q q q q q q q)
    ·refine W.da ?_
     refine af.c' ?_
     obtain rfl:=au h
     exact af.aF (eW q q q q q)
   refine af.db ?_
   refine af.aX<|W.aU [1,4,5,6,8,11] ?_
   refine W.bk ?_
   obtain ⟨c0,ao,h⟩:=ay h
   refine W.cf (G1:=[(1,_),(4,_),(5,_),(6,_),(8,_),(11,_)]) (fp q q q q q q) ?_
   refine W.iH (s:=(s2.1,0)) (λ(dx:List State × Int)=>[(1,.obj (cm.cells a0)),(4,ak gy dx.1),(5,ah aI aF),(6,j s2.2),(8,ah aI bQ),(11,j dx.2)]) 4 (λ(c8:List State)=>[(1,.obj (cm.cells a0)),(4,ak gy c8),(5,ah aI aF),(6,j s2.2)]) (λ(gf:List State × Int)=>[(2,ah cP gf.1),(3,j gf.2)]) ao (λdx o h=>?_) (λc8 J=>?_) (λgf J=>?_)
   ·clear ao
    refine W.aZ<|W.aU [1,4,5,6,8,11,53] ?_
    refine W.bw h q (λeu h=>?_) (λeu h=>?_)
    ·refine W.bI<|af.aX ?_
     refine W.aZ<|W.bk ?_
     refine W.aZ ?_
     obtain ⟨gr,mC,h⟩:=ay h
     obtain ⟨eQ,k7,h⟩:=ay h
     refine W.bY [1,4,5,6,8,11,62] (aj (O.aA (.aE q))<|aj (O.aA (.aE q))<|bq q<|aj (O.cC (.aE q) (.lit q) fk mC)<|aj (O.c9 (x:=j gr) (.bo q) cr q)<|ee (cu.go (.b0 (.aE q) (.b0 (.lit q) .nil)) (Jw bQ gr _ k7) call70 q)<|ar.aW) ?_
     refine W.bw h q (λgM h=>?_) (λgM h=>?_)
     ·refine W.da ?_
      refine af.c' ?_
      refine af.db ?_
      refine af.aX<|W.bm [1,4,5,6,8,11] (bq q<|aj (O.add (.lit q) (.k q))<|ar.bm [1,4,5,6,8,55] q<|ar.aW) ?_
      obtain rfl:=au h
      exact af.go (fp q q q q q q)
     ·refine W.bI<|af.aX ?_
      refine W.aZ ?_
      obtain ⟨gg,mD,h⟩:=ay h
      obtain ⟨cV,qT,h⟩:=ay h
      obtain ⟨eJ,lr,h⟩:=ay h
      refine W.rd [[],[],[],[1,2],[1,2,3],[1,2,3,4],[],[],[6,7],[6,7,8],aP 0 10 [],aP 0 11 []] [(1,_),(4,_),(5,_),(6,_),(8,_),(11,_),(12,_)] ez (by kernel_rfl) (av 0 (O.dW (cs':=[ah bp a0.a',ah a6 a0.bu,ah bG a0.ba,ai a0.bA,ai a0.bF]) q (.obj q) gv q q)<|av 1 (O.aA (.own q))<|av 2 (O.aA (.lit q))<|av 3 (O.gX (en:=gy) q (.bn q) (.lit q) mP mD q)<|av 4 (O.ki (en:=gy) q (.ptr q) u4 mD q q)<|av 5 (O.jv (en:=gy) (x':=ah dw gg.Kernel) q (.ptr q) u0 mD q q)<|av 6 (O.aA (.aE q))<|av 7 (O.aA (.lit q))<|av 8 (O.cC (.aE q) (.lit q) fk qT)<|av 9 (O.c9 (x:=j cV) (.bo q) cr q)<|iN 10 (cu.go (.b0 (.b' q q) (.b0 (.aE q) (.b0 (.lit q) .nil))) (Pc a0 gg.Kernel cV _ lr) call82 q)<|av 11 (O.dO (.aE q))<|bL.fin q q q (hq q q q q q q q)) ?_
      refine af.aX ?_
      obtain ⟨gK,nb,h⟩:=ay h
      refine W.bY [1,4,5,6,8,11,12,13] (aj (O.aA (.own q))<|aj (O.aA (.aE q))<|ee (cu.vw (ys:=[.bn gy.z ⟨4,[]⟩ dx.1.length,ah dw eJ]) q (.c (.row q) (.s .nil)) (Pd dx.1 eJ _ nb) call83 q)<|ar.aW) ?_
      refine W.aZ<|W.aU [1,4,5,6,8,11,12,13,78] ?_
      refine W.bw h q (λqH h=>?_) (λqH h=>?_)
      ·refine W.bY [1,4,5,6,8,11,12,13] (aj (O.aA (.own q))<|aj (O.ph (.bn q) mP)<|ar.bm [1,4,5,6,8,11,12,80] q<|ar.aW) ?_
       refine W.aZ<|W.aU [1,4,5,6,8,11,12,13,82] ?_
       refine W.bw h q (λkE h=>?_) (λkE h=>?_)
       ·refine W.aU [2,3] ?_
        refine W.e7 (G1:=[(2,ah cP ([]:List State)),(3,_)]) [2] (.z q q .hj (.n q q .nil)) ?_
        refine W.rt ?_
        refine af.cK ?_
        refine af.cK ?_
        refine af.dv ?_
        refine af.cK ?_
        obtain rfl:=au h
        exact af.fP (fG q q)
       ·refine W.bI<|af.aX ?_
        obtain ⟨mf,sN,h⟩:=ay h
        refine W.bm [1,4,5,6,8,11,13] (aj (O.aA (.own q))<|aj (O.aA (.aE q))<|aj (O.dR (cs:=[ah dw eJ,.aK]) Mu Nb q q q)<|aj (O.uU (ys:=[.agg [ah dw eJ,.aK]]) (cs:=[ah dw eJ,.aK]) mP q q q q q Nh q q)<|aj (O.D8 (en:=gy) (M:=[(⟨eJ,([]:List Move)⟩:State)]) (r:=mf) (.bn q) q (.own q) q q q q NV q sN)<|ar.gd (G2:=[(1,.obj (cm.cells a0)),(5,ah aI aF),(6,j s2.2),(8,ah aI bQ),(11,j dx.2),(13,j (dx.1.length:Int))]) q (cj.IE (M:=[(⟨eJ,([]:List Move)⟩:State)]) q q (.bX q) q q q (.f (.f .nil)) (.f (.o .nil)) q q (fp q q q q q q) q q)<|bS q) ?_
        refine af.aX ?_
        obtain ⟨gm,n1,h⟩:=ay h
        obtain ⟨gS,vu,h⟩:=ay h
        obtain ⟨iA,qU,h⟩:=ay h
        refine W.rd [[],[],[],[],[2,3],[2,3,4],[2,3,4,5],[],[],[7,8],[7,8,9],[],aP 7 5 [],aP 7 6 [],aP 2 12 [],aP 0 15 [],aP 0 16 [],aP 0 17 []] [(1,_),(4,_),(5,_),(6,_),(8,_),(11,_)] ez (by kernel_rfl) (av 0 (O.aA (.own q))<|av 1 (O.aA (.lit q))<|av 2 (O.aA (.own q))<|av 3 (O.aA (.lit q))<|av 4 (O.gX (en:=gy) q (.bn q) (.lit q) mP n1 q)<|av 5 (O.ki (en:=gy) q (.ptr q) u5 n1 q q)<|av 6 (O.jv (en:=gy) (x':=.bn kY.z ⟨4,[s2.2.toNat * gy.z+1]⟩ gm.e'.length) q (.ptr q) y5 n1 q q)<|av 7 (O.aA (.aE q))<|av 8 (O.aA (.lit q))<|av 9 (O.cC (.aE q) (.lit q) fk vu)<|av 10 (O.c9 (x:=j gS) (.bo q) cr q)<|av 11 (O.aA (.lit q))<|av 12 (O.dR (cs:=[j gS,j (dx.1.length:Int)]) Mv Nd q q q)<|bL.fC 13 (x:=ah kY [(⟨gS,(dx.1.length:Int)⟩:Move)]) (O.dz (ys:=[.agg [j gS,j (dx.1.length:Int)]]) kY [(⟨gS,(dx.1.length:Int)⟩:Move)] Bp q q q q q q Ni q q) q q q q .none<|av 14 (O.ap (en:=kY) (r:=iA) (.bn q) (tr (r:=4) (path:=[]) (o:=1) (en:=gy) q n1 q) (.aE q) .i Iy q qU)<|av 15 (O.gX (en:=gy) q (.bn q) (.lit q) mP n1 q)<|av 16 (O.ki (en:=gy) q (.ptr q) u5 n1 q q)<|bL.jG 17 (G2:=[(1,.obj (cm.cells a0)),(4,ak gy ((dx.1++[(⟨eJ,([]:List Move)⟩:State)]).set s2.2.toNat (⟨gm.Kernel,gm.e'++[(⟨gS,(dx.1.length:Int)⟩:Move)]⟩:State))),(5,ah aI aF),(6,j s2.2),(8,ah aI bQ),(11,j dx.2)]) (cj.Bt (en:=gy) (en2:=kY) (M:=[(⟨gS,(dx.1.length:Int)⟩:Move)]) (y2:=(⟨gm.Kernel,gm.e'++[(⟨gS,(dx.1.length:Int)⟩:Move)]⟩:State)) (x2:=ak gy ((dx.1++[(⟨eJ,([]:List Move)⟩:State)]).set s2.2.toNat (⟨gm.Kernel,gm.e'++[(⟨gS,(dx.1.length:Int)⟩:Move)]⟩:State))) (y0:=.own gy.z (dx.1++[(⟨eJ,([]:List Move)⟩:State)]).length ((ch gy (dx.1++[(⟨eJ,([]:List Move)⟩:State)])).set (s2.2.toNat * gy.z+1) .dead)) q q (.ptr q) (.bX q) q q n1 q q .j8 .gR q q MJ q q q q q q (.n q q (.b q (.n q q (.n q q (.n q q (.n q q .nil))))))) q q q q (by kernel_rfl) (by kernel_rfl)<|bL.fin q q q (fp q q q q q q)) ?_
        refine af.bk ?_
        refine af.aX<|W.bm [1,4,5,6,8,11] (bq q<|aj (O.add (.lit q) (.k q))<|ar.bm [1,4,5,6,8,55] q<|ar.aW) ?_
        obtain rfl:=au h
        exact af.go (fp q q q q q q)
      ·refine W.bI<|af.aX ?_
       obtain ⟨jK,mE,h⟩:=ay h
       obtain ⟨dc,uc,h⟩:=ay h
       obtain ⟨hU,ud,h⟩:=ay h
       refine W.rd [[],[],[],[],[2,3],[2,3,4],[2,3,4,5],[],[],[7,8],[7,8,9],[],aP 7 5 [],aP 7 6 [],aP 2 12 [],aP 0 15 [],aP 0 16 [],aP 0 17 []] [(1,_),(4,_),(5,_),(6,_),(8,_),(11,_)] ez (by kernel_rfl) (av 0 (O.aA (.own q))<|av 1 (O.aA (.lit q))<|av 2 (O.aA (.own q))<|av 3 (O.aA (.lit q))<|av 4 (O.gX (en:=gy) q (.bn q) (.lit q) mP mE q)<|av 5 (O.ki (en:=gy) q (.ptr q) u5 mE q q)<|av 6 (O.jv (en:=gy) (x':=.bn kY.z ⟨4,[s2.2.toNat * gy.z+1]⟩ jK.e'.length) q (.ptr q) y5 mE q q)<|av 7 (O.aA (.aE q))<|av 8 (O.aA (.lit q))<|av 9 (O.cC (.aE q) (.lit q) fk uc)<|av 10 (O.c9 (x:=j dc) (.bo q) cr q)<|av 11 (O.aA (.lit q))<|av 12 (O.dR (cs:=[j dc,j gK]) Mv Nd q q q)<|bL.fC 13 (x:=ah kY [(⟨dc,gK⟩:Move)]) (O.dz (ys:=[.agg [j dc,j gK]]) kY [(⟨dc,gK⟩:Move)] Bp q q q q q q Ni q q) q q q q .none<|av 14 (O.ap (en:=kY) (r:=hU) (.bn q) (tr (r:=4) (path:=[]) (o:=1) (en:=gy) q mE q) (.aE q) .i Iy q ud)<|av 15 (O.gX (en:=gy) q (.bn q) (.lit q) mP mE q)<|av 16 (O.ki (en:=gy) q (.ptr q) u5 mE q q)<|bL.jG 17 (G2:=[(1,.obj (cm.cells a0)),(4,ak gy (dx.1.set s2.2.toNat (⟨jK.Kernel,jK.e'++[(⟨dc,gK⟩:Move)]⟩:State))),(5,ah aI aF),(6,j s2.2),(8,ah aI bQ),(11,j dx.2)]) (cj.Bt (en:=gy) (en2:=kY) (M:=[(⟨dc,gK⟩:Move)]) (y2:=(⟨jK.Kernel,jK.e'++[(⟨dc,gK⟩:Move)]⟩:State)) (x2:=ak gy (dx.1.set s2.2.toNat (⟨jK.Kernel,jK.e'++[(⟨dc,gK⟩:Move)]⟩:State))) (y0:=.own gy.z dx.1.length ((ch gy dx.1).set (s2.2.toNat * gy.z+1) .dead)) q q (.ptr q) (.bX q) q q mE q q .j8 .gR q q MJ q q q q q q (.n q q (.b q (.n q q (.n q q (.n q q (.n q q .nil))))))) q q q q (by kernel_rfl) (by kernel_rfl)<|bL.fin q q q (fp q q q q q q)) ?_
       refine af.bk ?_
       refine af.aX<|W.bm [1,4,5,6,8,11] (bq q<|aj (O.add (.lit q) (.k q))<|ar.bm [1,4,5,6,8,55] q<|ar.aW) ?_
       obtain rfl:=au h
       exact af.go (fp q q q q q q)
    ·refine W.da ?_
     refine af.c' ?_
     obtain rfl:=au h
     exact af.x2 (dA q q q q)
   ·subst J
    refine af.db ?_
    refine af.bk ?_
    refine af.aX<|W.bm [1,4,5,6] (bq q<|aj (O.add (.lit q) (.k q))<|ar.bm [1,4,5,25] q<|ar.aW) ?_
    obtain rfl:=au h
    exact af.go (dA q q q q)
   ·subst J
    refine af.dv ?_
    refine af.dv ?_
    refine af.cK ?_
    obtain rfl:=au h
    exact af.fP (fG q q)
  ·refine W.da ?_
   refine af.c' ?_
   obtain rfl:=au h
   exact af.x2 (.n q .nil)
 ·subst J
  refine af.db ?_
  refine af.aX<|W.bY [2,3] (aj (O.aA (.own q))<|ar.gd (G2:=[]) q (cj.iR q q (.bn q) q .nil q q)<|ar.aW) ?_
  refine W.e7 (G1:=[(2,ah cP bE),(3,_)]) [2] (.z q q .hj (.n q q .nil)) ?_
  refine W.rt ?_
  obtain rfl:=au h
  exact cx (.f q q (.f q q .nil))
 ·subst J
  refine af.dv ?_
  refine af.cK ?_
  obtain rfl:=au h
  exact cx (.f q q (.f q q .nil))
theorem OZ (a0:Source) (r:b_ × (List State) × Bool) (h:A0 a0=some r):cb Try.prog 52 [.agg (dY.cells a0)] [none] (.cB [.agg (cm.cells r.1),ah cP r.2.1,a1 r.2.2]):=by
 unfold A0 at h
 refine cb.go (N:=⟨26,[]⟩) Try.func52 q q q q (W.fin ?_)
 refine W.st [(0,.agg (dY.cells a0))] ?_
 refine W.bY [1,2] (aj (O.box (.b' q q) q)<|aj (O.fL (cs:=[.aK,.aK,.aK,ai aC,ai aC]) og q q)<|ar.aW) ?_
 obtain ⟨aF,fI,h⟩:=ay h
 refine W.bY [2,5,6] (aj (O.dW (cs':=[ai a0.bA,ah de a0.Decls,ah ia a0.eG,ai a0.bF]) q (.obj q) uQ q q)<|ee (cu.go (.b0 (.b' q q) .nil) (O5 a0 _ fI) call68 q)<|aj (O.aA (.cB q q))<|aj (O.ex (y:=.agg (cm.cells aF.1)) q q q)<|aj (O.ex (y:=a1 aF.2) q q q)<|aj (O.fL (cs:=[.aK,.aK,.aK,ai aC,ai aC]) og q q)<|ar.dI (G2:=[(2,_),(5,_),(13,_)]) (cs2:=[ah bp aF.1.a',ah a6 aF.1.bu,ah bG aF.1.ba,ai aF.1.bA,ai aF.1.bF]) q (.obj q) (.b' q q) q mR q q q q (.n q q (.b q (.n q q .nil)))<|ar.aW) ?_
 refine W.aZ<|W.aU [2,5,15] ?_
 refine W.bw h q (λcO h=>?_) (λcO h=>?_)
 ·refine W.bY [2,3,4] (aj (O.dW (cs':=[ah bp aF.1.a',ah a6 aF.1.bu,ah bG aF.1.ba,ai aF.1.bA,ai aF.1.bF]) q (.obj q) gv q q)<|ar.dI (G2:=[(2,_)]) (cs2:=[ah bp aF.1.a',ah a6 aF.1.bu,ah bG aF.1.ba,ai aF.1.bA,ai aF.1.bF]) q (.obj q) (.b' q q) q mR q q q q (.b q .nil)<|ar.aW) ?_
  refine W.e7 (G1:=[(2,_),(3,ah cP ([]:List State)),(4,_)]) [3] (.n q q (.z q q .hj (.n q q .nil))) ?_
  refine W.rt ?_
  refine af.cK ?_
  obtain rfl:=au h
  exact cx (.c (ys0:=[ah bp aF.1.a',ah a6 aF.1.bu,ah bG aF.1.ba,ai aF.1.bA,ai aF.1.bF]) q gv q q q (.f q (.f q (.f q (.f q (.f q .nil))))) (.f q q (.f q q .nil)))
 ·refine W.bI<|af.aX ?_
  obtain ⟨a_,hd,h⟩:=ay h
  refine W.bY [2,5,7,8] (aj (O.dW (cs':=[ah bp aF.1.a',ah a6 aF.1.bu,ah bG aF.1.ba,ai aF.1.bA,ai aF.1.bF]) q (.obj q) gv q q)<|ee (cu.go (.b0 (.b' q q) .nil) (O6 aF.1 _ hd) call69 q)<|aj (O.aA (.Bw q q))<|aj (O.ex (y:=ah cP a_.1) q q q)<|aj (O.ex (y:=j a_.2) q q q)<|ar.aW) ?_
  refine W.bY [2,3,4] (aj (O.dW (cs':=[ah bp aF.1.a',ah a6 aF.1.bu,ah bG aF.1.ba,ai aF.1.bA,ai aF.1.bF]) q (.obj q) gv q q)<|aj (O.aA (.aE q))<|bq q<|aj (O.eql (.lit q) (.k q))<|ar.dI (G2:=[(2,_),(23,_),(25,_)]) (cs2:=[ah bp aF.1.a',ah a6 aF.1.bu,ah bG aF.1.ba,ai aF.1.bA,ai aF.1.bF]) q (.obj q) (.b' q q) q mR q q q q (.b q (.n q q (.n q q .nil)))<|ar.aW) ?_
  refine W.rt ?_
  obtain rfl:=au h
  exact cx (.c (ys0:=[ah bp aF.1.a',ah a6 aF.1.bu,ah bG aF.1.ba,ai aF.1.bA,ai aF.1.bF]) q gv q q q (.f q (.f q (.f q (.f q (.f q .nil))))) (.f q q (.f q q .nil)))
theorem y3 (a0:(List State)) (aw:Int) (a2:Int) (r:Int) (h:p9 a0 aw a2=some r):cb Try.prog 59 [ah cP a0,j aw,j a2] [none,none,none] (j r):=by
 unfold p9 at h
 refine cb.go (N:=⟨48,[]⟩) Try.func59 q q q q (W.fin ?_)
 refine W.st [(0,ah cP a0),(1,j aw),(2,j a2)] ?_
 refine W.aU [0,1,2] ?_
 refine W.aZ<|W.aU [0,1,2,7] ?_
 refine W.bk ?_
 obtain ⟨x2,ao,h⟩:=ay h
 refine W.cf (G1:=[(0,_),(1,_),(2,_),(7,_)]) (dA q q q q) ?_
 refine W.iH (s:=0) (λ(s1:Int)=>[(0,ah cP a0),(1,j aw),(2,j a2),(7,j s1)]) 0 (λ(a_:Unit)=>[]) (λ(bE:Int)=>[(6,j bE)]) ao (λs1 o h=>?_) (λa_ J=>?_) (λbE J=>?_)
 ·clear ao
  refine W.aZ ?_
  obtain ⟨sc,aa,h⟩:=ay h
  refine W.rs [(0,ah cP a0),(1,j aw),(2,j a2),(7,j s1),(25,a1 sc)] ?_ ?_
  ·refine bq q<|aj (O.geq (.lit q) (.k q))<|aj (O.aA (.lit q)) ?_
   rcases cz aa with ⟨dD,aa⟩ | ⟨dD,aa⟩
   ·refine aM dD (O.aA (.lit q))<|aM dD (O.aA (.aE q))<|aM dD (O.h0 (.aE q) mP)<|aM dD (O.lss (.lit q) (.lit q))<|aj (O.dS (.lit q) dD (.lit q))<|aj (O.aA (.lit q)) ?_
    rcases cz aa with ⟨ec,aa⟩ | ⟨ec,aa⟩
    ·refine aM ec (O.aA (.lit q))<|aM ec (O.aA (.aE q))<|aM ec (O.aA (.lit q)) ?_
     obtain ⟨bz,gq,aa⟩:=ay aa
     obtain rfl:=au aa
     exact ar.aW
    ·obtain rfl:=au aa
     exact ar.aW
   ·obtain rfl:=au aa
    exact ar.aW
  refine W.bw h q (λdp h=>?_) (λdp h=>?_)
  ·refine W.bI<|af.aX ?_
   refine W.aZ<|W.bk ?_
   obtain ⟨bQ,jJ,h⟩:=ay h
   obtain ⟨b1,hn,h⟩:=ay h
   refine W.aU [0,1,2,7,38] ?_
   refine W.bw h q (λeb h=>?_) (λeb h=>?_)
   ·obtain ⟨ei,kG,h⟩:=ay h
    obtain ⟨eo,km,h⟩:=ay h
    refine W.aU [6] ?_
    refine W.rt ?_
    refine af.dv ?_
    refine af.cK ?_
    obtain rfl:=au h
    exact af.fP (.n q .nil)
   ·refine W.bI<|af.bk ?_
    refine af.aX<|W.bm [0,1,2,7] (bq q<|aj (O.add (.lit q) (.k q))<|ar.bm [0,1,2,27] q<|ar.aW) ?_
    obtain rfl:=au h
    exact af.go (dA q q q q)
  ·refine W.da ?_
   refine af.c' ?_
   obtain rfl:=au h
   exact af.x2 .nil
 ·subst J
  refine af.db ?_
  refine af.aX<|W.aU [6] ?_
  refine W.rt ?_
  obtain rfl:=au h
  exact cx (.f q q .nil)
 ·subst J
  refine af.dv ?_
  refine af.cK ?_
  obtain rfl:=au h
  exact cx (.f q q .nil)
theorem Jv (a0:Cell) (r:Int) (h:ya a0=some r):cb Try.prog 66 [.agg (fa.cells a0)] [none] (j r):=by
 unfold ya at h
 refine cb.go (N:=⟨17,[]⟩) Try.func66 q q q q (W.fin ?_)
 refine W.st [(0,.agg (fa.cells a0))] ?_
 refine W.bY [1] (aj (O.box (.b' q q) q)<|ar.aW) ?_
 refine W.aU [1,3] ?_
 refine W.aZ<|W.aU [1,3,9] ?_
 obtain ⟨je,aa,h⟩:=ay h
 refine W.bB [(1,.obj (fa.cells a0)),(3,j je)] ?_ ?_
 ·clear h; have h:=aa; clear aa
  refine W.bw h q (λcO h=>?_) (λcO h=>?_)
  ·refine W.bm [1,3] (bq q<|aj (O.add (.lit q) (.k q))<|ar.bm [1,11] q<|ar.aW) ?_
   obtain rfl:=au h
   exact af.bB (fG q q)
  ·refine W.bI ?_
   obtain rfl:=au h
   exact af.bB (fG q q)
 refine af.aX<|W.aZ ?_
 refine W.aU [3,13] ?_
 obtain ⟨dG,aa,h⟩:=ay h
 refine W.bB [(3,j dG)] ?_ ?_
 ·clear h; have h:=aa; clear aa
  refine W.bw h q (λdd h=>?_) (λdd h=>?_)
  ·refine W.bm [3] (bq q<|aj (O.add (.lit q) (.k q))<|ar.bm [15] q<|ar.aW) ?_
   obtain rfl:=au h
   exact af.bB (.n q .nil)
  ·refine W.bI ?_
   obtain rfl:=au h
   exact af.bB (.n q .nil)
 refine af.aX<|W.aU [2] ?_
 refine W.rt ?_
 obtain rfl:=au h
 exact cx (.f q q .nil)
theorem O0 (a0:b_) (aw:(List State)) (a2:(List jV)) (r:(List Cell)) (h:A1 a0 aw a2=some r):cb Try.prog 53 [.agg (cm.cells a0),ah cP aw,ah hN a2] [none,none,none] (ah fa r):=by
 unfold A1 at h
 refine cb.go (N:=⟨108,[]⟩) Try.func53 q q q q (W.fin ?_)
 refine W.st [(0,.agg (cm.cells a0)),(1,ah cP aw),(2,ah hN a2)] ?_
 refine W.bY [1,2,3] (aj (O.box (.b' q q) q)<|ar.aW) ?_
 refine W.aU [1,2,3,7] ?_
 refine W.aZ<|W.aU [1,2,3,7,8] ?_
 refine W.bk ?_
 obtain ⟨x2,ao,h⟩:=ay h
 refine W.cf (G1:=[(1,_),(2,_),(3,_),(7,ak fa ([]:List Cell)),(8,_)]) (.n q (.n q (.n q (.w q q .mK (.n q .nil))))) ?_
 refine W.eO (s:=(([]:List Cell),0)) (λ(s1:List Cell × Int)=>[(1,ah cP aw),(2,ah hN a2),(3,.obj (cm.cells a0)),(7,ak fa s1.1),(8,j s1.2)]) 0 (λ(x2:List Cell)=>[(7,ak fa x2)]) ao (λs1 o h=>?_) ?_
 ·clear ao
  refine W.aZ<|W.aU [1,2,3,7,8,17] ?_
  refine W.bw h q (λdd h=>?_) (λdd h=>?_)
  ·refine W.bI<|af.aX ?_
   refine W.aZ<|W.bk ?_
   refine W.aU [1,2,3,7,8,9] ?_
   refine W.bk ?_
   obtain ⟨bx,ao,h⟩:=ay h
   refine W.cf (G1:=[(1,_),(2,_),(3,_),(7,_),(8,_),(9,_)]) (fp q q q q q q) ?_
   refine W.eO (s:=(s1.1,0)) (λ(cG:List Cell × Int)=>[(1,ah cP aw),(2,ah hN a2),(3,.obj (cm.cells a0)),(7,ak fa cG.1),(8,j s1.2),(9,j cG.2)]) 2 (λ(bx:List Cell)=>[(1,ah cP aw),(2,ah hN a2),(3,.obj (cm.cells a0)),(7,ak fa bx),(8,j s1.2)]) ao (λcG o h=>?_) ?_
   ·clear ao
    refine W.aZ<|W.aU [1,2,3,7,8,9,24] ?_
    refine W.bw h q (λc6 h=>?_) (λc6 h=>?_)
    ·refine W.bI<|af.aX ?_
     refine W.aZ ?_
     obtain ⟨pf,aa,h⟩:=ay h
     refine W.bB [(1,ah cP aw),(2,ah hN a2),(3,.obj (cm.cells a0)),(7,ak fa pf),(8,j s1.2),(9,j cG.2)] ?_ ?_
     ·clear h; have h:=aa; clear aa
      refine W.bk ?_
      obtain ⟨bQ,jJ,h⟩:=ay h
      refine W.bY [1,2,3,7,8,9,10] (bq q<|bq q<|aj (O.aA (.aE q))<|bq q<|bq q<|ee (cu.go (.b0 (.aE q) (.b0 (.lit q) (.b0 (.lit q) .nil))) (y3 aw s1.2 cG.2 _ jJ) call59 q)<|aj (O.dR (cs:=[j s1.2,j cG.2,j bQ,a1 false,.aK]) T9 Nf q q q)<|aj (O.fL (cs:=[j 0,j 0,j 0,a1 false,.aK]) Nf q q)<|ar.dI (G2:=[(1,_),(2,_),(3,_),(7,_),(8,_),(9,_),(10,_)]) (cs2:=[j s1.2,j cG.2,j bQ,a1 false,.aK]) q (.obj q) (.b' q q) q Uv q q q q (.n q q (.n q q (.n q q (.n q q (.n q q (.n q q (.b q .nil)))))))<|bS q) ?_
      refine W.aZ<|W.aU [1,2,3,7,8,9,10,11] ?_
      refine W.bk ?_
      obtain ⟨dU,ao,h⟩:=ay h
      refine W.cf (G1:=[(1,_),(2,_),(3,_),(7,_),(8,_),(9,_),(10,_),(11,_)]) (ko q q q q q q q q) ?_
      refine W.eO (s:=(false,0)) (λ(ka:Bool × Int)=>[(1,ah cP aw),(2,ah hN a2),(3,.obj (cm.cells a0)),(7,ak fa cG.1),(8,j s1.2),(9,j cG.2),(10,.obj [j s1.2,j cG.2,j bQ,a1 ka.1,.aK]),(11,j ka.2)]) 4 (λ(dU:Bool)=>[(1,ah cP aw),(2,ah hN a2),(3,.obj (cm.cells a0)),(7,ak fa cG.1),(8,j s1.2),(9,j cG.2),(10,.obj [j s1.2,j cG.2,j bQ,a1 dU,.aK])]) ao (λka o h=>?_) ?_
      ·clear ao
       refine W.aZ ?_
       obtain ⟨eo,km,h⟩:=ay h
       refine W.aU [1,2,3,7,8,9,10,11,41] ?_
       refine W.bw h q (λqG h=>?_) (λqG h=>?_)
       ·refine W.bI<|af.aX ?_
        refine W.aZ<|W.bk ?_
        obtain ⟨ck,k6,h⟩:=ay h
        obtain ⟨b2,hY,h⟩:=ay h
        refine W.bY [1,2,3,7,8,9,10,11,12] (aj (O.aA (.aE q))<|bq q<|aj (O.cC (.aE q) (.lit q) mP k6)<|aj (O.ej (.bo q) u4)<|aj (O.c9 (x:=ah dw ck.Kernel) (.bo q) u0 q)<|bq q<|aj (O.cC (.aE q) (.lit q) kb hY)<|aj (O.iV (cs':=[j b2.Prod,j b2.dP]) (.bo q) pP q q)<|aj (O.fL (cs:=[j 0,j 0]) DN q q)<|ar.dI (G2:=[(1,_),(2,_),(3,_),(7,_),(8,_),(9,_),(10,_),(11,_),(12,_)]) (cs2:=[j b2.Prod,j b2.dP]) q (.obj q) (.b' q q) q Uo q q q q (.n q q (.n q q (.n q q (.n q q (.n q q (.n q q (.n q q (.n q q (.b q .nil)))))))))<|bS q) ?_
        obtain ⟨rr,aa,h⟩:=ay h
        refine W.rx [(1,ah cP aw),(2,ah hN a2),(3,.obj (cm.cells a0)),(7,ak fa cG.1),(8,j s1.2),(9,j cG.2),(10,.obj [j s1.2,j cG.2,j bQ,a1 rr,.aK]),(11,j ka.2)] ?_ ?_
        ·refine aj (O.bh q (.obj q) u6 q)<|aj (O.cw q (.ptr q) ns q)<|aj (O.aA (.lit q)) ?_
         rcases cz aa with ⟨gW,aa⟩ | ⟨gW,aa⟩
         ·obtain rfl:=au aa
          exact b6 gW<|b6 gW<|b6 gW<|gZ<|gZ<|gZ<|b6 gW<|b6 gW<|gZ<|gZ<|gZ<|b6 gW<|aj (O.dS (.lit q) gW (.k q))<|aj (O.bh q (.obj q) u6 q)<|ar.dI (G2:=[(1,_),(2,_),(3,_),(7,_),(8,_),(9,_),(10,_),(11,_)]) (cs2:=[j s1.2,j cG.2,j bQ,a1 true,.aK]) q (.ptr q) (.lit q) q uD q q q q (.n q q (.n q q (.n q q (.n q q (.n q q (.n q q (.b q (.n q q .nil))))))))<|ar.aW
         ·refine aM gW (O.aA (.lit q))<|aM gW (O.eql (.lit q) (.k q))<|aM gW (O.aA (.lit q)) ?_
          rcases cz aa with ⟨lp,aa⟩ | ⟨lp,aa⟩
          ·refine aM lp (O.bh q (.obj q) nt q)<|aM lp (O.cw q (.ptr q) cr q)<|aM lp (O.eql (.lit q) (.k q))<|aM gW (O.dS (.lit q) lp (.lit q))<|aM gW (O.aA (.lit q)) ?_
           rcases cz aa with ⟨kD,aa⟩ | ⟨kD,aa⟩
           ·obtain rfl:=au aa
            exact aM kD (O.bh q (.obj q) rC q)<|aM kD (O.cw q (.ptr q) cr q)<|aM kD (O.eql (.lit q) (.k q))<|aM gW (O.dS (.lit q) kD (.lit q))<|aj (O.cZ (.lit q) gW (.lit q))<|aj (O.bh q (.obj q) u6 q)<|ar.dI (G2:=[(1,_),(2,_),(3,_),(7,_),(8,_),(9,_),(10,_),(11,_)]) (cs2:=[j s1.2,j cG.2,j bQ,a1 (decide (b2.dP=1)),.aK]) q (.ptr q) (.lit q) q uD q q q q (.n q q (.n q q (.n q q (.n q q (.n q q (.n q q (.b q (.n q q .nil))))))))<|ar.aW
           ·obtain rfl:=au aa
            exact b6 kD<|b6 kD<|b6 kD<|aM gW (O.cZ (.lit q) kD (.k q))<|aj (O.cZ (.lit q) gW (.lit q))<|aj (O.bh q (.obj q) u6 q)<|ar.dI (G2:=[(1,_),(2,_),(3,_),(7,_),(8,_),(9,_),(10,_),(11,_)]) (cs2:=[j s1.2,j cG.2,j bQ,a1 false,.aK]) q (.ptr q) (.lit q) q uD q q q q (.n q q (.n q q (.n q q (.n q q (.n q q (.n q q (.b q (.n q q .nil))))))))<|ar.aW
          ·obtain rfl:=au aa
           exact b6 lp<|b6 lp<|b6 lp<|aM gW (O.cZ (.lit q) lp (.k q))<|aM gW (O.aA (.lit q))<|b6 q<|b6 q<|b6 q<|aM gW (O.cZ (.lit q) q (.k q))<|aj (O.cZ (.lit q) gW (.lit q))<|aj (O.bh q (.obj q) u6 q)<|ar.dI (G2:=[(1,_),(2,_),(3,_),(7,_),(8,_),(9,_),(10,_),(11,_)]) (cs2:=[j s1.2,j cG.2,j bQ,a1 false,.aK]) q (.ptr q) (.lit q) q uD q q q q (.n q q (.n q q (.n q q (.n q q (.n q q (.n q q (.b q (.n q q .nil))))))))<|ar.aW
        refine af.bk ?_
        refine af.aX<|W.bm [1,2,3,7,8,9,10,11] (bq q<|aj (O.add (.lit q) (.k q))<|ar.bm [1,2,3,7,8,9,10,43] q<|ar.aW) ?_
        obtain rfl:=au h
        exact af.go (ko q q q q q q q q)
       ·refine W.da ?_
        refine af.c' ?_
        obtain rfl:=au h
        exact af.aF (hq q q q q q q q)
      refine af.db ?_
      refine af.aX<|W.aZ ?_
      refine W.aU [1,2,3,7,8,9,10,13] ?_
      refine W.bk ?_
      obtain ⟨fm,ao,h⟩:=ay h
      refine W.cf (G1:=[(1,_),(2,_),(3,_),(7,_),(8,_),(9,_),(10,.obj [j s1.2,j cG.2,j bQ,a1 dU,ah aI ([]:List Int)]),(13,_)]) (.n q (.n q (.n q (.n q (.n q (.n q (.w q q (kT.obj (.f (.f (.f (.f (.i .nil)))))) (.n q .nil)))))))) ?_
      refine W.eO (s:=(([]:List Int),0)) (λ(fQ:List Int × Int)=>[(1,ah cP aw),(2,ah hN a2),(3,.obj (cm.cells a0)),(7,ak fa cG.1),(8,j s1.2),(9,j cG.2),(10,.obj [j s1.2,j cG.2,j bQ,a1 dU,ah aI fQ.1]),(13,j fQ.2)]) 6 (λ(fm:List Int)=>[(1,ah cP aw),(2,ah hN a2),(3,.obj (cm.cells a0)),(7,ak fa cG.1),(8,j s1.2),(9,j cG.2),(10,.obj [j s1.2,j cG.2,j bQ,a1 dU,ah aI fm])]) ao (λfQ o h=>?_) ?_
      ·clear ao
       refine W.aZ<|W.aU [1,2,3,7,8,9,10,13,72] ?_
       refine W.bw h q (λj2 h=>?_) (λj2 h=>?_)
       ·refine W.bI<|af.aX ?_
        refine W.aZ ?_
        obtain ⟨ek,aa,h⟩:=ay h
        refine W.bB [(1,ah cP aw),(2,ah hN a2),(3,.obj (cm.cells a0)),(7,ak fa cG.1),(8,j s1.2),(9,j cG.2),(10,.obj [j s1.2,j cG.2,j bQ,a1 dU,ah aI ek]),(13,j fQ.2)] ?_ ?_
        ·clear h; have h:=aa; clear aa
         refine W.bk ?_
         obtain ⟨qv,aa,h⟩:=ay h
         refine W.rs [(1,ah cP aw),(2,ah hN a2),(3,.obj (cm.cells a0)),(7,ak fa cG.1),(8,j s1.2),(9,j cG.2),(10,.obj [j s1.2,j cG.2,j bQ,a1 dU,ah aI fQ.1]),(13,j fQ.2),(90,a1 qv)] ?_ ?_
         ·refine aj (O.aA (.aE q))<|aj (O.aA (.lit q)) ?_
          obtain ⟨gg,mD,aa⟩:=ay aa
          refine aj (O.cC (.aE q) (.lit q) Bo mD)<|aj (O.ej (.bo q) JQ)<|aj (O.c9 (x:=j gg.State) (.bo q) cr q)<|bq q<|aj (O.eql (.lit q) (.lit q))<|aj (O.aA (.lit q)) ?_
          rcases cz aa with ⟨k2,aa⟩ | ⟨k2,aa⟩
          ·refine aM k2 (O.aA (.aE q))<|aM k2 (O.aA (.lit q)) ?_
           obtain ⟨eJ,lr,aa⟩:=ay aa
           refine aM k2 (O.cC (.aE q) (.lit q) Bo lr)<|aM k2 (O.ej (.bo q) Cn)<|aM k2 (O.c9 (x:=ah aI eJ.a') (.bo q) hM q)<|aM k2 (O.aA (.lit q)) ?_
           obtain ⟨gK,nb,aa⟩:=ay aa
           obtain rfl:=au aa
           exact ar.c (cu.go (.b0 (.aE q) (.b0 (.lit q) .nil)) (Jw eJ.a' cG.2 _ nb) call70 q) q q (.hh q q k2)<|ar.aW
          ·obtain rfl:=au aa
           exact ar.aW
         obtain ⟨oJ,aa,h⟩:=ay h
         refine W.bB [(1,ah cP aw),(2,ah hN a2),(3,.obj (cm.cells a0)),(7,ak fa cG.1),(8,j s1.2),(9,j cG.2),(10,.obj [j s1.2,j cG.2,j bQ,a1 dU,ah aI oJ]),(13,j fQ.2)] ?_ ?_
         ·clear h; have h:=aa; clear aa
          refine W.bw h q (λey h=>?_) (λey h=>?_)
          ·obtain ⟨gm,n1,h⟩:=ay h
           obtain ⟨gS,vu,h⟩:=ay h
           refine W.rd [[],[0],[],[],[2,3],[2,3,4],[2,3,4,5],aP 0 7 [],aP 0 8 [],aP 0 9 []] [(1,_),(2,_),(3,_),(7,_),(8,_),(9,_),(10,_),(13,_)] ez (by kernel_rfl) (av 0 (O.bh q (.obj q) zp q)<|av 1 (O.dm (y:=ah aI fQ.1) q (.ptr q) hM q q)<|av 2 (O.aA (.aE q))<|av 3 (O.aA (.lit q))<|av 4 (O.cC (.aE q) (.lit q) Bo n1)<|av 5 (O.ej (.bo q) JR)<|av 6 (O.c9 (x:=j gm.Prod) (.bo q) cr q)<|iN 7 (cu.go (.b0 (.aE q) (.b0 (.lit q) .nil)) (uY fQ.1 gm.Prod _ vu) call67 q)<|av 8 (O.bh q (.obj q) zp q)<|bL.dI 9 (G2:=[(1,ah cP aw),(2,ah hN a2),(3,.obj (cm.cells a0)),(7,ak fa cG.1),(8,j s1.2),(9,j cG.2),(10,.obj [j s1.2,j cG.2,j bQ,a1 dU,ah aI gS]),(13,j fQ.2)]) (cs2:=[j s1.2,j cG.2,j bQ,a1 dU,ah aI gS]) q (by kernel_rfl) (by kernel_rfl) q q q (.ptr q) (.aE q) q wu q q q q (.n q q (.n q q (.n q q (.n q q (.n q q (.n q q (.b q (.n q q .nil))))))))<|bL.fin q q q (ko q q q q q q q q)) ?_
           obtain rfl:=au h
           exact af.bB (ko q q q q q q q q)
          ·refine W.bI ?_
           obtain rfl:=au h
           exact af.bB (ko q q q q q q q q)
         refine af.bk ?_
         obtain rfl:=au h
         exact af.bB (ko q q q q q q q q)
        refine af.aX<|W.bm [1,2,3,7,8,9,10,13] (bq q<|aj (O.add (.lit q) (.k q))<|ar.bm [1,2,3,7,8,9,10,74] q<|ar.aW) ?_
        obtain rfl:=au h
        exact af.go (ko q q q q q q q q)
       ·refine W.da ?_
        refine af.c' ?_
        obtain rfl:=au h
        exact af.aF (hq q q q q q q q)
      refine af.db ?_
      refine af.aX ?_
      obtain ⟨iA,qU,h⟩:=ay h
      refine W.bY [1,2,3,7,8,9,10,102] (aj (O.dW (cs':=[j s1.2,j cG.2,j bQ,a1 dU,ah aI fm]) q (.obj q) B5 q q)<|ee (cu.go (.b0 (.b' q q) .nil) (Jv (⟨s1.2,cG.2,bQ,dU,fm⟩:Cell) _ qU) call66 q)<|ar.aW) ?_
      obtain ⟨GN,aa,h⟩:=ay h
      refine W.bB [(1,ah cP aw),(2,ah hN a2),(3,.obj (cm.cells a0)),(7,ak fa GN),(8,j s1.2),(9,j cG.2)] ?_ ?_
      ·clear h; have h:=aa; clear aa
       refine W.bw h q (λsy h=>?_) (λsy h=>?_)
       ·obtain ⟨hU,ud,h⟩:=ay h
        refine W.bm [1,2,3,7,8,9] (aj (O.aA (.own q))<|aj (O.dW (cs':=[j s1.2,j cG.2,j bQ,a1 dU,ah aI fm]) q (.obj q) B5 q q)<|ar.fC (x:=ah fa [(⟨s1.2,cG.2,bQ,dU,fm⟩:Cell)]) (O.dz (ys:=[.agg [j s1.2,j cG.2,j bQ,a1 dU,ah aI fm]]) fa [(⟨s1.2,cG.2,bQ,dU,fm⟩:Cell)] Br q q q q q q U8 q q) q q .none<|aj (O.ap (en:=fa) (r:=hU) (.bn q) q (.aE q) .i NW q ud)<|ar.gd (G2:=[(1,ah cP aw),(2,ah hN a2),(3,.obj (cm.cells a0)),(8,j s1.2),(9,j cG.2)]) q (cj.mV q q (.bX q) q q q (.n q q (.n q q (.n q q (.n q q (.n q q .nil))))) q q)<|bS q) ?_
        obtain rfl:=au h
        exact af.bB (fp q q q q q q)
       ·refine W.bI ?_
        obtain rfl:=au h
        exact af.bB (fp q q q q q q)
      refine af.bk ?_
      obtain rfl:=au h
      exact af.bB (fp q q q q q q)
     refine af.aX<|W.bm [1,2,3,7,8,9] (bq q<|aj (O.add (.lit q) (.k q))<|ar.bm [1,2,3,7,8,26] q<|ar.aW) ?_
     obtain rfl:=au h
     exact af.go (fp q q q q q q)
    ·refine W.da ?_
     refine af.c' ?_
     obtain rfl:=au h
     exact af.aF (eW q q q q q)
   refine af.db ?_
   refine af.bk ?_
   refine af.aX<|W.bm [1,2,3,7,8] (bq q<|aj (O.add (.lit q) (.k q))<|ar.bm [1,2,3,7,19] q<|ar.aW) ?_
   obtain rfl:=au h
   exact af.go (eW q q q q q)
  ·refine W.da ?_
   refine af.c' ?_
   obtain rfl:=au h
   exact af.aF (.n q .nil)
 refine af.db ?_
 refine af.aX<|W.bY [6] (aj (O.aA (.own q))<|ar.gd (G2:=[]) q (cj.iR q q (.bn q) q .nil q q)<|bS q) ?_
 refine W.e7 (G1:=[(6,ah fa x2)]) [6] (.z q q .hj .nil) ?_
 refine W.rt ?_
 obtain rfl:=au h
 exact cx (.f q q .nil)
theorem Jx (a0:(List (List Int))) (aw:(List (List Int))) (r:(List (List Int))) (h:yc a0 aw=some r):cb Try.prog 84 [ak (bg aI) a0,ah (bg aI) aw] [none,none] (ak (bg aI) r):=by
 unfold yc at h
 refine cb.go (N:=⟨74,[]⟩) Try.func84 q q q q (W.fin ?_)
 refine W.st [(0,ak (bg aI) a0),(1,ah (bg aI) aw)] ?_
 refine W.aU [0,1] ?_
 refine W.aZ<|W.aU [0,1,5] ?_
 refine W.bk ?_
 obtain ⟨x2,ao,h⟩:=ay h
 refine W.cf (G1:=[(0,_),(1,_),(5,_)]) (dq q q q) ?_
 refine W.eO (s:=(a0,true)) (λ(s1:List (List Int) × Bool)=>[(0,ak (bg aI) s1.1),(1,ah (bg aI) aw),(5,a1 s1.2)]) 0 (λ(x2:List (List Int))=>[(0,ak (bg aI) x2)]) ao (λs1 o h=>?_) ?_
 ·clear ao
  refine W.aZ<|W.aU [0,1,11] ?_
  refine W.bw h q (λdd h=>?_) (λdd h=>?_)
  ·refine W.bI<|af.aX ?_
   refine W.bk<|W.aU [0,1,5] ?_
   refine W.aU [0,1,5,6] ?_
   refine W.bk ?_
   obtain ⟨bx,ao,h⟩:=ay h
   refine W.cf (G1:=[(0,_),(1,_),(5,_),(6,_)]) (dA q q q q) ?_
   refine W.eO (s:=(s1.1,false,0)) (λ(cG:List (List Int) × Bool × Int)=>[(0,ak (bg aI) cG.1),(1,ah (bg aI) aw),(5,a1 cG.2.1),(6,j cG.2.2)]) 2 (λ(bx:List (List Int) × Bool)=>[(0,ak (bg aI) bx.1),(1,ah (bg aI) aw),(5,a1 bx.2)]) ao (λcG o h=>?_) ?_
   ·clear ao
    refine W.aZ<|W.aU [0,1,5,6,15] ?_
    refine W.bw h q (λc6 h=>?_) (λc6 h=>?_)
    ·refine W.bI<|af.aX ?_
     refine W.aZ<|W.bk ?_
     obtain ⟨cF,jP,h⟩:=ay h
     refine W.aU [0,1,5,6,7] ?_
     obtain ⟨bQ,jJ,h⟩:=ay h
     refine W.bY [0,1,5,6,7,8] (aj (O.aA (.own q))<|bq q<|aj (O.gX (en:=(bg aI)) q (.bn q) (.lit q) ly jJ q)<|aj (O.jv (en:=(bg aI)) (x':=ah aI bQ) q (.ptr q) hM jJ q q)<|ar.aW) ?_
     refine W.aZ<|W.aU [0,1,5,6,7,8,9] ?_
     refine W.bk ?_
     obtain ⟨dU,ao,h⟩:=ay h
     refine W.cf (G1:=[(0,_),(1,_),(5,_),(6,_),(7,_),(8,_),(9,_)]) (hq q q q q q q q) ?_
     refine W.eO (s:=(cG.1,0)) (λ(ka:List (List Int) × Int)=>[(0,ak (bg aI) ka.1),(1,ah (bg aI) aw),(5,a1 cG.2.1),(6,j cG.2.2),(7,ah aI cF),(8,j (bQ.length:Int)),(9,j ka.2)]) 4 (λ(dU:List (List Int))=>[(0,ak (bg aI) dU),(1,ah (bg aI) aw),(5,a1 cG.2.1),(6,j cG.2.2),(8,j (bQ.length:Int))]) ao (λka o h=>?_) ?_
     ·clear ao
      refine W.aZ<|W.aU [0,1,5,6,7,8,9,30] ?_
      refine W.bw h q (λeM h=>?_) (λeM h=>?_)
      ·refine W.bI<|af.aX ?_
       refine W.aZ<|W.bk ?_
       refine W.aU [0,1,5,6,7,8,9,10] ?_
       refine W.bk ?_
       obtain ⟨ck,ao,h⟩:=ay h
       refine W.cf (G1:=[(0,_),(1,_),(5,_),(6,_),(7,_),(8,_),(9,_),(10,_)]) (ko q q q q q q q q) ?_
       refine W.eO (s:=(ka.1,0)) (λ(iX:List (List Int) × Int)=>[(0,ak (bg aI) iX.1),(1,ah (bg aI) aw),(5,a1 cG.2.1),(6,j cG.2.2),(7,ah aI cF),(8,j (bQ.length:Int)),(9,j ka.2),(10,j iX.2)]) 6 (λ(ck:List (List Int))=>[(0,ak (bg aI) ck),(1,ah (bg aI) aw),(5,a1 cG.2.1),(6,j cG.2.2),(7,ah aI cF),(8,j (bQ.length:Int)),(9,j ka.2)]) ao (λiX o h=>?_) ?_
       ·clear ao
        refine W.aZ ?_
        obtain ⟨eZ,j5,h⟩:=ay h
        obtain ⟨eD,mA,h⟩:=ay h
        refine W.bY [0,1,5,6,7,8,9,10,42] (bq q<|aj (O.aA (.own q))<|aj (O.aA (.aE q))<|bq q<|aj (O.cC (.aE q) (.lit q) fk j5)<|aj (O.c9 (x:=j eZ) (.bo q) cr q)<|aj (O.gX (en:=(bg aI)) q (.bn q) (.lit q) ly mA q)<|aj (O.jv (en:=(bg aI)) (x':=ah aI eD) q (.ptr q) hM mA q q)<|ar.aW) ?_
        refine W.bw h q (λkD h=>?_) (λkD h=>?_)
        ·refine W.bI<|af.aX ?_
         refine W.aZ<|W.bk ?_
         obtain ⟨c8,mB,h⟩:=ay h
         obtain ⟨gf,n0,h⟩:=ay h
         obtain ⟨fm,pd,h⟩:=ay h
         obtain ⟨gr,mC,h⟩:=ay h
         obtain ⟨eQ,k7,h⟩:=ay h
         refine W.rd [[],[],[],[],[2,3],[2,3,4],[],[],[],[7,8],[7,8,9],aP 6 5 [],aP 6 6 [],[],aP 6 8 [],aP 6 9 [],aP 2 14 [],aP 0 17 [],aP 0 18 []] [(0,_),(1,_),(5,_),(6,_),(7,_),(8,_),(9,_),(10,_)] ez (by kernel_rfl) (av 0 (O.aA (.own q))<|av 1 (O.aA (.lit q))<|av 2 (O.aA (.own q))<|av 3 (O.aA (.lit q))<|av 4 (O.gX (en:=(bg aI)) q (.bn q) (.lit q) ly mB q)<|av 5 (O.jv (en:=(bg aI)) (x':=ah aI c8) q (.ptr q) hM mB q q)<|av 6 (O.aA (.own q))<|av 7 (O.aA (.aE q))<|av 8 (O.aA (.lit q))<|av 9 (O.cC (.aE q) (.lit q) fk n0)<|av 10 (O.c9 (x:=j gf) (.bo q) cr q)<|av 11 (O.gX (en:=(bg aI)) q (.bn q) (.lit q) ly pd q)<|av 12 (O.jv (en:=(bg aI)) (x':=ah aI fm) q (.ptr q) hM pd q q)<|av 13 (O.aA (.lit q))<|av 14 (O.cC (.aE q) (.lit q) fk mC)<|av 15 (O.c9 (x:=j gr) (.bo q) cr q)<|iN 16 (cu.go (.b0 (.aE q) (.b0 (.lit q) .nil)) (uY c8 gr _ k7) call67 q)<|av 17 (O.gX (en:=(bg aI)) q (.bn q) (.lit q) ly mB q)<|bL.jG 18 (G2:=[(0,ak (bg aI) (iX.1.set cG.2.2.toNat eQ)),(1,ah (bg aI) aw),(5,a1 cG.2.1),(6,j cG.2.2),(7,ah aI cF),(8,j (bQ.length:Int)),(9,j ka.2),(10,j iX.2)]) (cj.pC (en:=(bg aI)) (y2:=eQ) (cs':=[ah aI eQ]) (x2:=ak (bg aI) (iX.1.set cG.2.2.toNat eQ)) q q (.ptr q) (.aE q) q mB wu q q q q q q q (.b q (.n q q (.n q q (.n q q (.n q q (.n q q (.n q q (.n q q .nil))))))))) q q q q (by kernel_rfl) (by kernel_rfl)<|bL.fin q q q (ko q q q q q q q q)) ?_
         refine af.bk ?_
         refine af.aX<|W.bm [0,1,5,6,7,8,9,10] (bq q<|aj (O.add (.lit q) (.k q))<|ar.bm [0,1,5,6,7,8,9,44] q<|ar.aW) ?_
         obtain rfl:=au h
         exact af.go (ko q q q q q q q q)
        ·refine W.da ?_
         refine af.c' ?_
         obtain rfl:=au h
         exact af.aF (hq q q q q q q q)
       refine af.db ?_
       refine af.bk ?_
       refine af.aX<|W.bm [0,1,5,6,7,8,9] (bq q<|aj (O.add (.lit q) (.k q))<|ar.bm [0,1,5,6,7,8,32] q<|ar.aW) ?_
       obtain rfl:=au h
       exact af.go (hq q q q q q q q)
      ·refine W.da ?_
       refine af.c' ?_
       obtain rfl:=au h
       exact af.aF (eW q q q q q)
     refine af.db ?_
     refine af.aX ?_
     obtain ⟨sa,aa,h⟩:=ay h
     refine W.rx [(0,ak (bg aI) dU),(1,ah (bg aI) aw),(5,a1 sa),(6,j cG.2.2)] ?_ ?_
     ·refine bq q<|aj (O.aA (.lit q)) ?_
      rcases cz aa with ⟨gM,aa⟩ | ⟨gM,aa⟩
      ·obtain rfl:=au aa
       exact b6 gM<|b6 gM<|b6 gM<|b6 gM<|b6 gM<|b6 gM<|b6 gM<|aj (O.dS (.lit q) gM (.k q))<|ar.bm [0,1,6,72] q<|ar.aW
      ·refine aM gM (O.aA (.own q))<|aM gM (O.aA (.lit q)) ?_
       obtain ⟨gg,mD,aa⟩:=ay aa
       obtain rfl:=au aa
       exact aM gM (O.gX (en:=(bg aI)) q (.bn q) (.lit q) ly mD q)<|aM gM (O.jv (en:=(bg aI)) (x':=ah aI gg) q (.ptr q) hM mD q q)<|aM gM (O.h0 (.aE q) fk)<|aM gM (O.aA (.lit q))<|aM gM (O.neq (.lit q) (.lit q))<|aj (O.cZ (.lit q) gM (.lit q))<|ar.bm [0,1,6,72] q<|ar.aW
     refine af.bk ?_
     refine af.aX<|W.bm [0,1,5,6] (bq q<|aj (O.add (.lit q) (.k q))<|ar.bm [0,1,5,17] q<|ar.aW) ?_
     obtain rfl:=au h
     exact af.go (dA q q q q)
    ·refine W.da ?_
     refine af.c' ?_
     obtain rfl:=au h
     exact af.aF (dq q q q)
   refine af.db ?_
   refine af.bk ?_
   obtain rfl:=au h
   exact af.go (dq q q q)
  ·refine W.da ?_
   refine af.c' ?_
   obtain rfl:=au h
   exact af.aF (.n q .nil)
 refine af.db ?_
 refine af.aX<|W.bY [4] (aj (O.aA (.own q))<|ar.gd (G2:=[]) q (cj.iR q q (.bn q) q .nil q q)<|bS q) ?_
 refine W.rt ?_
 obtain rfl:=au h
 exact cx (.o q .nil)
theorem Cf (a0:(List State)) (r:(List Trans)) (h:pr a0=some r):cb Try.prog 88 [ah cP a0] [none] (ah fV r):=by
 unfold pr at h
 refine cb.go (N:=⟨47,[]⟩) Try.func88 q q q q (W.fin ?_)
 refine W.st [(0,ah cP a0)] ?_
 refine W.aU [0] ?_
 refine W.aU [0,3] ?_
 refine W.aZ<|W.aU [0,3,4] ?_
 refine W.bk ?_
 obtain ⟨x2,ao,h⟩:=ay h
 refine W.cf (G1:=[(0,_),(3,ak fV ([]:List Trans)),(4,_)]) (.n q (.w q q .mK (.n q .nil))) ?_
 refine W.eO (s:=(([]:List Trans),0)) (λ(s1:List Trans × Int)=>[(0,ah cP a0),(3,ak fV s1.1),(4,j s1.2)]) 0 (λ(x2:List Trans)=>[(3,ak fV x2)]) ao (λs1 o h=>?_) ?_
 ·clear ao
  refine W.aZ<|W.aU [0,3,4,9] ?_
  refine W.bw h q (λdd h=>?_) (λdd h=>?_)
  ·refine W.bI<|af.aX ?_
   refine W.aZ<|W.bk ?_
   refine W.aU [0,3,4,5] ?_
   refine W.bk ?_
   obtain ⟨bx,ao,h⟩:=ay h
   refine W.cf (G1:=[(0,_),(3,_),(4,_),(5,_)]) (dA q q q q) ?_
   refine W.eO (s:=(s1.1,0)) (λ(cG:List Trans × Int)=>[(0,ah cP a0),(3,ak fV cG.1),(4,j s1.2),(5,j cG.2)]) 2 (λ(bx:List Trans)=>[(0,ah cP a0),(3,ak fV bx),(4,j s1.2)]) ao (λcG o h=>?_) ?_
   ·clear ao
    refine W.aZ ?_
    obtain ⟨b3,ho,h⟩:=ay h
    refine W.aU [0,3,4,5,19] ?_
    refine W.bw h q (λdp h=>?_) (λdp h=>?_)
    ·refine W.bI<|af.aX ?_
     refine W.aZ ?_
     obtain ⟨j6,aa,h⟩:=ay h
     refine W.bB [(0,ah cP a0),(3,ak fV j6),(4,j s1.2),(5,j cG.2)] ?_ ?_
     ·clear h; have h:=aa; clear aa
      refine W.bk ?_
      obtain ⟨b1,hn,h⟩:=ay h
      obtain ⟨dU,lO,h⟩:=ay h
      refine W.aU [0,3,4,5,31] ?_
      obtain ⟨j7,aa,h⟩:=ay h
      refine W.bB [(0,ah cP a0),(3,ak fV j7),(4,j s1.2),(5,j cG.2)] ?_ ?_
      ·clear h; have h:=aa; clear aa
       refine W.bw h q (λeM h=>?_) (λeM h=>?_)
       ·obtain ⟨cA,ic,h⟩:=ay h
        obtain ⟨ck,k6,h⟩:=ay h
        obtain ⟨b2,hY,h⟩:=ay h
        refine W.bm [0,3,4,5] (aj (O.aA (.own q))<|bq q<|aj (O.aA (.aE q))<|bq q<|aj (O.cC (.aE q) (.lit q) mP ic)<|aj (O.ej (.bo q) u5)<|aj (O.c9 (x:=ah kY cA.e') (.bo q) y5 q)<|bq q<|aj (O.cC (.aE q) (.lit q) Bp k6)<|aj (O.ej (.bo q) EP)<|aj (O.c9 (x:=j ck.Sym) (.bo q) cr q)<|aj (O.dR (cs:=[j s1.2,j ck.Sym]) T6 UZ q q q)<|ar.fC (x:=ah fV [(⟨s1.2,ck.Sym⟩:Trans)]) (O.dz (ys:=[.agg [j s1.2,j ck.Sym]]) fV [(⟨s1.2,ck.Sym⟩:Trans)] qd q q q q q q U5 q q) q q .none<|aj (O.ap (en:=fV) (r:=b2) (.bn q) q (.aE q) .i NP q hY)<|ar.gd (G2:=[(0,ah cP a0),(4,j s1.2),(5,j cG.2)]) q (cj.mV q q (.bX q) q q q (.n q q (.n q q (.n q q .nil))) q q)<|bS q) ?_
        obtain rfl:=au h
        exact af.bB (dA q q q q)
       ·refine W.bI ?_
        obtain rfl:=au h
        exact af.bB (dA q q q q)
      refine af.bk ?_
      obtain rfl:=au h
      exact af.bB (dA q q q q)
     refine af.aX<|W.bm [0,3,4,5] (bq q<|aj (O.add (.lit q) (.k q))<|ar.bm [0,3,4,21] q<|ar.aW) ?_
     obtain rfl:=au h
     exact af.go (dA q q q q)
    ·refine W.da ?_
     refine af.c' ?_
     obtain rfl:=au h
     exact af.aF (dq q q q)
   refine af.db ?_
   refine af.bk ?_
   refine af.aX<|W.bm [0,3,4] (bq q<|aj (O.add (.lit q) (.k q))<|ar.bm [0,3,11] q<|ar.aW) ?_
   obtain rfl:=au h
   exact af.go (dq q q q)
  ·refine W.da ?_
   refine af.c' ?_
   obtain rfl:=au h
   exact af.aF (.n q .nil)
 refine af.db ?_
 refine af.aX<|W.bY [2] (aj (O.aA (.own q))<|ar.gd (G2:=[]) q (cj.iR q q (.bn q) q .nil q q)<|bS q) ?_
 refine W.e7 (G1:=[(2,ah fV x2)]) [2] (.z q q .hj .nil) ?_
 refine W.rt ?_
 obtain rfl:=au h
 exact cx (.f q q .nil)
theorem OL (a0:(List Item)) (r:Bool) (h:AM a0=some r):cb Try.prog 104 [ah dw a0] [none] (a1 r):=by
 unfold AM at h
 refine cb.go (N:=⟨24,[]⟩) Try.func104 q q q q (W.fin ?_)
 refine W.st [(0,ah dw a0)] ?_
 refine W.aU [0] ?_
 refine W.aZ<|W.aU [0,3] ?_
 refine W.bk ?_
 obtain ⟨x2,ao,h⟩:=ay h
 refine W.cf (G1:=[(0,_),(3,_)]) (fG q q) ?_
 refine W.iH (s:=0) (λ(s1:Int)=>[(0,ah dw a0),(3,j s1)]) 0 (λ(a_:Unit)=>[]) (λ(bE:Bool)=>[(2,a1 bE)]) ao (λs1 o h=>?_) (λa_ J=>?_) (λbE J=>?_)
 ·clear ao
  refine W.aZ<|W.aU [0,3,7] ?_
  refine W.bw h q (λdD h=>?_) (λdD h=>?_)
  ·refine W.bI<|af.aX ?_
   refine W.aZ<|W.bk ?_
   obtain ⟨qw,aa,h⟩:=ay h
   refine W.rs [(0,ah dw a0),(3,j s1),(23,a1 qw)] ?_ ?_
   ·refine aj (O.aA (.aE q))<|aj (O.aA (.lit q)) ?_
    obtain ⟨bx,fJ,aa⟩:=ay aa
    refine aj (O.cC (.aE q) (.lit q) kb fJ)<|aj (O.ej (.bo q) nt)<|aj (O.c9 (x:=j bx.Prod) (.bo q) cr q)<|aj (O.eql (.lit q) (.k q))<|aj (O.aA (.lit q)) ?_
    rcases cz aa with ⟨c5,aa⟩ | ⟨c5,aa⟩
    ·refine aM c5 (O.aA (.aE q))<|aM c5 (O.aA (.lit q)) ?_
     obtain ⟨b3,ho,aa⟩:=ay aa
     obtain rfl:=au aa
     exact ar.aW
    ·obtain rfl:=au aa
     exact ar.aW
   refine W.bw h q (λeU h=>?_) (λeU h=>?_)
   ·refine W.aU [2] ?_
    refine W.rt ?_
    refine af.dv ?_
    refine af.cK ?_
    obtain rfl:=au h
    exact af.fP (.n q .nil)
   ·refine W.bI<|af.bk ?_
    refine af.aX<|W.bm [0,3] (bq q<|aj (O.add (.lit q) (.k q))<|ar.bm [0,9] q<|ar.aW) ?_
    obtain rfl:=au h
    exact af.go (fG q q)
  ·refine W.da ?_
   refine af.c' ?_
   obtain rfl:=au h
   exact af.x2 .nil
 ·subst J
  refine af.db ?_
  refine af.aX<|W.aU [2] ?_
  refine W.rt ?_
  obtain rfl:=au h
  exact cx (.f q q .nil)
 ·subst J
  refine af.dv ?_
  refine af.cK ?_
  obtain rfl:=au h
  exact cx (.f q q .nil)
theorem Pe (a0:(List State)) (r:(List (List Int))) (h:Bd a0=some r):cb Try.prog 85 [ah cP a0] [none] (ak (bg aI) r):=by
 unfold Bd at h
 refine cb.go (N:=⟨74,[]⟩) Try.func85 q q q q (W.fin ?_)
 refine W.st [(0,ah cP a0)] ?_
 refine W.aU [0] ?_
 obtain ⟨aF,fI,h⟩:=ay h
 refine W.bY [0,3] (aj (O.aA (.aE q))<|ee (cu.go (.b0 (.aE q) .nil) (Cf a0 _ fI) call88 q)<|ar.aW) ?_
 refine W.aU [0,3,4] ?_
 refine W.aZ<|W.aU [0,3,4,5] ?_
 refine W.bk ?_
 obtain ⟨a_,ao,h⟩:=ay h
 refine W.cf (G1:=[(0,_),(3,_),(4,ak (bg aI) ([]:List (List Int))),(5,_)]) (.n q (.n q (.w q q .mK (.n q .nil)))) ?_
 refine W.eO (s:=(([]:List (List Int)),0)) (λ(s2:List (List Int) × Int)=>[(0,ah cP a0),(3,ah fV aF),(4,ak (bg aI) s2.1),(5,j s2.2)]) 0 (λ(a_:List (List Int))=>[(4,ak (bg aI) a_)]) ao (λs2 o h=>?_) ?_
 ·clear ao
  refine W.aZ<|W.aU [0,3,4,5,14] ?_
  refine W.bw h q (λdD h=>?_) (λdD h=>?_)
  ·refine W.bI<|af.aX ?_
   refine W.aZ<|W.bk ?_
   refine W.aU [0,3,4,5,6] ?_
   refine W.aZ ?_
   obtain ⟨bx,fJ,h⟩:=ay h
   obtain ⟨bz,gq,h⟩:=ay h
   obtain ⟨b3,ho,h⟩:=ay h
   refine W.rd [[],[],[],[1,2],[1,2,3],[1,2,3,4],[],[],[6,7],[6,7,8],[6,7,8,9],aP 0 11 [],aP 0 12 []] [(0,_),(3,_),(4,_),(5,_),(6,_),(7,_)] ez (by kernel_rfl) (av 0 (O.aA (.aE q))<|av 1 (O.aA (.aE q))<|av 2 (O.aA (.lit q))<|av 3 (O.cC (.aE q) (.lit q) qd fJ)<|av 4 (O.ej (.bo q) xh)<|av 5 (O.c9 (x:=j bx.State) (.bo q) cr q)<|av 6 (O.aA (.aE q))<|av 7 (O.aA (.lit q))<|av 8 (O.cC (.aE q) (.lit q) qd gq)<|av 9 (O.ej (.bo q) zf)<|av 10 (O.c9 (x:=j bz.e2) (.bo q) cr q)<|iN 11 (cu.go (.b0 (.aE q) (.b0 (.lit q) (.b0 (.lit q) .nil))) (y3 a0 bx.State bz.e2 _ ho) call59 q)<|av 12 (O.dO (.lit q))<|bL.fin q q q (fp q q q q q q)) ?_
   refine af.aX<|W.aZ ?_
   obtain ⟨cF,jP,h⟩:=ay h
   obtain ⟨bQ,jJ,h⟩:=ay h
   refine W.bY [0,3,4,5,6,7,34] (aj (O.aA (.aE q))<|bq q<|aj (O.cC (.aE q) (.lit q) mP jP)<|aj (O.ej (.bo q) u4)<|aj (O.c9 (x:=ah dw cF.Kernel) (.bo q) u0 q)<|ee (cu.go (.b0 (.aE q) .nil) (OL cF.Kernel _ jJ) call104 q)<|bS q) ?_
   obtain ⟨hf,aa,h⟩:=ay h
   refine W.bB [(0,ah cP a0),(3,ah fV aF),(4,ak (bg aI) s2.1),(5,j s2.2),(6,ak aI hf),(7,j b3)] ?_ ?_
   ·clear h; have h:=aa; clear aa
    refine W.bw h q (λeb h=>?_) (λeb h=>?_)
    ·obtain ⟨ei,kG,h⟩:=ay h
     refine W.bm [0,3,4,5,6,7] (aj (O.aA (.aK q))<|ar.fC (x:=ah aI [0]) (O.dz (ys:=[j 0]) aI [0] fk q q q q q q oS q q) q q .none<|aj (O.NZ (en:=aI) (r:=ei) (.aK q) (.aE q) .i ov q kG)<|ar.gd (G2:=[(0,ah cP a0),(3,ah fV aF),(4,ak (bg aI) s2.1),(5,j s2.2),(7,j b3)]) q (cj.iR q q (.own q) q (.n q q (.n q q (.n q q (.n q q (.n q q .nil))))) q q)<|bS q) ?_
     obtain rfl:=au h
     exact af.bB (fp q q q q q q)
    ·refine W.bI ?_
     obtain rfl:=au h
     exact af.bB (.n q (.n q (.n q (.n q (.w q q .mK (.n q .nil))))))
   refine af.aX<|W.aZ ?_
   refine W.aU [0,3,4,5,6,7,8] ?_
   refine W.bk<|W.e7 (G1:=[(0,_),(3,_),(4,_),(5,_),(6,ah aI hf),(7,_),(8,_)]) [6] (.n q q (.n q q (.n q q (.n q q (.z q q .hj (.n q q (.n q q .nil))))))) ?_
   obtain ⟨cA,ao,h⟩:=ay h
   refine W.cf (G1:=[(0,_),(3,_),(4,_),(5,_),(6,_),(7,_),(8,_)]) (hq q q q q q q q) ?_
   refine W.eO (s:=(hf,0)) (λ(ij:List Int × Int)=>[(0,ah cP a0),(3,ah fV aF),(4,ak (bg aI) s2.1),(5,j s2.2),(6,ah aI ij.1),(7,j b3),(8,j ij.2)]) 2 (λ(cA:List Int)=>[(0,ah cP a0),(3,ah fV aF),(4,ak (bg aI) s2.1),(5,j s2.2),(6,ah aI cA)]) ao (λij o h=>?_) ?_
   ·clear ao
    refine W.aZ ?_
    obtain ⟨b2,hY,h⟩:=ay h
    refine W.aU [0,3,4,5,6,7,8,45] ?_
    refine W.bw h q (λgW h=>?_) (λgW h=>?_)
    ·refine W.bI<|af.aX ?_
     refine W.aZ ?_
     obtain ⟨f',aa,h⟩:=ay h
     refine W.bB [(0,ah cP a0),(3,ah fV aF),(4,ak (bg aI) s2.1),(5,j s2.2),(6,ah aI f'),(7,j b3),(8,j ij.2)] ?_ ?_
     ·clear h; have h:=aa; clear aa
      refine W.bk ?_
      obtain ⟨c0,nZ,h⟩:=ay h
      obtain ⟨c8,mB,h⟩:=ay h
      refine W.aU [0,3,4,5,6,7,8,57] ?_
      obtain ⟨qZ,aa,h⟩:=ay h
      refine W.bB [(0,ah cP a0),(3,ah fV aF),(4,ak (bg aI) s2.1),(5,j s2.2),(6,ah aI qZ),(7,j b3),(8,j ij.2)] ?_ ?_
      ·clear h; have h:=aa; clear aa
       refine W.bw h q (λeu h=>?_) (λeu h=>?_)
       ·obtain ⟨gr,mC,h⟩:=ay h
        obtain ⟨eQ,k7,h⟩:=ay h
        obtain ⟨iM,qS,h⟩:=ay h
        refine W.bm [0,3,4,5,6,7,8] (aj (O.aA (.aE q))<|aj (O.aA (.aE q))<|bq q<|aj (O.cC (.aE q) (.lit q) mP mC)<|aj (O.ej (.bo q) u5)<|aj (O.c9 (x:=ah kY gr.e') (.bo q) y5 q)<|bq q<|aj (O.cC (.aE q) (.lit q) Bp k7)<|aj (O.ej (.bo q) EP)<|aj (O.c9 (x:=j eQ.Sym) (.bo q) cr q)<|ee (cu.go (.b0 (.aE q) (.b0 (.lit q) .nil)) (uY ij.1 eQ.Sym _ qS) call67 q)<|ar.bm [0,3,4,5,7,8,68] q<|ar.aW) ?_
        obtain rfl:=au h
        exact af.bB (hq q q q q q q q)
       ·refine W.bI ?_
        obtain rfl:=au h
        exact af.bB (hq q q q q q q q)
      refine af.bk ?_
      obtain rfl:=au h
      exact af.bB (hq q q q q q q q)
     refine af.aX<|W.bm [0,3,4,5,6,7,8] (bq q<|aj (O.add (.lit q) (.k q))<|ar.bm [0,3,4,5,6,7,47] q<|ar.aW) ?_
     obtain rfl:=au h
     exact af.go (hq q q q q q q q)
    ·refine W.da ?_
     refine af.c' ?_
     obtain rfl:=au h
     exact af.aF (eW q q q q q)
   refine af.db ?_
   refine af.aX ?_
   obtain ⟨gg,mD,h⟩:=ay h
   refine W.bm [0,3,4,5] (aj (O.aA (.own q))<|aj (O.aA (.aE q))<|ar.fC (x:=ah (bg aI) [cA]) (O.dz (ys:=[ah aI cA]) (bg aI) [cA] ly q q q q q q H6 q q) q q .none<|aj (O.ap (en:=(bg aI)) (r:=gg) (.bn q) q (.aE q) .i D4 q mD)<|ar.gd (G2:=[(0,ah cP a0),(3,ah fV aF),(5,j s2.2)]) q (cj.mV q q (.bX q) q q q (.n q q (.n q q (.n q q .nil))) q q)<|bS q) ?_
   refine af.bk ?_
   refine af.aX<|W.bm [0,3,4,5] (bq q<|aj (O.add (.lit q) (.k q))<|ar.bm [0,3,4,16] q<|ar.aW) ?_
   obtain rfl:=au h
   exact af.go (dA q q q q)
  ·refine W.da ?_
   refine af.c' ?_
   obtain rfl:=au h
   exact af.aF (.n q .nil)
 refine af.db ?_
 refine af.aX<|W.bY [2] (aj (O.aA (.own q))<|ar.gd (G2:=[]) q (cj.iR q q (.bn q) q .nil q q)<|bS q) ?_
 refine W.rt ?_
 obtain rfl:=au h
 exact cx (.o q .nil)
theorem Jg (a0:(List Bool)) (aw:(List Int)) (r:Bool) (h:x0 a0 aw=some r):cb Try.prog 107 [ah bJ a0,ah aI aw] [none,none] (a1 r):=by
 unfold x0 at h
 refine cb.go (N:=⟨28,[]⟩) Try.func107 q q q q (W.fin ?_)
 refine W.st [(0,ah bJ a0),(1,ah aI aw)] ?_
 refine W.aU [0,1] ?_
 refine W.aZ<|W.aU [0,1,5] ?_
 refine W.bk ?_
 obtain ⟨x2,ao,h⟩:=ay h
 refine W.cf (G1:=[(0,_),(1,_),(5,_)]) (dq q q q) ?_
 refine W.iH (s:=0) (λ(s1:Int)=>[(0,ah bJ a0),(1,ah aI aw),(5,j s1)]) 0 (λ(a_:Unit)=>[]) (λ(bE:Bool)=>[(4,a1 bE)]) ao (λs1 o h=>?_) (λa_ J=>?_) (λbE J=>?_)
 ·clear ao
  refine W.aZ<|W.aU [0,1,5,9] ?_
  refine W.bw h q (λdD h=>?_) (λdD h=>?_)
  ·refine W.bI<|af.aX ?_
   refine W.aZ<|W.bk ?_
   obtain ⟨iS,aa,h⟩:=ay h
   refine W.rs [(0,ah bJ a0),(1,ah aI aw),(5,j s1),(27,a1 iS)] ?_ ?_
   ·refine aj (O.aA (.aE q))<|aj (O.aA (.lit q)) ?_
    obtain ⟨bx,fJ,aa⟩:=ay aa
    refine aj (O.cC (.aE q) (.lit q) fk fJ)<|aj (O.c9 (x:=j bx) (.bo q) cr q)<|aj (O.lss (.lit q) (.k q))<|aj (O.aA (.lit q)) ?_
    rcases cz aa with ⟨c5,aa⟩ | ⟨c5,aa⟩
    ·obtain rfl:=au aa
     exact ar.aW
    ·refine aM c5 (O.aA (.aE q))<|aM c5 (O.aA (.aE q))<|aM c5 (O.aA (.lit q)) ?_
     obtain ⟨b3,ho,aa⟩:=ay aa
     refine aM c5 (O.cC (.aE q) (.lit q) fk ho)<|aM c5 (O.c9 (x:=j b3) (.bo q) cr q)<|aM c5 (O.sub (.lit q) (.k q)) ?_
     obtain ⟨cF,jP,aa⟩:=ay aa
     obtain rfl:=au aa
     exact ar.aW
   refine W.bw h q (λfh h=>?_) (λfh h=>?_)
   ·refine W.aU [4] ?_
    refine W.rt ?_
    refine af.dv ?_
    refine af.cK ?_
    obtain rfl:=au h
    exact af.fP (.n q .nil)
   ·refine W.bI<|af.bk ?_
    refine af.aX<|W.bm [0,1,5] (bq q<|aj (O.add (.lit q) (.k q))<|ar.bm [0,1,11] q<|ar.aW) ?_
    obtain rfl:=au h
    exact af.go (dq q q q)
  ·refine W.da ?_
   refine af.c' ?_
   obtain rfl:=au h
   exact af.x2 .nil
 ·subst J
  refine af.db ?_
  refine af.aX<|W.aU [4] ?_
  refine W.rt ?_
  obtain rfl:=au h
  exact cx (.f q q .nil)
 ·subst J
  refine af.dv ?_
  refine af.cK ?_
  obtain rfl:=au h
  exact cx (.f q q .nil)
theorem Je (a0:b_) (r:(List Bool)) (h:xY a0=some r):cb Try.prog 105 [.agg (cm.cells a0)] [none] (ah bJ r):=by
 unfold xY at h
 refine cb.go (N:=⟨41,[]⟩) Try.func105 q q q q (W.fin ?_)
 refine W.st [(0,.agg (cm.cells a0))] ?_
 refine W.bY [1] (aj (O.box (.b' q q) q)<|ar.aW) ?_
 obtain ⟨aF,fI,h⟩:=ay h
 refine W.bY [1,3] (aj (O.bh q (.obj q) sn q)<|aj (O.dm (y:=ah a6 a0.bu) q (.ptr q) sg q q)<|aj (O.h0 (.aE q) rU)<|aj (O.mk (en:=bJ) (z0:=false) oN (.lit q) (.lit q) H2 q q fI Ed q)<|ar.gd (G2:=[(1,.obj (cm.cells a0))]) q (cj.iR q q (.own q) q (.n q q .nil) q q)<|bS q) ?_
 refine W.aZ<|W.aU [1,3,4] ?_
 refine W.bk ?_
 obtain ⟨a_,ao,h⟩:=ay h
 refine W.cf (G1:=[(1,_),(3,_),(4,_)]) (dq q q q) ?_
 refine W.eO (s:=(aF,true)) (λ(s2:List Bool × Bool)=>[(1,.obj (cm.cells a0)),(3,ak bJ s2.1),(4,a1 s2.2)]) 0 (λ(a_:List Bool)=>[(3,ak bJ a_)]) ao (λs2 o h=>?_) ?_
 ·clear ao
  refine W.aZ<|W.aU [1,3,11] ?_
  refine W.bw h q (λdD h=>?_) (λdD h=>?_)
  ·refine W.bI<|af.aX ?_
   refine W.bk<|W.aU [1,3,4] ?_
   refine W.aU [1,3,4,5] ?_
   refine W.bk ?_
   obtain ⟨bz,ao,h⟩:=ay h
   refine W.cf (G1:=[(1,_),(3,_),(4,_),(5,_)]) (dA q q q q) ?_
   refine W.eO (s:=(s2.1,false,0)) (λ(cH:List Bool × Bool × Int)=>[(1,.obj (cm.cells a0)),(3,ak bJ cH.1),(4,a1 cH.2.1),(5,j cH.2.2)]) 2 (λ(bz:List Bool × Bool)=>[(1,.obj (cm.cells a0)),(3,ak bJ bz.1),(4,a1 bz.2)]) ao (λcH o h=>?_) ?_
   ·clear ao
    refine W.aZ<|W.aU [1,3,4,5,16] ?_
    refine W.bw h q (λdp h=>?_) (λdp h=>?_)
    ·refine W.bI<|af.aX ?_
     refine W.aZ ?_
     obtain ⟨j6,aa,h⟩:=ay h
     refine W.bB [(1,.obj (cm.cells a0)),(3,ak bJ j6.1),(4,a1 j6.2),(5,j cH.2.2)] ?_ ?_
     ·clear h; have h:=aa; clear aa
      refine W.bk ?_
      obtain ⟨b1,hn,h⟩:=ay h
      refine W.bY [1,3,4,5,6] (aj (O.bh q (.obj q) lG q)<|aj (O.dm (y:=ah bG a0.ba) q (.ptr q) mY q q)<|bq q<|aj (O.cC (.aE q) (.lit q) nm hn)<|aj (O.iV (cs':=[j b1.Left,ah aI b1.fx,j b1.Prec,ai b1.Code,ah aI b1.td,j b1.At]) (.bo q) IJ q q)<|aj (O.fL (cs:=[j 0,.aK,j 0,ai aC,.aK,j 0]) BJ q q)<|ar.dI (G2:=[(1,_),(3,_),(4,_),(5,_),(6,_)]) (cs2:=[j b1.Left,ah aI b1.fx,j b1.Prec,ai b1.Code,ah aI b1.td,j b1.At]) q (.obj q) (.b' q q) q MK q q q q (.n q q (.n q q (.n q q (.n q q (.b q .nil)))))<|bS q) ?_
      obtain ⟨r',aa,h⟩:=ay h
      refine W.rs [(1,.obj (cm.cells a0)),(3,ak bJ cH.1),(4,a1 cH.2.1),(5,j cH.2.2),(6,.obj (bG.cells b1)),(35,a1 r')] ?_ ?_
      ·refine aj (O.aA (.own q))<|aj (O.bh q (.obj q) zd q)<|aj (O.cw q (.ptr q) cr q) ?_
       obtain ⟨dU,lO,aa⟩:=ay aa
       refine aj (O.gX (en:=bJ) q (.bn q) (.lit q) oN lO q)<|aj (O.jv (en:=bJ) (x':=a1 dU) q (.ptr q) ns lO q q)<|aj (O.not (.lit q))<|aj (O.aA (.lit q)) ?_
       rcases cz aa with ⟨hc,aa⟩ | ⟨hc,aa⟩
       ·refine aM hc (O.aA (.own q))<|aM hc (O.bh q (.obj q) m_ q)<|aM hc (O.dm (y:=ah aI b1.fx) q (.ptr q) hM q q) ?_
        obtain ⟨eo,km,aa⟩:=ay aa
        obtain rfl:=au aa
        exact ar.c (cu.vw (ys:=[.bn bJ.z ⟨3,[]⟩ cH.1.length,ah aI b1.fx]) q (.c (.row q) (.s .nil)) (Jg cH.1 b1.fx _ km) call107 q) q q (.hh q q hc)<|ar.aW
       ·obtain rfl:=au aa
        exact ar.aW
      obtain ⟨ni,aa,h⟩:=ay h
      refine W.bB [(1,.obj (cm.cells a0)),(3,ak bJ ni.1),(4,a1 ni.2),(5,j cH.2.2)] ?_ ?_
      ·clear h; have h:=aa; clear aa
       refine W.bw h q (λvh h=>?_) (λvh h=>?_)
       ·obtain ⟨eZ,j5,h⟩:=ay h
        refine W.bY [1,3,5] (aj (O.aA (.own q))<|aj (O.bh q (.obj q) zd q)<|aj (O.cw q (.ptr q) cr q)<|aj (O.gX (en:=bJ) q (.bn q) (.lit q) oN j5 q)<|ar.iT (G2:=[(1,.obj (cm.cells a0)),(3,ak bJ (cH.1.set b1.Left.toNat true)),(5,j cH.2.2)]) q (cj.pC (en:=bJ) (y2:=true) (cs':=[a1 true]) (x2:=ak bJ (cH.1.set b1.Left.toNat true)) q q (.ptr q) (.k q) q j5 uD q q q q q q q (.n q q (.b q (.n q q .nil))))<|bS q) ?_
        refine W.Iv [1,3,4,5] ?_
        obtain rfl:=au h
        exact af.bB (dA q q q q)
       ·refine W.bI ?_
        obtain rfl:=au h
        exact af.bB (dA q q q q)
      refine af.bk ?_
      obtain rfl:=au h
      exact af.bB (dA q q q q)
     refine af.aX<|W.bm [1,3,4,5] (bq q<|aj (O.add (.lit q) (.k q))<|ar.bm [1,3,4,18] q<|ar.aW) ?_
     obtain rfl:=au h
     exact af.go (dA q q q q)
    ·refine W.da ?_
     refine af.c' ?_
     obtain rfl:=au h
     exact af.aF (dq q q q)
   refine af.db ?_
   refine af.bk ?_
   obtain rfl:=au h
   exact af.go (dq q q q)
  ·refine W.da ?_
   refine af.c' ?_
   obtain rfl:=au h
   exact af.aF (.n q .nil)
 refine af.db ?_
 refine af.aX<|W.bY [2] (aj (O.aA (.own q))<|ar.gd (G2:=[]) q (cj.iR q q (.bn q) q .nil q q)<|bS q) ?_
 refine W.e7 (G1:=[(2,ah bJ a_)]) [2] (.z q q .hj .nil) ?_
 refine W.rt ?_
 obtain rfl:=au h
 exact cx (.f q q .nil)
theorem Jf (a0:(List Trans)) (aw:Int) (a2:Int) (r:Int) (h:xZ a0 aw a2=some r):cb Try.prog 106 [ah fV a0,j aw,j a2] [none,none,none] (j r):=by
 unfold xZ at h
 refine cb.go (N:=⟨31,[]⟩) Try.func106 q q q q (W.fin ?_)
 refine W.st [(0,ah fV a0),(1,j aw),(2,j a2)] ?_
 refine W.aU [0,1,2] ?_
 refine W.aZ<|W.aU [0,1,2,7] ?_
 refine W.bk ?_
 obtain ⟨x2,ao,h⟩:=ay h
 refine W.cf (G1:=[(0,_),(1,_),(2,_),(7,_)]) (dA q q q q) ?_
 refine W.iH (s:=0) (λ(s1:Int)=>[(0,ah fV a0),(1,j aw),(2,j a2),(7,j s1)]) 0 (λ(a_:Unit)=>[]) (λ(bE:Int)=>[(6,j bE)]) ao (λs1 o h=>?_) (λa_ J=>?_) (λbE J=>?_)
 ·clear ao
  refine W.aZ<|W.aU [0,1,2,7,11] ?_
  refine W.bw h q (λdD h=>?_) (λdD h=>?_)
  ·refine W.bI<|af.aX ?_
   refine W.aZ<|W.bk ?_
   obtain ⟨qw,aa,h⟩:=ay h
   refine W.rs [(0,ah fV a0),(1,j aw),(2,j a2),(7,j s1),(29,a1 qw)] ?_ ?_
   ·refine aj (O.aA (.aE q))<|aj (O.aA (.lit q)) ?_
    obtain ⟨bx,fJ,aa⟩:=ay aa
    refine aj (O.cC (.aE q) (.lit q) qd fJ)<|aj (O.ej (.bo q) xh)<|aj (O.c9 (x:=j bx.State) (.bo q) cr q)<|bq q<|aj (O.eql (.lit q) (.lit q))<|aj (O.aA (.lit q)) ?_
    rcases cz aa with ⟨c5,aa⟩ | ⟨c5,aa⟩
    ·refine aM c5 (O.aA (.aE q))<|aM c5 (O.aA (.lit q)) ?_
     obtain ⟨b3,ho,aa⟩:=ay aa
     obtain rfl:=au aa
     exact ar.aW
    ·obtain rfl:=au aa
     exact ar.aW
   refine W.bw h q (λeU h=>?_) (λeU h=>?_)
   ·refine W.aU [6] ?_
    refine W.rt ?_
    refine af.dv ?_
    refine af.cK ?_
    obtain rfl:=au h
    exact af.fP (.n q .nil)
   ·refine W.bI<|af.bk ?_
    refine af.aX<|W.bm [0,1,2,7] (bq q<|aj (O.add (.lit q) (.k q))<|ar.bm [0,1,2,13] q<|ar.aW) ?_
    obtain rfl:=au h
    exact af.go (dA q q q q)
  ·refine W.da ?_
   refine af.c' ?_
   obtain rfl:=au h
   exact af.x2 .nil
 ·subst J
  refine af.db ?_
  refine af.aX<|W.aU [6] ?_
  refine W.rt ?_
  obtain rfl:=au h
  exact cx (.f q q .nil)
 ·subst J
  refine af.dv ?_
  refine af.cK ?_
  obtain rfl:=au h
  exact cx (.f q q .nil)
theorem Pf (a0:b_) (aw:(List State)) (r:(List (List Int))) (h:Be a0 aw=some r):cb Try.prog 86 [.agg (cm.cells a0),ah cP aw] [none,none] (ah (bg aI) r):=by
 unfold Be at h
 refine cb.go (N:=⟨74,[]⟩) Try.func86 q q q q (W.fin ?_)
 refine W.st [(0,.agg (cm.cells a0)),(1,ah cP aw)] ?_
 refine W.bY [1,2] (aj (O.box (.b' q q) q)<|ar.aW) ?_
 obtain ⟨aF,fI,h⟩:=ay h
 refine W.bY [1,2,5] (aj (O.aA (.aE q))<|ee (cu.go (.b0 (.aE q) .nil) (Cf aw _ fI) call88 q)<|ar.aW) ?_
 obtain ⟨x2,hZ,h⟩:=ay h
 refine W.bY [1,5,6] (aj (O.dW (cs':=[ah bp a0.a',ah a6 a0.bu,ah bG a0.ba,ai a0.bA,ai a0.bF]) q (.obj q) gv q q)<|ee (cu.go (.b0 (.b' q q) .nil) (Je a0 _ hZ) call105 q)<|ar.aW) ?_
 refine W.aU [1,5,6,7] ?_
 refine W.aZ<|W.aU [1,5,6,7,8] ?_
 refine W.bk ?_
 obtain ⟨bE,ao,h⟩:=ay h
 refine W.cf (G1:=[(1,_),(5,_),(6,_),(7,ak (bg aI) ([]:List (List Int))),(8,_)]) (.n q (.n q (.n q (.w q q .mK (.n q .nil))))) ?_
 refine W.eO (s:=(([]:List (List Int)),0)) (λ(dh:List (List Int) × Int)=>[(1,ah cP aw),(5,ah fV aF),(6,ah bJ x2),(7,ak (bg aI) dh.1),(8,j dh.2)]) 0 (λ(bE:List (List Int))=>[(7,ak (bg aI) bE)]) ao (λdh o h=>?_) ?_
 ·clear ao
  refine W.aZ<|W.aU [1,5,6,7,8,20] ?_
  refine W.bw h q (λec h=>?_) (λec h=>?_)
  ·refine W.bI<|af.aX ?_
   refine W.aZ<|W.bk ?_
   refine W.aU [1,5,6,7,8,9] ?_
   refine W.aZ ?_
   obtain ⟨bz,gq,h⟩:=ay h
   obtain ⟨b3,ho,h⟩:=ay h
   obtain ⟨cF,jP,h⟩:=ay h
   refine W.rd [[],[],[],[1,2],[1,2,3],[1,2,3,4],[],[],[6,7],[6,7,8],[6,7,8,9],aP 0 11 [],aP 0 12 []] [(1,_),(5,_),(6,_),(7,_),(8,_),(9,_),(10,_)] ez (by kernel_rfl) (av 0 (O.aA (.aE q))<|av 1 (O.aA (.aE q))<|av 2 (O.aA (.lit q))<|av 3 (O.cC (.aE q) (.lit q) qd gq)<|av 4 (O.ej (.bo q) xh)<|av 5 (O.c9 (x:=j bz.State) (.bo q) cr q)<|av 6 (O.aA (.aE q))<|av 7 (O.aA (.lit q))<|av 8 (O.cC (.aE q) (.lit q) qd ho)<|av 9 (O.ej (.bo q) zf)<|av 10 (O.c9 (x:=j b3.e2) (.bo q) cr q)<|iN 11 (cu.go (.b0 (.aE q) (.b0 (.lit q) (.b0 (.lit q) .nil))) (y3 aw bz.State b3.e2 _ jP) call59 q)<|av 12 (O.dO (.lit q))<|bL.fin q q q (hq q q q q q q q)) ?_
   refine af.aX<|W.aZ ?_
   refine W.aU [1,5,6,7,8,9,10,11] ?_
   refine W.bk ?_
   obtain ⟨b1,ao,h⟩:=ay h
   refine W.cf (G1:=[(1,_),(5,_),(6,_),(7,_),(8,_),(9,ah aI ([]:List Int)),(10,_),(11,_)]) (.n q (.n q (.n q (.n q (.n q (.w q q .xP (fG q q))))))) ?_
   refine W.eO (s:=(([]:List Int),0)) (λ(ds:List Int × Int)=>[(1,ah cP aw),(5,ah fV aF),(6,ah bJ x2),(7,ak (bg aI) dh.1),(8,j dh.2),(9,ah aI ds.1),(10,j cF),(11,j ds.2)]) 2 (λ(b1:List Int)=>[(1,ah cP aw),(5,ah fV aF),(6,ah bJ x2),(7,ak (bg aI) dh.1),(8,j dh.2),(9,ah aI b1)]) ao (λds o h=>?_) ?_
   ·clear ao
    refine W.aZ ?_
    obtain ⟨ei,kG,h⟩:=ay h
    refine W.aU [1,5,6,7,8,9,10,11,42] ?_
    refine W.bw h q (λeM h=>?_) (λeM h=>?_)
    ·refine W.bI<|af.aX ?_
     refine W.aZ ?_
     obtain ⟨oH,aa,h⟩:=ay h
     refine W.bB [(1,ah cP aw),(5,ah fV aF),(6,ah bJ x2),(7,ak (bg aI) dh.1),(8,j dh.2),(9,ah aI oH),(10,j cF),(11,j ds.2)] ?_ ?_
     ·clear h; have h:=aa; clear aa
      refine W.bk ?_
      obtain ⟨ck,k6,h⟩:=ay h
      obtain ⟨b2,hY,h⟩:=ay h
      refine W.aU [1,5,6,7,8,9,10,11,12] ?_
      obtain ⟨Eh,aa,h⟩:=ay h
      refine W.rs [(1,ah cP aw),(5,ah fV aF),(6,ah bJ x2),(7,ak (bg aI) dh.1),(8,j dh.2),(9,ah aI ds.1),(10,j cF),(11,j ds.2),(12,j b2.Sym),(62,a1 Eh)] ?_ ?_
      ·refine bq q<|aj (O.geq (.lit q) (.k q))<|aj (O.aA (.lit q)) ?_
       rcases cz aa with ⟨gW,aa⟩ | ⟨gW,aa⟩
       ·refine aM gW (O.aA (.aE q))<|aM gW (O.aA (.lit q))<|aM gW (O.sub (.lit q) (.k q)) ?_
        obtain ⟨eD,mA,aa⟩:=ay aa
        obtain rfl:=au aa
        exact ar.aW
       ·obtain rfl:=au aa
        exact ar.aW
      obtain ⟨oI,aa,h⟩:=ay h
      refine W.bB [(1,ah cP aw),(5,ah fV aF),(6,ah bJ x2),(7,ak (bg aI) dh.1),(8,j dh.2),(9,ah aI oI),(10,j cF),(11,j ds.2)] ?_ ?_
      ·clear h; have h:=aa; clear aa
       refine W.bw h q (λeE h=>?_) (λeE h=>?_)
       ·obtain ⟨fm,pd,h⟩:=ay h
        obtain ⟨gr,mC,h⟩:=ay h
        refine W.bm [1,5,6,7,8,9,10,11] (aj (O.aA (.aE q))<|aj (O.aA (.aE q))<|bq q<|bq q<|ee (cu.go (.b0 (.aE q) (.b0 (.lit q) (.b0 (.lit q) .nil))) (Jf aF cF b2.Sym _ pd) call106 q)<|ee (cu.go (.b0 (.aE q) (.b0 (.lit q) .nil)) (uY ds.1 fm _ mC) call67 q)<|ar.bm [1,5,6,7,8,10,11,68] q<|ar.aW) ?_
        obtain rfl:=au h
        exact af.bB (ko q q q q q q q q)
       ·refine W.bI ?_
        obtain rfl:=au h
        exact af.bB (ko q q q q q q q q)
      refine af.bk ?_
      obtain rfl:=au h
      exact af.bB (ko q q q q q q q q)
     refine af.aX<|W.bm [1,5,6,7,8,9,10,11] (bq q<|aj (O.add (.lit q) (.k q))<|ar.bm [1,5,6,7,8,9,10,44] q<|ar.aW) ?_
     obtain rfl:=au h
     exact af.go (ko q q q q q q q q)
    ·refine W.da ?_
     refine af.c' ?_
     obtain rfl:=au h
     exact af.aF (fp q q q q q q)
   refine af.db ?_
   refine af.aX ?_
   obtain ⟨eQ,k7,h⟩:=ay h
   refine W.bm [1,5,6,7,8] (aj (O.aA (.own q))<|aj (O.aA (.aE q))<|ar.fC (x:=ah (bg aI) [b1]) (O.dz (ys:=[ah aI b1]) (bg aI) [b1] ly q q q q q q H6 q q) q q .none<|aj (O.ap (en:=(bg aI)) (r:=eQ) (.bn q) q (.aE q) .i D4 q k7)<|ar.gd (G2:=[(1,ah cP aw),(5,ah fV aF),(6,ah bJ x2),(8,j dh.2)]) q (cj.mV q q (.bX q) q q q (.n q q (.n q q (.n q q (.n q q .nil)))) q q)<|bS q) ?_
   refine af.bk ?_
   refine af.aX<|W.bm [1,5,6,7,8] (bq q<|aj (O.add (.lit q) (.k q))<|ar.bm [1,5,6,7,22] q<|ar.aW) ?_
   obtain rfl:=au h
   exact af.go (eW q q q q q)
  ·refine W.da ?_
   refine af.c' ?_
   obtain rfl:=au h
   exact af.aF (.n q .nil)
 refine af.db ?_
 refine af.aX<|W.bY [4] (aj (O.aA (.own q))<|ar.gd (G2:=[]) q (cj.iR q q (.bn q) q .nil q q)<|bS q) ?_
 refine W.e7 (G1:=[(4,ah (bg aI) bE)]) [4] (.z q q .hj .nil) ?_
 refine W.rt ?_
 obtain rfl:=au h
 exact cx (.f q q .nil)
theorem Jy (a0:(List State)) (aw:Int) (a2:(List Int)) (r:Int) (h:yd a0 aw a2=some r):cb Try.prog 89 [ah cP a0,j aw,ah aI a2] [none,none,none] (j r):=by
 unfold yd at h
 refine cb.go (N:=⟨26,[]⟩) Try.func89 q q q q (W.fin ?_)
 refine W.st [(0,ah cP a0),(1,j aw),(2,ah aI a2)] ?_
 refine W.aU [0,1,2] ?_
 refine W.aZ<|W.aU [0,1,2,7] ?_
 refine W.bk ?_
 obtain ⟨x2,ao,h⟩:=ay h
 refine W.cf (G1:=[(0,_),(1,_),(2,_),(7,_)]) (dA q q q q) ?_
 refine W.eO (s:=(aw,0)) (λ(s1:Int × Int)=>[(0,ah cP a0),(1,j s1.1),(2,ah aI a2),(7,j s1.2)]) 0 (λ(x2:Int)=>[(1,j x2)]) ao (λs1 o h=>?_) ?_
 ·clear ao
  refine W.aZ ?_
  obtain ⟨kA,aa,h⟩:=ay h
  refine W.rs [(0,ah cP a0),(1,j s1.1),(2,ah aI a2),(7,j s1.2),(15,a1 kA)] ?_ ?_
  ·refine bq q<|aj (O.aA (.aE q))<|aj (O.h0 (.aE q) fk)<|aj (O.lss (.lit q) (.lit q))<|aj (O.aA (.lit q)) ?_
   rcases cz aa with ⟨dd,aa⟩ | ⟨dd,aa⟩
   ·obtain rfl:=au aa
    exact ar.aW
   ·obtain rfl:=au aa
    exact ar.aW
  refine W.bw h q (λec h=>?_) (λec h=>?_)
  ·refine W.bI<|af.aX ?_
   refine W.aZ<|W.bk ?_
   obtain ⟨bz,gq,h⟩:=ay h
   obtain ⟨b3,ho,h⟩:=ay h
   refine W.bm [0,1,2,7] (aj (O.aA (.aE q))<|bq q<|aj (O.aA (.aE q))<|bq q<|aj (O.cC (.aE q) (.lit q) fk gq)<|aj (O.c9 (x:=j bz) (.bo q) cr q)<|ee (cu.go (.b0 (.aE q) (.b0 (.lit q) (.b0 (.lit q) .nil))) (y3 a0 s1.1 bz _ ho) call59 q)<|ar.bm [0,2,7,24] q<|ar.aW) ?_
   refine af.bk ?_
   refine af.aX<|W.bm [0,1,2,7] (bq q<|aj (O.add (.lit q) (.k q))<|ar.bm [0,1,2,17] q<|ar.aW) ?_
   obtain rfl:=au h
   exact af.go (dA q q q q)
  ·refine W.da ?_
   refine af.c' ?_
   obtain rfl:=au h
   exact af.aF (.n q .nil)
 refine af.db ?_
 refine af.aX<|W.aU [6] ?_
 refine W.rt ?_
 obtain rfl:=au h
 exact cx (.f q q .nil)
theorem Pg (a0:b_) (aw:(List State)) (r:(List (List Int))) (h:Bf a0 aw=some r):cb Try.prog 87 [.agg (cm.cells a0),ah cP aw] [none,none] (ah (bg aI) r):=by
 unfold Bf at h
 refine cb.go (N:=⟨104,[]⟩) Try.func87 q q q q (W.fin ?_)
 refine W.st [(0,.agg (cm.cells a0)),(1,ah cP aw)] ?_
 refine W.bY [1,2] (aj (O.box (.b' q q) q)<|ar.aW) ?_
 obtain ⟨aF,fI,h⟩:=ay h
 refine W.bY [1,2,5] (aj (O.aA (.aE q))<|ee (cu.go (.b0 (.aE q) .nil) (Cf aw _ fI) call88 q)<|ar.aW) ?_
 obtain ⟨x2,hZ,h⟩:=ay h
 refine W.bY [1,2,5,6] (aj (O.dW (cs':=[ah bp a0.a',ah a6 a0.bu,ah bG a0.ba,ai a0.bA,ai a0.bF]) q (.obj q) gv q q)<|ee (cu.go (.b0 (.b' q q) .nil) (Je a0 _ hZ) call105 q)<|ar.aW) ?_
 obtain ⟨a_,hd,h⟩:=ay h
 refine W.bY [1,2,5,6,7] (aj (O.aA (.aE q))<|aj (O.h0 (.aE q) qd)<|aj (O.Tg (e:=aI) ly (.lit q) (.lit q) U1 q q hd Oa q)<|ar.gd (G2:=[(1,ah cP aw),(2,.obj (cm.cells a0)),(5,ah fV aF),(6,ah bJ x2)]) q (cj.iR q q (.own q) q (.n q q (.n q q (.n q q (.n q q .nil)))) q q)<|bS q) ?_
 refine W.aZ<|W.aU [1,2,5,6,7,8] ?_
 refine W.bk ?_
 obtain ⟨cq,ao,h⟩:=ay h
 refine W.cf (G1:=[(1,_),(2,_),(5,_),(6,_),(7,_),(8,_)]) (fp q q q q q q) ?_
 refine W.eO (s:=(a_,0)) (λ(bN:List (List Int) × Int)=>[(1,ah cP aw),(2,.obj (cm.cells a0)),(5,ah fV aF),(6,ah bJ x2),(7,ak (bg aI) bN.1),(8,j bN.2)]) 0 (λ(cq:List (List Int))=>[(7,ak (bg aI) cq)]) ao (λbN o h=>?_) ?_
 ·clear ao
  refine W.aZ<|W.aU [1,2,5,6,7,8,24] ?_
  refine W.bw h q (λc5 h=>?_) (λc5 h=>?_)
  ·refine W.bI<|af.aX ?_
   refine W.aZ<|W.bk ?_
   refine W.aU [1,2,5,6,7,8,9] ?_
   refine W.bk ?_
   obtain ⟨cF,ao,h⟩:=ay h
   refine W.cf (G1:=[(1,_),(2,_),(5,_),(6,_),(7,_),(8,_),(9,_)]) (hq q q q q q q q) ?_
   refine W.eO (s:=(bN.1,0)) (λ(cI:List (List Int) × Int)=>[(1,ah cP aw),(2,.obj (cm.cells a0)),(5,ah fV aF),(6,ah bJ x2),(7,ak (bg aI) cI.1),(8,j bN.2),(9,j cI.2)]) 2 (λ(cF:List (List Int))=>[(1,ah cP aw),(2,.obj (cm.cells a0)),(5,ah fV aF),(6,ah bJ x2),(7,ak (bg aI) cF),(8,j bN.2)]) ao (λcI o h=>?_) ?_
   ·clear ao
    refine W.aZ<|W.aU [1,2,5,6,7,8,9,31] ?_
    refine W.bw h q (λfh h=>?_) (λfh h=>?_)
    ·refine W.bI<|af.aX ?_
     refine W.aZ ?_
     obtain ⟨fr,aa,h⟩:=ay h
     refine W.bB [(1,ah cP aw),(2,.obj (cm.cells a0)),(5,ah fV aF),(6,ah bJ x2),(7,ak (bg aI) fr),(8,j bN.2),(9,j cI.2)] ?_ ?_
     ·clear h; have h:=aa; clear aa
      refine W.bk ?_
      obtain ⟨ei,kG,h⟩:=ay h
      refine W.aU [1,2,5,6,7,8,9,10] ?_
      refine W.aZ<|W.aZ ?_
      obtain ⟨eo,km,h⟩:=ay h
      obtain ⟨cA,ic,h⟩:=ay h
      refine W.rd [[],[0],[],[0,1,2],[0,1,2,3],aP 0 5 [],aP 0 6 [],[],[],[7,8],[7,8,9],[7,8,9,10],aP 0 12 []] [(1,_),(2,_),(5,_),(6,_),(7,_),(8,_),(9,_),(10,_),(52,_)] ez (by kernel_rfl) (av 0 (O.bh q (.obj q) lG q)<|av 1 (O.dm (y:=ah bG a0.ba) q (.ptr q) mY q q)<|av 2 (O.aA (.lit q))<|av 3 (O.cC (.aE q) (.lit q) nm km)<|av 4 (O.ej (.bo q) zd)<|av 5 (O.c9 (x:=j eo.Left) (.bo q) cr q)<|av 6 (O.add (.k q) (.lit q))<|av 7 (O.aA (.aE q))<|av 8 (O.aA (.lit q))<|av 9 (O.cC (.aE q) (.lit q) qd ic)<|av 10 (O.ej (.bo q) zf)<|av 11 (O.c9 (x:=j cA.e2) (.bo q) cr q)<|av 12 (O.neq (.lit q) (.lit q))<|bL.fin q q q (hE q q q q q q q q q)) ?_
      refine af.aX<|W.bw h q (λiE h=>?_) (λiE h=>?_)
      ·refine W.da ?_
       refine af.c' ?_
       refine af.db ?_
       obtain rfl:=au h
       exact af.bB (hq q q q q q q q)
      ·refine W.bI<|af.aX ?_
       refine W.aU [1,2,5,6,7,8,9,10,11] ?_
       refine W.bk ?_
       obtain ⟨eZ,ao,h⟩:=ay h
       refine W.cf (G1:=[(1,_),(2,_),(5,_),(6,_),(7,_),(8,_),(9,_),(10,_),(11,_)]) (hE q q q q q q q q q) ?_
       refine W.eO (s:=(cI.1,0)) (λ(iJ:List (List Int) × Int)=>[(1,ah cP aw),(2,.obj (cm.cells a0)),(5,ah fV aF),(6,ah bJ x2),(7,ak (bg aI) iJ.1),(8,j bN.2),(9,j cI.2),(10,ah aI ei.fx),(11,j iJ.2)]) 4 (λ(eZ:List (List Int))=>[(1,ah cP aw),(2,.obj (cm.cells a0)),(5,ah fV aF),(6,ah bJ x2),(7,ak (bg aI) eZ),(8,j bN.2),(9,j cI.2)]) ao (λiJ o h=>?_) ?_
       ·clear ao
        refine W.aZ<|W.aU [1,2,5,6,7,8,9,10,11,56] ?_
        refine W.bw h q (λkD h=>?_) (λkD h=>?_)
        ·refine W.bI<|af.aX ?_
         refine W.aZ ?_
         obtain ⟨oI,aa,h⟩:=ay h
         refine W.bB [(1,ah cP aw),(2,.obj (cm.cells a0)),(5,ah fV aF),(6,ah bJ x2),(7,ak (bg aI) oI),(8,j bN.2),(9,j cI.2),(10,ah aI ei.fx),(11,j iJ.2)] ?_ ?_
         ·clear h; have h:=aa; clear aa
          refine W.bk<|W.aZ ?_
          obtain ⟨tv,aa,h⟩:=ay h
          refine W.rs [(1,ah cP aw),(2,.obj (cm.cells a0)),(5,ah fV aF),(6,ah bJ x2),(7,ak (bg aI) iJ.1),(8,j bN.2),(9,j cI.2),(10,ah aI ei.fx),(11,j iJ.2),(72,a1 tv)] ?_ ?_
          ·refine aj (O.aA (.aE q))<|aj (O.aA (.lit q)) ?_
           obtain ⟨gf,n0,aa⟩:=ay aa
           refine aj (O.cC (.aE q) (.lit q) fk n0)<|aj (O.c9 (x:=j gf) (.bo q) cr q)<|aj (O.lss (.lit q) (.k q))<|aj (O.aA (.lit q)) ?_
           rcases cz aa with ⟨eu,aa⟩ | ⟨eu,aa⟩
           ·obtain rfl:=au aa
            exact ar.aW
           ·refine aM eu (O.aA (.aE q))<|aM eu (O.aA (.aE q))<|aM eu (O.aA (.lit q))<|aM eu (O.add (.lit q) (.k q)) ?_
            obtain ⟨gr,mC,aa⟩:=ay aa
            refine aM eu (O.HJ (.aE q) (.lit q) fk mC) ?_
            obtain ⟨eQ,k7,aa⟩:=ay aa
            obtain rfl:=au aa
            exact ar.c (cu.go (.b0 (.aE q) (.b0 (.aE q) .nil)) (Jg x2 gr _ k7) call107 q) q q (.hh q q eu)<|ar.aW
          refine W.bw h q (λrH h=>?_) (λrH h=>?_)
          ·refine W.da ?_
           refine af.c' ?_
           refine af.db ?_
           obtain rfl:=au h
           exact af.bB (hE q q q q q q q q q)
          ·refine W.bI<|af.aX ?_
           refine W.aZ ?_
           obtain ⟨cV,qT,h⟩:=ay h
           obtain ⟨eJ,lr,h⟩:=ay h
           obtain ⟨gK,nb,h⟩:=ay h
           refine W.rd [[],[],[],[1,2],[1,2,3],[1,2,3,4],[],[],[6,7],aP 0 9 [],aP 0 10 []] [(1,_),(2,_),(5,_),(6,_),(7,_),(8,_),(9,_),(10,_),(11,_),(12,_)] ez (by kernel_rfl) (av 0 (O.aA (.aE q))<|av 1 (O.aA (.aE q))<|av 2 (O.aA (.lit q))<|av 3 (O.cC (.aE q) (.lit q) qd qT)<|av 4 (O.ej (.bo q) xh)<|av 5 (O.c9 (x:=j cV.State) (.bo q) cr q)<|av 6 (O.aA (.aE q))<|av 7 (O.aA (.lit q))<|av 8 (O.HI (.aE q) (.lit q) fk lr)<|iN 9 (cu.go (.b0 (.aE q) (.b0 (.lit q) (.b0 (.aE q) .nil))) (Jy aw cV.State eJ _ nb) call89 q)<|av 10 (O.dO (.lit q))<|bL.fin q q q (rY q q q q q q q q q q)) ?_
           refine af.aX<|W.aU [1,2,5,6,7,8,9,10,11,12,84] ?_
           obtain ⟨vB,aa,h⟩:=ay h
           refine W.bB [(1,ah cP aw),(2,.obj (cm.cells a0)),(5,ah fV aF),(6,ah bJ x2),(7,ak (bg aI) vB),(8,j bN.2),(9,j cI.2),(10,ah aI ei.fx),(11,j iJ.2)] ?_ ?_
           ·clear h; have h:=aa; clear aa
            refine W.bw h q (λkE h=>?_) (λkE h=>?_)
            ·obtain ⟨mf,sN,h⟩:=ay h
             obtain ⟨gm,n1,h⟩:=ay h
             refine W.bY [1,2,5,6,7,8,9,10,11,13] (aj (O.aA (.aE q))<|bq q<|aj (O.aA (.aE q))<|bq q<|aj (O.cC (.aE q) (.lit q) fk sN)<|aj (O.c9 (x:=j mf) (.bo q) cr q)<|ee (cu.go (.b0 (.aE q) (.b0 (.lit q) (.b0 (.lit q) .nil))) (Jf aF gK mf _ n1) call106 q)<|ar.aW) ?_
             refine W.aU [1,2,5,6,7,8,9,10,11,13,93] ?_
             obtain ⟨GM,aa,h⟩:=ay h
             refine W.bB [(1,ah cP aw),(2,.obj (cm.cells a0)),(5,ah fV aF),(6,ah bJ x2),(7,ak (bg aI) GM),(8,j bN.2),(9,j cI.2),(10,ah aI ei.fx),(11,j iJ.2)] ?_ ?_
             ·clear h; have h:=aa; clear aa
              refine W.bw h q (λFv h=>?_) (λFv h=>?_)
              ·obtain ⟨jK,mE,h⟩:=ay h
               obtain ⟨dc,uc,h⟩:=ay h
               refine W.bm [1,2,5,6,7,8,9,10,11] (aj (O.aA (.own q))<|bq q<|aj (O.aA (.own q))<|bq q<|aj (O.gX (en:=(bg aI)) q (.bn q) (.lit q) ly mE q)<|aj (O.jv (en:=(bg aI)) (x':=ah aI jK) q (.ptr q) hM mE q q)<|bq q<|ee (cu.go (.b0 (.aE q) (.b0 (.lit q) .nil)) (uY jK bN.2 _ uc) call67 q)<|aj (O.gX (en:=(bg aI)) q (.bn q) (.lit q) ly mE q)<|ar.iT (G2:=[(1,ah cP aw),(2,.obj (cm.cells a0)),(5,ah fV aF),(6,ah bJ x2),(7,ak (bg aI) (iJ.1.set gm.toNat dc)),(8,j bN.2),(9,j cI.2),(10,ah aI ei.fx),(11,j iJ.2)]) q (cj.pC (en:=(bg aI)) (y2:=dc) (cs':=[ah aI dc]) (x2:=ak (bg aI) (iJ.1.set gm.toNat dc)) q q (.ptr q) (.aE q) q mE wu q q q q q q q (.n q q (.n q q (.n q q (.n q q (.b q (.n q q (.n q q (.n q q (.n q q .nil))))))))))<|bS q) ?_
               obtain rfl:=au h
               exact af.bB (hE q q q q q q q q q)
              ·refine W.bI ?_
               obtain rfl:=au h
               exact af.bB (hE q q q q q q q q q)
             obtain rfl:=au h
             exact af.bB (hE q q q q q q q q q)
            ·refine W.bI ?_
             obtain rfl:=au h
             exact af.bB (hE q q q q q q q q q)
           refine af.bk ?_
           obtain rfl:=au h
           exact af.bB (hE q q q q q q q q q)
         refine af.aX<|W.bm [1,2,5,6,7,8,9,10,11] (bq q<|aj (O.add (.lit q) (.k q))<|ar.bm [1,2,5,6,7,8,9,10,58] q<|ar.aW) ?_
         obtain rfl:=au h
         exact af.go (hE q q q q q q q q q)
        ·refine W.da ?_
         refine af.c' ?_
         obtain rfl:=au h
         exact af.aF (hq q q q q q q q)
       refine af.db ?_
       refine af.bk ?_
       obtain rfl:=au h
       exact af.bB (hq q q q q q q q)
     refine af.aX<|W.bm [1,2,5,6,7,8,9] (bq q<|aj (O.add (.lit q) (.k q))<|ar.bm [1,2,5,6,7,8,33] q<|ar.aW) ?_
     obtain rfl:=au h
     exact af.go (hq q q q q q q q)
    ·refine W.da ?_
     refine af.c' ?_
     obtain rfl:=au h
     exact af.aF (fp q q q q q q)
   refine af.db ?_
   refine af.bk ?_
   refine af.aX<|W.bm [1,2,5,6,7,8] (bq q<|aj (O.add (.lit q) (.k q))<|ar.bm [1,2,5,6,7,26] q<|ar.aW) ?_
   obtain rfl:=au h
   exact af.go (fp q q q q q q)
  ·refine W.da ?_
   refine af.c' ?_
   obtain rfl:=au h
   exact af.aF (.n q .nil)
 refine af.db ?_
 refine af.aX<|W.bY [4] (aj (O.aA (.own q))<|ar.gd (G2:=[]) q (cj.iR q q (.bn q) q .nil q q)<|bS q) ?_
 refine W.e7 (G1:=[(4,ah (bg aI) cq)]) [4] (.z q q .hj .nil) ?_
 refine W.rt ?_
 obtain rfl:=au h
 exact cx (.f q q .nil)
theorem O8 (a0:b_) (aw:(List State)) (r:(List (List Int))) (h:A7 a0 aw=some r):cb Try.prog 71 [.agg (cm.cells a0),ah cP aw] [none,none] (ah (bg aI) r):=by
 unfold A7 at h
 refine cb.go (N:=⟨15,[]⟩) Try.func71 q q q q (W.fin ?_)
 refine W.st [(0,.agg (cm.cells a0)),(1,ah cP aw)] ?_
 refine W.bY [1,2] (aj (O.box (.b' q q) q)<|ar.aW) ?_
 refine W.aZ ?_
 obtain ⟨aF,fI,h⟩:=ay h
 obtain ⟨x2,hZ,h⟩:=ay h
 obtain ⟨a_,hd,h⟩:=ay h
 obtain ⟨bE,nf,h⟩:=ay h
 obtain ⟨cq,lP,h⟩:=ay h
 refine W.TN [0,1,2,3,4,6,7,5,8,9,10] [[],[0],[],[],[0,1,2,3],[],[],aP 0 5 [],aP 0 8 [],aP 0 9 [],aP 0 10 []] [(4,_)] ez (by kernel_rfl) (by kernel_rfl) (av 0 (O.aA (.aE q))<|iN 1 (cu.go (.b0 (.aE q) .nil) (Pe aw _ fI) call85 q)<|av 2 (O.dW (cs':=[ah bp a0.a',ah a6 a0.bu,ah bG a0.ba,ai a0.bA,ai a0.bF]) q (.obj q) gv q q)<|av 3 (O.aA (.aE q))<|iN 4 (cu.go (.b0 (.b' q q) (.b0 (.aE q) .nil)) (Pf a0 aw _ hZ) call86 q)<|av 5 (O.dW (cs':=[ah bp a0.a',ah a6 a0.bu,ah bG a0.ba,ai a0.bA,ai a0.bF]) q (.obj q) gv q q)<|av 6 (O.aA (.aE q))<|bL.dR 7 (G2:=[(10,ak (bg aI) a_),(1,ah cP aw),(2,.obj (cm.cells a0))]) (U:=[(6,12,some (ah cP aw)),(5,11,some (.agg [ah bp a0.a',ah a6 a0.bu,ah bG a0.ba,ai a0.bA,ai a0.bF]))]) (kO.v (cj.mZ (cj.call q q (hV.lA (en:=(bg aI)) (L:=aF) (G2:=[(1,ah cP aw),(2,.obj (cm.cells a0))]) (ys:=[ah (bg aI) x2]) q q q q (Jx aF x2 _ hd) call84 (fG q q) q q)))) q q (by kernel_rfl) q q q (.c (.inr (.inr (.inr (.inr (.inl ⟨_,_,_,q,cT.bK⟩))))) q q q q q (gu.wanted .none) (O.aA (.aE q)) (.c (.inr (.inr (.inr (.inr (.inr ⟨_,q,tj.pl,Jb⟩))))) q q q q q (gu.wanted .none) (O.dW (cs':=[ah bp a0.a',ah a6 a0.bu,ah bG a0.ba,ai a0.bA,ai a0.bF]) q (.obj q) gv q q) .nil)) (by kernel_rfl)<|iN 8 (cu.go (.b0 (.b' q q) (.b0 (.aE q) .nil)) (Pg a0 aw _ nf) call87 q)<|bL.jG 9 (G2:=[(14,ak (bg aI) cq)]) (cj.call q q (hV.lA (en:=(bg aI)) (L:=a_) (G2:=[]) (ys:=[ah (bg aI) bE]) q q q q (Jx a_ bE _ lP) call84 .nil q q)) q q q q (by kernel_rfl) (by kernel_rfl)<|bL.bv 10 (G2:=[]) (cj.iR q q (.own q) q .nil q q) q q q q (by kernel_rfl) (by kernel_rfl)<|bL.fin q q q (.n q .nil)) ?_
 refine af.aX<|W.e7 (G1:=[(4,ah (bg aI) cq)]) [4] (.z q q .hj .nil) ?_
 refine W.rt ?_
 obtain rfl:=au h
 exact cx (.f q q .nil)
theorem O9 (a0:b_) (aw:(List Item)) (r:(List Int)) (h:A8 a0 aw=some r):cb Try.prog 72 [.agg (cm.cells a0),ah dw aw] [none,none] (ah aI r):=by
 unfold A8 at h
 refine cb.go (N:=⟨51,[]⟩) Try.func72 q q q q (W.fin ?_)
 refine W.st [(0,.agg (cm.cells a0)),(1,ah dw aw)] ?_
 refine W.bY [1,2] (aj (O.box (.b' q q) q)<|ar.aW) ?_
 refine W.aU [1,2,5] ?_
 obtain ⟨aF,fI,h⟩:=ay h
 refine W.bY [2,5,6] (aj (O.dW (cs':=[ah bp a0.a',ah a6 a0.bu,ah bG a0.ba,ai a0.bA,ai a0.bF]) q (.obj q) gv q q)<|aj (O.aA (.aE q))<|ee (cu.go (.b0 (.b' q q) (.b0 (.aE q) .nil)) (EA a0 aw _ fI) call80 q)<|ar.aW) ?_
 refine W.aZ<|W.aU [2,5,6,7] ?_
 refine W.bk ?_
 obtain ⟨a_,ao,h⟩:=ay h
 refine W.cf (G1:=[(2,_),(5,ak aI ([]:List Int)),(6,_),(7,_)]) (.n q (.w q q .mK (fG q q))) ?_
 refine W.eO (s:=(([]:List Int),0)) (λ(s2:List Int × Int)=>[(2,.obj (cm.cells a0)),(5,ak aI s2.1),(6,ah dw aF),(7,j s2.2)]) 0 (λ(a_:List Int)=>[(5,ak aI a_)]) ao (λs2 o h=>?_) ?_
 ·clear ao
  refine W.aZ<|W.aU [2,5,6,7,14] ?_
  refine W.bw h q (λdD h=>?_) (λdD h=>?_)
  ·refine W.bI<|af.aX ?_
   refine W.aZ ?_
   obtain ⟨kH,aa,h⟩:=ay h
   refine W.bB [(2,.obj (cm.cells a0)),(5,ak aI kH),(6,ah dw aF),(7,j s2.2)] ?_ ?_
   ·clear h; have h:=aa; clear aa
    refine W.bk<|W.aZ ?_
    obtain ⟨qs,aa,h⟩:=ay h
    refine W.rd [[],[],[0,1],[0,1,2],[0,1,2,3],aP 0 5 [],aP 0 6 [],aP 0 7 [],aP 0 7 [],aP 0 9 [],aP 0 10 [],aP 0 11 [],aP 0 7 [],aP 0 7 [12],aP 0 7 [],aP 0 7 [],aP 0 7 [14,15],aP 0 7 [14,15,16],aP 0 7 [14,15,16,17],aP 0 7 (aP 12 7 []),aP 0 7 (aP 12 8 []),aP 0 7 (aP 12 9 []),aP 0 7 (aP 12 10 []),aP 0 23 [],aP 0 24 []] [(2,.obj (cm.cells a0)),(5,ak aI s2.1),(6,ah dw aF),(7,j s2.2),(41,a1 qs)] ez (by kernel_rfl) ?_ ?_
    ·refine av 0 (O.aA (.aE q))<|av 1 (O.aA (.lit q)) ?_
     obtain ⟨bz,gq,aa⟩:=ay aa
     refine av 2 (O.cC (.aE q) (.lit q) kb gq)<|av 3 (O.ej (.bo q) nt)<|av 4 (O.c9 (x:=j bz.Prod) (.bo q) cr q)<|av 5 (O.gtr (.lit q) (.k q))<|av 6 (O.aA (.lit q)) ?_
     rcases cz aa with ⟨c6,aa⟩ | ⟨c6,aa⟩
     ·refine bC 7 c6 (O.aA (.aE q))<|bC 8 c6 (O.aA (.lit q)) ?_
      obtain ⟨cF,jP,aa⟩:=ay aa
      refine bC 9 c6 (O.cC (.aE q) (.lit q) kb jP)<|bC 10 c6 (O.ej (.bo q) rC)<|bC 11 c6 (O.c9 (x:=j cF.dP) (.bo q) cr q)<|bC 12 c6 (O.bh q (.obj q) lG q)<|bC 13 c6 (O.dm (y:=ah bG a0.ba) q (.ptr q) mY q q)<|bC 14 c6 (O.aA (.aE q))<|bC 15 c6 (O.aA (.lit q)) ?_
      obtain ⟨bQ,jJ,aa⟩:=ay aa
      refine bC 16 c6 (O.cC (.aE q) (.lit q) kb jJ)<|bC 17 c6 (O.ej (.bo q) nt)<|bC 18 c6 (O.c9 (x:=j bQ.Prod) (.bo q) cr q) ?_
      obtain ⟨b1,hn,aa⟩:=ay aa
      obtain rfl:=au aa
      exact bC 19 c6 (O.cC (.aE q) (.lit q) nm hn)<|bC 20 c6 (O.ej (.bo q) m_)<|bC 21 c6 (O.c9 (x:=ah aI b1.fx) (.bo q) hM q)<|bC 22 c6 (O.h0 (.aE q) fk)<|bC 23 c6 (O.eql (.lit q) (.lit q))<|av 24 (O.dS (.lit q) c6 (.lit q))<|bL.fin q q q (eW q q q q q)
     ·obtain rfl:=au aa
      exact bs 7 c6<|bs 8 c6<|bs 9 c6<|bs 10 c6<|bs 11 c6<|bs 12 c6<|bs 13 c6<|bs 14 c6<|bs 15 c6<|bs 16 c6<|bs 17 c6<|bs 18 c6<|bs 19 c6<|bs 20 c6<|bs 21 c6<|bs 22 c6<|bs 23 c6<|av 24 (O.cZ (.lit q) c6 (.k q))<|bL.fin q q q (eW q q q q q)
    refine af.aX ?_
    obtain ⟨j7,aa,h⟩:=ay h
    refine W.bB [(2,.obj (cm.cells a0)),(5,ak aI j7),(6,ah dw aF),(7,j s2.2)] ?_ ?_
    ·clear h; have h:=aa; clear aa
     refine W.bw h q (λeM h=>?_) (λeM h=>?_)
     ·obtain ⟨cA,ic,h⟩:=ay h
      obtain ⟨ck,k6,h⟩:=ay h
      refine W.bm [2,5,6,7] (aj (O.aA (.own q))<|aj (O.aA (.aE q))<|bq q<|aj (O.cC (.aE q) (.lit q) kb ic)<|aj (O.ej (.bo q) nt)<|aj (O.c9 (x:=j cA.Prod) (.bo q) cr q)<|ar.fC (x:=ah aI [cA.Prod]) (O.dz (ys:=[j cA.Prod]) aI [cA.Prod] fk q q q q q q oS q q) q q .none<|aj (O.ap (en:=aI) (r:=ck) (.bn q) q (.aE q) .i ov q k6)<|ar.gd (G2:=[(2,.obj (cm.cells a0)),(6,ah dw aF),(7,j s2.2)]) q (cj.mV q q (.bX q) q q q (.n q q (.n q q (.n q q .nil))) q q)<|bS q) ?_
      obtain rfl:=au h
      exact af.bB (dA q q q q)
     ·refine W.bI ?_
      obtain rfl:=au h
      exact af.bB (dA q q q q)
    refine af.bk ?_
    obtain rfl:=au h
    exact af.bB (dA q q q q)
   refine af.aX<|W.bm [2,5,6,7] (bq q<|aj (O.add (.lit q) (.k q))<|ar.bm [2,5,6,16] q<|ar.aW) ?_
   obtain rfl:=au h
   exact af.go (dA q q q q)
  ·refine W.da ?_
   refine af.c' ?_
   obtain rfl:=au h
   exact af.aF (.n q .nil)
 refine af.db ?_
 refine af.aX<|W.bY [4] (aj (O.aA (.own q))<|ar.gd (G2:=[]) q (cj.iR q q (.bn q) q .nil q q)<|bS q) ?_
 refine W.e7 (G1:=[(4,ah aI a_)]) [4] (.z q q .hj .nil) ?_
 refine W.rt ?_
 obtain rfl:=au h
 exact cx (.f q q .nil)
theorem O_ (a0:b_) (aw:(List State)) (a2:Int) (a3:Int) (r:(List Int)) (h:A9 a0 aw a2 a3=some r):cb Try.prog 73 [.agg (cm.cells a0),ah cP aw,j a2,j a3] [none,none,none,none] (ah aI r):=by
 unfold A9 at h
 refine cb.go (N:=⟨74,[]⟩) Try.func73 q q q q (W.fin ?_)
 refine W.st [(0,.agg (cm.cells a0)),(1,ah cP aw),(2,j a2),(3,j a3)] ?_
 refine W.bY [1,2,3,4] (aj (O.box (.b' q q) q)<|ar.aW) ?_
 refine W.aZ ?_
 obtain ⟨c4,aa,h⟩:=ay h
 refine W.rs [(1,ah cP aw),(2,j a2),(3,j a3),(4,.obj (cm.cells a0)),(30,a1 c4)] ?_ ?_
 ·refine bq q<|aj (O.lss (.lit q) (.k q))<|aj (O.aA (.lit q)) ?_
  rcases cz aa with ⟨dg,aa⟩ | ⟨dg,aa⟩
  ·obtain rfl:=au aa
   exact ar.aW
  ·refine aM dg (O.aA (.lit q))<|aM dg (O.aA (.aE q))<|aM dg (O.h0 (.aE q) mP)<|aM dg (O.geq (.lit q) (.lit q))<|aj (O.cZ (.lit q) dg (.lit q))<|aj (O.aA (.lit q)) ?_
   rcases cz aa with ⟨cO,aa⟩ | ⟨cO,aa⟩
   ·obtain rfl:=au aa
    exact ar.aW
   ·refine aM cO (O.aA (.lit q))<|aM cO (O.lss (.lit q) (.k q))<|aj (O.cZ (.lit q) cO (.lit q))<|aj (O.aA (.lit q)) ?_
    rcases cz aa with ⟨fb,aa⟩ | ⟨fb,aa⟩
    ·obtain rfl:=au aa
     exact ar.aW
    ·obtain rfl:=au aa
     exact ar.aW
 refine W.bw h q (λdD h=>?_) (λdD h=>?_)
 ·refine W.aU [8] ?_
  refine W.e7 (G1:=[(8,ah aI ([]:List Int))]) [8] (.z q q .hj .nil) ?_
  refine W.rt ?_
  refine af.cK ?_
  obtain rfl:=au h
  exact cx (.f q q .nil)
 ·refine W.bI<|af.aX ?_
  obtain ⟨bx,fJ,h⟩:=ay h
  refine W.bY [1,2,3,4,9] (aj (O.aA (.aE q))<|ee (cu.go (.b0 (.aE q) .nil) (Cf aw _ fJ) call88 q)<|ar.aW) ?_
  refine W.aU [1,2,3,4,9,10] ?_
  refine W.aZ<|W.aU [1,2,3,4,9,10,11] ?_
  refine W.bk ?_
  obtain ⟨b3,ao,h⟩:=ay h
  refine W.cf (G1:=[(1,_),(2,_),(3,_),(4,_),(9,_),(10,ak aI ([]:List Int)),(11,_)]) (.n q (.n q (.n q (.n q (.n q (.w q q .mK (.n q .nil))))))) ?_
  refine W.eO (s:=(([]:List Int),0)) (λ(fB:List Int × Int)=>[(1,ah cP aw),(2,j a2),(3,j a3),(4,.obj (cm.cells a0)),(9,ah fV bx),(10,ak aI fB.1),(11,j fB.2)]) 0 (λ(b3:List Int)=>[(10,ak aI b3)]) ao (λfB o h=>?_) ?_
  ·clear ao
   refine W.aZ<|W.aU [1,2,3,4,9,10,11,36] ?_
   refine W.bw h q (λeU h=>?_) (λeU h=>?_)
   ·refine W.bI<|af.aX ?_
    refine W.aZ ?_
    obtain ⟨hf,aa,h⟩:=ay h
    refine W.bB [(1,ah cP aw),(2,j a2),(3,j a3),(4,.obj (cm.cells a0)),(9,ah fV bx),(10,ak aI hf),(11,j fB.2)] ?_ ?_
    ·clear h; have h:=aa; clear aa
     refine W.bk<|W.aZ ?_
     obtain ⟨qu,aa,h⟩:=ay h
     refine W.rd [[],[],[0,1],[0,1,2],[0,1,2,3],[],[5],[],[5,6,7],[5,6,7,8],aP 5 5 [],aP 5 6 [],aP 0 12 [],aP 0 13 [],aP 0 14 [],aP 0 14 [],aP 0 14 [],aP 0 14 [15,16],aP 0 14 [15,16,17],aP 0 14 [15,16,17,18],aP 0 14 [],aP 0 14 [20],aP 0 14 [],aP 0 14 [20,21,22],aP 0 14 [20,21,22,23],aP 0 14 (aP 20 5 []),aP 0 26 [],aP 0 14 [],aP 0 28 [],aP 0 29 []] [(1,ah cP aw),(2,j a2),(3,j a3),(4,.obj (cm.cells a0)),(9,ah fV bx),(10,ak aI fB.1),(11,j fB.2),(68,a1 qu)] ez (by kernel_rfl) ?_ ?_
     ·refine av 0 (O.aA (.aE q))<|av 1 (O.aA (.lit q)) ?_
      obtain ⟨dU,lO,aa⟩:=ay aa
      refine av 2 (O.cC (.aE q) (.lit q) qd lO)<|av 3 (O.ej (.bo q) zf)<|av 4 (O.c9 (x:=j dU.e2) (.bo q) cr q)<|av 5 (O.bh q (.obj q) lG q)<|av 6 (O.dm (y:=ah bG a0.ba) q (.ptr q) mY q q)<|av 7 (O.aA (.lit q)) ?_
      obtain ⟨ei,kG,aa⟩:=ay aa
      refine av 8 (O.cC (.aE q) (.lit q) nm kG)<|av 9 (O.ej (.bo q) zd)<|av 10 (O.c9 (x:=j ei.Left) (.bo q) cr q)<|av 11 (O.add (.k q) (.lit q))<|av 12 (O.eql (.lit q) (.lit q))<|av 13 (O.aA (.lit q)) ?_
      rcases cz aa with ⟨eM,aa⟩ | ⟨eM,aa⟩
      ·refine bC 14 eM (O.aA (.aE q))<|bC 15 eM (O.aA (.aE q))<|bC 16 eM (O.aA (.lit q)) ?_
       obtain ⟨cA,ic,aa⟩:=ay aa
       refine bC 17 eM (O.cC (.aE q) (.lit q) qd ic)<|bC 18 eM (O.ej (.bo q) xh)<|bC 19 eM (O.c9 (x:=j cA.State) (.bo q) cr q)<|bC 20 eM (O.bh q (.obj q) lG q)<|bC 21 eM (O.dm (y:=ah bG a0.ba) q (.ptr q) mY q q)<|bC 22 eM (O.aA (.lit q)) ?_
       obtain ⟨ck,k6,aa⟩:=ay aa
       refine bC 23 eM (O.cC (.aE q) (.lit q) nm k6)<|bC 24 eM (O.ej (.bo q) m_)<|bC 25 eM (O.c9 (x:=ah aI ck.fx) (.bo q) hM q) ?_
       obtain ⟨b2,hY,aa⟩:=ay aa
       obtain rfl:=au aa
       exact bL.c 26 (cu.go (.b0 (.aE q) (.b0 (.lit q) (.b0 (.aE q) .nil))) (Jy aw cA.State ck.fx _ hY) call89 q) q q q q (.hh q q eM)<|bC 27 eM (O.aA (.lit q))<|bC 28 eM (O.eql (.lit q) (.lit q))<|av 29 (O.dS (.lit q) eM (.lit q))<|bL.fin q q q (ko q q q q q q q q)
      ·obtain rfl:=au aa
       exact bs 14 eM<|bs 15 eM<|bs 16 eM<|bs 17 eM<|bs 18 eM<|bs 19 eM<|bs 20 eM<|bs 21 eM<|bs 22 eM<|bs 23 eM<|bs 24 eM<|bs 25 eM<|bs 26 eM<|bs 27 eM<|bs 28 eM<|av 29 (O.cZ (.lit q) eM (.k q))<|bL.fin q q q (ko q q q q q q q q)
     refine af.aX ?_
     obtain ⟨f',aa,h⟩:=ay h
     refine W.bB [(1,ah cP aw),(2,j a2),(3,j a3),(4,.obj (cm.cells a0)),(9,ah fV bx),(10,ak aI f'),(11,j fB.2)] ?_ ?_
     ·clear h; have h:=aa; clear aa
      refine W.bw h q (λkD h=>?_) (λkD h=>?_)
      ·obtain ⟨c8,mB,h⟩:=ay h
       refine W.bm [1,2,3,4,9,10,11] (aj (O.aA (.own q))<|bq q<|ar.fC (x:=ah aI [fB.2]) (O.dz (ys:=[j fB.2]) aI [fB.2] fk q q q q q q oS q q) q q .none<|aj (O.ap (en:=aI) (r:=c8) (.bn q) q (.aE q) .i ov q mB)<|ar.gd (G2:=[(1,ah cP aw),(2,j a2),(3,j a3),(4,.obj (cm.cells a0)),(9,ah fV bx),(11,j fB.2)]) q (cj.mV q q (.bX q) q q q (.n q q (.n q q (.n q q (.n q q (.n q q (.n q q .nil)))))) q q)<|bS q) ?_
       obtain rfl:=au h
       exact af.bB (hq q q q q q q q)
      ·refine W.bI ?_
       obtain rfl:=au h
       exact af.bB (hq q q q q q q q)
     refine af.bk ?_
     obtain rfl:=au h
     exact af.bB (hq q q q q q q q)
    refine af.aX<|W.bm [1,2,3,4,9,10,11] (bq q<|aj (O.add (.lit q) (.k q))<|ar.bm [1,2,3,4,9,10,38] q<|ar.aW) ?_
    obtain rfl:=au h
    exact af.go (hq q q q q q q q)
   ·refine W.da ?_
    refine af.c' ?_
    obtain rfl:=au h
    exact af.aF (.n q .nil)
  refine af.db ?_
  refine af.aX<|W.bY [8] (aj (O.aA (.own q))<|ar.gd (G2:=[]) q (cj.iR q q (.bn q) q .nil q q)<|bS q) ?_
  refine W.e7 (G1:=[(8,ah aI b3)]) [8] (.z q q .hj .nil) ?_
  refine W.rt ?_
  obtain rfl:=au h
  exact cx (.f q q .nil)
theorem O1 (a0:b_) (aw:(List State)) (r:(List jV)) (h:A2 a0 aw=some r):cb Try.prog 54 [.agg (cm.cells a0),ah cP aw] [none,none] (ah hN r):=by
 unfold A2 at h
 refine cb.go (N:=⟨87,[]⟩) Try.func54 q q q q (W.fin ?_)
 refine W.st [(0,.agg (cm.cells a0)),(1,ah cP aw)] ?_
 refine W.bY [1,2] (aj (O.box (.b' q q) q)<|ar.aW) ?_
 obtain ⟨aF,fI,h⟩:=ay h
 refine W.bY [1,2,5] (aj (O.dW (cs':=[ah bp a0.a',ah a6 a0.bu,ah bG a0.ba,ai a0.bA,ai a0.bF]) q (.obj q) gv q q)<|aj (O.aA (.aE q))<|ee (cu.go (.b0 (.b' q q) (.b0 (.aE q) .nil)) (O8 a0 aw _ fI) call71 q)<|ar.aW) ?_
 refine W.aU [1,2,5,6] ?_
 refine W.aZ<|W.aU [1,2,5,6,7] ?_
 refine W.bk ?_
 obtain ⟨a_,ao,h⟩:=ay h
 refine W.cf (G1:=[(1,_),(2,_),(5,_),(6,ak hN ([]:List jV)),(7,_)]) (.n q (.n q (.n q (.w q q .mK (.n q .nil))))) ?_
 refine W.eO (s:=(([]:List jV),0)) (λ(s2:List jV × Int)=>[(1,ah cP aw),(2,.obj (cm.cells a0)),(5,ah (bg aI) aF),(6,ak hN s2.1),(7,j s2.2)]) 0 (λ(a_:List jV)=>[(6,ak hN a_)]) ao (λs2 o h=>?_) ?_
 ·clear ao
  refine W.aZ<|W.aU [1,2,5,6,7,20] ?_
  refine W.bw h q (λdD h=>?_) (λdD h=>?_)
  ·refine W.bI<|af.aX ?_
   refine W.aZ<|W.bk ?_
   refine W.aZ ?_
   obtain ⟨bx,fJ,h⟩:=ay h
   obtain ⟨bz,gq,h⟩:=ay h
   refine W.rd [[],[],[],[1,2],[1,2,3],[1,2,3,4],aP 0 6 [],aP 0 7 []] [(1,_),(2,_),(5,_),(6,_),(7,_),(8,_)] ez (by kernel_rfl) (av 0 (O.dW (cs':=[ah bp a0.a',ah a6 a0.bu,ah bG a0.ba,ai a0.bA,ai a0.bF]) q (.obj q) gv q q)<|av 1 (O.aA (.aE q))<|av 2 (O.aA (.lit q))<|av 3 (O.cC (.aE q) (.lit q) mP fJ)<|av 4 (O.ej (.bo q) u4)<|av 5 (O.c9 (x:=ah dw bx.Kernel) (.bo q) u0 q)<|iN 6 (cu.go (.b0 (.b' q q) (.b0 (.aE q) .nil)) (O9 a0 bx.Kernel _ gq) call72 q)<|av 7 (O.dO (.aE q))<|bL.fin q q q (fp q q q q q q)) ?_
   refine af.aX<|W.aU [1,2,5,6,7,8,9] ?_
   refine W.bk ?_
   obtain ⟨cF,ao,h⟩:=ay h
   refine W.cf (G1:=[(1,_),(2,_),(5,_),(6,_),(7,_),(8,_),(9,_)]) (hq q q q q q q q) ?_
   refine W.eO (s:=(s2.1,0)) (λ(cI:List jV × Int)=>[(1,ah cP aw),(2,.obj (cm.cells a0)),(5,ah (bg aI) aF),(6,ak hN cI.1),(7,j s2.2),(8,ah aI bz),(9,j cI.2)]) 2 (λ(cF:List jV)=>[(1,ah cP aw),(2,.obj (cm.cells a0)),(5,ah (bg aI) aF),(6,ak hN cF),(7,j s2.2)]) ao (λcI o h=>?_) ?_
   ·clear ao
    refine W.aZ<|W.aU [1,2,5,6,7,8,9,33] ?_
    refine W.bw h q (λfh h=>?_) (λfh h=>?_)
    ·refine W.bI<|af.aX ?_
     refine W.aZ<|W.bk ?_
     obtain ⟨dU,lO,h⟩:=ay h
     refine W.bY [1,2,5,6,7,8,9,10] (bq q<|aj (O.aA (.aE q))<|bq q<|aj (O.cC (.aE q) (.lit q) fk lO)<|aj (O.c9 (x:=j dU) (.bo q) cr q)<|aj (O.dR (cs:=[j s2.2,j dU,.aK]) T5 Nc q q q)<|aj (O.fL (cs:=[j 0,j 0,.aK]) Nc q q)<|ar.dI (G2:=[(1,_),(2,_),(5,_),(6,_),(7,_),(8,_),(9,_),(10,_)]) (cs2:=[j s2.2,j dU,.aK]) q (.obj q) (.b' q q) q Up q q q q (.n q q (.n q q (.n q q (.n q q (.n q q (.n q q (.n q q (.b q .nil))))))))<|bS q) ?_
     refine W.aZ ?_
     obtain ⟨ei,kG,h⟩:=ay h
     obtain ⟨eo,km,h⟩:=ay h
     refine W.rd [[],[],[],[],[],[3,4],[3,4,5],aP 0 7 [],aP 0 8 []] [(1,_),(2,_),(5,_),(6,_),(7,_),(8,_),(9,_),(10,_),(11,_)] ez (by kernel_rfl) (av 0 (O.dW (cs':=[ah bp a0.a',ah a6 a0.bu,ah bG a0.ba,ai a0.bA,ai a0.bF]) q (.obj q) gv q q)<|av 1 (O.aA (.aE q))<|av 2 (O.aA (.lit q))<|av 3 (O.aA (.aE q))<|av 4 (O.aA (.lit q))<|av 5 (O.cC (.aE q) (.lit q) fk kG)<|av 6 (O.c9 (x:=j ei) (.bo q) cr q)<|iN 7 (cu.go (.b0 (.b' q q) (.b0 (.aE q) (.b0 (.lit q) (.b0 (.lit q) .nil)))) (O_ a0 aw s2.2 ei _ km) call73 q)<|av 8 (O.dO (.aE q))<|bL.fin q q q (hE q q q q q q q q q)) ?_
     refine af.aX<|W.aZ ?_
     refine W.aU [1,2,5,6,7,8,9,10,11,12] ?_
     refine W.bk ?_
     obtain ⟨ck,ao,h⟩:=ay h
     refine W.cf (G1:=[(1,_),(2,_),(5,_),(6,_),(7,_),(8,_),(9,_),(10,.obj [j s2.2,j dU,ah aI ([]:List Int)]),(11,_),(12,_)]) (.n q (.n q (.n q (.n q (.n q (.n q (.n q (.w q q (kT.obj (.f (.f (.i .nil)))) (fG q q))))))))) ?_
     refine W.eO (s:=(([]:List Int),0)) (λ(iX:List Int × Int)=>[(1,ah cP aw),(2,.obj (cm.cells a0)),(5,ah (bg aI) aF),(6,ak hN cI.1),(7,j s2.2),(8,ah aI bz),(9,j cI.2),(10,.obj [j s2.2,j dU,ah aI iX.1]),(11,ah aI eo),(12,j iX.2)]) 4 (λ(ck:List Int)=>[(1,ah cP aw),(2,.obj (cm.cells a0)),(5,ah (bg aI) aF),(6,ak hN cI.1),(7,j s2.2),(8,ah aI bz),(9,j cI.2),(10,.obj [j s2.2,j dU,ah aI ck])]) ao (λiX o h=>?_) ?_
     ·clear ao
      refine W.aZ<|W.aU [1,2,5,6,7,8,9,10,11,12,53] ?_
      refine W.bw h q (λgW h=>?_) (λgW h=>?_)
      ·refine W.bI<|af.aX ?_
       refine W.aZ<|W.bk ?_
       refine W.aU [1,2,5,6,7,8,9,10,11,12,13] ?_
       refine W.bk ?_
       obtain ⟨c0,ao,h⟩:=ay h
       refine W.cf (G1:=[(1,_),(2,_),(5,_),(6,_),(7,_),(8,_),(9,_),(10,_),(11,_),(12,_),(13,_)]) (DG q q q q q q q q q q q) ?_
       refine W.eO (s:=(iX.1,0)) (λ(dx:List Int × Int)=>[(1,ah cP aw),(2,.obj (cm.cells a0)),(5,ah (bg aI) aF),(6,ak hN cI.1),(7,j s2.2),(8,ah aI bz),(9,j cI.2),(10,.obj [j s2.2,j dU,ah aI dx.1]),(11,ah aI eo),(12,j iX.2),(13,j dx.2)]) 6 (λ(c0:List Int)=>[(1,ah cP aw),(2,.obj (cm.cells a0)),(5,ah (bg aI) aF),(6,ak hN cI.1),(7,j s2.2),(8,ah aI bz),(9,j cI.2),(10,.obj [j s2.2,j dU,ah aI c0]),(11,ah aI eo),(12,j iX.2)]) ao (λdx o h=>?_) ?_
       ·clear ao
        refine W.aZ ?_
        obtain ⟨gf,n0,h⟩:=ay h
        obtain ⟨fm,pd,h⟩:=ay h
        refine W.aU [1,2,5,6,7,8,9,10,11,12,13,65] ?_
        refine W.bw h q (λj1 h=>?_) (λj1 h=>?_)
        ·refine W.bI<|af.aX ?_
         refine W.aZ<|W.bk ?_
         obtain ⟨eQ,k7,h⟩:=ay h
         obtain ⟨iM,qS,h⟩:=ay h
         obtain ⟨gg,mD,h⟩:=ay h
         obtain ⟨cV,qT,h⟩:=ay h
         refine W.rd [[],[0],[],[],[],[3,4],[3,4,5],aP 2 5 [],aP 2 6 [],[],aP 2 8 [],aP 2 9 [],aP 0 12 [],aP 0 13 [],aP 0 14 []] [(1,_),(2,_),(5,_),(6,_),(7,_),(8,_),(9,_),(10,_),(11,_),(12,_),(13,_)] ez (by kernel_rfl) (av 0 (O.bh q (.obj q) Cn q)<|av 1 (O.dm (y:=ah aI dx.1) q (.ptr q) hM q q)<|av 2 (O.aA (.aE q))<|av 3 (O.aA (.aE q))<|av 4 (O.aA (.lit q))<|av 5 (O.cC (.aE q) (.lit q) fk k7)<|av 6 (O.c9 (x:=j eQ) (.bo q) cr q)<|av 7 (O.cC (.aE q) (.lit q) ly qS)<|av 8 (O.c9 (x:=ah aI iM) (.bo q) hM q)<|av 9 (O.aA (.lit q))<|av 10 (O.cC (.aE q) (.lit q) fk mD)<|av 11 (O.c9 (x:=j gg) (.bo q) cr q)<|iN 12 (cu.go (.b0 (.aE q) (.b0 (.lit q) .nil)) (uY dx.1 gg _ qT) call67 q)<|av 13 (O.bh q (.obj q) Cn q)<|bL.dI 14 (G2:=[(1,ah cP aw),(2,.obj (cm.cells a0)),(5,ah (bg aI) aF),(6,ak hN cI.1),(7,j s2.2),(8,ah aI bz),(9,j cI.2),(10,.obj [j s2.2,j dU,ah aI cV]),(11,ah aI eo),(12,j iX.2),(13,j dx.2)]) (cs2:=[j s2.2,j dU,ah aI cV]) q (by kernel_rfl) (by kernel_rfl) q q q (.ptr q) (.aE q) q wu q q q q (.n q q (.n q q (.n q q (.n q q (.n q q (.n q q (.n q q (.b q (.n q q (.n q q (.n q q .nil)))))))))))<|bL.fin q q q (DG q q q q q q q q q q q)) ?_
         refine af.bk ?_
         refine af.aX<|W.bm [1,2,5,6,7,8,9,10,11,12,13] (bq q<|aj (O.add (.lit q) (.k q))<|ar.bm [1,2,5,6,7,8,9,10,11,12,67] q<|ar.aW) ?_
         obtain rfl:=au h
         exact af.go (DG q q q q q q q q q q q)
        ·refine W.da ?_
         refine af.c' ?_
         obtain rfl:=au h
         exact af.aF (rY q q q q q q q q q q)
       refine af.db ?_
       refine af.bk ?_
       refine af.aX<|W.bm [1,2,5,6,7,8,9,10,11,12] (bq q<|aj (O.add (.lit q) (.k q))<|ar.bm [1,2,5,6,7,8,9,10,11,55] q<|ar.aW) ?_
       obtain rfl:=au h
       exact af.go (rY q q q q q q q q q q)
      ·refine W.da ?_
       refine af.c' ?_
       obtain rfl:=au h
       exact af.aF (ko q q q q q q q q)
     refine af.db ?_
     refine af.aX ?_
     obtain ⟨eJ,lr,h⟩:=ay h
     refine W.bm [1,2,5,6,7,8,9] (aj (O.aA (.own q))<|aj (O.dW (cs':=[j s2.2,j dU,ah aI ck]) q (.obj q) N6 q q)<|ar.fC (x:=ah hN [(⟨s2.2,dU,ck⟩:jV)]) (O.dz (ys:=[.agg [j s2.2,j dU,ah aI ck]]) hN [(⟨s2.2,dU,ck⟩:jV)] Bo q q q q q q U4 q q) q q .none<|aj (O.ap (en:=hN) (r:=eJ) (.bn q) q (.aE q) .i NO q lr)<|ar.gd (G2:=[(1,ah cP aw),(2,.obj (cm.cells a0)),(5,ah (bg aI) aF),(7,j s2.2),(8,ah aI bz),(9,j cI.2)]) q (cj.mV q q (.bX q) q q q (.n q q (.n q q (.n q q (.n q q (.n q q (.n q q .nil)))))) q q)<|bS q) ?_
     refine af.bk ?_
     refine af.aX<|W.bm [1,2,5,6,7,8,9] (bq q<|aj (O.add (.lit q) (.k q))<|ar.bm [1,2,5,6,7,8,35] q<|ar.aW) ?_
     obtain rfl:=au h
     exact af.go (hq q q q q q q q)
    ·refine W.da ?_
     refine af.c' ?_
     obtain rfl:=au h
     exact af.aF (eW q q q q q)
   refine af.db ?_
   refine af.bk ?_
   refine af.aX<|W.bm [1,2,5,6,7] (bq q<|aj (O.add (.lit q) (.k q))<|ar.bm [1,2,5,6,22] q<|ar.aW) ?_
   obtain rfl:=au h
   exact af.go (eW q q q q q)
  ·refine W.da ?_
   refine af.c' ?_
   obtain rfl:=au h
   exact af.aF (.n q .nil)
 refine af.db ?_
 refine af.aX<|W.bY [4] (aj (O.aA (.own q))<|ar.gd (G2:=[]) q (cj.iR q q (.bn q) q .nil q q)<|bS q) ?_
 refine W.e7 (G1:=[(4,ah hN a_)]) [4] (.z q q .hj .nil) ?_
 refine W.rt ?_
 obtain rfl:=au h
 exact cx (.f q q .nil)
theorem OT (a0:Source) (r:b_ × (List State) × (List Cell) × Bool) (h:AV a0=some r):cb Try.prog 30 [.agg (dY.cells a0)] [none] (.cB [.agg (cm.cells r.1),ah cP r.2.1,ah fa r.2.2.1,a1 r.2.2.2]):=by
 unfold AV at h
 refine cb.go (N:=⟨26,[]⟩) Try.func30 q q q q (W.fin ?_)
 refine W.st [(0,.agg (dY.cells a0))] ?_
 refine W.bY [1,2] (aj (O.box (.b' q q) q)<|aj (O.fL (cs:=[.aK,.aK,.aK,ai aC,ai aC]) og q q)<|ar.aW) ?_
 obtain ⟨aF,fI,h⟩:=ay h
 refine W.bY [2,6,7,8] (aj (O.dW (cs':=[ai a0.bA,ah de a0.Decls,ah ia a0.eG,ai a0.bF]) q (.obj q) uQ q q)<|ee (cu.go (.b0 (.b' q q) .nil) (OZ a0 _ fI) call52 q)<|aj (O.aA (.cB q q))<|aj (O.ex (y:=.agg (cm.cells aF.1)) q q q)<|aj (O.ex (y:=ah cP aF.2.1) q q q)<|aj (O.ex (y:=a1 aF.2.2) q q q)<|aj (O.fL (cs:=[.aK,.aK,.aK,ai aC,ai aC]) og q q)<|ar.dI (G2:=[(2,_),(6,_),(13,_),(14,_)]) (cs2:=[ah bp aF.1.a',ah a6 aF.1.bu,ah bG aF.1.ba,ai aF.1.bA,ai aF.1.bF]) q (.obj q) (.b' q q) q mR q q q q (.n q q (.b q (.n q q (.n q q .nil))))<|ar.aW) ?_
 refine W.aZ<|W.aU [2,6,7,16] ?_
 refine W.bw h q (λcO h=>?_) (λcO h=>?_)
 ·refine W.bY [2,3,4,5] (aj (O.dW (cs':=[ah bp aF.1.a',ah a6 aF.1.bu,ah bG aF.1.ba,ai aF.1.bA,ai aF.1.bF]) q (.obj q) gv q q)<|ar.dI (G2:=[(2,_)]) (cs2:=[ah bp aF.1.a',ah a6 aF.1.bu,ah bG aF.1.ba,ai aF.1.bA,ai aF.1.bF]) q (.obj q) (.b' q q) q mR q q q q (.b q .nil)<|ar.aW) ?_
  refine W.e7 (G1:=[(2,_),(3,ah cP ([]:List State)),(4,ah fa ([]:List Cell)),(5,_)]) [3,4] (.n q q (.z q q .hj (.z q q .hj (.n q q .nil)))) ?_
  refine W.rt ?_
  refine af.cK ?_
  obtain rfl:=au h
  exact cx (.c (ys0:=[ah bp aF.1.a',ah a6 aF.1.bu,ah bG aF.1.ba,ai aF.1.bA,ai aF.1.bF]) q gv q q q (.f q (.f q (.f q (.f q (.f q .nil))))) (.f q q (.f q q (.f q q .nil))))
 ·refine W.bI<|af.aX ?_
  refine W.aZ ?_
  obtain ⟨a_,hd,h⟩:=ay h
  obtain ⟨bE,nf,h⟩:=ay h
  refine W.rd [[],[],[],[],[],[],[4,5],aP 2 5 [],(0::aP 2 6 []),aP 0 9 [],aP 0 10 [],aP 0 11 []] [(2,_),(3,_),(4,_),(5,_)] ez (by kernel_rfl) (av 0 (O.dW (cs':=[ah bp aF.1.a',ah a6 aF.1.bu,ah bG aF.1.ba,ai aF.1.bA,ai aF.1.bF]) q (.obj q) gv q q)<|av 1 (O.aA (.aE q))<|av 2 (O.dW (cs':=[ah bp aF.1.a',ah a6 aF.1.bu,ah bG aF.1.ba,ai aF.1.bA,ai aF.1.bF]) q (.obj q) gv q q)<|av 3 (O.aA (.aE q))<|av 4 (O.dW (cs':=[ah bp aF.1.a',ah a6 aF.1.bu,ah bG aF.1.ba,ai aF.1.bA,ai aF.1.bF]) q (.obj q) gv q q)<|av 5 (O.aA (.aE q))<|iN 6 (cu.go (.b0 (.b' q q) (.b0 (.aE q) .nil)) (O1 aF.1 aF.2.1 _ hd) call54 q)<|iN 7 (cu.go (.b0 (.b' q q) (.b0 (.aE q) (.b0 (.aE q) .nil))) (O0 aF.1 aF.2.1 a_ _ nf) call53 q)<|bL.dR 8 (G2:=[(2,.obj (cm.cells aF.1)),(7,ah cP aF.2.1),(25,ah fa bE)]) (U:=[(1,19,some (ah cP aF.2.1))]) (kO.v (cj.mZ (cj.dI (G2:=[(2,.obj (cm.cells aF.1)),(7,ah cP aF.2.1),(25,ah fa bE)]) (cs2:=[ah bp aF.1.a',ah a6 aF.1.bu,ah bG aF.1.ba,ai aF.1.bA,ai aF.1.bF]) q q q (.obj q) (.b' q q) q mR q q q q (.b q (.n q q (.n q q .nil)))))) q q (by kernel_rfl) q q q (.c (.inr (.inr (.inr (.inr (.inl ⟨_,_,_,q,cT.bK⟩))))) q q q q q (gu.wanted .none) (O.aA (.aE q)) .nil) (by kernel_rfl)<|av 9 (O.dO (.aE q))<|av 10 (O.dO (.aE q))<|av 11 (O.dO (.k q))<|bL.fin q q q (dA q q q q)) ?_
  refine af.aX<|W.rt ?_
  obtain rfl:=au h
  exact cx (.c (ys0:=[ah bp aF.1.a',ah a6 aF.1.bu,ah bG aF.1.ba,ai aF.1.bA,ai aF.1.bF]) q gv q q q (.f q (.f q (.f q (.f q (.f q .nil))))) (.f q q (.f q q (.f q q .nil))))
theorem Ph (a0:b_) (aw:Int) (r:Int × Int) (h:Bg a0 aw=some r):cb Try.prog 91 [.agg (cm.cells a0),j aw] [none,none] (.cB [j r.1,j r.2]):=by
 unfold Bg at h
 refine cb.go (N:=⟨39,[]⟩) Try.func91 q q q q (W.fin ?_)
 refine W.st [(0,.agg (cm.cells a0)),(1,j aw)] ?_
 refine W.bY [1,2] (aj (O.box (.b' q q) q)<|ar.aW) ?_
 refine W.aZ ?_
 obtain ⟨c4,aa,h⟩:=ay h
 refine W.rs [(1,j aw),(2,.obj (cm.cells a0)),(24,a1 c4)] ?_ ?_
 ·refine bq q<|aj (O.lss (.lit q) (.k q))<|aj (O.aA (.lit q)) ?_
  rcases cz aa with ⟨dg,aa⟩ | ⟨dg,aa⟩
  ·obtain rfl:=au aa
   exact ar.aW
  ·refine aM dg (O.aA (.lit q))<|aM dg (O.bh q (.obj q) lG q)<|aM dg (O.dm (y:=ah bG a0.ba) q (.ptr q) mY q q)<|aM dg (O.h0 (.aE q) nm)<|aM dg (O.geq (.lit q) (.lit q))<|aj (O.cZ (.lit q) dg (.lit q))<|aj (O.aA (.lit q)) ?_
   rcases cz aa with ⟨cO,aa⟩ | ⟨cO,aa⟩
   ·obtain rfl:=au aa
    exact ar.aW
   ·refine aM cO (O.bh q (.obj q) lG q)<|aM cO (O.dm (y:=ah bG a0.ba) q (.ptr q) mY q q)<|aM cO (O.aA (.lit q)) ?_
    obtain ⟨a_,hd,aa⟩:=ay aa
    obtain rfl:=au aa
    exact ar.aW
 refine W.bw h q (λdD h=>?_) (λdD h=>?_)
 ·refine W.aU [4,5] ?_
  refine W.rt ?_
  refine af.cK ?_
  obtain rfl:=au h
  exact cx (.f q q (.f q q .nil))
 ·refine W.bI<|af.aX ?_
  refine W.aZ ?_
  obtain ⟨bx,fJ,h⟩:=ay h
  obtain ⟨bz,gq,h⟩:=ay h
  refine W.rd [[],[0],[],[2],[],[2,3,4],[2,3,4,5],aP 2 5 [],aP 0 8 [],aP 0 9 [],[],aP 0 11 []] [(6,_)] ez (by kernel_rfl) (av 0 (O.bh q (.obj q) ox q)<|av 1 (O.dm (y:=ah bp a0.a') q (.ptr q) pR q q)<|av 2 (O.bh q (.obj q) lG q)<|av 3 (O.dm (y:=ah bG a0.ba) q (.ptr q) mY q q)<|av 4 (O.aA (.lit q))<|av 5 (O.cC (.aE q) (.lit q) nm fJ)<|av 6 (O.ej (.bo q) ze)<|av 7 (O.c9 (x:=j bx.Prec) (.bo q) cr q)<|av 8 (O.cC (.aE q) (.lit q) qe gq)<|av 9 (O.iV (cs':=[ai bz.Name,a1 bz.Lit,j bz.c7,j bz.Level,j bz.fw,ai bz.Tag]) (.bo q) D' q q)<|av 10 (O.fL (cs:=[ai aC,a1 false,j 0,j 0,j 0,ai aC]) wD q q)<|bL.dI 11 (G2:=[(6,.obj (bp.cells bz))]) (cs2:=[ai bz.Name,a1 bz.Lit,j bz.c7,j bz.Level,j bz.fw,ai bz.Tag]) q (by kernel_rfl) (by kernel_rfl) q q q (.obj q) (.b' q q) q HP q q q q (.b q .nil)<|bL.fin q q q (.n q .nil)) ?_
  refine af.aX<|W.aZ ?_
  refine W.rd [[],[0],[],[2],[0,1],aP 0 5 []] [(4,_),(5,_)] ez (by kernel_rfl) (av 0 (O.bh q (.obj q) Cq q)<|av 1 (O.cw q (.ptr q) cr q)<|av 2 (O.bh q (.obj q) EW q)<|av 3 (O.cw q (.ptr q) cr q)<|av 4 (O.dO (.lit q))<|av 5 (O.dO (.lit q))<|bL.fin q q q (fG q q)) ?_
  refine af.aX<|W.rt ?_
  obtain rfl:=au h
  exact cx (.f q q (.f q q .nil))
theorem O' (a0:b_) (aw:Int) (a2:Int) (r:Int) (h:A_ a0 aw a2=some r):cb Try.prog 75 [.agg (cm.cells a0),j aw,j a2] [none,none,none] (j r):=by
 unfold A_ at h
 refine cb.go (N:=⟨61,[]⟩) Try.func75 q q q q (W.fin ?_)
 refine W.st [(0,.agg (cm.cells a0)),(1,j aw),(2,j a2)] ?_
 refine W.bY [1,2,3] (aj (O.box (.b' q q) q)<|ar.aW) ?_
 obtain ⟨aF,fI,h⟩:=ay h
 refine W.bY [2,3,7] (aj (O.dW (cs':=[ah bp a0.a',ah a6 a0.bu,ah bG a0.ba,ai a0.bA,ai a0.bF]) q (.obj q) gv q q)<|bq q<|ee (cu.go (.b0 (.b' q q) (.b0 (.lit q) .nil)) (Ph a0 aw _ fI) call91 q)<|aj (O.aA (.Bw q q))<|aj (O.ex (y:=j aF.1) q q q)<|aj (O.ex (y:=j aF.2) q q q)<|ar.aW) ?_
 refine W.aZ ?_
 obtain ⟨sb,aa,h⟩:=ay h
 refine W.rs [(2,j a2),(3,.obj (cm.cells a0)),(7,j aF.1),(37,a1 sb)] ?_ ?_
 ·refine bq q<|aj (O.eql (.lit q) (.k q))<|aj (O.aA (.lit q)) ?_
  rcases cz aa with ⟨cO,aa⟩ | ⟨cO,aa⟩
  ·obtain rfl:=au aa
   exact ar.aW
  ·refine aM cO (O.aA (.lit q))<|aM cO (O.lss (.lit q) (.k q))<|aj (O.cZ (.lit q) cO (.lit q))<|aj (O.aA (.lit q)) ?_
   rcases cz aa with ⟨fb,aa⟩ | ⟨fb,aa⟩
   ·obtain rfl:=au aa
    exact ar.aW
   ·refine aM fb (O.aA (.lit q))<|aM fb (O.bh q (.obj q) ox q)<|aM fb (O.dm (y:=ah bp a0.a') q (.ptr q) pR q q)<|aM fb (O.h0 (.aE q) qe)<|aM fb (O.geq (.lit q) (.lit q))<|aj (O.cZ (.lit q) fb (.lit q))<|aj (O.aA (.lit q)) ?_
    rcases cz aa with ⟨dd,aa⟩ | ⟨dd,aa⟩
    ·obtain rfl:=au aa
     exact ar.aW
    ·refine aM dd (O.bh q (.obj q) ox q)<|aM dd (O.dm (y:=ah bp a0.a') q (.ptr q) pR q q)<|aM dd (O.aA (.lit q)) ?_
     obtain ⟨cq,lP,aa⟩:=ay aa
     obtain rfl:=au aa
     exact ar.aW
 refine W.bw h q (λc5 h=>?_) (λc5 h=>?_)
 ·refine W.aU [6] ?_
  refine W.rt ?_
  refine af.cK ?_
  obtain rfl:=au h
  exact cx (.f q q .nil)
 ·refine W.bI<|af.aX ?_
  obtain ⟨b3,ho,h⟩:=ay h
  refine W.bY [7,9] (aj (O.bh q (.obj q) ox q)<|aj (O.dm (y:=ah bp a0.a') q (.ptr q) pR q q)<|bq q<|aj (O.cC (.aE q) (.lit q) qe ho)<|aj (O.iV (cs':=[ai b3.Name,a1 b3.Lit,j b3.c7,j b3.Level,j b3.fw,ai b3.Tag]) (.bo q) D' q q)<|aj (O.fL (cs:=[ai aC,a1 false,j 0,j 0,j 0,ai aC]) wD q q)<|ar.dI (G2:=[(7,_),(9,_)]) (cs2:=[ai b3.Name,a1 b3.Lit,j b3.c7,j b3.Level,j b3.fw,ai b3.Tag]) q (.obj q) (.b' q q) q HP q q q q (.n q q (.b q .nil))<|bS q) ?_
  refine W.aZ<|W.bk ?_
  refine W.aU [7,9,43] ?_
  refine W.bw h q (λdp h=>?_) (λdp h=>?_)
  ·refine W.aU [6] ?_
   refine W.rt ?_
   refine af.dv ?_
   refine af.cK ?_
   obtain rfl:=au h
   exact cx (.f q q .nil)
  ·refine W.aU [9,48] ?_
   refine W.bw h q (λeU h=>?_) (λeU h=>?_)
   ·refine W.aU [6] ?_
    refine W.rt ?_
    refine af.dv ?_
    refine af.cK ?_
    obtain rfl:=au h
    exact cx (.f q q .nil)
   ·refine W.aU [9,53] ?_
    refine W.bw h q (λfh h=>?_) (λfh h=>?_)
    ·refine W.aU [6] ?_
     refine W.rt ?_
     refine af.dv ?_
     refine af.cK ?_
     obtain rfl:=au h
     exact cx (.f q q .nil)
    ·refine W.aU [57] ?_
     refine W.bw h q (λeb h=>?_) (λeb h=>?_)
     ·refine W.aU [6] ?_
      refine W.rt ?_
      refine af.dv ?_
      refine af.cK ?_
      obtain rfl:=au h
      exact cx (.f q q .nil)
     ·refine W.bI<|af.bk ?_
      refine af.aX<|W.aU [6] ?_
      refine W.rt ?_
      obtain rfl:=au h
      exact cx (.f q q .nil)
theorem O2 (a0:b_) (aw:Cell) (r:Act × (List fH)) (h:x_ a0 aw=some r):cb Try.prog 58 [.agg (cm.cells a0),.agg (fa.cells aw)] [none,none] (.cB [.agg [j r.1.Kind,j r.1.N],ah eK r.2]):=by
 unfold x_ at h
 refine cb.go (N:=⟨97,[]⟩) Try.func58 q q q q (W.fin ?_)
 refine W.st [(0,.agg (cm.cells a0)),(1,.agg (fa.cells aw))] ?_
 refine W.bY [2,3,4] (aj (O.box (.b' q q) q)<|aj (O.box (.b' q q) q)<|aj (O.fL (cs:=[j 0,j 0]) lD q q)<|ar.aW) ?_
 refine W.aU [2,3,4,6] ?_
 refine W.aZ<|W.aU [2,3,4,6,7] ?_
 refine W.bk ?_
 obtain ⟨x2,ao,h⟩:=ay h
 refine W.cf (G1:=[(2,_),(3,_),(4,_),(6,ak eK ([]:List fH)),(7,_)]) (.n q (.n q (.n q (.w q q .mK (.n q .nil))))) ?_
 refine W.eO (s:=(([]:List fH),1)) (λ(s1:List fH × Int)=>[(2,.obj (cm.cells a0)),(3,.obj (fa.cells aw)),(4,.obj [j 0,j 0]),(6,ak eK s1.1),(7,j s1.2)]) 0 (λ(x2:List fH)=>[(2,.obj (cm.cells a0)),(3,.obj (fa.cells aw)),(4,.obj [j 0,j 0]),(6,ak eK x2)]) ao (λs1 o h=>?_) ?_
 ·clear ao
  refine W.aZ<|W.aU [2,3,4,6,7,15] ?_
  refine W.bw h q (λdd h=>?_) (λdd h=>?_)
  ·refine W.bI<|af.aX ?_
   refine W.aZ<|W.bk ?_
   refine W.cf (G1:=[(2,_),(3,_),(4,_),(6,_),(7,_)]) (eW q q q q q) ?_
   obtain ⟨cq,lP,h⟩:=ay h
   obtain ⟨bx,fJ,h⟩:=ay h
   obtain ⟨bz,gq,h⟩:=ay h
   refine W.rd [[],[],[1],[],[3],[],[5],[5,6],[5,6,7],[],[9],[],[9,10,11],[9,10,11,12],aP 1 13 [],aP 1 14 [],aP 0 16 [],aP 0 17 []] [(2,_),(3,_),(4,_),(6,_),(7,_)] ez (by kernel_rfl) (av 0 (O.aA (.own q))<|av 1 (O.bh q (.obj q) EU q)<|av 2 (O.cw q (.ptr q) cr q)<|av 3 (O.bh q (.obj q) zo q)<|av 4 (O.cw q (.ptr q) cr q)<|av 5 (O.bh q (.obj q) zp q)<|av 6 (O.dm (y:=ah aI aw.ba) q (.ptr q) hM q q)<|av 7 (O.cC (.aE q) (.k q) fk lP)<|av 8 (O.c9 (x:=j cq) (.bo q) cr q)<|av 9 (O.bh q (.obj q) zp q)<|av 10 (O.dm (y:=ah aI aw.ba) q (.ptr q) hM q q)<|av 11 (O.aA (.lit q))<|av 12 (O.cC (.aE q) (.lit q) fk fJ)<|av 13 (O.c9 (x:=j bx) (.bo q) cr q)<|av 14 (O.dR (cs:=[j aw.State,j aw.b5,j cq,j bx]) Mx Ng q q q)<|bL.fC 15 (x:=ah eK [(⟨aw.State,aw.b5,cq,bx⟩:fH)]) (O.dz (ys:=[.agg [j aw.State,j aw.b5,j cq,j bx]]) eK [(⟨aw.State,aw.b5,cq,bx⟩:fH)] HH q q q q q q Nl q q) q q q q .none<|av 16 (O.ap (en:=eK) (r:=bz) (.bn q) q (.aE q) .i D6 q gq)<|bL.bv 17 (G2:=[(2,.obj (cm.cells a0)),(3,.obj (fa.cells aw)),(4,.obj [j 0,j 0]),(7,j s1.2)]) (cj.mV q q (.bX q) q q q (.n q q (.n q q (.n q q (.n q q .nil)))) q q) q q q q (by kernel_rfl) (by kernel_rfl)<|bL.fin q q q (eW q q q q q)) ?_
   refine af.bk ?_
   refine af.aX<|W.bm [2,3,4,6,7] (bq q<|aj (O.add (.lit q) (.k q))<|ar.bm [2,3,4,6,17] q<|ar.aW) ?_
   obtain rfl:=au h
   exact af.go (eW q q q q q)
  ·refine W.da ?_
   refine af.c' ?_
   obtain rfl:=au h
   exact af.aF (dA q q q q)
 refine af.db ?_
 refine af.aX<|W.bY [2,3,4,6,8] (aj (O.bh q (.obj q) EV q)<|aj (O.cw q (.ptr q) cr q)<|aj (O.dR (cs:=[j 1,j aw.jm]) pz lD q q q)<|aj (O.fL (cs:=[j 0,j 0]) lD q q)<|ar.dI (G2:=[(2,_),(3,_),(4,_),(6,_),(8,_)]) (cs2:=[j 1,j aw.jm]) q (.obj q) (.b' q q) q mQ q q q q (.n q q (.n q q (.n q q (.n q q (.b q .nil)))))<|bS q) ?_
 refine W.aZ<|W.aU [2,3,4,6,8,39] ?_
 obtain ⟨fi,aa,h⟩:=ay h
 refine W.bB [(2,.obj (cm.cells a0)),(3,.obj (fa.cells aw)),(4,.obj [j 0,j 0]),(6,ak eK x2),(8,.obj [j fi.1,j fi.2])] ?_ ?_
 ·clear h; have h:=aa; clear aa
  refine W.bw h q (λdp h=>?_) (λdp h=>?_)
  ·refine W.bm [2,3,4,6,8] (aj (O.dR (cs:=[j 3,j 0]) pz lD q q q)<|ar.dI (G2:=[(2,_),(3,_),(4,_),(6,_),(8,_)]) (cs2:=[j 3,j 0]) q (.obj q) (.b' q q) q mQ q q q q (.n q q (.n q q (.n q q (.n q q (.b q .nil)))))<|bS q) ?_
   obtain rfl:=au h
   exact af.bB (eW q q q q q)
  ·refine W.bI ?_
   obtain rfl:=au h
   exact af.bB (eW q q q q q)
 refine af.aX<|W.aZ ?_
 refine W.aU [2,3,4,6,8,44] ?_
 refine W.bw h q (λeU h=>?_) (λeU h=>?_)
 ·refine W.bY [4,5] (aj (O.dW (cs':=[j fi.1,j fi.2]) q (.obj q) lf q q)<|aj (O.aA (.own q))<|ar.dI (G2:=[(4,_),(6,_),(46,.bn eK.z ⟨6,[]⟩ x2.length)]) (cs2:=[j fi.1,j fi.2]) q (.obj q) (.b' q q) q mQ q q q q (.b q (.n q q (.w (en:=eK) q q q q .nil)))<|ar.gd (G2:=[(4,.obj [j fi.1,j fi.2])]) q (cj.iR q q (.bn q) q (.n q q .nil) q q)<|bS q) ?_
  refine W.e7 (G1:=[(4,_),(5,ah eK x2)]) [5] (.n q q (.z q q .hj .nil)) ?_
  refine W.rt ?_
  refine af.cK ?_
  obtain rfl:=au h
  exact cx (.c (ys0:=[j fi.1,j fi.2]) q lf q q q (.f q (.f q .nil)) (.f q q .nil))
 ·refine W.bI<|af.aX ?_
  obtain ⟨b1,hn,h⟩:=ay h
  refine W.aU [2,3,4,6,8,9] ?_
  refine W.aZ ?_
  obtain ⟨jX,aa,h⟩:=ay h
  refine W.rs [(2,.obj (cm.cells a0)),(3,.obj (fa.cells aw)),(4,.obj [j 0,j 0]),(6,ak eK x2),(8,.obj [j fi.1,j fi.2]),(9,j b1),(58,a1 jX)] ?_ ?_
  ·refine aj (O.bh q (.obj q) EV q)<|aj (O.cw q (.ptr q) cr q)<|aj (O.lss (.lit q) (.k q))<|aj (O.aA (.lit q)) ?_
   rcases cz aa with ⟨eb,aa⟩ | ⟨eb,aa⟩
   ·obtain rfl:=au aa
    exact ar.aW
   ·obtain rfl:=au aa
    exact ar.aW
  refine W.bw h q (λeM h=>?_) (λeM h=>?_)
  ·refine W.bY [4,5] (bq q<|aj (O.dR (cs:=[j 2,j b1]) pz lD q q q)<|aj (O.aA (.own q))<|ar.dI (G2:=[(4,_),(6,_),(61,.bn eK.z ⟨6,[]⟩ x2.length)]) (cs2:=[j 2,j b1]) q (.obj q) (.b' q q) q mQ q q q q (.b q (.n q q (.w (en:=eK) q q q q .nil)))<|ar.gd (G2:=[(4,.obj [j 2,j b1])]) q (cj.iR q q (.bn q) q (.n q q .nil) q q)<|bS q) ?_
   refine W.e7 (G1:=[(4,_),(5,ah eK x2)]) [5] (.n q q (.z q q .hj .nil)) ?_
   refine W.rt ?_
   refine af.cK ?_
   obtain rfl:=au h
   exact cx (.c (ys0:=[j 2,j b1]) q lf q q q (.f q (.f q .nil)) (.f q q .nil))
  ·refine W.bI<|af.aX ?_
   obtain ⟨cA,ic,h⟩:=ay h
   refine W.bY [3,4,6,8,9,10] (aj (O.dW (cs':=[ah bp a0.a',ah a6 a0.bu,ah bG a0.ba,ai a0.bA,ai a0.bF]) q (.obj q) gv q q)<|bq q<|aj (O.bh q (.obj q) zo q)<|aj (O.cw q (.ptr q) cr q)<|ee (cu.go (.b0 (.b' q q) (.b0 (.lit q) (.b0 (.lit q) .nil))) (O' a0 b1 aw.b5 _ ic) call75 q)<|ar.aW) ?_
   refine W.aZ<|W.bk ?_
   obtain ⟨B9,aa,h⟩:=ay h
   refine W.rs [(3,.obj (fa.cells aw)),(4,.obj [j 0,j 0]),(6,ak eK x2),(8,.obj [j fi.1,j fi.2]),(9,j b1),(10,j cA),(67,a1 B9)] ?_ ?_
   ·refine aj (O.bh q (.obj q) u6 q)<|aj (O.cw q (.ptr q) ns q)<|aj (O.aA (.lit q)) ?_
    rcases cz aa with ⟨iE,aa⟩ | ⟨iE,aa⟩
    ·obtain rfl:=au aa
     exact ar.aW
    ·obtain rfl:=au aa
     exact ar.aW
   refine W.bw h q (λgW h=>?_) (λgW h=>?_)
   ·refine W.aZ ?_
    obtain ⟨eD,mA,h⟩:=ay h
    refine W.rd [[],[],[],[2],[],[4],[],aP 2 5 [],aP 2 6 [],aP 1 8 [],aP 0 10 [],aP 0 11 []] [(4,_),(5,_)] ez (by kernel_rfl) (av 0 (O.dW (cs':=[j fi.1,j fi.2]) q (.obj q) lf q q)<|av 1 (O.aA (.own q))<|av 2 (O.bh q (.obj q) EU q)<|av 3 (O.cw q (.ptr q) cr q)<|av 4 (O.bh q (.obj q) zo q)<|av 5 (O.cw q (.ptr q) cr q)<|av 6 (O.aA (.lit q))<|av 7 (O.dR (cs:=[j aw.State,j aw.b5,j (-1),j b1]) Mx Ng q q q)<|bL.fC 8 (x:=ah eK [(⟨aw.State,aw.b5,(-1),b1⟩:fH)]) (O.dz (ys:=[.agg [j aw.State,j aw.b5,j (-1),j b1]]) eK [(⟨aw.State,aw.b5,(-1),b1⟩:fH)] HH q q q q q q Nl q q) q q q q .none<|av 9 (O.ap (en:=eK) (r:=eD) (.bn q) q (.aE q) .i D6 q mA)<|bL.IZ 10 (G2:=[(4,.obj [j fi.1,j fi.2]),(83,ak eK (x2++[(⟨aw.State,aw.b5,(-1),b1⟩:fH)]))]) (kO.settle (ts:=[83]) (xs:=[.bn eK.z ⟨83,[]⟩ (x2.length+[(⟨aw.State,aw.b5,(-1),b1⟩:fH)].length)]) (ys:=[.own eK.z (x2.length+[(⟨aw.State,aw.b5,(-1),b1⟩:fH)].length) (ch eK x2++ch eK [(⟨aw.State,aw.b5,(-1),b1⟩:fH)])]) (g2:=get [(4,.obj [j 0,j 0]),(6,.dead),(74,.agg [j fi.1,j fi.2]),(83,ak eK (x2++[(⟨aw.State,aw.b5,(-1),b1⟩:fH)]))]) q (il.take (.lx q q q .j8 .nil)) (by decide) q (NJ q) (Trim.keep (.n q (.n q (.n q (.e q (vN _ _ _) .nil))))) (cj.mZ (cj.dI (G2:=[(4,.obj [j fi.1,j fi.2]),(83,ak eK (x2++[(⟨aw.State,aw.b5,(-1),b1⟩:fH)]))]) (cs2:=[j fi.1,j fi.2]) q q q (.obj q) (.b' q q) q mQ q q q q (.b q (.n q q .nil))))) q q (by kernel_rfl) q q (by kernel_rfl)<|bL.bv 11 (G2:=[(4,.obj [j fi.1,j fi.2])]) (cj.iR q q (.own q) q (.n q q .nil) q q) q q q q (by kernel_rfl) (by kernel_rfl)<|bL.fin q q q (fG q q)) ?_
    refine af.aX<|W.e7 (G1:=[(4,_),(5,ah eK (x2++[(⟨aw.State,aw.b5,(-1),b1⟩:fH)]))]) [5] (.n q q (.z q q .hj .nil)) ?_
    refine W.rt ?_
    refine af.dv ?_
    refine af.cK ?_
    obtain rfl:=au h
    exact cx (.c (ys0:=[j fi.1,j fi.2]) q lf q q q (.f q (.f q .nil)) (.f q q .nil))
   ·refine W.aU [4,6,8,9,10,84] ?_
    refine W.bw h q (λkD h=>?_) (λkD h=>?_)
    ·refine W.bY [4,5] (bq q<|aj (O.dR (cs:=[j 2,j b1]) pz lD q q q)<|aj (O.aA (.own q))<|ar.dI (G2:=[(4,_),(6,_),(89,.bn eK.z ⟨6,[]⟩ x2.length)]) (cs2:=[j 2,j b1]) q (.obj q) (.b' q q) q mQ q q q q (.b q (.n q q (.w (en:=eK) q q q q .nil)))<|ar.gd (G2:=[(4,.obj [j 2,j b1])]) q (cj.iR q q (.bn q) q (.n q q .nil) q q)<|bS q) ?_
     refine W.e7 (G1:=[(4,_),(5,ah eK x2)]) [5] (.n q q (.z q q .hj .nil)) ?_
     refine W.rt ?_
     refine af.dv ?_
     refine af.cK ?_
     obtain rfl:=au h
     exact cx (.c (ys0:=[j 2,j b1]) q lf q q q (.f q (.f q .nil)) (.f q q .nil))
    ·refine W.aU [4,6,8,90] ?_
     refine W.bw h q (λjr h=>?_) (λjr h=>?_)
     ·refine W.bY [4,5] (aj (O.dR (cs:=[j 4,j 0]) pz lD q q q)<|aj (O.aA (.own q))<|ar.dI (G2:=[(4,_),(6,_),(94,.bn eK.z ⟨6,[]⟩ x2.length)]) (cs2:=[j 4,j 0]) q (.obj q) (.b' q q) q mQ q q q q (.b q (.n q q (.w (en:=eK) q q q q .nil)))<|ar.gd (G2:=[(4,.obj [j 4,j 0])]) q (cj.iR q q (.bn q) q (.n q q .nil) q q)<|bS q) ?_
      refine W.e7 (G1:=[(4,_),(5,ah eK x2)]) [5] (.n q q (.z q q .hj .nil)) ?_
      refine W.rt ?_
      refine af.dv ?_
      refine af.cK ?_
      obtain rfl:=au h
      exact cx (.c (ys0:=[j 4,j 0]) q lf q q q (.f q (.f q .nil)) (.f q q .nil))
     ·refine W.bI<|af.bk ?_
      refine af.aX<|W.bY [4,5] (aj (O.dW (cs':=[j fi.1,j fi.2]) q (.obj q) lf q q)<|aj (O.aA (.own q))<|ar.dI (G2:=[(4,_),(6,_),(96,.bn eK.z ⟨6,[]⟩ x2.length)]) (cs2:=[j fi.1,j fi.2]) q (.obj q) (.b' q q) q mQ q q q q (.b q (.n q q (.w (en:=eK) q q q q .nil)))<|ar.gd (G2:=[(4,.obj [j fi.1,j fi.2])]) q (cj.iR q q (.bn q) q (.n q q .nil) q q)<|bS q) ?_
      refine W.e7 (G1:=[(4,_),(5,ah eK x2)]) [5] (.n q q (.z q q .hj .nil)) ?_
      refine W.rt ?_
      obtain rfl:=au h
      exact cx (.c (ys0:=[j fi.1,j fi.2]) q lf q q q (.f q (.f q .nil)) (.f q q .nil))
theorem OU (a0:b_) (aw:(List State)) (a2:(List Cell)) (r:kv × (List fH)) (h:AW a0 aw a2=some r):cb Try.prog 32 [.agg (cm.cells a0),ah cP aw,ah fa a2] [none,none,none] (.cB [.agg [ah (bg ct) r.1.cL,ah (bg aI) r.1.cN],ah eK r.2]):=by
 unfold AW at h
 refine cb.go (N:=⟨92,[]⟩) Try.func32 q q q q (W.fin ?_)
 refine W.st [(0,.agg (cm.cells a0)),(1,ah cP aw),(2,ah fa a2)] ?_
 refine W.bY [1,2,3,6] (aj (O.box (.b' q q) q)<|aj (O.fL (cs:=[.aK,.aK]) uH q q)<|ar.aW) ?_
 refine W.bY [1,2,3,6,8] (aj (O.fL (cs:=[.aK,.aK]) uH q q)<|bS q) ?_
 refine W.aU [1,2,3,6,8,9] ?_
 refine W.aZ<|W.aU [1,2,3,6,8,9,10] ?_
 refine W.bk ?_
 obtain ⟨x2,ao,h⟩:=ay h
 refine W.cf (G1:=[(1,_),(2,_),(3,_),(6,_),(8,.obj [ak (bg ct) ([]:List (List Act)),ak (bg aI) ([]:List (List Int))]),(9,ak eK ([]:List fH)),(10,_)]) (.n q (.n q (.n q (.n q (.w q q (kT.obj (.o (.o .nil))) (.w q q .mK (.n q .nil))))))) ?_
 refine W.eO (s:=(([]:List (List Act)),([]:List (List Int)),([]:List fH),0)) (λ(s1:List (List Act) × List (List Int) × List fH × Int)=>[(1,ah cP aw),(2,ah fa a2),(3,.obj (cm.cells a0)),(6,.obj [.aK,.aK]),(8,.obj [ak (bg ct) s1.1,ak (bg aI) s1.2.1]),(9,ak eK s1.2.2.1),(10,j s1.2.2.2)]) 0 (λ(x2:List (List Act) × List (List Int) × List fH)=>[(6,.obj [.aK,.aK]),(8,.obj [ak (bg ct) x2.1,ak (bg aI) x2.2.1]),(9,ak eK x2.2.2)]) ao (λs1 o h=>?_) ?_
 ·clear ao
  refine W.aZ<|W.aU [1,2,3,6,8,9,10,20] ?_
  refine W.bw h q (λdd h=>?_) (λdd h=>?_)
  ·refine W.bI<|af.aX ?_
   refine W.aZ<|W.bk ?_
   obtain ⟨cq,lP,h⟩:=ay h
   refine W.bY [1,2,3,6,8,9,10,11] (aj (O.bh q (.obj q) ox q)<|aj (O.dm (y:=ah bp a0.a') q (.ptr q) pR q q)<|aj (O.h0 (.aE q) qe)<|aj (O.mk (en:=ct) (z0:=(⟨0,0⟩:Act)) s6 (.lit q) (.lit q) lD q q lP N' q)<|ar.gd (G2:=[(1,ah cP aw),(2,ah fa a2),(3,.obj (cm.cells a0)),(6,.obj [.aK,.aK]),(8,.obj [ak (bg ct) s1.1,ak (bg aI) s1.2.1]),(9,ak eK s1.2.2.1),(10,j s1.2.2.2)]) q (cj.iR q q (.own q) q (.n q q (.n q q (.n q q (.n q q (.n q q (.n q q (.n q q .nil))))))) q q)<|bS q) ?_
   refine W.aZ<|W.aU [1,2,3,6,8,9,10,11,12] ?_
   refine W.bk ?_
   obtain ⟨bz,ao,h⟩:=ay h
   refine W.cf (G1:=[(1,_),(2,_),(3,_),(6,_),(8,_),(9,_),(10,_),(11,_),(12,_)]) (hE q q q q q q q q q) ?_
   refine W.eO (s:=(s1.2.2.1,cq,0)) (λ(cH:List fH × List Act × Int)=>[(1,ah cP aw),(2,ah fa a2),(3,.obj (cm.cells a0)),(6,.obj [.aK,.aK]),(8,.obj [ak (bg ct) s1.1,ak (bg aI) s1.2.1]),(9,ak eK cH.1),(10,j s1.2.2.2),(11,ak ct cH.2.1),(12,j cH.2.2)]) 2 (λ(bz:List fH × List Act)=>[(1,ah cP aw),(2,ah fa a2),(3,.obj (cm.cells a0)),(6,.obj [.aK,.aK]),(8,.obj [ak (bg ct) s1.1,ak (bg aI) s1.2.1]),(9,ak eK bz.1),(10,j s1.2.2.2),(11,ak ct bz.2)]) ao (λcH o h=>?_) ?_
   ·clear ao
    refine W.aZ<|W.aU [1,2,3,6,8,9,10,11,12,30] ?_
    refine W.bw h q (λdp h=>?_) (λdp h=>?_)
    ·refine W.bI<|af.aX ?_
     refine W.aZ ?_
     obtain ⟨j6,aa,h⟩:=ay h
     refine W.bB [(1,ah cP aw),(2,ah fa a2),(3,.obj (cm.cells a0)),(6,.obj [.aK,.aK]),(8,.obj [ak (bg ct) s1.1,ak (bg aI) s1.2.1]),(9,ak eK j6.1),(10,j s1.2.2.2),(11,ak ct j6.2),(12,j cH.2.2)] ?_ ?_
     ·clear h; have h:=aa; clear aa
      refine W.bk ?_
      obtain ⟨b1,hn,h⟩:=ay h
      refine W.aU [1,2,3,6,8,9,10,11,12,39] ?_
      obtain ⟨fr,aa,h⟩:=ay h
      refine W.bB [(1,ah cP aw),(2,ah fa a2),(3,.obj (cm.cells a0)),(6,.obj [.aK,.aK]),(8,.obj [ak (bg ct) s1.1,ak (bg aI) s1.2.1]),(9,ak eK fr.1),(10,j s1.2.2.2),(11,ak ct fr.2),(12,j cH.2.2)] ?_ ?_
      ·clear h; have h:=aa; clear aa
       refine W.bw h q (λhc h=>?_) (λhc h=>?_)
       ·refine W.aZ ?_
        obtain ⟨eo,km,h⟩:=ay h
        obtain ⟨cA,ic,h⟩:=ay h
        refine W.rd [[],[],[],[1,2],[1,2,3],aP 0 5 [],aP 0 6 [],aP 0 7 [],aP 0 7 [],[],aP 0 8 [9],aP 0 11 []] [(1,_),(2,_),(3,_),(6,_),(8,_),(9,_),(10,_),(11,_),(12,_),(13,_),(14,_)] ez (by kernel_rfl) (av 0 (O.dW (cs':=[ah bp a0.a',ah a6 a0.bu,ah bG a0.ba,ai a0.bA,ai a0.bF]) q (.obj q) gv q q)<|av 1 (O.aA (.aE q))<|av 2 (O.aA (.lit q))<|av 3 (O.cC (.aE q) (.lit q) Br km)<|av 4 (O.iV (cs':=[j eo.State,j eo.b5,j eo.jm,a1 eo.kM,ah aI eo.ba]) (.bo q) B5 q q)<|iN 5 (cu.go (.b0 (.b' q q) (.b0 (.b' q q) .nil)) (O2 a0 eo _ ic) call58 q)<|av 6 (O.aA (.cB q q))<|av 7 (O.ex (y:=.agg [j cA.1.Kind,j cA.1.N]) q q q)<|av 8 (O.ex (y:=ah eK cA.2) q q q)<|av 9 (O.fL (cs:=[j 0,j 0]) lD q q)<|bL.dR 10 (G2:=[(1,ah cP aw),(2,ah fa a2),(3,.obj (cm.cells a0)),(6,.obj [.aK,.aK]),(8,.obj [ak (bg ct) s1.1,ak (bg aI) s1.2.1]),(9,ak eK cH.1),(10,j s1.2.2.2),(11,ak ct cH.2.1),(12,j cH.2.2),(13,.obj [j cA.1.Kind,j cA.1.N]),(40,.cB [.agg [j cA.1.Kind,j cA.1.N],ah eK cA.2])]) (U:=[(8,48,some (ah eK cA.2))]) (kO.v (cj.mZ (cj.dI (G2:=[(1,ah cP aw),(2,ah fa a2),(3,.obj (cm.cells a0)),(6,.obj [.aK,.aK]),(8,.obj [ak (bg ct) s1.1,ak (bg aI) s1.2.1]),(9,ak eK cH.1),(10,j s1.2.2.2),(11,ak ct cH.2.1),(12,j cH.2.2),(13,.obj [j cA.1.Kind,j cA.1.N]),(40,.cB [.agg [j cA.1.Kind,j cA.1.N],ah eK cA.2])]) (cs2:=[j cA.1.Kind,j cA.1.N]) q q q (.obj q) (.b' q q) q mQ q q q q (.n q q (.n q q (.n q q (.n q q (.n q q (.n q q (.n q q (.n q q (.n q q (.b q (.n q q .nil)))))))))))))) q q (by kernel_rfl) q q q (.c (.inr (.inr (.inr (.inr (.inl ⟨_,_,_,q,cT.bK⟩))))) q q q q q (gu.wanted .none) (O.ex (y:=ah eK cA.2) q q q) .nil) (by kernel_rfl)<|av 11 (O.dO (.aE q))<|bL.fin q q q (DG q q q q q q q q q q q)) ?_
        refine af.aX<|W.aZ ?_
        obtain ⟨ck,k6,h⟩:=ay h
        obtain ⟨b2,hY,h⟩:=ay h
        refine W.rd [[],[],[],[1,2],[1,2,3],[1,2,3,4],[],aP 0 7 [],aP 0 8 []] [(1,_),(2,_),(3,_),(6,_),(8,_),(9,_),(10,_),(11,_),(12,_),(14,_)] ez (by kernel_rfl) (av 0 (O.aA (.own q))<|av 1 (O.aA (.aE q))<|av 2 (O.aA (.lit q))<|av 3 (O.cC (.aE q) (.lit q) Br k6)<|av 4 (O.ej (.bo q) zo)<|av 5 (O.c9 (x:=j ck.b5) (.bo q) cr q)<|av 6 (O.dW (cs':=[j cA.1.Kind,j cA.1.N]) q (.obj q) lf q q)<|av 7 (O.gX (en:=ct) q (.bn q) (.lit q) s6 hY q)<|bL.jG 8 (G2:=[(1,ah cP aw),(2,ah fa a2),(3,.obj (cm.cells a0)),(6,.obj [.aK,.aK]),(8,.obj [ak (bg ct) s1.1,ak (bg aI) s1.2.1]),(9,ak eK cH.1),(10,j s1.2.2.2),(11,ak ct (cH.2.1.set ck.b5.toNat cA.1)),(12,j cH.2.2),(14,ah eK cA.2)]) (cj.pC (en:=ct) (y2:=cA.1) (cs':=[j cA.1.Kind,j cA.1.N]) (x2:=ak ct (cH.2.1.set ck.b5.toNat cA.1)) q q (.ptr q) (.b' q q) q hY mQ q q q q q q q (.n q q (.n q q (.n q q (.n q q (.n q q (.n q q (.n q q (.b q (.n q q (.n q q .nil))))))))))) q q q q (by kernel_rfl) (by kernel_rfl)<|bL.fin q q q (rY q q q q q q q q q q)) ?_
        refine af.aX ?_
        obtain ⟨eZ,j5,h⟩:=ay h
        refine W.bm [1,2,3,6,8,9,10,11,12] (aj (O.aA (.own q))<|aj (O.aA (.aE q))<|aj (O.ap (en:=eK) (r:=eZ) (.bn q) q (.aE q) .i D6 q j5)<|ar.gd (G2:=[(1,ah cP aw),(2,ah fa a2),(3,.obj (cm.cells a0)),(6,.obj [.aK,.aK]),(8,.obj [ak (bg ct) s1.1,ak (bg aI) s1.2.1]),(10,j s1.2.2.2),(11,ak ct (cH.2.1.set ck.b5.toNat cA.1)),(12,j cH.2.2)]) q (cj.mV q q (.bX q) q q q (.n q q (.n q q (.n q q (.n q q (.n q q (.n q q (.n q q (.n q q .nil)))))))) q q)<|bS q) ?_
        obtain rfl:=au h
        exact af.bB (hE q q q q q q q q q)
       ·refine W.bI ?_
        obtain rfl:=au h
        exact af.bB (hE q q q q q q q q q)
      refine af.bk ?_
      obtain rfl:=au h
      exact af.bB (hE q q q q q q q q q)
     refine af.aX<|W.bm [1,2,3,6,8,9,10,11,12] (bq q<|aj (O.add (.lit q) (.k q))<|ar.bm [1,2,3,6,8,9,10,11,32] q<|ar.aW) ?_
     obtain rfl:=au h
     exact af.go (hE q q q q q q q q q)
    ·refine W.da ?_
     refine af.c' ?_
     obtain rfl:=au h
     exact af.aF (ko q q q q q q q q)
   refine af.db ?_
   refine af.aX ?_
   obtain ⟨eD,mA,h⟩:=ay h
   refine W.bY [1,2,3,6,8,9,10,11,15] (aj (O.bh q (.obj q) sn q)<|aj (O.dm (y:=ah a6 a0.bu) q (.ptr q) sg q q)<|aj (O.h0 (.aE q) rU)<|aj (O.mk (en:=aI) (z0:=0) fk (.lit q) (.lit q) U2 q q mA Ob q)<|ar.gd (G2:=[(1,ah cP aw),(2,ah fa a2),(3,.obj (cm.cells a0)),(6,.obj [.aK,.aK]),(8,.obj [ak (bg ct) s1.1,ak (bg aI) s1.2.1]),(9,ak eK bz.1),(10,j s1.2.2.2),(11,ak ct bz.2)]) q (cj.iR q q (.own q) q (.n q q (.n q q (.n q q (.n q q (.n q q (.n q q (.n q q (.n q q .nil)))))))) q q)<|bS q) ?_
   refine W.aZ<|W.aU [1,2,3,6,8,9,10,11,15,16] ?_
   refine W.bk ?_
   obtain ⟨c8,ao,h⟩:=ay h
   refine W.cf (G1:=[(1,_),(2,_),(3,_),(6,_),(8,_),(9,_),(10,_),(11,_),(15,_),(16,_)]) (rY q q q q q q q q q q) ?_
   refine W.eO (s:=(eD,0)) (λ(l_:List Int × Int)=>[(1,ah cP aw),(2,ah fa a2),(3,.obj (cm.cells a0)),(6,.obj [.aK,.aK]),(8,.obj [ak (bg ct) s1.1,ak (bg aI) s1.2.1]),(9,ak eK bz.1),(10,j s1.2.2.2),(11,ak ct bz.2),(15,ak aI l_.1),(16,j l_.2)]) 4 (λ(c8:List Int)=>[(1,ah cP aw),(2,ah fa a2),(3,.obj (cm.cells a0)),(6,.obj [.aK,.aK]),(8,.obj [ak (bg ct) s1.1,ak (bg aI) s1.2.1]),(9,ak eK bz.1),(10,j s1.2.2.2),(11,ak ct bz.2),(15,ak aI c8)]) ao (λl_ o h=>?_) ?_
   ·clear ao
    refine W.aZ<|W.aU [1,2,3,6,8,9,10,11,15,16,67] ?_
    refine W.bw h q (λeu h=>?_) (λeu h=>?_)
    ·refine W.bI<|af.aX ?_
     refine W.aZ<|W.bk ?_
     obtain ⟨gr,mC,h⟩:=ay h
     obtain ⟨eQ,k7,h⟩:=ay h
     refine W.bm [1,2,3,6,8,9,10,11,15,16] (aj (O.aA (.own q))<|bq q<|aj (O.aA (.aE q))<|bq q<|bq q<|aj (O.add (.k q) (.lit q))<|ee (cu.go (.b0 (.aE q) (.b0 (.lit q) (.b0 (.lit q) .nil))) (y3 aw s1.2.2.2 (aQ (1000+l_.2)) _ mC) call59 q)<|aj (O.gX (en:=aI) q (.bn q) (.lit q) fk k7 q)<|ar.iT (G2:=[(1,ah cP aw),(2,ah fa a2),(3,.obj (cm.cells a0)),(6,.obj [.aK,.aK]),(8,.obj [ak (bg ct) s1.1,ak (bg aI) s1.2.1]),(9,ak eK bz.1),(10,j s1.2.2.2),(11,ak ct bz.2),(15,ak aI (l_.1.set l_.2.toNat gr)),(16,j l_.2)]) q (cj.pC (en:=aI) (y2:=gr) (cs':=[j gr]) (x2:=ak aI (l_.1.set l_.2.toNat gr)) q q (.ptr q) (.lit q) q k7 nJ q q q q q q q (.n q q (.n q q (.n q q (.n q q (.n q q (.n q q (.n q q (.n q q (.b q (.n q q .nil)))))))))))<|bS q) ?_
     refine af.bk ?_
     refine af.aX<|W.bm [1,2,3,6,8,9,10,11,15,16] (bq q<|aj (O.add (.lit q) (.k q))<|ar.bm [1,2,3,6,8,9,10,11,15,69] q<|ar.aW) ?_
     obtain rfl:=au h
     exact af.go (rY q q q q q q q q q q)
    ·refine W.da ?_
     refine af.c' ?_
     obtain rfl:=au h
     exact af.aF (hE q q q q q q q q q)
   refine af.db ?_
   refine af.aX<|W.e7 (G1:=[(1,_),(2,_),(3,_),(6,_),(8,_),(9,_),(10,_),(11,ah ct bz.2),(15,ah aI c8)]) [11,15] (.n q q (.n q q (.n q q (.n q q (.n q q (.n q q (.n q q (.z q q .hj (.z q q .hj .nil))))))))) ?_
   obtain ⟨iM,qS,h⟩:=ay h
   obtain ⟨gg,mD,h⟩:=ay h
   refine W.rd [[],[0],[],[2],[0,1,2,3],[],[5],[],[7],aP 0 9 [],aP 0 7 [],aP 0 11 [],aP 0 12 [],aP 0 13 []] [(1,_),(2,_),(3,_),(6,_),(8,_),(9,_),(10,_)] ez (by kernel_rfl) (av 0 (O.bh q (.obj q) so q)<|av 1 (O.dm (y:=.bn (bg ct).z ⟨8,[0]⟩ s1.1.length) q (.ptr q) tw q q)<|av 2 (O.aA (.aE q))<|bL.fC 3 (x:=ah (bg ct) [bz.2]) (O.dz (ys:=[ah ct bz.2]) (bg ct) [bz.2] uC q q q q q q U7 q q) q q q q .none<|av 4 (O.ap (en:=(bg ct)) (r:=iM) (.bn q) q (.aE q) .i NU q qS)<|av 5 (O.bh q (.obj q) xk q)<|av 6 (O.dm (y:=.bn (bg aI).z ⟨8,[1]⟩ s1.2.1.length) q (.ptr q) sf q q)<|av 7 (O.aA (.aE q))<|bL.fC 8 (x:=ah (bg aI) [c8]) (O.dz (ys:=[ah aI c8]) (bg aI) [c8] ly q q q q q q H6 q q) q q q q .none<|av 9 (O.NM (en:=(bg aI)) (r:=gg) (.bn q) q (.aE q) .i D4 q mD (LQ (by kernel_rfl) (by kernel_rfl)))<|av 10 (O.bh q (.obj q) so q)<|bL.IZ 11 (G2:=[(1,ah cP aw),(2,ah fa a2),(3,.obj (cm.cells a0)),(6,.obj [.aK,.aK]),(8,.obj [ak (bg ct) (s1.1++[bz.2]),.dead]),(9,ak eK bz.1),(10,j s1.2.2.2),(87,ak (bg aI) (s1.2.1++[c8]))]) (kO.settle (ts:=[82,87]) (xs:=[.bn (bg ct).z ⟨82,[]⟩ (s1.1.length+[bz.2].length),.bn (bg aI).z ⟨87,[]⟩ (s1.2.1.length+[c8].length)]) (ys:=[.own (bg ct).z (s1.1.length+[bz.2].length) (ch (bg ct) s1.1++ch (bg ct) [bz.2]),.own (bg aI).z (s1.2.1.length+[c8].length) (ch (bg aI) s1.2.1++ch (bg aI) [c8])]) (g2:=get [(1,ah cP aw),(2,ah fa a2),(3,.obj (cm.cells a0)),(6,.obj [.aK,.aK]),(8,.obj [.dead,.dead]),(9,ak eK bz.1),(10,j s1.2.2.2),(82,ak (bg ct) (s1.1++[bz.2])),(87,ak (bg aI) (s1.2.1++[c8])),(88,.ptr ⟨8,[]⟩ 0)]) q (il.take (.lx q q q .j8 (.lx q q q .j8 .nil))) (by decide) q (NK q q) (Trim.keep (.n q (.n q (.n q (.n q (.n q (.n q (.n q (.e q (vN _ _ _) (.e q (vN _ _ _) (.q q q q .nil))))))))))) (cj.mZ (cj.yo (y':=ak (bg ct) (s1.1++[bz.2])) (cs2:=[ak (bg ct) (s1.1++[bz.2]),.dead]) q q (.ptr q) (.own q) (.r q .nil) .refl q Uu q q q q q (.n q q (.n q q (.n q q (.n q q (.b q (.n q q (.n q q (.n q q .nil))))))))))) q q (by kernel_rfl) q q (by kernel_rfl)<|av 12 (O.bh q (.obj q) xk q)<|bL.jG 13 (G2:=[(1,ah cP aw),(2,ah fa a2),(3,.obj (cm.cells a0)),(6,.obj [.aK,.aK]),(8,.obj [ak (bg ct) (s1.1++[bz.2]),ak (bg aI) (s1.2.1++[c8])]),(9,ak eK bz.1),(10,j s1.2.2.2)]) (cj.yo (y':=ak (bg aI) (s1.2.1++[c8])) (cs2:=[ak (bg ct) (s1.1++[bz.2]),ak (bg aI) (s1.2.1++[c8])]) q q (.ptr q) (.own q) (.r q .nil) .refl q Ut q q q q q (.n q q (.n q q (.n q q (.n q q (.b q (.n q q (.n q q .nil)))))))) q q q q (by kernel_rfl) (by kernel_rfl)<|bL.fin q q q (hq q q q q q q q)) ?_
   refine af.bk ?_
   refine af.aX<|W.bm [1,2,3,6,8,9,10] (bq q<|aj (O.add (.lit q) (.k q))<|ar.bm [1,2,3,6,8,9,22] q<|ar.aW) ?_
   obtain rfl:=au h
   exact af.go (hq q q q q q q q)
  ·refine W.da ?_
   refine af.c' ?_
   obtain rfl:=au h
   exact af.aF (dq q q q)
 refine af.db ?_
 refine af.aX<|W.aZ ?_
 refine W.e7 (G1:=[(6,_),(8,.obj [ah (bg ct) x2.1,ah (bg aI) x2.2.1]),(9,_)]) [8] (.n q q (.z q q (gU.obj (.z (.z .nil))) (.n q q .nil))) ?_
 refine W.bm [6,7] (aj (O.dW (cs':=[ah (bg ct) x2.1,ah (bg aI) x2.2.1]) q (.obj q) rn q q)<|aj (O.aA (.own q))<|ar.dI (G2:=[(6,_),(9,_),(91,.bn eK.z ⟨9,[]⟩ x2.2.2.length)]) (cs2:=[ah (bg ct) x2.1,ah (bg aI) x2.2.1]) q (.obj q) (.b' q q) q wv q q q q (.b q (.n q q (.w (en:=eK) q q q q .nil)))<|ar.gd (G2:=[(6,.obj [ah (bg ct) x2.1,ah (bg aI) x2.2.1])]) q (cj.iR q q (.bn q) q (.n q q .nil) q q)<|bS q) ?_
 refine af.aX<|W.e7 (G1:=[(6,_),(7,ah eK x2.2.2)]) [7] (.n q q (.z q q .hj .nil)) ?_
 refine W.rt ?_
 obtain rfl:=au h
 exact cx (.c (ys0:=[ah (bg ct) x2.1,ah (bg aI) x2.2.1]) q rn q q q (.f q (.f q .nil)) (.f q q .nil))
theorem OX (a0:(List Cell)) (r:Int) (h:AZ a0=some r):cb Try.prog 48 [ah fa a0] [none] (j r):=by
 unfold AZ at h
 refine cb.go (N:=⟨20,[]⟩) Try.func48 q q q q (W.fin ?_)
 refine W.st [(0,ah fa a0)] ?_
 refine W.aU [0] ?_
 refine W.aU [0,3] ?_
 refine W.aZ<|W.aU [0,3,4] ?_
 refine W.bk ?_
 obtain ⟨x2,ao,h⟩:=ay h
 refine W.cf (G1:=[(0,_),(3,_),(4,_)]) (dq q q q) ?_
 refine W.eO (s:=(0,0)) (λ(s1:Int × Int)=>[(0,ah fa a0),(3,j s1.1),(4,j s1.2)]) 0 (λ(x2:Int)=>[(3,j x2)]) ao (λs1 o h=>?_) ?_
 ·clear ao
  refine W.aZ<|W.aU [0,3,4,8] ?_
  refine W.bw h q (λdd h=>?_) (λdd h=>?_)
  ·refine W.bI<|af.aX ?_
   refine W.aZ ?_
   obtain ⟨l6,aa,h⟩:=ay h
   refine W.bB [(0,ah fa a0),(3,j l6),(4,j s1.2)] ?_ ?_
   ·clear h; have h:=aa; clear aa
    refine W.bk ?_
    obtain ⟨bx,fJ,h⟩:=ay h
    obtain ⟨bz,gq,h⟩:=ay h
    refine W.bY [0,3,4,16] (aj (O.aA (.aE q))<|bq q<|aj (O.cC (.aE q) (.lit q) Br fJ)<|aj (O.iV (cs':=[j bx.State,j bx.b5,j bx.jm,a1 bx.kM,ah aI bx.ba]) (.bo q) B5 q q)<|ee (cu.go (.b0 (.b' q q) .nil) (Jv bx _ gq) call66 q)<|ar.aW) ?_
    obtain ⟨fi,aa,h⟩:=ay h
    refine W.bB [(0,ah fa a0),(3,j fi),(4,j s1.2)] ?_ ?_
    ·clear h; have h:=aa; clear aa
     refine W.bw h q (λdp h=>?_) (λdp h=>?_)
     ·refine W.bm [0,3,4] (bq q<|aj (O.add (.lit q) (.k q))<|ar.bm [0,4,18] q<|ar.aW) ?_
      obtain rfl:=au h
      exact af.bB (dq q q q)
     ·refine W.bI ?_
      obtain rfl:=au h
      exact af.bB (dq q q q)
    refine af.bk ?_
    obtain rfl:=au h
    exact af.bB (dq q q q)
   refine af.aX<|W.bm [0,3,4] (bq q<|aj (O.add (.lit q) (.k q))<|ar.bm [0,3,10] q<|ar.aW) ?_
   obtain rfl:=au h
   exact af.go (dq q q q)
  ·refine W.da ?_
   refine af.c' ?_
   obtain rfl:=au h
   exact af.aF (.n q .nil)
 refine af.db ?_
 refine af.aX<|W.aU [2] ?_
 refine W.rt ?_
 obtain rfl:=au h
 exact cx (.f q q .nil)
theorem Ez (a0:Source) (r:b_ × kv × Int × Bool) (h:vX a0=some r):cb Try.prog 21 [.agg (dY.cells a0)] [none] (.cB [.agg (cm.cells r.1),.agg [ah (bg ct) r.2.1.cL,ah (bg aI) r.2.1.cN],j r.2.2.1,a1 r.2.2.2]):=by
 unfold vX at h
 refine cb.go (N:=⟨34,[]⟩) Try.func21 q q q q (W.fin ?_)
 refine W.st [(0,.agg (dY.cells a0))] ?_
 refine W.bY [1,2,3] (aj (O.box (.b' q q) q)<|aj (O.fL (cs:=[.aK,.aK,.aK,ai aC,ai aC]) og q q)<|aj (O.fL (cs:=[.aK,.aK]) uH q q)<|ar.aW) ?_
 obtain ⟨aF,fI,h⟩:=ay h
 refine W.bY [2,3,6,7,8,9] (aj (O.dW (cs':=[ai a0.bA,ah de a0.Decls,ah ia a0.eG,ai a0.bF]) q (.obj q) uQ q q)<|ee (cu.go (.b0 (.b' q q) .nil) (OT a0 _ fI) call30 q)<|aj (O.aA (.cB q q))<|aj (O.ex (y:=.agg (cm.cells aF.1)) q q q)<|aj (O.ex (y:=ah cP aF.2.1) q q q)<|aj (O.ex (y:=ah fa aF.2.2.1) q q q)<|aj (O.ex (y:=a1 aF.2.2.2) q q q)<|aj (O.fL (cs:=[.aK,.aK,.aK,ai aC,ai aC]) og q q)<|ar.dI (G2:=[(2,_),(3,_),(6,_),(16,_),(17,_),(18,_)]) (cs2:=[ah bp aF.1.a',ah a6 aF.1.bu,ah bG aF.1.ba,ai aF.1.bA,ai aF.1.bF]) q (.obj q) (.b' q q) q mR q q q q (.n q q (.n q q (.b q (.n q q (.n q q (.n q q .nil))))))<|ar.aW) ?_
 refine W.aZ<|W.aU [2,3,6,7,8,20] ?_
 refine W.bw h q (λcO h=>?_) (λcO h=>?_)
 ·refine W.bY [2,3,4,5] (aj (O.dW (cs':=[ah bp aF.1.a',ah a6 aF.1.bu,ah bG aF.1.ba,ai aF.1.bA,ai aF.1.bF]) q (.obj q) gv q q)<|aj (O.dR (cs:=[.aK,.aK]) T8 uH q q q)<|ar.dI (G2:=[(2,_),(3,_),(22,_)]) (cs2:=[ah bp aF.1.a',ah a6 aF.1.bu,ah bG aF.1.ba,ai aF.1.bA,ai aF.1.bF]) q (.obj q) (.b' q q) q mR q q q q (.b q (.n q q (.n q q .nil)))<|ar.dI (G2:=[(2,_),(3,_)]) (cs2:=[.aK,.aK]) q (.obj q) (.b' q q) q wv q q q q (.n q q (.b q .nil))<|ar.aW) ?_
  refine W.e7 (G1:=[(2,_),(3,.obj [ah (bg ct) ([]:List (List Act)),ah (bg aI) ([]:List (List Int))]),(4,_),(5,_)]) [3] (.n q q (.z q q (gU.obj (.z (.z .nil))) (.n q q (.n q q .nil)))) ?_
  refine W.rt ?_
  refine af.cK ?_
  obtain rfl:=au h
  exact cx (.c (ys0:=[ah bp aF.1.a',ah a6 aF.1.bu,ah bG aF.1.ba,ai aF.1.bA,ai aF.1.bF]) q gv q q q (.f q (.f q (.f q (.f q (.f q .nil))))) (.c (ys0:=[ah (bg ct) ([]:List (List Act)),ah (bg aI) ([]:List (List Int))]) q rn q q q (.f q (.f q .nil)) (.f q q (.f q q .nil))))
 ·refine W.bI<|af.aX ?_
  obtain ⟨a_,hd,h⟩:=ay h
  refine W.bY [2,3,6,8,10] (aj (O.dW (cs':=[ah bp aF.1.a',ah a6 aF.1.bu,ah bG aF.1.ba,ai aF.1.bA,ai aF.1.bF]) q (.obj q) gv q q)<|aj (O.aA (.aE q))<|aj (O.aA (.aE q))<|ee (cu.go (.b0 (.b' q q) (.b0 (.aE q) (.b0 (.aE q) .nil))) (OU aF.1 aF.2.1 aF.2.2.1 _ hd) call32 q)<|aj (O.aA (.cB q q))<|aj (O.ex (y:=.agg [ah (bg ct) a_.1.cL,ah (bg aI) a_.1.cN]) q q q)<|aj (O.ex (y:=ah eK a_.2) q q q)<|aj (O.fL (cs:=[.aK,.aK]) uH q q)<|ar.dI (G2:=[(2,_),(3,_),(6,_),(8,_),(10,_),(29,_)]) (cs2:=[ah (bg ct) a_.1.cL,ah (bg aI) a_.1.cN]) q (.obj q) (.b' q q) q wv q q q q (.n q q (.n q q (.n q q (.n q q (.b q (.n q q .nil))))))<|ar.aW) ?_
  refine W.aZ ?_
  obtain ⟨bE,nf,h⟩:=ay h
  refine W.rd [[],[],[],[2],[0,2,3],aP 0 5 [],aP 0 6 [],aP 0 7 []] [(2,_),(3,_),(4,_),(5,_)] ez (by kernel_rfl) (av 0 (O.dW (cs':=[ah bp aF.1.a',ah a6 aF.1.bu,ah bG aF.1.ba,ai aF.1.bA,ai aF.1.bF]) q (.obj q) gv q q)<|av 1 (O.dW (cs':=[ah (bg ct) a_.1.cL,ah (bg aI) a_.1.cN]) q (.obj q) rn q q)<|av 2 (O.aA (.aE q))<|iN 3 (cu.go (.b0 (.aE q) .nil) (OX aF.2.2.1 _ nf) call48 q)<|bL.dR 4 (G2:=[(2,.obj (cm.cells aF.1)),(3,.obj [.aK,.aK]),(10,.obj [ah (bg ct) a_.1.cL,ah (bg aI) a_.1.cN]),(33,j bE)]) (U:=[(1,31,some (.agg [ah (bg ct) a_.1.cL,ah (bg aI) a_.1.cN]))]) (kO.v (cj.mZ (cj.dI (G2:=[(2,.obj (cm.cells aF.1)),(3,.obj [.aK,.aK]),(10,.obj [ah (bg ct) a_.1.cL,ah (bg aI) a_.1.cN]),(33,j bE)]) (cs2:=[ah bp aF.1.a',ah a6 aF.1.bu,ah bG aF.1.ba,ai aF.1.bA,ai aF.1.bF]) q q q (.obj q) (.b' q q) q mR q q q q (.b q (.n q q (.n q q (.n q q .nil))))))) q q (by kernel_rfl) q q q (.c (.inr (.inr (.inr (.inr (.inr ⟨_,q,tj.pl,Jb⟩))))) q q q q q (gu.wanted .none) (O.dW (cs':=[ah (bg ct) a_.1.cL,ah (bg aI) a_.1.cN]) q (.obj q) rn q q) .nil) (by kernel_rfl)<|bL.dI 5 (G2:=[(2,.obj (cm.cells aF.1)),(3,.obj [ah (bg ct) a_.1.cL,ah (bg aI) a_.1.cN]),(33,j bE)]) (cs2:=[ah (bg ct) a_.1.cL,ah (bg aI) a_.1.cN]) q (by kernel_rfl) (by kernel_rfl) q q q (.obj q) (.b' q q) q wv q q q q (.n q q (.b q (.n q q .nil)))<|av 6 (O.dO (.lit q))<|av 7 (O.dO (.k q))<|bL.fin q q q (dA q q q q)) ?_
  refine af.aX<|W.rt ?_
  obtain rfl:=au h
  exact cx (.c (ys0:=[ah bp aF.1.a',ah a6 aF.1.bu,ah bG aF.1.ba,ai aF.1.bA,ai aF.1.bF]) q gv q q q (.f q (.f q (.f q (.f q (.f q .nil))))) (.c (ys0:=[ah (bg ct) a_.1.cL,ah (bg aI) a_.1.cN]) q rn q q q (.f q (.f q .nil)) (.f q q (.f q q .nil))))
theorem OY (a0:(List cQ)) (aw:(List cQ)) (r:Bool) (h:Hk a0 aw=some r):cb Try.prog 49 [ah ew a0,ah ew aw] [none,none] (a1 r):=by
 unfold Hk at h
 refine cb.go (N:=⟨26,[]⟩) Try.func49 q q q q (W.fin ?_)
 refine W.st [(0,ah ew a0),(1,ah ew aw)] ?_
 refine W.aU [0,1] ?_
 refine W.aZ<|W.aU [0,1,10] ?_
 refine W.bw h q (λdg h=>?_) (λdg h=>?_)
 ·refine W.aU [4] ?_
  refine W.rt ?_
  refine af.cK ?_
  obtain rfl:=au h
  exact cx (.f q q .nil)
 ·refine W.bI<|af.aX ?_
  refine W.aZ<|W.aU [0,1,5] ?_
  refine W.bk ?_
  obtain ⟨a_,ao,h⟩:=ay h
  refine W.cf (G1:=[(0,_),(1,_),(5,_)]) (dq q q q) ?_
  refine W.iH (s:=0) (λ(s2:Int)=>[(0,ah ew a0),(1,ah ew aw),(5,j s2)]) 0 (λ(bE:Unit)=>[]) (λ(cq:Bool)=>[(4,a1 cq)]) ao (λs2 o h=>?_) (λbE J=>?_) (λcq J=>?_)
  ·clear ao
   refine W.aZ<|W.aU [0,1,5,14] ?_
   refine W.bw h q (λec h=>?_) (λec h=>?_)
   ·refine W.bI<|af.aX ?_
    refine W.aZ<|W.bk ?_
    refine W.aZ ?_
    obtain ⟨bz,gq,h⟩:=ay h
    obtain ⟨b3,ho,h⟩:=ay h
    refine W.rd [[],[],[0,1],[0,1,2],[],[],[4,5],[4,5,6],aP 0 8 []] [(0,_),(1,_),(5,_),(25,_)] ez (by kernel_rfl) (av 0 (O.aA (.aE q))<|av 1 (O.aA (.lit q))<|av 2 (O.cC (.aE q) (.lit q) q8 gq)<|av 3 (O.iV (cs':=[j bz.At,j bz.pN]) (.bo q) IN q q)<|av 4 (O.aA (.aE q))<|av 5 (O.aA (.lit q))<|av 6 (O.cC (.aE q) (.lit q) q8 ho)<|av 7 (O.iV (cs':=[j b3.At,j b3.pN]) (.bo q) IN q q)<|av 8 (O.Dc (va:=[.int .i64 bz.At,.int .i64 bz.pN]) (vb:=[.int .i64 b3.At,.int .i64 b3.pN]) (.b' q q) (.b' q q) q q PG)<|bL.fin q q q (dA q q q q)) ?_
    refine af.aX<|W.bw h q (λdp h=>?_) (λdp h=>?_)
    ·refine W.aU [4] ?_
     refine W.rt ?_
     refine af.dv ?_
     refine af.cK ?_
     obtain rfl:=au h
     exact af.fP (.n q .nil)
    ·refine W.bI<|af.bk ?_
     refine af.aX<|W.bm [0,1,5] (bq q<|aj (O.add (.lit q) (.k q))<|ar.bm [0,1,16] q<|ar.aW) ?_
     obtain rfl:=au h
     exact af.go (dq q q q)
   ·refine W.da ?_
    refine af.c' ?_
    obtain rfl:=au h
    exact af.x2 .nil
  ·subst J
   refine af.db ?_
   refine af.aX<|W.aU [4] ?_
   refine W.rt ?_
   obtain rfl:=au h
   exact cx (.f q q .nil)
  ·subst J
   refine af.dv ?_
   refine af.cK ?_
   obtain rfl:=au h
   exact cx (.f q q .nil)
theorem Jp (a0:(List Row)) (aw:(List Row)) (r:Bool) (h:Dm a0 aw=some r):cb Try.prog 22 [ah eH a0,ah eH aw] [none,none] (a1 r):=by
 unfold Dm at h
 refine cb.go (N:=⟨42,[]⟩) Try.func22 q q q q (W.fin ?_)
 refine W.st [(0,ah eH a0),(1,ah eH aw)] ?_
 refine W.aU [0,1] ?_
 refine W.aZ<|W.aU [0,1,10] ?_
 refine W.bw h q (λdg h=>?_) (λdg h=>?_)
 ·refine W.aU [4] ?_
  refine W.rt ?_
  refine af.cK ?_
  obtain rfl:=au h
  exact cx (.f q q .nil)
 ·refine W.bI<|af.aX ?_
  refine W.aZ<|W.aU [0,1,5] ?_
  refine W.bk ?_
  obtain ⟨a_,ao,h⟩:=ay h
  refine W.cf (G1:=[(0,_),(1,_),(5,_)]) (dq q q q) ?_
  refine W.iH (s:=0) (λ(s2:Int)=>[(0,ah eH a0),(1,ah eH aw),(5,j s2)]) 0 (λ(bE:Unit)=>[]) (λ(cq:Bool)=>[(4,a1 cq)]) ao (λs2 o h=>?_) (λbE J=>?_) (λcq J=>?_)
  ·clear ao
   refine W.aZ<|W.aU [0,1,5,14] ?_
   refine W.bw h q (λec h=>?_) (λec h=>?_)
   ·refine W.bI<|af.aX ?_
    refine W.aZ<|W.bk ?_
    refine W.aZ ?_
    obtain ⟨jX,aa,h⟩:=ay h
    refine W.rd [[],[],[0,1],[0,1,2],[0,1,2,3],[],[],[5,6],[5,6,7],[5,6,7,8],aP 0 10 [],aP 0 11 [],aP 0 12 [],aP 0 12 [],aP 0 14 [],aP 0 15 [],aP 0 16 [],aP 0 12 [],aP 0 12 [],aP 0 12 [17,18],aP 0 12 [17,18,19],aP 0 12 [17,18,19,20],aP 0 22 [],aP 0 23 [],aP 0 24 []] [(0,ah eH a0),(1,ah eH aw),(5,j s2),(41,a1 jX)] ez (by kernel_rfl) ?_ ?_
    ·refine av 0 (O.aA (.aE q))<|av 1 (O.aA (.lit q)) ?_
     obtain ⟨bz,gq,aa⟩:=ay aa
     refine av 2 (O.cC (.aE q) (.lit q) kn gq)<|av 3 (O.ej (.bo q) nT)<|av 4 (O.c9 (x:=j bz.Def) (.bo q) cr q)<|av 5 (O.aA (.aE q))<|av 6 (O.aA (.lit q)) ?_
     obtain ⟨b3,ho,aa⟩:=ay aa
     refine av 7 (O.cC (.aE q) (.lit q) kn ho)<|av 8 (O.ej (.bo q) nT)<|av 9 (O.c9 (x:=j b3.Def) (.bo q) cr q)<|av 10 (O.neq (.lit q) (.lit q))<|av 11 (O.aA (.lit q)) ?_
     rcases cz aa with ⟨dp,aa⟩ | ⟨dp,aa⟩
     ·obtain rfl:=au aa
      exact bs 12 dp<|bs 13 dp<|bs 14 dp<|bs 15 dp<|bs 16 dp<|bs 17 dp<|bs 18 dp<|bs 19 dp<|bs 20 dp<|bs 21 dp<|bs 22 dp<|bs 23 dp<|av 24 (O.dS (.lit q) dp (.k q))<|bL.fin q q q (dA q q q q)
     ·refine bC 12 dp (O.aA (.aE q))<|bC 13 dp (O.aA (.lit q)) ?_
      obtain ⟨bQ,jJ,aa⟩:=ay aa
      refine bC 14 dp (O.cC (.aE q) (.lit q) kn jJ)<|bC 15 dp (O.ej (.bo q) pS)<|bC 16 dp (O.c9 (x:=ah ew bQ.kg) (.bo q) ry q)<|bC 17 dp (O.aA (.aE q))<|bC 18 dp (O.aA (.lit q)) ?_
      obtain ⟨b1,hn,aa⟩:=ay aa
      refine bC 19 dp (O.cC (.aE q) (.lit q) kn hn)<|bC 20 dp (O.ej (.bo q) pS)<|bC 21 dp (O.c9 (x:=ah ew b1.kg) (.bo q) ry q) ?_
      obtain ⟨dU,lO,aa⟩:=ay aa
      obtain rfl:=au aa
      exact bL.c 22 (cu.go (.b0 (.aE q) (.b0 (.aE q) .nil)) (OY bQ.kg b1.kg _ lO) call49 q) q q q q (.hh q q dp)<|bC 23 dp (O.not (.lit q))<|av 24 (O.cZ (.lit q) dp (.lit q))<|bL.fin q q q (dA q q q q)
    refine af.aX<|W.bw h q (λeM h=>?_) (λeM h=>?_)
    ·refine W.aU [4] ?_
     refine W.rt ?_
     refine af.dv ?_
     refine af.cK ?_
     obtain rfl:=au h
     exact af.fP (.n q .nil)
    ·refine W.bI<|af.bk ?_
     refine af.aX<|W.bm [0,1,5] (bq q<|aj (O.add (.lit q) (.k q))<|ar.bm [0,1,16] q<|ar.aW) ?_
     obtain rfl:=au h
     exact af.go (dq q q q)
   ·refine W.da ?_
    refine af.c' ?_
    obtain rfl:=au h
    exact af.x2 .nil
  ·subst J
   refine af.db ?_
   refine af.aX<|W.aU [4] ?_
   refine W.rt ?_
   obtain rfl:=au h
   exact cx (.f q q .nil)
  ·subst J
   refine af.dv ?_
   refine af.cK ?_
   obtain rfl:=au h
   exact cx (.f q q .nil)
theorem Ju (a0:(List Int)) (r:Int) (h:vZ a0=some r):cb Try.prog 50 [ah aI a0] [none] (j r):=by
 unfold vZ at h
 refine cb.go (N:=⟨44,[]⟩) Try.func50 q q q q (W.fin ?_)
 refine W.st [(0,ah aI a0)] ?_
 refine W.aU [0] ?_
 refine W.bY [0,3] (aj (O.Th p5 p7)<|ar.gd (G2:=[(0,ah aI a0)]) q (cj.B1 (y':=.mp (kx p5 p7 ([]:List (Int × Int)))) q q (.mp q) (.m q .nil) .refl (.n q .nil) q q)<|bS q) ?_
 refine W.aU [0,3,4] ?_
 refine W.aZ<|W.bY [3,4,9,10,11] (aj (O.aA (.aE q))<|aj (O.h0 (.aE q) fk)<|aj (O.aA (.k q))<|bS q) ?_
 refine W.bk ?_
 obtain ⟨x2,ao,h⟩:=ay h
 refine W.cf (G1:=[(3,_),(4,_),(9,_),(10,_),(11,_)]) (eW q q q q q) ?_
 refine W.eO (s:=(([]:List (Int × Int)),(-1),0)) (λ(s1:(List (Int × Int)) × Int × Int)=>[(3,.mp (kx p5 p7 s1.1)),(4,j s1.2.1),(9,ah aI a0),(10,j (a0.length:Int)),(11,j s1.2.2)]) 0 (λ(x2:Int)=>[(4,j x2)]) ao (λs1 o h=>?_) ?_
 ·clear ao
  refine W.aU [3,4,9,10,11,12] ?_
  refine W.aZ<|W.bw h q (λdd h=>?_) (λdd h=>?_)
  ·refine W.bI<|af.aX ?_
   refine W.aZ ?_
   obtain ⟨l6,aa,h⟩:=ay h
   refine W.bB [(3,.mp (kx p5 p7 l6.1)),(4,j l6.2),(9,ah aI a0),(10,j (a0.length:Int)),(11,j s1.2.2)] ?_ ?_
   ·clear h; have h:=aa; clear aa
    refine W.bk ?_
    obtain ⟨bx,fJ,h⟩:=ay h
    refine W.aU [3,4,6,9,10,11] ?_
    obtain ⟨bz,gq,h⟩:=ay h
    obtain ⟨b3,ho,h⟩:=ay h
    refine W.bY [3,4,6,9,10,11] (aj (O.aA (.mp q))<|bq q<|aj (O.p4 (K:=p5) (V:=p7) (m:=s1.1) (x:=bx) (Y:=j bx) (X:=j bz) (.hD q) q (.lit q) q DH gq q)<|aj (O.add (.lit q) (.k q))<|ar.iT (G2:=[(3,.mp (kx p5 p7 b3)),(4,j s1.2.1),(6,j bx),(9,ah aI a0),(10,j (a0.length:Int)),(11,j s1.2.2)]) q (cj.mt (K:=p5) (V:=p7) (m:=s1.1) (m':=b3) (x:=bx) (y:=aQ (bz+1)) (Y:=j bx) (Z:=j (aQ (bz+1))) (p:=⟨3,[]⟩) (x2:=.mp (kx p5 p7 b3)) q q (.hD q) q (.lit q) q (.lit q) q DH ho q q q (.b q (.n q q (.n q q (.n q q (.n q q (.n q q .nil)))))))<|bS q) ?_
    obtain ⟨cF,jP,h⟩:=ay h
    obtain ⟨bQ,jJ,h⟩:=ay h
    refine W.bY [3,4,6,7,9,10,11] (aj (O.aA (.mp q))<|bq q<|aj (O.p4 (K:=p5) (V:=p7) (m:=b3) (x:=bx) (Y:=j bx) (X:=j cF) (.hD q) q (.lit q) q DH jP q)<|aj (O.aA (.mp q))<|bq q<|aj (O.p4 (K:=p5) (V:=p7) (m:=b3) (x:=s1.2.1) (Y:=j s1.2.1) (X:=j bQ) (.hD q) q (.lit q) q DH jJ q)<|ar.aW) ?_
    obtain ⟨qt,aa,h⟩:=ay h
    refine W.rs [(3,.mp (kx p5 p7 b3)),(4,j s1.2.1),(6,j bx),(9,ah aI a0),(10,j (a0.length:Int)),(11,j s1.2.2),(40,a1 qt)] ?_ ?_
    ·refine bq q<|aj (O.lss (.lit q) (.k q))<|aj (O.aA (.lit q)) ?_
     rcases cz aa with ⟨fh,aa⟩ | ⟨fh,aa⟩
     ·obtain rfl:=au aa
      exact ar.aW
     ·refine aM fh (O.aA (.lit q))<|aM fh (O.gtr (.lit q) (.k q))<|aj (O.cZ (.lit q) fh (.lit q))<|aj (O.aA (.lit q)) ?_
      rcases cz aa with ⟨eb,aa⟩ | ⟨eb,aa⟩
      ·obtain rfl:=au aa
       exact ar.aW
      ·refine aM eb (O.aA (.lit q))<|aM eb (O.eql (.lit q) (.k q))<|aM eb (O.aA (.lit q)) ?_
       rcases cz aa with ⟨hc,aa⟩ | ⟨hc,aa⟩
       ·obtain rfl:=au aa
        exact aM hc (O.aA (.lit q))<|aM hc (O.aA (.lit q))<|aM hc (O.lss (.lit q) (.lit q))<|aM eb (O.dS (.lit q) hc (.lit q))<|ar.aW
       ·obtain rfl:=au aa
        exact b6 hc<|b6 hc<|b6 hc<|aM eb (O.cZ (.lit q) hc (.k q))<|ar.aW
    obtain ⟨oH,aa,h⟩:=ay h
    refine W.bB [(3,.mp (kx p5 p7 b3)),(4,j oH),(9,ah aI a0),(10,j (a0.length:Int)),(11,j s1.2.2)] ?_ ?_
    ·clear h; have h:=aa; clear aa
     refine W.bw h q (λiE h=>?_) (λiE h=>?_)
     ·refine W.bm [3,4,9,10,11] (bq q<|ar.bm [3,9,10,11,41] q<|ar.aW) ?_
      obtain rfl:=au h
      exact af.bB (eW q q q q q)
     ·refine W.bI ?_
      obtain rfl:=au h
      exact af.bB (eW q q q q q)
    refine af.bk ?_
    obtain rfl:=au h
    exact af.bB (eW q q q q q)
   refine af.aX<|W.bm [3,4,9,10,11] (aj (O.add (.lit q) (.k q))<|ar.bm [3,4,9,10,42] q<|ar.aW) ?_
   obtain rfl:=au h
   exact af.go (eW q q q q q)
  ·refine W.da ?_
   refine af.c' ?_
   obtain rfl:=au h
   exact af.aF (.n q .nil)
 refine af.db ?_
 refine af.aX<|W.aU [2] ?_
 refine W.rt ?_
 obtain rfl:=au h
 exact cx (.f q q .nil)
theorem Jq (a0:kv) (r:(List Row)) (h:x6 a0=some r):cb Try.prog 23 [.agg [ah (bg ct) a0.cL,ah (bg aI) a0.cN]] [none] (ah eH r):=by
 unfold x6 at h
 refine cb.go (N:=⟨75,[]⟩) Try.func23 q q q q (W.fin ?_)
 refine W.st [(0,.agg [ah (bg ct) a0.cL,ah (bg aI) a0.cN])] ?_
 refine W.bY [1] (aj (O.box (.b' q q) q)<|ar.aW) ?_
 refine W.aU [1,3] ?_
 refine W.aZ<|W.bY [3,13,14,15] (aj (O.bh q (.obj q) so q)<|aj (O.dm (y:=ah (bg ct) a0.cL) q (.ptr q) tw q q)<|aj (O.h0 (.aE q) uC)<|aj (O.aA (.k q))<|bS q) ?_
 refine W.bk ?_
 obtain ⟨x2,ao,h⟩:=ay h
 refine W.cf (G1:=[(3,ak eH ([]:List Row)),(13,_),(14,_),(15,_)]) (.w q q .mK (dq q q q)) ?_
 refine W.eO (s:=(([]:List Row),0)) (λ(s1:List Row × Int)=>[(3,ak eH s1.1),(13,ah (bg ct) a0.cL),(14,j (a0.cL.length:Int)),(15,j s1.2)]) 0 (λ(x2:List Row)=>[(3,ak eH x2)]) ao (λs1 o h=>?_) ?_
 ·clear ao
  refine W.aU [3,13,14,15,16] ?_
  refine W.aZ<|W.bw h q (λdd h=>?_) (λdd h=>?_)
  ·refine W.bI<|af.aX ?_
   refine W.aZ<|W.bk ?_
   obtain ⟨cq,lP,h⟩:=ay h
   refine W.aU [3,5,13,14,15] ?_
   refine W.aU [3,5,6,13,14,15] ?_
   refine W.aZ<|W.bY [3,5,6,13,14,15,19,20,21] (aj (O.aA (.aE q))<|aj (O.h0 (.aE q) s6)<|aj (O.aA (.k q))<|bS q) ?_
   refine W.bk ?_
   obtain ⟨bz,ao,h⟩:=ay h
   refine W.cf (G1:=[(3,_),(5,_),(6,ak aI ([]:List Int)),(13,_),(14,_),(15,_),(19,_),(20,_),(21,_)]) (.n q (.n q (.w q q .mK (fp q q q q q q)))) ?_
   refine W.eO (s:=(([]:List Int),0)) (λ(cH:List Int × Int)=>[(3,ak eH s1.1),(5,ah ct cq),(6,ak aI cH.1),(13,ah (bg ct) a0.cL),(14,j (a0.cL.length:Int)),(15,j s1.2),(19,ah ct cq),(20,j (cq.length:Int)),(21,j cH.2)]) 2 (λ(bz:List Int)=>[(3,ak eH s1.1),(5,ah ct cq),(6,ak aI bz),(13,ah (bg ct) a0.cL),(14,j (a0.cL.length:Int)),(15,j s1.2)]) ao (λcH o h=>?_) ?_
   ·clear ao
    refine W.aU [3,5,6,13,14,15,19,20,21,22] ?_
    refine W.aZ<|W.bw h q (λdp h=>?_) (λdp h=>?_)
    ·refine W.bI<|af.aX ?_
     refine W.aZ ?_
     obtain ⟨j6,aa,h⟩:=ay h
     refine W.bB [(3,ak eH s1.1),(5,ah ct cq),(6,ak aI j6),(13,ah (bg ct) a0.cL),(14,j (a0.cL.length:Int)),(15,j s1.2),(19,ah ct cq),(20,j (cq.length:Int)),(21,j cH.2)] ?_ ?_
     ·clear h; have h:=aa; clear aa
      refine W.bk ?_
      obtain ⟨b1,hn,h⟩:=ay h
      refine W.bY [3,5,6,8,13,14,15,19,20,21] (aj (O.cC (.aE q) (.lit q) s6 hn)<|aj (O.iV (cs':=[j b1.Kind,j b1.N]) (.bo q) lf q q)<|aj (O.fL (cs:=[j 0,j 0]) lD q q)<|ar.dI (G2:=[(3,_),(5,_),(6,_),(8,_),(13,_),(14,_),(15,_),(19,_),(20,_),(21,_)]) (cs2:=[j b1.Kind,j b1.N]) q (.obj q) (.b' q q) q mQ q q q q (.n q q (.n q q (.n q q (.b q (.n q q (.n q q (.n q q (.n q q (.n q q (.n q q .nil))))))))))<|bS q) ?_
      refine W.aU [3,5,6,8,13,14,15,19,20,21,27] ?_
      obtain ⟨fr,aa,h⟩:=ay h
      refine W.bB [(3,ak eH s1.1),(5,ah ct cq),(6,ak aI fr),(13,ah (bg ct) a0.cL),(14,j (a0.cL.length:Int)),(15,j s1.2),(19,ah ct cq),(20,j (cq.length:Int)),(21,j cH.2)] ?_ ?_
      ·clear h; have h:=aa; clear aa
       refine W.bw h q (λhc h=>?_) (λhc h=>?_)
       ·obtain ⟨eo,km,h⟩:=ay h
        refine W.bm [3,5,6,13,14,15,19,20,21] (aj (O.aA (.own q))<|aj (O.bh q (.obj q) sm q)<|aj (O.cw q (.ptr q) cr q)<|ar.fC (x:=ah aI [b1.N]) (O.dz (ys:=[j b1.N]) aI [b1.N] fk q q q q q q oS q q) q q .none<|aj (O.ap (en:=aI) (r:=eo) (.bn q) q (.aE q) .i ov q km)<|ar.gd (G2:=[(3,ak eH s1.1),(5,ah ct cq),(13,ah (bg ct) a0.cL),(14,j (a0.cL.length:Int)),(15,j s1.2),(19,ah ct cq),(20,j (cq.length:Int)),(21,j cH.2)]) q (cj.mV q q (.bX q) q q q (.n q q (.n q q (.n q q (.n q q (.n q q (.n q q (.n q q (.n q q .nil)))))))) q q)<|bS q) ?_
        obtain rfl:=au h
        exact af.bB (hE q q q q q q q q q)
       ·refine W.bI ?_
        obtain rfl:=au h
        exact af.bB (hE q q q q q q q q q)
      refine af.bk ?_
      obtain rfl:=au h
      exact af.bB (hE q q q q q q q q q)
     refine af.aX<|W.bm [3,5,6,13,14,15,19,20,21] (aj (O.add (.lit q) (.k q))<|ar.bm [3,5,6,13,14,15,19,20,33] q<|ar.aW) ?_
     obtain rfl:=au h
     exact af.go (hE q q q q q q q q q)
    ·refine W.da ?_
     refine af.c' ?_
     obtain rfl:=au h
     exact af.aF (fp q q q q q q)
   refine af.db ?_
   refine af.aX ?_
   obtain ⟨cA,ic,h⟩:=ay h
   refine W.bY [3,5,9,13,14,15] (aj (O.aA (.own q))<|ee (cu.vw (ys:=[.bn aI.z ⟨6,[]⟩ bz.length]) q (.c (.row q) .nil) (Ju bz _ ic) call50 q)<|aj (O.dR (cs:=[j cA,.aK]) s5 re q q q)<|aj (O.fL (cs:=[j 0,.aK]) re q q)<|ar.dI (G2:=[(3,_),(5,_),(9,_),(13,_),(14,_),(15,_)]) (cs2:=[j cA,.aK]) q (.obj q) (.b' q q) q MO q q q q (.n q q (.n q q (.b q (.n q q (.n q q (.n q q .nil))))))<|bS q) ?_
   refine W.aZ<|W.bY [3,9,13,14,15,37,38,39] (aj (O.aA (.aE q))<|aj (O.h0 (.aE q) s6)<|aj (O.aA (.k q))<|bS q) ?_
   refine W.bk ?_
   obtain ⟨b2,ao,h⟩:=ay h
   refine W.cf (G1:=[(3,_),(9,.obj [j cA,ak ew ([]:List cQ)]),(13,_),(14,_),(15,_),(37,_),(38,_),(39,_)]) (.n q (.w q q (kT.obj (.f (.o .nil))) (fp q q q q q q))) ?_
   refine W.eO (s:=(([]:List cQ),0)) (λ(hg:List cQ × Int)=>[(3,ak eH s1.1),(9,.obj [j cA,ak ew hg.1]),(13,ah (bg ct) a0.cL),(14,j (a0.cL.length:Int)),(15,j s1.2),(37,ah ct cq),(38,j (cq.length:Int)),(39,j hg.2)]) 4 (λ(b2:List cQ)=>[(3,ak eH s1.1),(9,.obj [j cA,ak ew b2]),(13,ah (bg ct) a0.cL),(14,j (a0.cL.length:Int)),(15,j s1.2)]) ao (λhg o h=>?_) ?_
   ·clear ao
    refine W.aU [3,9,13,14,15,37,38,39,40] ?_
    refine W.aZ<|W.bw h q (λlp h=>?_) (λlp h=>?_)
    ·refine W.bI<|af.aX ?_
     refine W.aZ ?_
     obtain ⟨vA,aa,h⟩:=ay h
     refine W.bB [(3,ak eH s1.1),(9,.obj [j cA,ak ew vA]),(13,ah (bg ct) a0.cL),(14,j (a0.cL.length:Int)),(15,j s1.2),(37,ah ct cq),(38,j (cq.length:Int)),(39,j hg.2)] ?_ ?_
     ·clear h; have h:=aa; clear aa
      refine W.bk ?_
      obtain ⟨c8,mB,h⟩:=ay h
      refine W.bY [3,9,10,11,13,14,15,37,38,39] (bq q<|aj (O.cC (.aE q) (.lit q) s6 mB)<|aj (O.iV (cs':=[j c8.Kind,j c8.N]) (.bo q) lf q q)<|aj (O.fL (cs:=[j 0,j 0]) lD q q)<|Ip q<|ar.dI (G2:=[(3,_),(9,_),(10,_),(11,_),(13,_),(14,_),(15,_),(37,_),(38,_),(39,_)]) (cs2:=[j c8.Kind,j c8.N]) q (.obj q) (.b' q q) q mQ q q q q (.n q q (.n q q (.n q q (.b q (.n q q (.n q q (.n q q (.n q q (.n q q (.n q q .nil))))))))))<|bS q) ?_
      obtain ⟨tu,aa,h⟩:=ay h
      refine W.rs [(3,ak eH s1.1),(9,.obj [j cA,ak ew hg.1]),(10,j hg.2),(11,.obj [j c8.Kind,j c8.N]),(13,ah (bg ct) a0.cL),(14,j (a0.cL.length:Int)),(15,j s1.2),(37,ah ct cq),(38,j (cq.length:Int)),(39,j hg.2),(58,a1 tu)] ?_ ?_
      ·refine aj (O.bh q (.obj q) qA q)<|aj (O.cw q (.ptr q) cr q)<|aj (O.neq (.lit q) (.k q))<|aj (O.aA (.lit q)) ?_
       rcases cz aa with ⟨eE,aa⟩ | ⟨eE,aa⟩
       ·refine aM eE (O.bh q (.obj q) qA q)<|aM eE (O.cw q (.ptr q) cr q)<|aM eE (O.neq (.lit q) (.k q))<|aM eE (O.aA (.lit q)) ?_
        rcases cz aa with ⟨eu,aa⟩ | ⟨eu,aa⟩
        ·obtain rfl:=au aa
         exact b6 eu<|b6 eu<|b6 eu<|b6 eu<|b6 eu<|aM eE (O.dS (.lit q) eu (.k q))<|ar.aW
        ·obtain rfl:=au aa
         exact aM eu (O.bh q (.obj q) sm q)<|aM eu (O.cw q (.ptr q) cr q)<|aM eu (O.bh q (.obj q) nT q)<|aM eu (O.cw q (.ptr q) cr q)<|aM eu (O.neq (.lit q) (.lit q))<|aM eE (O.cZ (.lit q) eu (.lit q))<|ar.aW
       ·obtain rfl:=au aa
        exact ar.aW
      obtain ⟨Aq,aa,h⟩:=ay h
      refine W.bB [(3,ak eH s1.1),(9,.obj [j cA,ak ew Aq]),(13,ah (bg ct) a0.cL),(14,j (a0.cL.length:Int)),(15,j s1.2),(37,ah ct cq),(38,j (cq.length:Int)),(39,j hg.2)] ?_ ?_
      ·clear h; have h:=aa; clear aa
       refine W.bw h q (λgM h=>?_) (λgM h=>?_)
       ·obtain ⟨gg,mD,h⟩:=ay h
        obtain ⟨cV,qT,h⟩:=ay h
        refine W.rd [[],[0],[],[],[3],[2,3,4],[2,3,4,5],aP 0 7 [],aP 0 8 [],aP 0 9 []] [(3,_),(9,_),(13,_),(14,_),(15,_),(37,_),(38,_),(39,_)] ez (by kernel_rfl) (av 0 (O.bh q (.obj q) pS q)<|av 1 (O.dm (y:=.bn ew.z ⟨9,[1]⟩ hg.1.length) q (.ptr q) ry q q)<|av 2 (O.aA (.lit q))<|av 3 (O.dW (cs':=[j c8.Kind,j c8.N]) q (.obj q) lf q q)<|iN 4 (cu.go (.b0 (.b' q q) .nil) (Jm c8 _ mD) call15 q)<|av 5 (O.dR (cs:=[j hg.2,j gg]) ym yx q q q)<|bL.fC 6 (x:=ah ew [(⟨hg.2,gg⟩:cQ)]) (O.dz (ys:=[.agg [j hg.2,j gg]]) ew [(⟨hg.2,gg⟩:cQ)] q8 q q q q q q BL q q) q q q q .none<|av 7 (O.ap (en:=ew) (r:=cV) (.bn q) q (.aE q) .i IC q qT)<|av 8 (O.bh q (.obj q) pS q)<|bL.jG 9 (G2:=[(3,ak eH s1.1),(9,.obj [j cA,ak ew (hg.1++[(⟨hg.2,gg⟩:cQ)])]),(13,ah (bg ct) a0.cL),(14,j (a0.cL.length:Int)),(15,j s1.2),(37,ah ct cq),(38,j (cq.length:Int)),(39,j hg.2)]) (cj.nn (g1:=_) (en:=ew) (M:=[(⟨hg.2,gg⟩:cQ)]) (cs2:=[j cA,ak ew (hg.1++[(⟨hg.2,gg⟩:cQ)])]) q q (.ptr q) (.bX q) q q q .j8 .gR q q MN q q q q (.n q q (.b q (.n q q (.n q q (.n q q (.n q q (.n q q (.n q q .nil))))))))) q q q q (by kernel_rfl) (by kernel_rfl)<|bL.fin q q q (ko q q q q q q q q)) ?_
        obtain rfl:=au h
        exact af.bB (ko q q q q q q q q)
       ·refine W.bI ?_
        obtain rfl:=au h
        exact af.bB (ko q q q q q q q q)
      refine af.bk ?_
      obtain rfl:=au h
      exact af.bB (ko q q q q q q q q)
     refine af.aX<|W.bm [3,9,13,14,15,37,38,39] (aj (O.add (.lit q) (.k q))<|ar.bm [3,9,13,14,15,37,38,68] q<|ar.aW) ?_
     obtain rfl:=au h
     exact af.go (ko q q q q q q q q)
    ·refine W.da ?_
     refine af.c' ?_
     obtain rfl:=au h
     exact af.aF (eW q q q q q)
   refine af.db ?_
   refine af.aX<|W.e7 (G1:=[(3,_),(9,.obj [j cA,ah ew b2]),(13,_),(14,_),(15,_)]) [9] (.n q q (.z q q (gU.obj (.f (.z .nil))) (.n q q (.n q q (.n q q .nil))))) ?_
   obtain ⟨eJ,lr,h⟩:=ay h
   refine W.bm [3,13,14,15] (aj (O.aA (.own q))<|aj (O.dW (cs':=[j cA,ah ew b2]) q (.obj q) IM q q)<|ar.fC (x:=ah eH [(⟨cA,b2⟩:Row)]) (O.dz (ys:=[.agg [j cA,ah ew b2]]) eH [(⟨cA,b2⟩:Row)] kn q q q q q q DS q q) q q .none<|aj (O.ap (en:=eH) (r:=eJ) (.bn q) q (.aE q) .i IB q lr)<|ar.gd (G2:=[(13,ah (bg ct) a0.cL),(14,j (a0.cL.length:Int)),(15,j s1.2)]) q (cj.mV q q (.bX q) q q q (.n q q (.n q q (.n q q .nil))) q q)<|bS q) ?_
   refine af.bk ?_
   refine af.aX<|W.bm [3,13,14,15] (aj (O.add (.lit q) (.k q))<|ar.bm [3,13,14,73] q<|ar.aW) ?_
   obtain rfl:=au h
   exact af.go (dA q q q q)
  ·refine W.da ?_
   refine af.c' ?_
   obtain rfl:=au h
   exact af.aF (.n q .nil)
 refine af.db ?_
 refine af.aX<|W.bY [2] (aj (O.aA (.own q))<|ar.gd (G2:=[]) q (cj.iR q q (.bn q) q .nil q q)<|bS q) ?_
 refine W.e7 (G1:=[(2,ah eH x2)]) [2] (.z q q .hj .nil) ?_
 refine W.rt ?_
 obtain rfl:=au h
 exact cx (.f q q .nil)
theorem Jr (a0:kv) (r:(List Row)) (h:x7 a0=some r):cb Try.prog 25 [.agg [ah (bg ct) a0.cL,ah (bg aI) a0.cN]] [none] (ah eH r):=by
 unfold x7 at h
 refine cb.go (N:=⟨86,[]⟩) Try.func25 q q q q (W.fin ?_)
 refine W.st [(0,.agg [ah (bg ct) a0.cL,ah (bg aI) a0.cN])] ?_
 refine W.bY [1] (aj (O.box (.b' q q) q)<|ar.aW) ?_
 refine W.aZ<|W.aU [1,14] ?_
 refine W.bw h q (λdg h=>?_) (λdg h=>?_)
 ·refine W.aU [2] ?_
  refine W.e7 (G1:=[(2,ah eH ([]:List Row))]) [2] (.z q q .hj .nil) ?_
  refine W.rt ?_
  refine af.cK ?_
  obtain rfl:=au h
  exact cx (.f q q .nil)
 ·refine W.bI<|af.aX ?_
  refine W.aU [1,3] ?_
  refine W.aZ ?_
  obtain ⟨x2,hZ,h⟩:=ay h
  refine W.bY [1,3,19,20] (aj (O.bh q (.obj q) xk q)<|aj (O.dm (y:=ah (bg aI) a0.cN) q (.ptr q) sf q q)<|aj (O.cC (.aE q) (.k q) ly hZ)<|aj (O.c9 (x:=ah aI x2) (.bo q) hM q)<|aj (O.h0 (.aE q) fk)<|aj (O.aA (.k q))<|bS q) ?_
  refine W.bk ?_
  obtain ⟨bE,ao,h⟩:=ay h
  refine W.cf (G1:=[(1,_),(3,ak eH ([]:List Row)),(19,_),(20,_)]) (.n q (.w q q .mK (fG q q))) ?_
  refine W.eO (s:=(([]:List Row),0)) (λ(dh:List Row × Int)=>[(1,.obj [ah (bg ct) a0.cL,ah (bg aI) a0.cN]),(3,ak eH dh.1),(19,j (x2.length:Int)),(20,j dh.2)]) 0 (λ(bE:List Row)=>[(3,ak eH bE)]) ao (λdh o h=>?_) ?_
  ·clear ao
   refine W.aU [1,3,19,20,21] ?_
   refine W.aZ<|W.bw h q (λec h=>?_) (λec h=>?_)
   ·refine W.bI<|af.aX ?_
    refine W.aZ<|W.bk ?_
    refine W.aU [1,3,4,19,20] ?_
    refine W.aU [1,3,4,5,19,20] ?_
    refine W.aZ<|W.bY [1,3,4,5,19,20,24,25,26] (aj (O.bh q (.obj q) xk q)<|aj (O.dm (y:=ah (bg aI) a0.cN) q (.ptr q) sf q q)<|aj (O.h0 (.aE q) ly)<|aj (O.aA (.k q))<|bS q) ?_
    refine W.bk ?_
    obtain ⟨b3,ao,h⟩:=ay h
    refine W.cf (G1:=[(1,_),(3,_),(4,_),(5,ak aI ([]:List Int)),(19,_),(20,_),(24,_),(25,_),(26,_)]) (.n q (.n q (.n q (.w q q .mK (eW q q q q q))))) ?_
    refine W.eO (s:=(([]:List Int),0)) (λ(fB:List Int × Int)=>[(1,.obj [ah (bg ct) a0.cL,ah (bg aI) a0.cN]),(3,ak eH dh.1),(4,j dh.2),(5,ak aI fB.1),(19,j (x2.length:Int)),(20,j dh.2),(24,ah (bg aI) a0.cN),(25,j (a0.cN.length:Int)),(26,j fB.2)]) 2 (λ(b3:List Int)=>[(1,.obj [ah (bg ct) a0.cL,ah (bg aI) a0.cN]),(3,ak eH dh.1),(4,j dh.2),(5,ak aI b3),(19,j (x2.length:Int)),(20,j dh.2)]) ao (λfB o h=>?_) ?_
    ·clear ao
     refine W.aU [1,3,4,5,19,20,24,25,26,27] ?_
     refine W.aZ<|W.bw h q (λeU h=>?_) (λeU h=>?_)
     ·refine W.bI<|af.aX ?_
      refine W.aZ ?_
      obtain ⟨hf,aa,h⟩:=ay h
      refine W.bB [(1,.obj [ah (bg ct) a0.cL,ah (bg aI) a0.cN]),(3,ak eH dh.1),(4,j dh.2),(5,ak aI hf),(19,j (x2.length:Int)),(20,j dh.2),(24,ah (bg aI) a0.cN),(25,j (a0.cN.length:Int)),(26,j fB.2)] ?_ ?_
      ·clear h; have h:=aa; clear aa
       refine W.bk ?_
       obtain ⟨dU,lO,h⟩:=ay h
       refine W.aU [1,3,4,5,7,19,20,24,25,26] ?_
       obtain ⟨ei,kG,h⟩:=ay h
       refine W.aU [1,3,4,5,7,19,20,24,25,26,34] ?_
       obtain ⟨dr,aa,h⟩:=ay h
       refine W.bB [(1,.obj [ah (bg ct) a0.cL,ah (bg aI) a0.cN]),(3,ak eH dh.1),(4,j dh.2),(5,ak aI dr),(19,j (x2.length:Int)),(20,j dh.2),(24,ah (bg aI) a0.cN),(25,j (a0.cN.length:Int)),(26,j fB.2)] ?_ ?_
       ·clear h; have h:=aa; clear aa
        refine W.bw h q (λqG h=>?_) (λqG h=>?_)
        ·obtain ⟨ck,k6,h⟩:=ay h
         obtain ⟨b2,hY,h⟩:=ay h
         refine W.bm [1,3,4,5,19,20,24,25,26] (aj (O.aA (.own q))<|aj (O.aA (.aE q))<|bq q<|aj (O.cC (.aE q) (.lit q) fk k6)<|aj (O.c9 (x:=j ck) (.bo q) cr q)<|ar.fC (x:=ah aI [ck]) (O.dz (ys:=[j ck]) aI [ck] fk q q q q q q oS q q) q q .none<|aj (O.ap (en:=aI) (r:=b2) (.bn q) q (.aE q) .i ov q hY)<|ar.gd (G2:=[(1,.obj [ah (bg ct) a0.cL,ah (bg aI) a0.cN]),(3,ak eH dh.1),(4,j dh.2),(19,j (x2.length:Int)),(20,j dh.2),(24,ah (bg aI) a0.cN),(25,j (a0.cN.length:Int)),(26,j fB.2)]) q (cj.mV q q (.bX q) q q q (.n q q (.n q q (.n q q (.n q q (.n q q (.n q q (.n q q (.n q q .nil)))))))) q q)<|bS q) ?_
         obtain rfl:=au h
         exact af.bB (hE q q q q q q q q q)
        ·refine W.bI ?_
         obtain rfl:=au h
         exact af.bB (hE q q q q q q q q q)
       refine af.bk ?_
       obtain rfl:=au h
       exact af.bB (hE q q q q q q q q q)
      refine af.aX<|W.bm [1,3,4,5,19,20,24,25,26] (aj (O.add (.lit q) (.k q))<|ar.bm [1,3,4,5,19,20,24,25,42] q<|ar.aW) ?_
      obtain rfl:=au h
      exact af.go (hE q q q q q q q q q)
     ·refine W.da ?_
      refine af.c' ?_
      obtain rfl:=au h
      exact af.aF (fp q q q q q q)
    refine af.db ?_
    refine af.aX ?_
    obtain ⟨eZ,j5,h⟩:=ay h
    refine W.bY [1,3,4,8,19,20] (aj (O.aA (.own q))<|ee (cu.vw (ys:=[.bn aI.z ⟨5,[]⟩ b3.length]) q (.c (.row q) .nil) (Ju b3 _ j5) call50 q)<|aj (O.dR (cs:=[j eZ,.aK]) s5 re q q q)<|aj (O.fL (cs:=[j 0,.aK]) re q q)<|ar.dI (G2:=[(1,_),(3,_),(4,_),(8,_),(19,_),(20,_)]) (cs2:=[j eZ,.aK]) q (.obj q) (.b' q q) q MO q q q q (.n q q (.n q q (.n q q (.b q (.n q q (.n q q .nil))))))<|bS q) ?_
    refine W.aZ<|W.bY [1,3,4,8,19,20,47,48,49] (aj (O.bh q (.obj q) xk q)<|aj (O.dm (y:=ah (bg aI) a0.cN) q (.ptr q) sf q q)<|aj (O.h0 (.aE q) ly)<|aj (O.aA (.k q))<|bS q) ?_
    refine W.bk ?_
    obtain ⟨c0,ao,h⟩:=ay h
    refine W.cf (G1:=[(1,_),(3,_),(4,_),(8,.obj [j eZ,ak ew ([]:List cQ)]),(19,_),(20,_),(47,_),(48,_),(49,_)]) (.n q (.n q (.n q (.w q q (kT.obj (.f (.o .nil))) (eW q q q q q))))) ?_
    refine W.eO (s:=(([]:List cQ),0)) (λ(dx:List cQ × Int)=>[(1,.obj [ah (bg ct) a0.cL,ah (bg aI) a0.cN]),(3,ak eH dh.1),(4,j dh.2),(8,.obj [j eZ,ak ew dx.1]),(19,j (x2.length:Int)),(20,j dh.2),(47,ah (bg aI) a0.cN),(48,j (a0.cN.length:Int)),(49,j dx.2)]) 4 (λ(c0:List cQ)=>[(1,.obj [ah (bg ct) a0.cL,ah (bg aI) a0.cN]),(3,ak eH dh.1),(8,.obj [j eZ,ak ew c0]),(19,j (x2.length:Int)),(20,j dh.2)]) ao (λdx o h=>?_) ?_
    ·clear ao
     refine W.aU [1,3,4,8,19,20,47,48,49,50] ?_
     refine W.aZ<|W.bw h q (λeE h=>?_) (λeE h=>?_)
     ·refine W.bI<|af.aX ?_
      refine W.aZ ?_
      obtain ⟨GK,aa,h⟩:=ay h
      refine W.bB [(1,.obj [ah (bg ct) a0.cL,ah (bg aI) a0.cN]),(3,ak eH dh.1),(4,j dh.2),(8,.obj [j eZ,ak ew GK]),(19,j (x2.length:Int)),(20,j dh.2),(47,ah (bg aI) a0.cN),(48,j (a0.cN.length:Int)),(49,j dx.2)] ?_ ?_
      ·clear h; have h:=aa; clear aa
       refine W.bk ?_
       obtain ⟨gr,mC,h⟩:=ay h
       refine W.aU [1,3,4,8,9,10,19,20,47,48,49] ?_
       refine W.aZ ?_
       obtain ⟨sa,aa,h⟩:=ay h
       refine W.rd [[],[],[0,1],[0,1,2],[0,1,2,3],aP 0 5 [],aP 0 6 [],aP 0 6 [],aP 0 8 [],aP 0 9 [],aP 0 6 [],aP 0 6 [10],aP 0 12 [],aP 0 13 []] [(1,.obj [ah (bg ct) a0.cL,ah (bg aI) a0.cN]),(3,ak eH dh.1),(4,j dh.2),(8,.obj [j eZ,ak ew dx.1]),(9,j dx.2),(10,ah aI gr),(19,j (x2.length:Int)),(20,j dh.2),(47,ah (bg aI) a0.cN),(48,j (a0.cN.length:Int)),(49,j dx.2),(67,a1 sa)] ez (by kernel_rfl) ?_ ?_
       ·refine av 0 (O.aA (.aE q))<|av 1 (O.aA (.lit q)) ?_
        obtain ⟨eQ,k7,aa⟩:=ay aa
        refine av 2 (O.cC (.aE q) (.lit q) fk k7)<|av 3 (O.c9 (x:=j eQ) (.bo q) cr q)<|av 4 (O.geq (.lit q) (.k q))<|av 5 (O.aA (.lit q)) ?_
        rcases cz aa with ⟨gM,aa⟩ | ⟨gM,aa⟩
        ·refine bC 6 gM (O.aA (.aE q))<|bC 7 gM (O.aA (.lit q)) ?_
         obtain ⟨gg,mD,aa⟩:=ay aa
         obtain rfl:=au aa
         exact bC 8 gM (O.cC (.aE q) (.lit q) fk mD)<|bC 9 gM (O.c9 (x:=j gg) (.bo q) cr q)<|bC 10 gM (O.bh q (.obj q) nT q)<|bC 11 gM (O.cw q (.ptr q) cr q)<|bC 12 gM (O.neq (.lit q) (.lit q))<|av 13 (O.dS (.lit q) gM (.lit q))<|bL.fin q q q (.n q (.n q (.n q (.n q (.n q (.n q (.n q (.n q (.n q (.n q (.n q (.n q .nil))))))))))))
        ·obtain rfl:=au aa
         exact bs 6 gM<|bs 7 gM<|bs 8 gM<|bs 9 gM<|bs 10 gM<|bs 11 gM<|bs 12 gM<|av 13 (O.cZ (.lit q) gM (.k q))<|bL.fin q q q (.n q (.n q (.n q (.n q (.n q (.n q (.n q (.n q (.n q (.n q (.n q (.n q .nil))))))))))))
       refine af.aX ?_
       obtain ⟨sR,aa,h⟩:=ay h
       refine W.bB [(1,.obj [ah (bg ct) a0.cL,ah (bg aI) a0.cN]),(3,ak eH dh.1),(4,j dh.2),(8,.obj [j eZ,ak ew sR]),(19,j (x2.length:Int)),(20,j dh.2),(47,ah (bg aI) a0.cN),(48,j (a0.cN.length:Int)),(49,j dx.2)] ?_ ?_
       ·clear h; have h:=aa; clear aa
        refine W.bw h q (λzO h=>?_) (λzO h=>?_)
        ·obtain ⟨h9,nc,h⟩:=ay h
         obtain ⟨d_,sM,h⟩:=ay h
         refine W.rd [[],[0],[],[],[],[3,4],[3,4,5],aP 2 5 [],aP 2 6 [],aP 0 9 [],aP 0 10 [],aP 0 11 []] [(1,_),(3,_),(4,_),(8,_),(19,_),(20,_),(47,_),(48,_),(49,_)] ez (by kernel_rfl) (av 0 (O.bh q (.obj q) pS q)<|av 1 (O.dm (y:=.bn ew.z ⟨8,[1]⟩ dx.1.length) q (.ptr q) ry q q)<|av 2 (O.aA (.lit q))<|av 3 (O.aA (.aE q))<|av 4 (O.aA (.lit q))<|av 5 (O.cC (.aE q) (.lit q) fk nc)<|av 6 (O.c9 (x:=j h9) (.bo q) cr q)<|av 7 (O.dR (cs:=[j dx.2,j h9]) ym yx q q q)<|bL.fC 8 (x:=ah ew [(⟨dx.2,h9⟩:cQ)]) (O.dz (ys:=[.agg [j dx.2,j h9]]) ew [(⟨dx.2,h9⟩:cQ)] q8 q q q q q q BL q q) q q q q .none<|av 9 (O.ap (en:=ew) (r:=d_) (.bn q) q (.aE q) .i IC q sM)<|av 10 (O.bh q (.obj q) pS q)<|bL.jG 11 (G2:=[(1,.obj [ah (bg ct) a0.cL,ah (bg aI) a0.cN]),(3,ak eH dh.1),(4,j dh.2),(8,.obj [j eZ,ak ew (dx.1++[(⟨dx.2,h9⟩:cQ)])]),(19,j (x2.length:Int)),(20,j dh.2),(47,ah (bg aI) a0.cN),(48,j (a0.cN.length:Int)),(49,j dx.2)]) (cj.nn (g1:=_) (en:=ew) (M:=[(⟨dx.2,h9⟩:cQ)]) (cs2:=[j eZ,ak ew (dx.1++[(⟨dx.2,h9⟩:cQ)])]) q q (.ptr q) (.bX q) q q q .j8 .gR q q MN q q q q (.n q q (.n q q (.n q q (.b q (.n q q (.n q q (.n q q (.n q q (.n q q .nil)))))))))) q q q q (by kernel_rfl) (by kernel_rfl)<|bL.fin q q q (hE q q q q q q q q q)) ?_
         obtain rfl:=au h
         exact af.bB (hE q q q q q q q q q)
        ·refine W.bI ?_
         obtain rfl:=au h
         exact af.bB (hE q q q q q q q q q)
       refine af.bk ?_
       obtain rfl:=au h
       exact af.bB (hE q q q q q q q q q)
      refine af.aX<|W.bm [1,3,4,8,19,20,47,48,49] (aj (O.add (.lit q) (.k q))<|ar.bm [1,3,4,8,19,20,47,48,79] q<|ar.aW) ?_
      obtain rfl:=au h
      exact af.go (hE q q q q q q q q q)
     ·refine W.da ?_
      refine af.c' ?_
      obtain rfl:=au h
      exact af.aF (eW q q q q q)
    refine af.db ?_
    refine af.aX<|W.e7 (G1:=[(1,_),(3,_),(8,.obj [j eZ,ah ew c0]),(19,_),(20,_)]) [8] (.n q q (.n q q (.z q q (gU.obj (.f (.z .nil))) (.n q q (.n q q .nil))))) ?_
    obtain ⟨mf,sN,h⟩:=ay h
    refine W.bm [1,3,19,20] (aj (O.aA (.own q))<|aj (O.dW (cs':=[j eZ,ah ew c0]) q (.obj q) IM q q)<|ar.fC (x:=ah eH [(⟨eZ,c0⟩:Row)]) (O.dz (ys:=[.agg [j eZ,ah ew c0]]) eH [(⟨eZ,c0⟩:Row)] kn q q q q q q DS q q) q q .none<|aj (O.ap (en:=eH) (r:=mf) (.bn q) q (.aE q) .i IB q sN)<|ar.gd (G2:=[(1,.obj [ah (bg ct) a0.cL,ah (bg aI) a0.cN]),(19,j (x2.length:Int)),(20,j dh.2)]) q (cj.mV q q (.bX q) q q q (.n q q (.n q q (.n q q .nil))) q q)<|bS q) ?_
    refine af.bk ?_
    refine af.aX<|W.bm [1,3,19,20] (aj (O.add (.lit q) (.k q))<|ar.bm [1,3,19,84] q<|ar.aW) ?_
    obtain rfl:=au h
    exact af.go (dA q q q q)
   ·refine W.da ?_
    refine af.c' ?_
    obtain rfl:=au h
    exact af.aF (.n q .nil)
  refine af.db ?_
  refine af.aX<|W.bY [2] (aj (O.aA (.own q))<|ar.gd (G2:=[]) q (cj.iR q q (.bn q) q .nil q q)<|bS q) ?_
  refine W.e7 (G1:=[(2,ah eH bE)]) [2] (.z q q .hj .nil) ?_
  refine W.rt ?_
  obtain rfl:=au h
  exact cx (.f q q .nil)
theorem Jl  (r:Bool) (h:AU =some r):cb Try.prog 13 [] [] (a1 r):=by
 unfold AU at h
 refine cb.go (N:=⟨71,[]⟩) Try.func13 q q q q (W.fin ?_)
 refine W.st [] ?_
 refine W.dO [] ?_
 refine W.bY [1,2,3] (aj (O.dR (cs:=[ai ({ data:=#[101] }),a1 false,j 0,j 0]) wk rf q q q)<|aj (O.dR (cs:=[ai ({ data:=#[101] }),a1 false,j 0,j 0,ai aC,j 0]) wm qi q q q)<|aj (O.dR (cs:=[ai ({ data:=#[120] }),a1 true,j 0,j 0]) wk rf q q q)<|aj (O.dR (cs:=[ai ({ data:=#[120] }),a1 true,j 0,j 0,ai aC,j 0]) wm qi q q q)<|aj (O.dR (cs:=[ai ({ data:=#[43] }),a1 true,j 0,j 0]) wk rf q q q)<|aj (O.dR (cs:=[ai ({ data:=#[43] }),a1 true,j 0,j 0,ai aC,j 0]) wm qi q q q)<|aj (O.fL (cs:=[ai aC,a1 false,j 0,j 0,ai aC,j 0]) qi q q)<|aj (O.fL (cs:=[ai aC,a1 false,j 0,j 0,ai aC,j 0]) qi q q)<|aj (O.fL (cs:=[ai aC,a1 false,j 0,j 0,ai aC,j 0]) qi q q)<|ar.dI (G2:=[(1,_),(2,_),(3,_),(12,_),(14,_)]) (cs2:=[ai ({ data:=#[101] }),a1 false,j 0,j 0,ai aC,j 0]) q (.obj q) (.b' q q) q Bv q q q q (.b q (.n q q (.n q q (.n q q (.n q q .nil)))))<|ar.dI (G2:=[(1,_),(2,_),(3,_),(14,_)]) (cs2:=[ai ({ data:=#[120] }),a1 true,j 0,j 0,ai aC,j 0]) q (.obj q) (.b' q q) q Bv q q q q (.n q q (.b q (.n q q (.n q q .nil))))<|ar.dI (G2:=[(1,_),(2,_),(3,_)]) (cs2:=[ai ({ data:=#[43] }),a1 true,j 0,j 0,ai aC,j 0]) q (.obj q) (.b' q q) q Bv q q q q (.n q q (.n q q (.b q .nil)))<|bS q) ?_
 obtain ⟨aF,fI,h⟩:=ay h
 refine W.bY [5,7] (aj (O.dW (cs':=[ai ({ data:=#[101] }),a1 false,j 0,j 0,ai aC,j 0]) q (.obj q) w1 q q)<|aj (O.dW (cs':=[ai ({ data:=#[43] }),a1 true,j 0,j 0,ai aC,j 0]) q (.obj q) w1 q q)<|aj (O.dW (cs':=[ai ({ data:=#[120] }),a1 true,j 0,j 0,ai aC,j 0]) q (.obj q) w1 q q)<|ar.fC (x:=ah e6 [(⟨(⟨{ data:=#[101] },false,0,0⟩:Sym),aC,0⟩:Part),(⟨(⟨{ data:=#[43] },true,0,0⟩:Sym),aC,0⟩:Part),(⟨(⟨{ data:=#[120] },true,0,0⟩:Sym),aC,0⟩:Part)]) (O.dz (ys:=[.agg [ai ({ data:=#[101] }),a1 false,j 0,j 0,ai aC,j 0],.agg [ai ({ data:=#[43] }),a1 true,j 0,j 0,ai aC,j 0],.agg [ai ({ data:=#[120] }),a1 true,j 0,j 0,ai aC,j 0]]) e6 [(⟨(⟨{ data:=#[101] },false,0,0⟩:Sym),aC,0⟩:Part),(⟨(⟨{ data:=#[43] },true,0,0⟩:Sym),aC,0⟩:Part),(⟨(⟨{ data:=#[120] },true,0,0⟩:Sym),aC,0⟩:Part)] s7 q q q q q q yy q q) q q .none<|aj (O.dR (cs:=[ah e6 [(⟨(⟨{ data:=#[101] },false,0,0⟩:Sym),aC,0⟩:Part),(⟨(⟨{ data:=#[43] },true,0,0⟩:Sym),aC,0⟩:Part),(⟨(⟨{ data:=#[120] },true,0,0⟩:Sym),aC,0⟩:Part)],ai aC,a1 false,j 0,j 0,j 0]) HC DP q q q)<|aj (O.dW (cs':=[ai ({ data:=#[120] }),a1 true,j 0,j 0,ai aC,j 0]) q (.obj q) w1 q q)<|ar.fC (x:=ah e6 [(⟨(⟨{ data:=#[120] },true,0,0⟩:Sym),aC,0⟩:Part)]) (O.dz (ys:=[.agg [ai ({ data:=#[120] }),a1 true,j 0,j 0,ai aC,j 0]]) e6 [(⟨(⟨{ data:=#[120] },true,0,0⟩:Sym),aC,0⟩:Part)] s7 q q q q q q yy q q) q q .none<|aj (O.dR (cs:=[ah e6 [(⟨(⟨{ data:=#[120] },true,0,0⟩:Sym),aC,0⟩:Part)],ai aC,a1 false,j 0,j 0,j 0]) HC DP q q q)<|ar.fC (x:=ah e1 [(⟨[(⟨(⟨{ data:=#[101] },false,0,0⟩:Sym),aC,0⟩:Part),(⟨(⟨{ data:=#[43] },true,0,0⟩:Sym),aC,0⟩:Part),(⟨(⟨{ data:=#[120] },true,0,0⟩:Sym),aC,0⟩:Part)],(⟨aC,false,0,0⟩:Sym),0⟩:Alt),(⟨[(⟨(⟨{ data:=#[120] },true,0,0⟩:Sym),aC,0⟩:Part)],(⟨aC,false,0,0⟩:Sym),0⟩:Alt)]) (O.dz (ys:=[.agg [ah e6 [(⟨(⟨{ data:=#[101] },false,0,0⟩:Sym),aC,0⟩:Part),(⟨(⟨{ data:=#[43] },true,0,0⟩:Sym),aC,0⟩:Part),(⟨(⟨{ data:=#[120] },true,0,0⟩:Sym),aC,0⟩:Part)],ai aC,a1 false,j 0,j 0,j 0],.agg [ah e6 [(⟨(⟨{ data:=#[120] },true,0,0⟩:Sym),aC,0⟩:Part)],ai aC,a1 false,j 0,j 0,j 0]]) e1 [(⟨[(⟨(⟨{ data:=#[101] },false,0,0⟩:Sym),aC,0⟩:Part),(⟨(⟨{ data:=#[43] },true,0,0⟩:Sym),aC,0⟩:Part),(⟨(⟨{ data:=#[120] },true,0,0⟩:Sym),aC,0⟩:Part)],(⟨aC,false,0,0⟩:Sym),0⟩:Alt),(⟨[(⟨(⟨{ data:=#[120] },true,0,0⟩:Sym),aC,0⟩:Part)],(⟨aC,false,0,0⟩:Sym),0⟩:Alt)] wo q q q q q q H7 q q) q q .none<|aj (O.dR (cs:=[ai ({ data:=#[101] }),ah e1 [(⟨[(⟨(⟨{ data:=#[101] },false,0,0⟩:Sym),aC,0⟩:Part),(⟨(⟨{ data:=#[43] },true,0,0⟩:Sym),aC,0⟩:Part),(⟨(⟨{ data:=#[120] },true,0,0⟩:Sym),aC,0⟩:Part)],(⟨aC,false,0,0⟩:Sym),0⟩:Alt),(⟨[(⟨(⟨{ data:=#[120] },true,0,0⟩:Sym),aC,0⟩:Part)],(⟨aC,false,0,0⟩:Sym),0⟩:Alt)],j 0]) My DQ q q q)<|ar.fC (x:=ah ia [(⟨{ data:=#[101] },[(⟨[(⟨(⟨{ data:=#[101] },false,0,0⟩:Sym),aC,0⟩:Part),(⟨(⟨{ data:=#[43] },true,0,0⟩:Sym),aC,0⟩:Part),(⟨(⟨{ data:=#[120] },true,0,0⟩:Sym),aC,0⟩:Part)],(⟨aC,false,0,0⟩:Sym),0⟩:Alt),(⟨[(⟨(⟨{ data:=#[120] },true,0,0⟩:Sym),aC,0⟩:Part)],(⟨aC,false,0,0⟩:Sym),0⟩:Alt)],0⟩:gk)]) (O.dz (ys:=[.agg [ai ({ data:=#[101] }),ah e1 [(⟨[(⟨(⟨{ data:=#[101] },false,0,0⟩:Sym),aC,0⟩:Part),(⟨(⟨{ data:=#[43] },true,0,0⟩:Sym),aC,0⟩:Part),(⟨(⟨{ data:=#[120] },true,0,0⟩:Sym),aC,0⟩:Part)],(⟨aC,false,0,0⟩:Sym),0⟩:Alt),(⟨[(⟨(⟨{ data:=#[120] },true,0,0⟩:Sym),aC,0⟩:Part)],(⟨aC,false,0,0⟩:Sym),0⟩:Alt)],j 0]]) ia [(⟨{ data:=#[101] },[(⟨[(⟨(⟨{ data:=#[101] },false,0,0⟩:Sym),aC,0⟩:Part),(⟨(⟨{ data:=#[43] },true,0,0⟩:Sym),aC,0⟩:Part),(⟨(⟨{ data:=#[120] },true,0,0⟩:Sym),aC,0⟩:Part)],(⟨aC,false,0,0⟩:Sym),0⟩:Alt),(⟨[(⟨(⟨{ data:=#[120] },true,0,0⟩:Sym),aC,0⟩:Part)],(⟨aC,false,0,0⟩:Sym),0⟩:Alt)],0⟩:gk)] pA q q q q q q Np q q) q q .none<|ar.fC (x:=.agg [ai aC,ah de ([]:List Decl),ah ia [(⟨{ data:=#[101] },[(⟨[(⟨(⟨{ data:=#[101] },false,0,0⟩:Sym),aC,0⟩:Part),(⟨(⟨{ data:=#[43] },true,0,0⟩:Sym),aC,0⟩:Part),(⟨(⟨{ data:=#[120] },true,0,0⟩:Sym),aC,0⟩:Part)],(⟨aC,false,0,0⟩:Sym),0⟩:Alt),(⟨[(⟨(⟨{ data:=#[120] },true,0,0⟩:Sym),aC,0⟩:Part)],(⟨aC,false,0,0⟩:Sym),0⟩:Alt)],0⟩:gk)],ai aC]) (O.dR (cs:=[ai aC,.aK,ah ia [(⟨{ data:=#[101] },[(⟨[(⟨(⟨{ data:=#[101] },false,0,0⟩:Sym),aC,0⟩:Part),(⟨(⟨{ data:=#[43] },true,0,0⟩:Sym),aC,0⟩:Part),(⟨(⟨{ data:=#[120] },true,0,0⟩:Sym),aC,0⟩:Part)],(⟨aC,false,0,0⟩:Sym),0⟩:Alt),(⟨[(⟨(⟨{ data:=#[120] },true,0,0⟩:Sym),aC,0⟩:Part)],(⟨aC,false,0,0⟩:Sym),0⟩:Alt)],0⟩:gk)],ai aC]) Mw DO q q q) q q .none<|ee (cu.go (.b0 (.b' q q) .nil) (Ez (⟨aC,([]:List Decl),[(⟨{ data:=#[101] },[(⟨[(⟨(⟨{ data:=#[101] },false,0,0⟩:Sym),aC,0⟩:Part),(⟨(⟨{ data:=#[43] },true,0,0⟩:Sym),aC,0⟩:Part),(⟨(⟨{ data:=#[120] },true,0,0⟩:Sym),aC,0⟩:Part)],(⟨aC,false,0,0⟩:Sym),0⟩:Alt),(⟨[(⟨(⟨{ data:=#[120] },true,0,0⟩:Sym),aC,0⟩:Part)],(⟨aC,false,0,0⟩:Sym),0⟩:Alt)],0⟩:gk)],aC⟩:Source) _ fI) call21 q)<|aj (O.aA (.cB q q))<|aj (O.ex (y:=.agg (cm.cells aF.1)) q q q)<|aj (O.ex (y:=.agg [ah (bg ct) aF.2.1.cL,ah (bg aI) aF.2.1.cN]) q q q)<|aj (O.ex (y:=j aF.2.2.1) q q q)<|aj (O.ex (y:=a1 aF.2.2.2) q q q)<|aj (O.fL (cs:=[.aK,.aK,.aK,ai aC,ai aC]) og q q)<|aj (O.fL (cs:=[.aK,.aK]) uH q q)<|ar.dI (G2:=[(4,_),(5,_),(30,_),(31,_),(32,_)]) (cs2:=[ah bp aF.1.a',ah a6 aF.1.bu,ah bG aF.1.ba,ai aF.1.bA,ai aF.1.bF]) q (.obj q) (.b' q q) q mR q q q q (.b q (.n q q (.n q q (.n q q (.n q q .nil)))))<|ar.dI (G2:=[(5,_),(31,_),(32,_)]) (cs2:=[ah (bg ct) aF.2.1.cL,ah (bg aI) aF.2.1.cN]) q (.obj q) (.b' q q) q wv q q q q (.b q (.n q q (.n q q .nil)))<|ar.aW) ?_
 refine W.bY [5,7,8] (aj (O.dR (cs:=[j 4,j 2]) ym yx q q q)<|ar.fC (x:=ah ew [(⟨4,2⟩:cQ)]) (O.dz (ys:=[.agg [j 4,j 2]]) ew [(⟨4,2⟩:cQ)] q8 q q q q q q BL q q) q q .none<|aj (O.dR (cs:=[j (-1),ah ew [(⟨4,2⟩:cQ)]]) s5 re q q q)<|ar.fC (x:=.agg [j 2,ah ew ([]:List cQ)]) (O.dR (cs:=[j 2,.aK]) s5 re q q q) q q .none<|aj (O.dR (cs:=[j 0,j 20001]) ym yx q q q)<|aj (O.dR (cs:=[j 3,j 4]) ym yx q q q)<|ar.fC (x:=ah ew [(⟨0,20001⟩:cQ),(⟨3,4⟩:cQ)]) (O.dz (ys:=[.agg [j 0,j 20001],.agg [j 3,j 4]]) ew [(⟨0,20001⟩:cQ),(⟨3,4⟩:cQ)] q8 q q q q q q BL q q) q q .none<|aj (O.dR (cs:=[j (-1),ah ew [(⟨0,20001⟩:cQ),(⟨3,4⟩:cQ)]]) s5 re q q q)<|aj (O.dR (cs:=[j 4,j 5]) ym yx q q q)<|ar.fC (x:=ah ew [(⟨4,5⟩:cQ)]) (O.dz (ys:=[.agg [j 4,j 5]]) ew [(⟨4,5⟩:cQ)] q8 q q q q q q BL q q) q q .none<|aj (O.dR (cs:=[j (-1),ah ew [(⟨4,5⟩:cQ)]]) s5 re q q q)<|ar.fC (x:=.agg [j 1,ah ew ([]:List cQ)]) (O.dR (cs:=[j 1,.aK]) s5 re q q q) q q .none<|aj (O.dz (ys:=[.agg [j (-1),ah ew [(⟨4,2⟩:cQ)]],.agg [j 2,ah ew ([]:List cQ)],.agg [j (-1),ah ew [(⟨0,20001⟩:cQ),(⟨3,4⟩:cQ)]],.agg [j (-1),ah ew [(⟨4,5⟩:cQ)]],.agg [j 1,ah ew ([]:List cQ)]]) eH [(⟨(-1),[(⟨4,2⟩:cQ)]⟩:Row),(⟨2,([]:List cQ)⟩:Row),(⟨(-1),[(⟨0,20001⟩:cQ),(⟨3,4⟩:cQ)]⟩:Row),(⟨(-1),[(⟨4,5⟩:cQ)]⟩:Row),(⟨1,([]:List cQ)⟩:Row)] kn q q q q q q DS q q)<|ar.gd (G2:=[(5,.obj [ah (bg ct) aF.2.1.cL,ah (bg aI) aF.2.1.cN]),(7,a1 aF.2.2.2)]) q (cj.iR q q (.own q) q (.n q q (.n q q .nil)) q q)<|bS q) ?_
 obtain ⟨qs,aa,h⟩:=ay h
 refine W.rs [(0,a1 qs)] ?_ ?_
 ·refine bq q<|aj (O.aA (.lit q)) ?_
  rcases cz aa with ⟨cO,aa⟩ | ⟨cO,aa⟩
  ·refine aM cO (O.dW (cs':=[ah (bg ct) aF.2.1.cL,ah (bg aI) aF.2.1.cN]) q (.obj q) rn q q) ?_
   obtain ⟨a_,hd,aa⟩:=ay aa
   refine ar.c (cu.go (.b0 (.b' q q) .nil) (Jq aF.2.1 _ hd) call23 q) q q (.hh q q cO)<|aM cO (O.aA (.own q)) ?_
   obtain ⟨bE,nf,aa⟩:=ay aa
   refine ar.c (cu.vw (ys:=[ah eH a_,.bn eH.z ⟨8,[]⟩ [(⟨(-1),[(⟨4,2⟩:cQ)]⟩:Row),(⟨2,([]:List cQ)⟩:Row),(⟨(-1),[(⟨0,20001⟩:cQ),(⟨3,4⟩:cQ)]⟩:Row),(⟨(-1),[(⟨4,5⟩:cQ)]⟩:Row),(⟨1,([]:List cQ)⟩:Row)].length]) q (.s (.c (.row q) .nil)) (Jp a_ [(⟨(-1),[(⟨4,2⟩:cQ)]⟩:Row),(⟨2,([]:List cQ)⟩:Row),(⟨(-1),[(⟨0,20001⟩:cQ),(⟨3,4⟩:cQ)]⟩:Row),(⟨(-1),[(⟨4,5⟩:cQ)]⟩:Row),(⟨1,([]:List cQ)⟩:Row)] _ nf) call22 q) q q (.hh q q cO)<|aj (O.dS (.lit q) cO (.lit q))<|aj (O.aA (.lit q)) ?_
   rcases cz aa with ⟨dD,aa⟩ | ⟨dD,aa⟩
   ·refine aM dD (O.dW (cs':=[ah (bg ct) aF.2.1.cL,ah (bg aI) aF.2.1.cN]) q (.obj q) rn q q) ?_
    obtain ⟨bx,fJ,aa⟩:=ay aa
    refine ar.c (cu.go (.b0 (.b' q q) .nil) (Jr aF.2.1 _ fJ) call25 q) q q (.hh q q dD)<|ar.fC (x:=.agg [j (-1),ah ew ([]:List cQ)]) (O.dR (cs:=[j (-1),.aK]) s5 re q q q) q q (.hh q q dD)<|ar.fC (x:=.agg [j 2,ah ew ([]:List cQ)]) (O.dR (cs:=[j 2,.aK]) s5 re q q q) q q (.hh q q dD)<|ar.fC (x:=ah eH [(⟨(-1),([]:List cQ)⟩:Row),(⟨2,([]:List cQ)⟩:Row)]) (O.dz (ys:=[.agg [j (-1),ah ew ([]:List cQ)],.agg [j 2,ah ew ([]:List cQ)]]) eH [(⟨(-1),([]:List cQ)⟩:Row),(⟨2,([]:List cQ)⟩:Row)] kn q q q q q q DS q q) q q (.hh q q dD) ?_
    obtain ⟨bz,gq,aa⟩:=ay aa
    refine ar.c (cu.go (.b0 (.aE q) (.b0 (.aE q) .nil)) (Jp bx [(⟨(-1),([]:List cQ)⟩:Row),(⟨2,([]:List cQ)⟩:Row)] _ gq) call22 q) q q (.hh q q dD)<|aj (O.dS (.lit q) dD (.lit q))<|aj (O.aA (.lit q)) ?_
    rcases cz aa with ⟨c6,aa⟩ | ⟨c6,aa⟩
    ·refine aM c6 (O.dR (cs:=[j 1,j 4]) pz lD q q q) ?_
     obtain ⟨cF,jP,aa⟩:=ay aa
     refine ar.c (cu.go (.b0 (.b' q q) .nil) (Jm (⟨1,4⟩:Act) _ jP) call15 q) q q (.hh q q c6)<|aM c6 (O.eql (.lit q) (.k q))<|aj (O.dS (.lit q) c6 (.lit q))<|aj (O.aA (.lit q)) ?_
     rcases cz aa with ⟨eU,aa⟩ | ⟨eU,aa⟩
     ·obtain ⟨b1,hn,aa⟩:=ay aa
      obtain rfl:=au aa
      exact ar.c (cu.go (.b0 (.k q) .nil) (Jn (-3) _ hn) call17 q) q q (.hh q q eU)<|aM eU (O.dR (cs:=[j 2,j 3]) pz lD q q q)<|aM eU (O.JP (va:=[.int .i64 b1.Kind,.int .i64 b1.N]) (vb:=[.int .i64 2,.int .i64 3]) (.b' q q) (.b' q q) q q EN)<|ar.aW
     ·obtain rfl:=au aa
      exact ar.aW
    ·obtain rfl:=au aa
     exact ar.aW
   ·obtain rfl:=au aa
    exact ar.aW
  ·obtain rfl:=au aa
   exact ar.aW
 refine W.rt ?_
 obtain rfl:=au h
 exact af.fin (Fin.ro (.f q q .nil) q (pn (by kernel_rfl)) .nil q (.inr q))
theorem Cc (a0:Int) (aw:Int) (r:Int) (h:um a0 aw=some r):cb Try.prog 14 [j a0,j aw] [none,none] (j r):=by
 unfold um at h
 refine cb.go (N:=⟨15,[]⟩) Try.func14 q q q q (W.fin ?_)
 refine W.st [(0,j a0),(1,j aw)] ?_
 refine W.aU [0,1] ?_
 obtain ⟨aF,fI,h⟩:=ay h
 refine W.bY [1,5] (bq q<|bq q<|aj (O.rem (.lit q) (.lit q) fI)<|ar.aW) ?_
 refine W.aZ<|W.aU [1,5,10] ?_
 obtain ⟨GJ,aa,h⟩:=ay h
 refine W.bB [(5,j GJ)] ?_ ?_
 ·clear h; have h:=aa; clear aa
  refine W.bw h q (λfb h=>?_) (λfb h=>?_)
  ·refine W.bm [5] (bq q<|bq q<|aj (O.add (.lit q) (.lit q))<|ar.bm [13] q<|ar.aW) ?_
   obtain rfl:=au h
   exact af.bB (.n q .nil)
  ·refine W.bI ?_
   obtain rfl:=au h
   exact af.bB (.n q .nil)
 refine af.aX<|W.aU [4] ?_
 refine W.rt ?_
 obtain rfl:=au h
 exact cx (.f q q .nil)
theorem O4  (r:ByteArray) (h:Hl =some r):cb Try.prog 65 [] [] (ai r):=by
 unfold Hl at h
 refine cb.go (N:=⟨1,[]⟩) Try.func65 q q q q (W.fin ?_)
 refine W.st [] ?_
 refine W.dO [] ?_
 refine W.aU [0] ?_
 refine W.rt ?_
 obtain rfl:=au h
 exact af.fin (Fin.ro (.f q q .nil) q (pn (by kernel_rfl)) .nil q (.inr q))
theorem Ce (a0:Int) (r:Sym) (h:uo a0=some r):cb Try.prog 47 [j a0] [none] (.agg (dJ.cells r)):=by
 unfold uo at h
 refine cb.go (N:=⟨11,[]⟩) Try.func47 q q q q (W.fin ?_)
 refine W.st [(0,j a0)] ?_
 refine W.bY [0,2] (aj (O.fL (cs:=[ai aC,a1 false,j 0,j 0]) rf q q)<|bS q) ?_
 obtain ⟨aF,fI,h⟩:=ay h
 obtain ⟨x2,hZ,h⟩:=ay h
 obtain ⟨a_,hd,h⟩:=ay h
 obtain ⟨bE,nf,h⟩:=ay h
 refine W.bY [2] (ee (cu.go .nil (O4  _ fI) call65 q)<|bq q<|aj (O.rem (.lit q) (.k q) hZ)<|bq q<|aj (O.rem (.lit q) (.k q) hd)<|aj (O.add (.lit q) (.k q))<|aj (O.yn (.lit q) (.lit q) (.lit q) kc nf)<|aj (O.dR (cs:=[ai bE,a1 true,j 0,j 0]) wk rf q q q)<|ar.dI (G2:=[(2,_)]) (cs2:=[ai bE,a1 true,j 0,j 0]) q (.obj q) (.b' q q) q yq q q q q (.b q .nil)<|bS q) ?_
 refine W.rt ?_
 obtain rfl:=au h
 exact cx (.c (ys0:=[ai bE,a1 true,j 0,j 0]) q lW q q q (.f q (.f q (.f q (.f q .nil)))) .nil)
theorem OV (a0:(List Int)) (r:(List Decl)) (h:AX a0=some r):cb Try.prog 44 [ah aI a0] [none] (ah de r):=by
 unfold AX at h
 refine cb.go (N:=⟨59,[]⟩) Try.func44 q q q q (W.fin ?_)
 refine W.st [(0,ah aI a0)] ?_
 refine W.aU [0] ?_
 refine W.aU [0,3] ?_
 refine W.aZ<|W.aU [0,3,4] ?_
 refine W.bk ?_
 obtain ⟨x2,ao,h⟩:=ay h
 refine W.cf (G1:=[(0,_),(3,ak kX ([]:List Decl)),(4,_)]) (.n q (.w q q .mK (.n q .nil))) ?_
 refine W.eO (s:=(([]:List Decl),0)) (λ(s1:List Decl × Int)=>[(0,ah aI a0),(3,ak kX s1.1),(4,j s1.2)]) 0 (λ(x2:List Decl)=>[(3,ak kX x2)]) ao (λs1 o h=>?_) ?_
 ·clear ao
  refine W.aZ ?_
  obtain ⟨kA,aa,h⟩:=ay h
  refine W.rs [(0,ah aI a0),(3,ak kX s1.1),(4,j s1.2),(14,a1 kA)] ?_ ?_
  ·refine bq q<|aj (O.aA (.aE q))<|aj (O.h0 (.aE q) fk)<|aj (O.lss (.lit q) (.lit q))<|aj (O.aA (.lit q)) ?_
   rcases cz aa with ⟨dd,aa⟩ | ⟨dd,aa⟩
   ·obtain rfl:=au aa
    exact ar.aW
   ·obtain rfl:=au aa
    exact ar.aW
  refine W.bw h q (λec h=>?_) (λec h=>?_)
  ·refine W.bI<|af.aX ?_
   refine W.aZ ?_
   obtain ⟨n3,aa,h⟩:=ay h
   refine W.bB [(0,ah aI a0),(3,ak kX n3),(4,j s1.2)] ?_ ?_
   ·clear h; have h:=aa; clear aa
    refine W.bk ?_
    obtain ⟨b3,ho,h⟩:=ay h
    obtain ⟨cF,jP,h⟩:=ay h
    refine W.bY [0,3,4,5] (aj (O.aA (.aE q))<|bq q<|aj (O.cC (.aE q) (.lit q) fk ho)<|aj (O.c9 (x:=j b3) (.bo q) cr q)<|ee (cu.go (.b0 (.lit q) (.b0 (.k q) .nil)) (Cc b3 8 _ jP) call14 q)<|ar.aW) ?_
    refine W.aZ ?_
    obtain ⟨bQ,jJ,h⟩:=ay h
    refine W.bY [0,3,4,5,24] (bq q<|aj (O.rem (.lit q) (.k q) jJ)<|ar.aW) ?_
    refine W.bw h q (λfh h=>?_) (λfh h=>?_)
    ·refine W.da ?_
     refine af.c' ?_
     refine af.db ?_
     obtain rfl:=au h
     exact af.bB (dq q q q)
    ·refine W.bI<|af.aX ?_
     refine W.aZ<|W.aU [0,3,4,5,6] ?_
     obtain ⟨jX,aa,h⟩:=ay h
     refine W.rs [(0,ah aI a0),(3,ak kX s1.1),(4,j s1.2),(5,j cF),(6,j (s1.1.length:Int)),(32,a1 jX)] ?_ ?_
     ·refine bq q<|aj (O.gtr (.lit q) (.k q))<|aj (O.aA (.lit q)) ?_
      rcases cz aa with ⟨eb,aa⟩ | ⟨eb,aa⟩
      ·obtain rfl:=au aa
       exact ar.aW
      ·obtain rfl:=au aa
       exact ar.aW
     refine W.bw h q (λeM h=>?_) (λeM h=>?_)
     ·refine W.aZ ?_
      obtain ⟨cA,ic,h⟩:=ay h
      obtain ⟨ck,k6,h⟩:=ay h
      obtain ⟨b2,hY,h⟩:=ay h
      refine W.rd [[],[],[1],[],[],[4],[3,4,5],[3,4,5,6],aP 3 5 [],[],[9],[9,10],aP 3 9 [],aP 0 13 [],aP 0 14 [],aP 0 15 []] [(0,_),(3,_),(4,_)] ez (by kernel_rfl) (av 0 (O.aA (.own q))<|av 1 (O.aA (.lit q))<|av 2 (O.sub (.lit q) (.k q))<|av 3 (O.aA (.own q))<|av 4 (O.aA (.lit q))<|av 5 (O.sub (.lit q) (.k q))<|av 6 (O.gX (en:=kX) q (.bn q) (.lit q) uB ic q)<|av 7 (O.ki (en:=kX) q (.ptr q) rB ic q q)<|av 8 (O.jv (en:=kX) (x':=.bn dJ.z ⟨3,[(aQ ((s1.1.length:Int) - 1)).toNat * kX.z+2]⟩ cA.fo.length) q (.ptr q) sh ic q q)<|av 9 (O.aA (.lit q))<|iN 10 (cu.go (.b0 (.lit q) .nil) (Ce s1.2 _ k6) call47 q)<|bL.fC 11 (x:=ah dJ [ck]) (O.dz (ys:=[.agg (dJ.cells ck)]) dJ [ck] rV q q q q q q Nn q q) q q q q .none<|av 12 (O.ap (en:=dJ) (r:=b2) (.bn q) (tr (r:=3) (path:=[]) (o:=2) (en:=kX) q ic q) (.aE q) .i NX q hY)<|av 13 (O.gX (en:=kX) q (.bn q) (.lit q) uB ic q)<|av 14 (O.ki (en:=kX) q (.ptr q) rB ic q q)<|bL.jG 15 (G2:=[(0,ah aI a0),(3,ak kX (s1.1.set (aQ ((s1.1.length:Int) - 1)).toNat (⟨cA.Kind,cA.Tag,cA.fo++[ck],cA.At⟩:Decl))),(4,j s1.2)]) (cj.Bt (en:=kX) (en2:=dJ) (M:=[ck]) (y2:=(⟨cA.Kind,cA.Tag,cA.fo++[ck],cA.At⟩:Decl)) (x2:=ak kX (s1.1.set (aQ ((s1.1.length:Int) - 1)).toNat (⟨cA.Kind,cA.Tag,cA.fo++[ck],cA.At⟩:Decl))) (y0:=.own kX.z s1.1.length ((ch kX s1.1).set ((aQ ((s1.1.length:Int) - 1)).toNat * kX.z+2) .dead)) q q (.ptr q) (.bX q) q q ic q q .j8 .gR q q Uw q q q q q q (.n q q (.b q (.n q q .nil)))) q q q q (by kernel_rfl) (by kernel_rfl)<|bL.fin q q q (dq q q q)) ?_
      refine af.aX<|W.da ?_
      refine af.c' ?_
      refine af.db ?_
      obtain rfl:=au h
      exact af.bB (dq q q q)
     ·refine W.bI<|af.aX ?_
      obtain ⟨eZ,j5,h⟩:=ay h
      obtain ⟨eD,mA,h⟩:=ay h
      obtain ⟨c0,nZ,h⟩:=ay h
      refine W.bm [0,3,4] (aj (O.aA (.own q))<|bq q<|aj (O.rem (.lit q) (.k q) j5)<|aj (O.add (.k q) (.lit q))<|bq q<|ee (cu.go (.b0 (.lit q) .nil) (Ce s1.2 _ mA) call47 q)<|aj (O.uU (ys:=[.agg (dJ.cells eD)]) (cs:=[ai eD.Name,a1 eD.Lit,j eD.c7,j eD.At]) rV q q q q q Nn q q)<|aj (O.dR (cs:=[j (aQ (1+eZ)),ai aC,.bn 4 ⟨54,[]⟩ 1,j 0]) T4 Na q q q)<|aj (O.uU (ys:=[.agg [j (aQ (1+eZ)),ai aC,.bn 4 ⟨54,[]⟩ 1,j 0]]) (cs:=[j (aQ (1+eZ)),ai aC,.bn 4 ⟨54,[]⟩ 1,j 0]) uB q q q q q U3 q q)<|aj (O.D8 (en:=kX) (M:=[(⟨aQ (1+eZ),aC,[eD],0⟩:Decl)]) (r:=c0) (.bn q) q (.own q) q q q q NR q nZ)<|ar.gd (G2:=[(0,ah aI a0),(4,j s1.2)]) q (cj.IE (M:=[(⟨aQ (1+eZ),aC,[eD],0⟩:Decl)]) q q (.bX q) q q q (.f (.f (.l q q (.f (.f (.f (.f .nil)))) (.f .nil)))) (.f (.f (.f (.f .nil)))) q q (fG q q) q q)<|bS q) ?_
      refine af.bk ?_
      obtain rfl:=au h
      exact af.bB (dq q q q)
   refine af.aX<|W.bm [0,3,4] (bq q<|aj (O.add (.lit q) (.k q))<|ar.bm [0,3,16] q<|ar.aW) ?_
   obtain rfl:=au h
   exact af.go (dq q q q)
  ·refine W.da ?_
   refine af.c' ?_
   obtain rfl:=au h
   exact af.aF (.n q .nil)
 refine af.db ?_
 refine af.aX<|W.bY [2] (aj (O.aA (.own q))<|ar.gd (G2:=[]) q (cj.iR q q (.bn q) q .nil q q)<|bS q) ?_
 refine W.e7 (G1:=[(2,ah de x2)]) [2] (.z q q .hj .nil) ?_
 refine W.rt ?_
 obtain rfl:=au h
 exact cx (.f q q .nil)
theorem Jt (a0:Int) (r:ByteArray) (h:x8 a0=some r):cb Try.prog 45 [j a0] [none] (ai r):=by
 unfold x8 at h
 refine cb.go (N:=⟨8,[]⟩) Try.func45 q q q q (W.fin ?_)
 refine W.st [(0,j a0)] ?_
 refine W.aU [0] ?_
 refine W.bY [2] (bq q<|aj (O.add (.k q) (.lit q))<|aj (O.Ci (.lit q) GH GI)<|ar.fC (x:=ah o5 [uF (aQ (97+a0))]) (O.dz (ys:=[ml (uF (aQ (97+a0)))]) o5 [uF (aQ (97+a0))] HG q q q q q q Nj q q) q q .none<|aj (O.JE (.aE q) I0)<|ar.aW) ?_
 refine W.rt ?_
 obtain rfl:=au h
 exact cx (.f q q .nil)
theorem OW (a0:Int) (aw:Int) (r:Sym) (h:AY a0 aw=some r):cb Try.prog 46 [j a0,j aw] [none,none] (.agg (dJ.cells r)):=by
 unfold AY at h
 refine cb.go (N:=⟨23,[]⟩) Try.func46 q q q q (W.fin ?_)
 refine W.st [(0,j a0),(1,j aw)] ?_
 refine W.bY [0,1,4] (aj (O.fL (cs:=[ai aC,a1 false,j 0,j 0]) rf q q)<|bS q) ?_
 obtain ⟨aF,fI,h⟩:=ay h
 refine W.bY [1,4,5] (bq q<|ee (cu.go (.b0 (.lit q) (.b0 (.k q) .nil)) (Cc a0 14 _ fI) call14 q)<|ar.aW) ?_
 refine W.aZ<|W.bk ?_
 refine W.aU [1,4,5,8] ?_
 refine W.bw h q (λcO h=>?_) (λcO h=>?_)
 ·obtain ⟨a_,hd,h⟩:=ay h
  obtain ⟨bE,nf,h⟩:=ay h
  refine W.bY [4] (bq q<|bq q<|aj (O.rem (.lit q) (.lit q) hd)<|ee (cu.go (.b0 (.lit q) .nil) (Jt a_ _ nf) call45 q)<|aj (O.dR (cs:=[ai bE,a1 false,j 0,j 0]) wk rf q q q)<|ar.dI (G2:=[(4,_)]) (cs2:=[ai bE,a1 false,j 0,j 0]) q (.obj q) (.b' q q) q yq q q q q (.b q .nil)<|bS q) ?_
  refine W.rt ?_
  refine af.dv ?_
  refine af.cK ?_
  obtain rfl:=au h
  exact cx (.c (ys0:=[ai bE,a1 false,j 0,j 0]) q lW q q q (.f q (.f q (.f q (.f q .nil)))) .nil)
 ·refine W.aU [4,5,16] ?_
  refine W.bw h q (λdD h=>?_) (λdD h=>?_)
  ·refine W.bY [4] (aj (O.dR (cs:=[ai ({ data:=#[101,114,114,111,114] }),a1 false,j 0,j 0]) wk rf q q q)<|ar.dI (G2:=[(4,_)]) (cs2:=[ai ({ data:=#[101,114,114,111,114] }),a1 false,j 0,j 0]) q (.obj q) (.b' q q) q yq q q q q (.b q .nil)<|bS q) ?_
   refine W.rt ?_
   refine af.dv ?_
   refine af.cK ?_
   obtain rfl:=au h
   exact cx (.c (ys0:=[ai ({ data:=#[101,114,114,111,114] }),a1 false,j 0,j 0]) q lW q q q (.f q (.f q (.f q (.f q .nil)))) .nil)
  ·refine W.bI<|af.bk ?_
   refine af.aX ?_
   obtain ⟨bx,fJ,h⟩:=ay h
   refine W.bY [4] (bq q<|aj (O.sub (.lit q) (.k q))<|ee (cu.go (.b0 (.lit q) .nil) (Ce (aQ (aF - 5)) _ fJ) call47 q)<|ar.dI (G2:=[(4,_)]) (cs2:=[ai bx.Name,a1 bx.Lit,j bx.c7,j bx.At]) q (.obj q) (.b' q q) q yq q q q q (.b q .nil)<|bS q) ?_
   refine W.rt ?_
   obtain rfl:=au h
   exact cx (.c (ys0:=[ai bx.Name,a1 bx.Lit,j bx.c7,j bx.At]) q lW q q q (.f q (.f q (.f q (.f q .nil)))) .nil)
theorem Jo (a0:oR) (r:Source) (h:x5 a0=some r):cb Try.prog 20 [.agg (ha.cells a0)] [none] (.agg (dY.cells r)):=by
 unfold x5 at h
 refine cb.go (N:=⟨217,[]⟩) Try.func20 q q q q (W.fin ?_)
 refine W.st [(0,.agg (ha.cells a0))] ?_
 refine W.bY [1,2] (aj (O.box (.b' q q) q)<|aj (O.fL (cs:=[ai aC,.aK,.aK,ai aC]) DO q q)<|bS q) ?_
 obtain ⟨aF,fI,h⟩:=ay h
 refine W.bY [1,2,3] (aj (O.bh q (.obj q) JW q)<|aj (O.cw q (.ptr q) cr q)<|ee (cu.go (.b0 (.lit q) (.b0 (.k q) .nil)) (Cc a0.bu 4 _ fI) call14 q)<|ar.aW) ?_
 obtain ⟨x2,hZ,h⟩:=ay h
 refine W.bY [1,2,3,4] (aj (O.bh q (.obj q) JX q)<|aj (O.dm (y:=ah aI a0.nO) q (.ptr q) hM q q)<|ee (cu.go (.b0 (.aE q) .nil) (OV a0.nO _ hZ) call44 q)<|aj (O.dR (cs:=[ai aC,ah de x2,.aK,ai aC]) Mw DO q q q)<|aj (O.fL (cs:=[ai aC,.aK,.aK,ai aC]) DO q q)<|ar.dI (G2:=[(1,_),(2,_),(3,_),(4,_)]) (cs2:=[ai aC,ah de x2,.aK,ai aC]) q (.obj q) (.b' q q) q ML q q q q (.n q q (.n q q (.n q q (.b q .nil))))<|bS q) ?_
 obtain ⟨a_,hd,h⟩:=ay h
 refine W.bY [1,2,3,4,5] (bq q<|aj (O.mk (en:=bJ) (z0:=false) oN (.lit q) (.lit q) H2 q q hd Ed q)<|ar.gd (G2:=[(1,.obj (ha.cells a0)),(2,.obj [ai aC,.aK,.aK,ai aC]),(3,j (aQ (1+aF))),(4,.obj [ai aC,ah de x2,.aK,ai aC])]) q (cj.iR q q (.own q) q (.n q q (.n q q (.n q q (.n q q .nil)))) q q)<|bS q) ?_
 refine W.aZ<|W.aU [1,2,3,4,5,6] ?_
 refine W.bk ?_
 obtain ⟨cq,ao,h⟩:=ay h
 refine W.cf (G1:=[(1,_),(2,_),(3,_),(4,.obj [ai aC,ah de x2,ak eX ([]:List gk),ai aC]),(5,_),(6,_)]) (.n q (.n q (.n q (.w q q (kT.obj (.f (.f (.o (.f .nil))))) (fG q q))))) ?_
 refine W.eO (s:=(([]:List gk),0)) (λ(bN:List gk × Int)=>[(1,.obj (ha.cells a0)),(2,.obj [ai aC,.aK,.aK,ai aC]),(3,j (aQ (1+aF))),(4,.obj [ai aC,ah de x2,ak eX bN.1,ai aC]),(5,ak bJ a_),(6,j bN.2)]) 0 (λ(cq:List gk)=>[(1,.obj (ha.cells a0)),(2,.obj [ai aC,.aK,.aK,ai aC]),(3,j (aQ (1+aF))),(4,.obj [ai aC,ah de x2,ak eX cq,ai aC]),(5,ak bJ a_)]) ao (λbN o h=>?_) ?_
 ·clear ao
  refine W.aZ<|W.aU [1,2,3,4,5,6,26] ?_
  refine W.bw h q (λc5 h=>?_) (λc5 h=>?_)
  ·refine W.bI<|af.aX ?_
   refine W.aZ<|W.bk ?_
   obtain ⟨b3,ho,h⟩:=ay h
   obtain ⟨cF,jP,h⟩:=ay h
   refine W.rd [[],[0],[],[2],[2,3],[2,3,4],aP 0 6 [],aP 0 7 [],aP 0 8 []] [(1,_),(2,_),(3,_),(4,_),(5,_),(6,_)] ez (by kernel_rfl) (av 0 (O.bh q (.obj q) o8 q)<|av 1 (O.dm (y:=.bn eX.z ⟨4,[2]⟩ bN.1.length) q (.ptr q) pQ q q)<|av 2 (O.aA (.lit q))<|iN 3 (cu.go (.b0 (.lit q) .nil) (Jt bN.2 _ ho) call45 q)<|av 4 (O.dR (cs:=[ai b3,.aK,j 0]) My DQ q q q)<|av 5 (O.uU (ys:=[.agg [ai b3,.aK,j 0]]) (cs:=[ai b3,.aK,j 0]) pA q q q q q Np q q)<|av 6 (O.D8 (en:=eX) (M:=[(⟨b3,([]:List Alt),0⟩:gk)]) (r:=cF) (.bn q) q (.own q) q q q q NS q jP)<|av 7 (O.bh q (.obj q) o8 q)<|bL.jG 8 (G2:=[(1,.obj (ha.cells a0)),(2,.obj [ai aC,.aK,.aK,ai aC]),(3,j (aQ (1+aF))),(4,.obj [ai aC,ah de x2,ak eX (bN.1++[(⟨b3,([]:List Alt),0⟩:gk)]),ai aC]),(5,ak bJ a_),(6,j bN.2)]) (cj.nn (g1:=_) (en:=eX) (M:=[(⟨b3,([]:List Alt),0⟩:gk)]) (cs2:=[ai aC,ah de x2,ak eX (bN.1++[(⟨b3,([]:List Alt),0⟩:gk)]),ai aC]) q q (.ptr q) (.bX q) q q q (.f (.f (.f .nil))) (.f (.o (.f .nil))) q q Us q q q q (.n q q (.n q q (.n q q (.b q (.n q q (.n q q .nil))))))) q q q q (by kernel_rfl) (by kernel_rfl)<|bL.fin q q q (fp q q q q q q)) ?_
   refine af.bk ?_
   refine af.aX<|W.bm [1,2,3,4,5,6] (bq q<|aj (O.add (.lit q) (.k q))<|ar.bm [1,2,3,4,5,28] q<|ar.aW) ?_
   obtain rfl:=au h
   exact af.go (fp q q q q q q)
  ·refine W.da ?_
   refine af.c' ?_
   obtain rfl:=au h
   exact af.aF (eW q q q q q)
 refine af.db ?_
 refine af.aX<|W.aZ ?_
 refine W.aU [1,2,3,4,5,7] ?_
 refine W.bk ?_
 obtain ⟨b1,ao,h⟩:=ay h
 refine W.cf (G1:=[(1,_),(2,_),(3,_),(4,_),(5,_),(7,_)]) (fp q q q q q q) ?_
 refine W.eO (s:=(cq,a_,0)) (λ(ds:List gk × List Bool × Int)=>[(1,.obj (ha.cells a0)),(2,.obj [ai aC,.aK,.aK,ai aC]),(3,j (aQ (1+aF))),(4,.obj [ai aC,ah de x2,ak eX ds.1,ai aC]),(5,ak bJ ds.2.1),(7,j ds.2.2)]) 2 (λ(b1:List gk × List Bool)=>[(1,.obj (ha.cells a0)),(2,.obj [ai aC,.aK,.aK,ai aC]),(3,j (aQ (1+aF))),(4,.obj [ai aC,ah de x2,ak eX b1.1,ai aC]),(5,ak bJ b1.2)]) ao (λds o h=>?_) ?_
 ·clear ao
  refine W.aZ ?_
  obtain ⟨qt,aa,h⟩:=ay h
  refine W.rs [(1,.obj (ha.cells a0)),(2,.obj [ai aC,.aK,.aK,ai aC]),(3,j (aQ (1+aF))),(4,.obj [ai aC,ah de x2,ak eX ds.1,ai aC]),(5,ak bJ ds.2.1),(7,j ds.2.2),(45,a1 qt)] ?_ ?_
  ·refine bq q<|aj (O.bh q (.obj q) zm q)<|aj (O.dm (y:=ah (bg aI) a0.eG) q (.ptr q) sf q q)<|aj (O.h0 (.aE q) ly)<|aj (O.lss (.lit q) (.lit q))<|aj (O.aA (.lit q)) ?_
   rcases cz aa with ⟨hc,aa⟩ | ⟨hc,aa⟩
   ·obtain rfl:=au aa
    exact ar.aW
   ·obtain rfl:=au aa
    exact ar.aW
  refine W.bw h q (λqG h=>?_) (λqG h=>?_)
  ·refine W.bI<|af.aX ?_
   refine W.aZ ?_
   obtain ⟨ni,aa,h⟩:=ay h
   refine W.bB [(1,.obj (ha.cells a0)),(2,.obj [ai aC,.aK,.aK,ai aC]),(3,j (aQ (1+aF))),(4,.obj [ai aC,ah de x2,ak eX ni.1,ai aC]),(5,ak bJ ni.2),(7,j ds.2.2)] ?_ ?_
   ·clear h; have h:=aa; clear aa
    refine W.bk<|W.aZ ?_
    obtain ⟨b2,hY,h⟩:=ay h
    refine W.aU [1,2,3,4,5,7,54] ?_
    refine W.bw h q (λgW h=>?_) (λgW h=>?_)
    ·refine W.da ?_
     refine af.c' ?_
     refine af.db ?_
     obtain rfl:=au h
     exact af.bB (fp q q q q q q)
    ·refine W.bI<|af.aX ?_
     obtain ⟨eD,mA,h⟩:=ay h
     obtain ⟨c0,nZ,h⟩:=ay h
     obtain ⟨c8,mB,h⟩:=ay h
     refine W.bY [1,2,3,4,5,7,8] (aj (O.bh q (.obj q) zm q)<|aj (O.dm (y:=ah (bg aI) a0.eG) q (.ptr q) sf q q)<|bq q<|aj (O.cC (.aE q) (.lit q) ly mA)<|aj (O.c9 (x:=ah aI eD) (.bo q) hM q)<|aj (O.cC (.aE q) (.k q) fk nZ)<|aj (O.c9 (x:=j c0) (.bo q) cr q)<|bq q<|ee (cu.go (.b0 (.lit q) (.b0 (.lit q) .nil)) (Cc c0 (aQ (1+aF)) _ mB) call14 q)<|ar.aW) ?_
     refine W.bY [1,2,3,4,5,7,8,9] (aj (O.fL (cs:=[.aK,ai aC,a1 false,j 0,j 0,j 0]) DP q q)<|bS q) ?_
     refine W.aU [1,2,3,4,5,7,8,9,10] ?_
     refine W.aZ<|W.aU [1,2,3,4,5,7,8,9,10,11] ?_
     refine W.bk ?_
     obtain ⟨fm,ao,h⟩:=ay h
     refine W.cf (G1:=[(1,_),(2,_),(3,_),(4,_),(5,_),(7,_),(8,_),(9,.obj [ak e6 ([]:List Part),ai aC,a1 false,j 0,j 0,j 0]),(10,_),(11,_)]) (.n q (.n q (.n q (.n q (.n q (.n q (.n q (.w q q (kT.obj (.o (.f (.f (.f (.f (.f .nil))))))) (fG q q))))))))) ?_
     refine W.eO (s:=(([]:List Part),true,1)) (λ(fQ:List Part × Bool × Int)=>[(1,.obj (ha.cells a0)),(2,.obj [ai aC,.aK,.aK,ai aC]),(3,j (aQ (1+aF))),(4,.obj [ai aC,ah de x2,ak eX ds.1,ai aC]),(5,ak bJ ds.2.1),(7,j ds.2.2),(8,j c8),(9,.obj [ak e6 fQ.1,ai aC,a1 false,j 0,j 0,j 0]),(10,a1 fQ.2.1),(11,j fQ.2.2)]) 4 (λ(fm:List Part × Bool)=>[(1,.obj (ha.cells a0)),(2,.obj [ai aC,.aK,.aK,ai aC]),(3,j (aQ (1+aF))),(4,.obj [ai aC,ah de x2,ak eX ds.1,ai aC]),(5,ak bJ ds.2.1),(7,j ds.2.2),(8,j c8),(9,.obj [ak e6 fm.1,ai aC,a1 false,j 0,j 0,j 0]),(10,a1 fm.2)]) ao (λfQ o h=>?_) ?_
     ·clear ao
      refine W.aZ ?_
      obtain ⟨yY,aa,h⟩:=ay h
      refine W.rs [(1,.obj (ha.cells a0)),(2,.obj [ai aC,.aK,.aK,ai aC]),(3,j (aQ (1+aF))),(4,.obj [ai aC,ah de x2,ak eX ds.1,ai aC]),(5,ak bJ ds.2.1),(7,j ds.2.2),(8,j c8),(9,.obj [ak e6 fQ.1,ai aC,a1 false,j 0,j 0,j 0]),(10,a1 fQ.2.1),(11,j fQ.2.2),(75,a1 yY)] ?_ ?_
      ·refine bq q<|aj (O.bh q (.obj q) zm q)<|aj (O.dm (y:=ah (bg aI) a0.eG) q (.ptr q) sf q q)<|aj (O.aA (.lit q)) ?_
       obtain ⟨eQ,k7,aa⟩:=ay aa
       refine aj (O.cC (.aE q) (.lit q) ly k7)<|aj (O.c9 (x:=ah aI eQ) (.bo q) hM q)<|aj (O.h0 (.aE q) fk)<|aj (O.lss (.lit q) (.lit q))<|aj (O.aA (.lit q)) ?_
       rcases cz aa with ⟨gM,aa⟩ | ⟨gM,aa⟩
       ·obtain rfl:=au aa
        exact ar.aW
       ·obtain rfl:=au aa
        exact ar.aW
      refine W.bw h q (λk2 h=>?_) (λk2 h=>?_)
      ·refine W.bI<|af.aX ?_
       refine W.aZ ?_
       obtain ⟨sR,aa,h⟩:=ay h
       refine W.bB [(1,.obj (ha.cells a0)),(2,.obj [ai aC,.aK,.aK,ai aC]),(3,j (aQ (1+aF))),(4,.obj [ai aC,ah de x2,ak eX ds.1,ai aC]),(5,ak bJ ds.2.1),(7,j ds.2.2),(8,j c8),(9,.obj [ak e6 sR.1,ai aC,a1 false,j 0,j 0,j 0]),(10,a1 sR.2),(11,j fQ.2.2)] ?_ ?_
       ·clear h; have h:=aa; clear aa
        refine W.bk ?_
        obtain ⟨gK,nb,h⟩:=ay h
        obtain ⟨h9,nc,h⟩:=ay h
        obtain ⟨d_,sM,h⟩:=ay h
        refine W.bY [1,2,3,4,5,7,8,9,10,11,12] (aj (O.bh q (.obj q) zm q)<|aj (O.dm (y:=ah (bg aI) a0.eG) q (.ptr q) sf q q)<|bq q<|aj (O.cC (.aE q) (.lit q) ly nb)<|aj (O.c9 (x:=ah aI gK) (.bo q) hM q)<|bq q<|aj (O.cC (.aE q) (.lit q) fk nc)<|aj (O.c9 (x:=j h9) (.bo q) cr q)<|bq q<|ee (cu.go (.b0 (.lit q) (.b0 (.lit q) .nil)) (OW h9 (aQ (1+aF)) _ sM) call46 q)<|aj (O.fL (cs:=[ai aC,a1 false,j 0,j 0]) rf q q)<|ar.dI (G2:=[(1,_),(2,_),(3,_),(4,_),(5,_),(7,_),(8,_),(9,_),(10,_),(11,_),(12,_)]) (cs2:=[ai d_.Name,a1 d_.Lit,j d_.c7,j d_.At]) q (.obj q) (.b' q q) q yq q q q q (.n q q (.n q q (.n q q (.n q q (.n q q (.n q q (.n q q (.n q q (.n q q (.n q q (.b q .nil)))))))))))<|bS q) ?_
        obtain ⟨nQ,aa,h⟩:=ay h
        refine W.rs [(1,.obj (ha.cells a0)),(2,.obj [ai aC,.aK,.aK,ai aC]),(3,j (aQ (1+aF))),(4,.obj [ai aC,ah de x2,ak eX ds.1,ai aC]),(5,ak bJ ds.2.1),(7,j ds.2.2),(8,j c8),(9,.obj [ak e6 fQ.1,ai aC,a1 false,j 0,j 0,j 0]),(10,a1 nQ),(11,j fQ.2.2),(12,.obj (dJ.cells d_))] ?_ ?_
        ·refine bq q<|aj (O.aA (.lit q)) ?_
         rcases cz aa with ⟨ey,aa⟩ | ⟨ey,aa⟩
         ·refine aM ey (O.bh q (.obj q) u7 q)<|aM ey (O.cw q (.ptr q) ns q)<|aM ey (O.aA (.lit q)) ?_
          rcases cz aa with ⟨iw,aa⟩ | ⟨iw,aa⟩
          ·obtain rfl:=au aa
           exact b6 iw<|b6 iw<|b6 iw<|aM ey (O.dS (.lit q) iw (.k q))<|aj (O.dS (.lit q) ey (.lit q))<|ar.bm [1,2,3,4,5,7,8,9,11,12,97] q<|ar.aW
          ·obtain rfl:=au aa
           exact aM iw (O.bh q (.obj q) kB q)<|aM iw (O.cw q (.ptr q) e4 q)<|aM iw (O.ow (.lit q) (.k q))<|aM ey (O.cZ (.lit q) iw (.lit q))<|aj (O.dS (.lit q) ey (.lit q))<|ar.bm [1,2,3,4,5,7,8,9,11,12,97] q<|ar.aW
         ·obtain rfl:=au aa
          exact b6 ey<|b6 ey<|b6 ey<|gZ<|gZ<|gZ<|b6 ey<|aj (O.cZ (.lit q) ey (.k q))<|ar.bm [1,2,3,4,5,7,8,9,11,12,97] q<|ar.aW
        obtain ⟨iA,qU,h⟩:=ay h
        refine W.bY [1,2,3,4,5,7,8,9,10,11] (aj (O.bh q (.obj q) sq q)<|aj (O.dm (y:=.bn e6.z ⟨9,[0]⟩ fQ.1.length) q (.ptr q) xd q q)<|aj (O.dW (cs':=[ai d_.Name,a1 d_.Lit,j d_.c7,j d_.At]) q (.obj q) lW q q)<|aj (O.dR (cs:=[ai d_.Name,a1 d_.Lit,j d_.c7,j d_.At,ai aC,j 0]) wm qi q q q)<|ar.fC (x:=ah e6 [(⟨d_,aC,0⟩:Part)]) (O.dz (ys:=[.agg [ai d_.Name,a1 d_.Lit,j d_.c7,j d_.At,ai aC,j 0]]) e6 [(⟨d_,aC,0⟩:Part)] s7 q q q q q q yy q q) q q .none<|aj (O.ap (en:=e6) (r:=iA) (.bn q) q (.aE q) .i D7 q qU)<|aj (O.bh q (.obj q) sq q)<|ar.iT (G2:=[(1,.obj (ha.cells a0)),(2,.obj [ai aC,.aK,.aK,ai aC]),(3,j (aQ (1+aF))),(4,.obj [ai aC,ah de x2,ak eX ds.1,ai aC]),(5,ak bJ ds.2.1),(7,j ds.2.2),(8,j c8),(9,.obj [ak e6 (fQ.1++[(⟨d_,aC,0⟩:Part)]),ai aC,a1 false,j 0,j 0,j 0]),(10,a1 nQ),(11,j fQ.2.2)]) q (cj.nn (g1:=_) (en:=e6) (M:=[(⟨d_,aC,0⟩:Part)]) (cs2:=[ak e6 (fQ.1++[(⟨d_,aC,0⟩:Part)]),ai aC,a1 false,j 0,j 0,j 0]) q q (.ptr q) (.bX q) q q q .j8 .gR q q HQ q q q q (.n q q (.n q q (.n q q (.n q q (.n q q (.n q q (.n q q (.b q (.n q q (.n q q .nil)))))))))))<|bS q) ?_
        obtain ⟨B_,aa,h⟩:=ay h
        refine W.rs [(1,.obj (ha.cells a0)),(2,.obj [ai aC,.aK,.aK,ai aC]),(3,j (aQ (1+aF))),(4,.obj [ai aC,ah de x2,ak eX ds.1,ai aC]),(5,ak bJ ds.2.1),(7,j ds.2.2),(8,j c8),(9,.obj [ak e6 (fQ.1++[(⟨d_,aC,0⟩:Part)]),ai aC,a1 false,j 0,j 0,j 0]),(10,a1 nQ),(11,j fQ.2.2),(122,a1 B_)] ?_ ?_
        ·refine bq q<|aj (O.bh q (.obj q) zn q)<|aj (O.dm (y:=ah aI a0.lT) q (.ptr q) hM q q)<|aj (O.h0 (.aE q) fk)<|aj (O.lss (.lit q) (.lit q))<|aj (O.aA (.lit q)) ?_
         rcases cz aa with ⟨pV,aa⟩ | ⟨pV,aa⟩
         ·refine aM pV (O.aA (.lit q))<|aM pV (O.eql (.lit q) (.k q))<|aj (O.dS (.lit q) pV (.lit q))<|aj (O.aA (.lit q)) ?_
          rcases cz aa with ⟨sy,aa⟩ | ⟨sy,aa⟩
          ·refine aM sy (O.bh q (.obj q) zn q)<|aM sy (O.dm (y:=ah aI a0.lT) q (.ptr q) hM q q)<|aM sy (O.aA (.lit q)) ?_
           obtain ⟨hU,ud,aa⟩:=ay aa
           refine aM sy (O.cC (.aE q) (.lit q) fk ud)<|aM sy (O.c9 (x:=j hU) (.bo q) cr q) ?_
           obtain ⟨r0,Ai,aa⟩:=ay aa
           obtain rfl:=au aa
           exact aM sy (O.rem (.lit q) (.k q) Ai)<|ar.aW
          ·obtain rfl:=au aa
           exact ar.aW
         ·obtain rfl:=au aa
          exact ar.aW
        obtain ⟨vC,aa,h⟩:=ay h
        refine W.bB [(1,.obj (ha.cells a0)),(2,.obj [ai aC,.aK,.aK,ai aC]),(3,j (aQ (1+aF))),(4,.obj [ai aC,ah de x2,ak eX ds.1,ai aC]),(5,ak bJ ds.2.1),(7,j ds.2.2),(8,j c8),(9,.obj [ak e6 vC,ai aC,a1 false,j 0,j 0,j 0]),(10,a1 nQ),(11,j fQ.2.2)] ?_ ?_
        ·clear h; have h:=aa; clear aa
         refine W.bw h q (λQ0 h=>?_) (λQ0 h=>?_)
         ·obtain ⟨q',CW,h⟩:=ay h
          refine W.bm [1,2,3,4,5,7,8,9,10,11] (aj (O.bh q (.obj q) sq q)<|aj (O.dm (y:=.bn e6.z ⟨9,[0]⟩ (fQ.1++[(⟨d_,aC,0⟩:Part)]).length) q (.ptr q) xd q q)<|aj (O.dR (cs:=[ai aC,a1 false,j 0,j 0,ai ({ data:=#[123,36,36,32,61,32,36,49,125] }),j 0]) wm qi q q q)<|ar.fC (x:=ah e6 [(⟨(⟨aC,false,0,0⟩:Sym),{ data:=#[123,36,36,32,61,32,36,49,125] },0⟩:Part)]) (O.dz (ys:=[.agg [ai aC,a1 false,j 0,j 0,ai ({ data:=#[123,36,36,32,61,32,36,49,125] }),j 0]]) e6 [(⟨(⟨aC,false,0,0⟩:Sym),{ data:=#[123,36,36,32,61,32,36,49,125] },0⟩:Part)] s7 q q q q q q yy q q) q q .none<|aj (O.ap (en:=e6) (r:=q') (.bn q) q (.aE q) .i D7 q CW)<|aj (O.bh q (.obj q) sq q)<|ar.iT (G2:=[(1,.obj (ha.cells a0)),(2,.obj [ai aC,.aK,.aK,ai aC]),(3,j (aQ (1+aF))),(4,.obj [ai aC,ah de x2,ak eX ds.1,ai aC]),(5,ak bJ ds.2.1),(7,j ds.2.2),(8,j c8),(9,.obj [ak e6 ((fQ.1++[(⟨d_,aC,0⟩:Part)])++[(⟨(⟨aC,false,0,0⟩:Sym),{ data:=#[123,36,36,32,61,32,36,49,125] },0⟩:Part)]),ai aC,a1 false,j 0,j 0,j 0]),(10,a1 nQ),(11,j fQ.2.2)]) q (cj.nn (g1:=_) (en:=e6) (M:=[(⟨(⟨aC,false,0,0⟩:Sym),{ data:=#[123,36,36,32,61,32,36,49,125] },0⟩:Part)]) (cs2:=[ak e6 ((fQ.1++[(⟨d_,aC,0⟩:Part)])++[(⟨(⟨aC,false,0,0⟩:Sym),{ data:=#[123,36,36,32,61,32,36,49,125] },0⟩:Part)]),ai aC,a1 false,j 0,j 0,j 0]) q q (.ptr q) (.bX q) q q q .j8 .gR q q HQ q q q q (.n q q (.n q q (.n q q (.n q q (.n q q (.n q q (.n q q (.b q (.n q q (.n q q .nil)))))))))))<|bS q) ?_
          obtain rfl:=au h
          exact af.bB (rY q q q q q q q q q q)
         ·refine W.bI ?_
          obtain rfl:=au h
          exact af.bB (rY q q q q q q q q q q)
        refine af.bk ?_
        obtain rfl:=au h
        exact af.bB (rY q q q q q q q q q q)
       refine af.aX<|W.bm [1,2,3,4,5,7,8,9,10,11] (bq q<|aj (O.add (.lit q) (.k q))<|ar.bm [1,2,3,4,5,7,8,9,10,77] q<|ar.aW) ?_
       obtain rfl:=au h
       exact af.go (rY q q q q q q q q q q)
      ·refine W.da ?_
       refine af.c' ?_
       obtain rfl:=au h
       exact af.aF (hE q q q q q q q q q)
     refine af.db ?_
     refine af.aX<|W.aZ ?_
     obtain ⟨yZ,aa,h⟩:=ay h
     refine W.rs [(1,.obj (ha.cells a0)),(2,.obj [ai aC,.aK,.aK,ai aC]),(3,j (aQ (1+aF))),(4,.obj [ai aC,ah de x2,ak eX ds.1,ai aC]),(5,ak bJ ds.2.1),(7,j ds.2.2),(8,j c8),(9,.obj [ak e6 fm.1,ai aC,a1 false,j 0,j 0,j 0]),(10,a1 fm.2),(142,a1 yZ)] ?_ ?_
     ·refine bq q<|aj (O.bh q (.obj q) zn q)<|aj (O.dm (y:=ah aI a0.lT) q (.ptr q) hM q q)<|aj (O.h0 (.aE q) fk)<|aj (O.lss (.lit q) (.lit q))<|aj (O.aA (.lit q)) ?_
      rcases cz aa with ⟨jH,aa⟩ | ⟨jH,aa⟩
      ·refine aM jH (O.bh q (.obj q) zn q)<|aM jH (O.dm (y:=ah aI a0.lT) q (.ptr q) hM q q)<|aM jH (O.aA (.lit q)) ?_
       obtain ⟨mS,Gq,aa⟩:=ay aa
       refine aM jH (O.cC (.aE q) (.lit q) fk Gq)<|aM jH (O.c9 (x:=j mS) (.bo q) cr q) ?_
       obtain ⟨yt,Gr,aa⟩:=ay aa
       obtain rfl:=au aa
       exact aM jH (O.rem (.lit q) (.k q) Gr)<|ar.aW
      ·obtain rfl:=au aa
       exact ar.aW
     obtain ⟨mH,aa,h⟩:=ay h
     refine W.bB [(1,.obj (ha.cells a0)),(2,.obj [ai aC,.aK,.aK,ai aC]),(3,j (aQ (1+aF))),(4,.obj [ai aC,ah de x2,ak eX ds.1,ai aC]),(5,ak bJ ds.2.1),(7,j ds.2.2),(8,j c8),(9,.obj [ak e6 mH,ai aC,a1 false,j 0,j 0,j 0]),(10,a1 fm.2)] ?_ ?_
     ·clear h; have h:=aa; clear aa
      refine W.bw h q (λQ4 h=>?_) (λQ4 h=>?_)
      ·obtain ⟨ta,Gs,h⟩:=ay h
       refine W.bm [1,2,3,4,5,7,8,9,10] (aj (O.bh q (.obj q) sq q)<|aj (O.dm (y:=.bn e6.z ⟨9,[0]⟩ fm.1.length) q (.ptr q) xd q q)<|aj (O.dR (cs:=[ai aC,a1 false,j 0,j 0,ai ({ data:=#[123,102,40,36,36,41,125] }),j 0]) wm qi q q q)<|ar.fC (x:=ah e6 [(⟨(⟨aC,false,0,0⟩:Sym),{ data:=#[123,102,40,36,36,41,125] },0⟩:Part)]) (O.dz (ys:=[.agg [ai aC,a1 false,j 0,j 0,ai ({ data:=#[123,102,40,36,36,41,125] }),j 0]]) e6 [(⟨(⟨aC,false,0,0⟩:Sym),{ data:=#[123,102,40,36,36,41,125] },0⟩:Part)] s7 q q q q q q yy q q) q q .none<|aj (O.ap (en:=e6) (r:=ta) (.bn q) q (.aE q) .i D7 q Gs)<|aj (O.bh q (.obj q) sq q)<|ar.iT (G2:=[(1,.obj (ha.cells a0)),(2,.obj [ai aC,.aK,.aK,ai aC]),(3,j (aQ (1+aF))),(4,.obj [ai aC,ah de x2,ak eX ds.1,ai aC]),(5,ak bJ ds.2.1),(7,j ds.2.2),(8,j c8),(9,.obj [ak e6 (fm.1++[(⟨(⟨aC,false,0,0⟩:Sym),{ data:=#[123,102,40,36,36,41,125] },0⟩:Part)]),ai aC,a1 false,j 0,j 0,j 0]),(10,a1 fm.2)]) q (cj.nn (g1:=_) (en:=e6) (M:=[(⟨(⟨aC,false,0,0⟩:Sym),{ data:=#[123,102,40,36,36,41,125] },0⟩:Part)]) (cs2:=[ak e6 (fm.1++[(⟨(⟨aC,false,0,0⟩:Sym),{ data:=#[123,102,40,36,36,41,125] },0⟩:Part)]),ai aC,a1 false,j 0,j 0,j 0]) q q (.ptr q) (.bX q) q q q .j8 .gR q q HQ q q q q (.n q q (.n q q (.n q q (.n q q (.n q q (.n q q (.n q q (.b q (.n q q .nil))))))))))<|bS q) ?_
       obtain rfl:=au h
       exact af.bB (hE q q q q q q q q q)
      ·refine W.bI ?_
       obtain rfl:=au h
       exact af.bB (hE q q q q q q q q q)
     refine af.aX ?_
     obtain ⟨w7,aa,h⟩:=ay h
     refine W.rs [(1,.obj (ha.cells a0)),(2,.obj [ai aC,.aK,.aK,ai aC]),(3,j (aQ (1+aF))),(4,.obj [ai aC,ah de x2,ak eX ds.1,ai aC]),(5,ak bJ w7),(7,j ds.2.2),(8,j c8),(9,.obj [ak e6 mH,ai aC,a1 false,j 0,j 0,j 0])] ?_ ?_
     ·refine aj (O.aA (.own q))<|bq q<|aj (O.aA (.own q))<|aj (O.aA (.lit q)) ?_
      obtain ⟨iY,ue,aa⟩:=ay aa
      refine aj (O.gX (en:=bJ) q (.bn q) (.lit q) oN ue q)<|aj (O.jv (en:=bJ) (x':=a1 iY) q (.ptr q) ns ue q q)<|aj (O.aA (.lit q)) ?_
      rcases cz aa with ⟨zP,aa⟩ | ⟨zP,aa⟩
      ·obtain rfl:=au aa
       exact b6 zP<|aj (O.dS (.lit q) zP (.k q))<|aj (O.gX (en:=bJ) q (.bn q) (.lit q) oN ue q)<|ar.iT (G2:=[(1,.obj (ha.cells a0)),(2,.obj [ai aC,.aK,.aK,ai aC]),(3,j (aQ (1+aF))),(4,.obj [ai aC,ah de x2,ak eX ds.1,ai aC]),(5,ak bJ (ds.2.1.set c8.toNat true)),(7,j ds.2.2),(8,j c8),(9,.obj [ak e6 mH,ai aC,a1 false,j 0,j 0,j 0])]) q (cj.pC (en:=bJ) (y2:=true) (cs':=[a1 true]) (x2:=ak bJ (ds.2.1.set c8.toNat true)) q q (.ptr q) (.lit q) q ue uD q q q q q q q (.n q q (.n q q (.n q q (.n q q (.b q (.n q q (.n q q (.n q q .nil)))))))))<|ar.aW
      ·obtain rfl:=au aa
       exact aM zP (O.aA (.lit q))<|aj (O.cZ (.lit q) zP (.lit q))<|aj (O.gX (en:=bJ) q (.bn q) (.lit q) oN ue q)<|ar.iT (G2:=[(1,.obj (ha.cells a0)),(2,.obj [ai aC,.aK,.aK,ai aC]),(3,j (aQ (1+aF))),(4,.obj [ai aC,ah de x2,ak eX ds.1,ai aC]),(5,ak bJ (ds.2.1.set c8.toNat fm.2)),(7,j ds.2.2),(8,j c8),(9,.obj [ak e6 mH,ai aC,a1 false,j 0,j 0,j 0])]) q (cj.pC (en:=bJ) (y2:=fm.2) (cs':=[a1 fm.2]) (x2:=ak bJ (ds.2.1.set c8.toNat fm.2)) q q (.ptr q) (.lit q) q ue uD q q q q q q q (.n q q (.n q q (.n q q (.n q q (.b q (.n q q (.n q q (.n q q .nil)))))))))<|ar.aW
     refine W.e7 (G1:=[(1,_),(2,_),(3,_),(4,_),(5,_),(7,_),(8,_),(9,.obj [ah e6 mH,ai aC,a1 false,j 0,j 0,j 0])]) [9] (.n q q (.n q q (.n q q (.n q q (.n q q (.n q q (.n q q (.z q q (gU.obj (.z (.f (.f (.f (.f (.f .nil))))))) .nil)))))))) ?_
     obtain ⟨kp,oG,h⟩:=ay h
     obtain ⟨yv,Gt,h⟩:=ay h
     refine W.rd [[],[0],[],[],[3],[],[3,4,5],[3,4,5,6],aP 3 5 [],[],[9],aP 3 8 [],aP 0 12 [],aP 0 13 [],aP 0 14 []] [(1,_),(2,_),(3,_),(4,_),(5,_),(7,_)] ez (by kernel_rfl) (av 0 (O.bh q (.obj q) o8 q)<|av 1 (O.dm (y:=.bn eX.z ⟨4,[2]⟩ ds.1.length) q (.ptr q) pQ q q)<|av 2 (O.aA (.lit q))<|av 3 (O.bh q (.obj q) o8 q)<|av 4 (O.dm (y:=.bn eX.z ⟨4,[2]⟩ ds.1.length) q (.ptr q) pQ q q)<|av 5 (O.aA (.lit q))<|av 6 (O.gX (en:=eX) q (.bn q) (.lit q) pA oG q)<|av 7 (O.ki (en:=eX) q (.ptr q) tA oG q q)<|av 8 (O.jv (en:=eX) (x':=.bn e1.z ⟨4,[2,c8.toNat * eX.z+1]⟩ kp.fU.length) q (.ptr q) xe oG q q)<|av 9 (O.dW (cs':=[ah e6 mH,ai aC,a1 false,j 0,j 0,j 0]) q (.obj q) Ea q q)<|bL.fC 10 (x:=ah e1 [(⟨mH,(⟨aC,false,0,0⟩:Sym),0⟩:Alt)]) (O.dz (ys:=[.agg [ah e6 mH,ai aC,a1 false,j 0,j 0,j 0]]) e1 [(⟨mH,(⟨aC,false,0,0⟩:Sym),0⟩:Alt)] wo q q q q q q H7 q q) q q q q .none<|av 11 (O.ap (en:=e1) (r:=yv) (.bn q) (tr (r:=4) (path:=[2]) (o:=1) (en:=eX) q oG q) (.aE q) .i ID q Gt)<|av 12 (O.gX (en:=eX) q (.bn q) (.lit q) pA oG q)<|av 13 (O.ki (en:=eX) q (.ptr q) tA oG q q)<|bL.jG 14 (G2:=[(1,.obj (ha.cells a0)),(2,.obj [ai aC,.aK,.aK,ai aC]),(3,j (aQ (1+aF))),(4,.obj [ai aC,ah de x2,ak eX (ds.1.set c8.toNat (⟨kp.Left,kp.fU++[(⟨mH,(⟨aC,false,0,0⟩:Sym),0⟩:Alt)],kp.At⟩:gk)),ai aC]),(5,ak bJ w7),(7,j ds.2.2)]) (cj.Bt (en:=eX) (en2:=e1) (M:=[(⟨mH,(⟨aC,false,0,0⟩:Sym),0⟩:Alt)]) (y2:=(⟨kp.Left,kp.fU++[(⟨mH,(⟨aC,false,0,0⟩:Sym),0⟩:Alt)],kp.At⟩:gk)) (x2:=.obj [ai aC,ah de x2,ak eX (ds.1.set c8.toNat (⟨kp.Left,kp.fU++[(⟨mH,(⟨aC,false,0,0⟩:Sym),0⟩:Alt)],kp.At⟩:gk)),ai aC]) (y0:=.obj [ai aC,ah de x2,.own eX.z ds.1.length ((ch eX ds.1).set (c8.toNat * eX.z+1) .dead),ai aC]) q q (.ptr q) (.bX q) q q oG q q .j8 .gR q q MP q q q q q q (.n q q (.n q q (.n q q (.b q (.n q q (.n q q .nil))))))) q q q q (by kernel_rfl) (by kernel_rfl)<|bL.fin q q q (fp q q q q q q)) ?_
     refine af.bk ?_
     obtain rfl:=au h
     exact af.bB (fp q q q q q q)
   refine af.aX<|W.bm [1,2,3,4,5,7] (bq q<|aj (O.add (.lit q) (.k q))<|ar.bm [1,2,3,4,5,47] q<|ar.aW) ?_
   obtain rfl:=au h
   exact af.go (fp q q q q q q)
  ·refine W.da ?_
   refine af.c' ?_
   obtain rfl:=au h
   exact af.aF (eW q q q q q)
 refine af.db ?_
 refine af.aX<|W.aZ ?_
 refine W.aU [1,2,3,4,5,13] ?_
 refine W.bk ?_
 obtain ⟨oQ,ao,h⟩:=ay h
 refine W.cf (G1:=[(1,_),(2,_),(3,_),(4,_),(5,_),(13,_)]) (fp q q q q q q) ?_
 refine W.eO (s:=(b1.1,0)) (λ(h7:List gk × Int)=>[(1,.obj (ha.cells a0)),(2,.obj [ai aC,.aK,.aK,ai aC]),(3,j (aQ (1+aF))),(4,.obj [ai aC,ah de x2,ak eX h7.1,ai aC]),(5,ak bJ b1.2),(13,j h7.2)]) 6 (λ(oQ:List gk)=>[(2,.obj [ai aC,.aK,.aK,ai aC]),(4,.obj [ai aC,ah de x2,ak eX oQ,ai aC])]) ao (λh7 o h=>?_) ?_
 ·clear ao
  refine W.aZ<|W.aU [1,2,3,4,5,13,175] ?_
  refine W.bw h q (λQ8 h=>?_) (λQ8 h=>?_)
  ·refine W.bI<|af.aX ?_
   refine W.aZ ?_
   obtain ⟨GU,aa,h⟩:=ay h
   refine W.bB [(1,.obj (ha.cells a0)),(2,.obj [ai aC,.aK,.aK,ai aC]),(3,j (aQ (1+aF))),(4,.obj [ai aC,ah de x2,ak eX GU,ai aC]),(5,ak bJ b1.2),(13,j h7.2)] ?_ ?_
   ·clear h; have h:=aa; clear aa
    refine W.bk ?_
    obtain ⟨Em,aa,h⟩:=ay h
    refine W.rs [(1,.obj (ha.cells a0)),(2,.obj [ai aC,.aK,.aK,ai aC]),(3,j (aQ (1+aF))),(4,.obj [ai aC,ah de x2,ak eX h7.1,ai aC]),(5,ak bJ b1.2),(13,j h7.2),(197,a1 Em)] ?_ ?_
    ·refine aj (O.bh q (.obj q) o8 q)<|aj (O.dm (y:=.bn eX.z ⟨4,[2]⟩ h7.1.length) q (.ptr q) pQ q q)<|aj (O.aA (.lit q)) ?_
     obtain ⟨uG,Aj,aa⟩:=ay aa
     refine aj (O.gX (en:=eX) q (.bn q) (.lit q) pA Aj q)<|aj (O.ki (en:=eX) q (.ptr q) tA Aj q q)<|aj (O.jv (en:=eX) (x':=.bn e1.z ⟨4,[2,h7.2.toNat * eX.z+1]⟩ uG.fU.length) q (.ptr q) xe Aj q q)<|aj (O.ph (.bn q) wo)<|aj (O.eql (.lit q) (.k q))<|aj (O.aA (.lit q)) ?_
     rcases cz aa with ⟨sz,aa⟩ | ⟨sz,aa⟩
     ·obtain rfl:=au aa
      exact ar.aW
     ·refine aM sz (O.aA (.own q))<|aM sz (O.aA (.lit q)) ?_
      obtain ⟨HX,Lr,aa⟩:=ay aa
      refine aM sz (O.gX (en:=bJ) q (.bn q) (.lit q) oN Lr q)<|aM sz (O.jv (en:=bJ) (x':=a1 HX) q (.ptr q) ns Lr q q)<|aM sz (O.not (.lit q))<|aM sz (O.aA (.lit q)) ?_
      rcases cz aa with ⟨sA,aa⟩ | ⟨sA,aa⟩
      ·obtain rfl:=au aa
       exact aM sA (O.bh q (.obj q) JY q)<|aM sA (O.cw q (.ptr q) ns q)<|aM sA (O.not (.lit q))<|aM sz (O.dS (.lit q) sA (.lit q))<|ar.aW
      ·obtain rfl:=au aa
       exact b6 sA<|b6 sA<|b6 sA<|aM sz (O.cZ (.lit q) sA (.k q))<|ar.aW
    obtain ⟨GV,aa,h⟩:=ay h
    refine W.bB [(1,.obj (ha.cells a0)),(2,.obj [ai aC,.aK,.aK,ai aC]),(3,j (aQ (1+aF))),(4,.obj [ai aC,ah de x2,ak eX GV,ai aC]),(5,ak bJ b1.2),(13,j h7.2)] ?_ ?_
    ·clear h; have h:=aa; clear aa
     refine W.bw h q (λQ' h=>?_) (λQ' h=>?_)
     ·obtain ⟨kq,vv,h⟩:=ay h
      obtain ⟨kr,SC,h⟩:=ay h
      obtain ⟨BH,Ls,h⟩:=ay h
      refine W.rd [[],[0],[],[],[3],[],[3,4,5],[3,4,5,6],aP 3 5 [],[],[9],[9,10],[9,10,11],[9,10,11,12],aP 9 5 [],aP 3 12 [],aP 0 16 [],aP 0 17 [],aP 0 18 []] [(1,_),(2,_),(3,_),(4,_),(5,_),(13,_)] ez (by kernel_rfl) (av 0 (O.bh q (.obj q) o8 q)<|av 1 (O.dm (y:=.bn eX.z ⟨4,[2]⟩ h7.1.length) q (.ptr q) pQ q q)<|av 2 (O.aA (.lit q))<|av 3 (O.bh q (.obj q) o8 q)<|av 4 (O.dm (y:=.bn eX.z ⟨4,[2]⟩ h7.1.length) q (.ptr q) pQ q q)<|av 5 (O.aA (.lit q))<|av 6 (O.gX (en:=eX) q (.bn q) (.lit q) pA vv q)<|av 7 (O.ki (en:=eX) q (.ptr q) tA vv q q)<|av 8 (O.jv (en:=eX) (x':=.bn e1.z ⟨4,[2,h7.2.toNat * eX.z+1]⟩ kq.fU.length) q (.ptr q) xe vv q q)<|av 9 (O.aA (.lit q))<|iN 10 (cu.go (.b0 (.lit q) .nil) (Ce h7.2 _ SC) call47 q)<|av 11 (O.dR (cs:=[ai kr.Name,a1 kr.Lit,j kr.c7,j kr.At,ai aC,j 0]) wm qi q q q)<|bL.fC 12 (x:=ah e6 [(⟨kr,aC,0⟩:Part)]) (O.dz (ys:=[.agg [ai kr.Name,a1 kr.Lit,j kr.c7,j kr.At,ai aC,j 0]]) e6 [(⟨kr,aC,0⟩:Part)] s7 q q q q q q yy q q) q q q q .none<|av 13 (O.dR (cs:=[ah e6 [(⟨kr,aC,0⟩:Part)],ai aC,a1 false,j 0,j 0,j 0]) HC DP q q q)<|bL.fC 14 (x:=ah e1 [(⟨[(⟨kr,aC,0⟩:Part)],(⟨aC,false,0,0⟩:Sym),0⟩:Alt)]) (O.dz (ys:=[.agg [ah e6 [(⟨kr,aC,0⟩:Part)],ai aC,a1 false,j 0,j 0,j 0]]) e1 [(⟨[(⟨kr,aC,0⟩:Part)],(⟨aC,false,0,0⟩:Sym),0⟩:Alt)] wo q q q q q q H7 q q) q q q q .none<|av 15 (O.ap (en:=e1) (r:=BH) (.bn q) (tr (r:=4) (path:=[2]) (o:=1) (en:=eX) q vv q) (.aE q) .i ID q Ls)<|av 16 (O.gX (en:=eX) q (.bn q) (.lit q) pA vv q)<|av 17 (O.ki (en:=eX) q (.ptr q) tA vv q q)<|bL.jG 18 (G2:=[(1,.obj (ha.cells a0)),(2,.obj [ai aC,.aK,.aK,ai aC]),(3,j (aQ (1+aF))),(4,.obj [ai aC,ah de x2,ak eX (h7.1.set h7.2.toNat (⟨kq.Left,kq.fU++[(⟨[(⟨kr,aC,0⟩:Part)],(⟨aC,false,0,0⟩:Sym),0⟩:Alt)],kq.At⟩:gk)),ai aC]),(5,ak bJ b1.2),(13,j h7.2)]) (cj.Bt (en:=eX) (en2:=e1) (M:=[(⟨[(⟨kr,aC,0⟩:Part)],(⟨aC,false,0,0⟩:Sym),0⟩:Alt)]) (y2:=(⟨kq.Left,kq.fU++[(⟨[(⟨kr,aC,0⟩:Part)],(⟨aC,false,0,0⟩:Sym),0⟩:Alt)],kq.At⟩:gk)) (x2:=.obj [ai aC,ah de x2,ak eX (h7.1.set h7.2.toNat (⟨kq.Left,kq.fU++[(⟨[(⟨kr,aC,0⟩:Part)],(⟨aC,false,0,0⟩:Sym),0⟩:Alt)],kq.At⟩:gk)),ai aC]) (y0:=.obj [ai aC,ah de x2,.own eX.z h7.1.length ((ch eX h7.1).set (h7.2.toNat * eX.z+1) .dead),ai aC]) q q (.ptr q) (.bX q) q q vv q q .j8 .gR q q MP q q q q q q (.n q q (.n q q (.n q q (.b q (.n q q (.n q q .nil))))))) q q q q (by kernel_rfl) (by kernel_rfl)<|bL.fin q q q (fp q q q q q q)) ?_
      obtain rfl:=au h
      exact af.bB (fp q q q q q q)
     ·refine W.bI ?_
      obtain rfl:=au h
      exact af.bB (fp q q q q q q)
    refine af.bk ?_
    obtain rfl:=au h
    exact af.bB (fp q q q q q q)
   refine af.aX<|W.bm [1,2,3,4,5,13] (bq q<|aj (O.add (.lit q) (.k q))<|ar.bm [1,2,3,4,5,177] q<|ar.aW) ?_
   obtain rfl:=au h
   exact af.go (fp q q q q q q)
  ·refine W.da ?_
   refine af.c' ?_
   obtain rfl:=au h
   exact af.aF (fG q q)
 refine af.db ?_
 refine af.aX<|W.aZ ?_
 refine W.e7 (G1:=[(2,_),(4,.obj [ai aC,ah de x2,ah ia oQ,ai aC])]) [4] (.n q q (.z q q (gU.obj (.f (.f (.z (.f .nil))))) .nil)) ?_
 refine W.bm [2] (aj (O.dW (cs':=[ai aC,ah de x2,ah ia oQ,ai aC]) q (.obj q) uQ q q)<|ar.dI (G2:=[(2,_)]) (cs2:=[ai aC,ah de x2,ah ia oQ,ai aC]) q (.obj q) (.b' q q) q ML q q q q (.b q .nil)<|bS q) ?_
 refine af.aX<|W.rt ?_
 obtain rfl:=au h
 exact cx (.c (ys0:=[ai aC,ah de x2,ah ia oQ,ai aC]) q uQ q q q (.f q (.f q (.f q (.f q .nil)))) .nil)
theorem Js (a0:(List cQ)) (aw:Int) (r:Int × Bool) (h:vY a0 aw=some r):cb Try.prog 27 [ah ew a0,j aw] [none,none] (.cB [j r.1,a1 r.2]):=by
 unfold vY at h
 refine cb.go (N:=⟨25,[]⟩) Try.func27 q q q q (W.fin ?_)
 refine W.st [(0,ah ew a0),(1,j aw)] ?_
 refine W.aU [0,1] ?_
 refine W.aZ<|W.aU [0,1,6] ?_
 refine W.bk ?_
 obtain ⟨x2,ao,h⟩:=ay h
 refine W.cf (G1:=[(0,_),(1,_),(6,_)]) (dq q q q) ?_
 refine W.iH (s:=0) (λ(s1:Int)=>[(0,ah ew a0),(1,j aw),(6,j s1)]) 0 (λ(a_:Unit)=>[]) (λ(bE:Int × Bool)=>[(4,j bE.1),(5,a1 bE.2)]) ao (λs1 o h=>?_) (λa_ J=>?_) (λbE J=>?_)
 ·clear ao
  refine W.aZ<|W.aU [0,1,6,10] ?_
  refine W.bw h q (λdD h=>?_) (λdD h=>?_)
  ·refine W.bI<|af.aX ?_
   refine W.aZ<|W.bk ?_
   obtain ⟨bx,fJ,h⟩:=ay h
   refine W.aU [0,1,6,19] ?_
   refine W.bw h q (λc5 h=>?_) (λc5 h=>?_)
   ·obtain ⟨b3,ho,h⟩:=ay h
    refine W.aU [4,5] ?_
    refine W.rt ?_
    refine af.dv ?_
    refine af.cK ?_
    obtain rfl:=au h
    exact af.fP (fG q q)
   ·refine W.bI<|af.bk ?_
    refine af.aX<|W.bm [0,1,6] (bq q<|aj (O.add (.lit q) (.k q))<|ar.bm [0,1,12] q<|ar.aW) ?_
    obtain rfl:=au h
    exact af.go (dq q q q)
  ·refine W.da ?_
   refine af.c' ?_
   obtain rfl:=au h
   exact af.x2 .nil
 ·subst J
  refine af.db ?_
  refine af.aX<|W.aU [4,5] ?_
  refine W.rt ?_
  obtain rfl:=au h
  exact cx (.f q q (.f q q .nil))
 ·subst J
  refine af.dv ?_
  refine af.cK ?_
  obtain rfl:=au h
  exact cx (.f q q (.f q q .nil))
theorem Cd (a0:(List Act)) (aw:Int) (r:Int) (h:sV a0 aw=some r):cb Try.prog 28 [ah ct a0,j aw] [none,none] (j r):=by
 unfold sV at h
 refine cb.go (N:=⟨31,[]⟩) Try.func28 q q q q (W.fin ?_)
 refine W.st [(0,ah ct a0),(1,j aw)] ?_
 refine W.aU [0,1] ?_
 refine W.aU [0,1,5] ?_
 refine W.aZ<|W.aU [0,1,5,6] ?_
 refine W.bk ?_
 obtain ⟨x2,ao,h⟩:=ay h
 refine W.cf (G1:=[(0,_),(1,_),(5,_),(6,_)]) (dA q q q q) ?_
 refine W.eO (s:=(0,0)) (λ(s1:Int × Int)=>[(0,ah ct a0),(1,j aw),(5,j s1.1),(6,j s1.2)]) 0 (λ(x2:Int)=>[(5,j x2)]) ao (λs1 o h=>?_) ?_
 ·clear ao
  refine W.aZ<|W.aU [0,1,5,6,10] ?_
  refine W.bw h q (λdd h=>?_) (λdd h=>?_)
  ·refine W.bI<|af.aX ?_
   refine W.aZ ?_
   obtain ⟨l6,aa,h⟩:=ay h
   refine W.bB [(0,ah ct a0),(1,j aw),(5,j l6),(6,j s1.2)] ?_ ?_
   ·clear h; have h:=aa; clear aa
    refine W.bk ?_
    obtain ⟨qw,aa,h⟩:=ay h
    refine W.rs [(0,ah ct a0),(1,j aw),(5,j s1.1),(6,j s1.2),(27,a1 qw)] ?_ ?_
    ·refine aj (O.aA (.aE q))<|aj (O.aA (.lit q)) ?_
     obtain ⟨bx,fJ,aa⟩:=ay aa
     refine aj (O.cC (.aE q) (.lit q) s6 fJ)<|aj (O.ej (.bo q) qA)<|aj (O.c9 (x:=j bx.Kind) (.bo q) cr q)<|aj (O.eql (.lit q) (.k q))<|aj (O.aA (.lit q)) ?_
     rcases cz aa with ⟨c5,aa⟩ | ⟨c5,aa⟩
     ·refine aM c5 (O.aA (.aE q))<|aM c5 (O.aA (.lit q)) ?_
      obtain ⟨b3,ho,aa⟩:=ay aa
      obtain rfl:=au aa
      exact ar.aW
     ·obtain rfl:=au aa
      exact ar.aW
    obtain ⟨j6,aa,h⟩:=ay h
    refine W.bB [(0,ah ct a0),(1,j aw),(5,j j6),(6,j s1.2)] ?_ ?_
    ·clear h; have h:=aa; clear aa
     refine W.bw h q (λfh h=>?_) (λfh h=>?_)
     ·refine W.bm [0,1,5,6] (bq q<|aj (O.add (.lit q) (.k q))<|ar.bm [0,1,6,29] q<|ar.aW) ?_
      obtain rfl:=au h
      exact af.bB (dA q q q q)
     ·refine W.bI ?_
      obtain rfl:=au h
      exact af.bB (dA q q q q)
    refine af.bk ?_
    obtain rfl:=au h
    exact af.bB (dA q q q q)
   refine af.aX<|W.bm [0,1,5,6] (bq q<|aj (O.add (.lit q) (.k q))<|ar.bm [0,1,5,12] q<|ar.aW) ?_
   obtain rfl:=au h
   exact af.go (dA q q q q)
  ·refine W.da ?_
   refine af.c' ?_
   obtain rfl:=au h
   exact af.aF (.n q .nil)
 refine af.db ?_
 refine af.aX<|W.aU [4] ?_
 refine W.rt ?_
 obtain rfl:=au h
 exact cx (.f q q .nil)
theorem O3 (a0:oR) (r:Bool) (h:A3 a0=some r):cb Try.prog 6 [.agg (ha.cells a0)] [none] (a1 r):=by
 unfold A3 at h
 refine cb.go (N:=⟨186,[]⟩) Try.func6 q q q q (W.fin ?_)
 refine W.st [(0,.agg (ha.cells a0))] ?_
 refine W.bY [1] (aj (O.box (.b' q q) q)<|ar.aW) ?_
 refine W.aZ ?_
 obtain ⟨aF,fI,h⟩:=ay h
 refine W.bY [1,15] (ee (cu.go .nil (Jl  _ fI) call13 q)<|ar.aW) ?_
 refine W.bw h q (λcO h=>?_) (λcO h=>?_)
 ·refine W.aU [2] ?_
  refine W.rt ?_
  refine af.cK ?_
  obtain rfl:=au h
  exact cx (.f q q .nil)
 ·refine W.bI<|af.aX ?_
  obtain ⟨a_,hd,h⟩:=ay h
  obtain ⟨bE,nf,h⟩:=ay h
  refine W.bY [4,6] (aj (O.dW (cs':=[j a0.bu,ah (bg aI) a0.eG,ah aI a0.nO,ah aI a0.lT,a1 a0.pF]) q (.obj q) IL q q)<|ee (cu.go (.b0 (.b' q q) .nil) (Jo a0 _ hd) call20 q)<|ee (cu.go (.b0 (.b' q q) .nil) (Ez a_ _ nf) call21 q)<|aj (O.aA (.cB q q))<|aj (O.ex (y:=.agg (cm.cells bE.1)) q q q)<|aj (O.ex (y:=.agg [ah (bg ct) bE.2.1.cL,ah (bg aI) bE.2.1.cN]) q q q)<|aj (O.ex (y:=j bE.2.2.1) q q q)<|aj (O.ex (y:=a1 bE.2.2.2) q q q)<|aj (O.fL (cs:=[.aK,.aK,.aK,ai aC,ai aC]) og q q)<|aj (O.fL (cs:=[.aK,.aK]) uH q q)<|ar.dI (G2:=[(3,_),(4,_),(21,_),(22,_),(23,_)]) (cs2:=[ah bp bE.1.a',ah a6 bE.1.bu,ah bG bE.1.ba,ai bE.1.bA,ai bE.1.bF]) q (.obj q) (.b' q q) q mR q q q q (.b q (.n q q (.n q q (.n q q (.n q q .nil)))))<|ar.dI (G2:=[(4,_),(22,_),(23,_)]) (cs2:=[ah (bg ct) bE.2.1.cL,ah (bg aI) bE.2.1.cN]) q (.obj q) (.b' q q) q wv q q q q (.b q (.n q q (.n q q .nil)))<|ar.aW) ?_
  refine W.aZ<|W.aU [4,25] ?_
  refine W.bw h q (λdD h=>?_) (λdD h=>?_)
  ·refine W.aU [2] ?_
   refine W.rt ?_
   refine af.cK ?_
   obtain rfl:=au h
   exact cx (.f q q .nil)
  ·refine W.bI<|af.aX ?_
   obtain ⟨bx,fJ,h⟩:=ay h
   refine W.bY [4,7] (aj (O.dW (cs':=[ah (bg ct) bE.2.1.cL,ah (bg aI) bE.2.1.cN]) q (.obj q) rn q q)<|ee (cu.go (.b0 (.b' q q) .nil) (Jq bE.2.1 _ fJ) call23 q)<|ar.aW) ?_
   refine W.aZ<|W.aU [4,7,33] ?_
   refine W.bw h q (λc5 h=>?_) (λc5 h=>?_)
   ·refine W.aU [2] ?_
    refine W.rt ?_
    refine af.cK ?_
    obtain rfl:=au h
    exact cx (.f q q .nil)
   ·refine W.bI<|af.aX ?_
    refine W.aZ<|W.aU [4,7,8] ?_
    refine W.bk ?_
    obtain ⟨cF,ao,h⟩:=ay h
    refine W.cf (G1:=[(4,_),(7,_),(8,_)]) (dq q q q) ?_
    refine W.iH (s:=0) (λ(cI:Int)=>[(4,.obj [ah (bg ct) bE.2.1.cL,ah (bg aI) bE.2.1.cN]),(7,ah eH bx),(8,j cI)]) 0 (λ(bQ:Unit)=>[]) (λ(b1:Bool)=>[(2,a1 b1)]) ao (λcI o h=>?_) (λbQ J=>?_) (λb1 J=>?_)
    ·clear ao
     refine W.aZ<|W.aU [4,7,8,37] ?_
     refine W.bw h q (λeb h=>?_) (λeb h=>?_)
     ·refine W.bI<|af.aX ?_
      refine W.aZ<|W.bk ?_
      refine W.aZ<|W.aU [4,7,8,9] ?_
      refine W.bk ?_
      obtain ⟨eo,ao,h⟩:=ay h
      refine W.cf (G1:=[(4,_),(7,_),(8,_),(9,_)]) (dA q q q q) ?_
      refine W.iH (s:=0) (λ(eA:Int)=>[(4,.obj [ah (bg ct) bE.2.1.cL,ah (bg aI) bE.2.1.cN]),(7,ah eH bx),(8,j cI),(9,j eA)]) 2 (λ(cA:Unit)=>[(4,.obj [ah (bg ct) bE.2.1.cL,ah (bg aI) bE.2.1.cN]),(7,ah eH bx),(8,j cI)]) (λ(ck:Bool)=>[(2,a1 ck)]) ao (λeA o h=>?_) (λcA J=>?_) (λck J=>?_)
      ·clear ao
       refine W.aZ ?_
       obtain ⟨b2,hY,h⟩:=ay h
       refine W.aU [4,7,8,9,47] ?_
       refine W.bw h q (λgW h=>?_) (λgW h=>?_)
       ·refine W.bI<|af.aX ?_
        refine W.aZ<|W.bk ?_
        obtain ⟨eD,mA,h⟩:=ay h
        obtain ⟨c0,nZ,h⟩:=ay h
        refine W.bY [4,7,8,9,10] (aj (O.bh q (.obj q) so q)<|aj (O.dm (y:=ah (bg ct) bE.2.1.cL) q (.ptr q) tw q q)<|bq q<|aj (O.cC (.aE q) (.lit q) uC mA)<|aj (O.c9 (x:=ah ct eD) (.bo q) xc q)<|bq q<|aj (O.cC (.aE q) (.lit q) s6 nZ)<|aj (O.iV (cs':=[j c0.Kind,j c0.N]) (.bo q) lf q q)<|aj (O.fL (cs:=[j 0,j 0]) lD q q)<|ar.dI (G2:=[(4,_),(7,_),(8,_),(9,_),(10,_)]) (cs2:=[j c0.Kind,j c0.N]) q (.obj q) (.b' q q) q mQ q q q q (.n q q (.n q q (.n q q (.n q q (.b q .nil)))))<|bS q) ?_
        obtain ⟨c8,mB,h⟩:=ay h
        obtain ⟨gf,n0,h⟩:=ay h
        refine W.bY [4,7,8,9,10,11,12] (aj (O.aA (.aE q))<|bq q<|aj (O.cC (.aE q) (.lit q) kn mB)<|aj (O.ej (.bo q) pS)<|aj (O.c9 (x:=ah ew c8.kg) (.bo q) ry q)<|bq q<|ee (cu.go (.b0 (.aE q) (.b0 (.lit q) .nil)) (Js c8.kg eA _ n0) call27 q)<|aj (O.aA (.Bw q q))<|aj (O.ex (y:=j gf.1) q q q)<|aj (O.ex (y:=a1 gf.2) q q q)<|ar.aW) ?_
        refine W.aZ<|W.bk ?_
        refine W.aZ ?_
        obtain ⟨tv,aa,h⟩:=ay h
        refine W.rd [[],[0],[0,1],[0,1,2],[0,1,2,3],aP 0 5 [],aP 0 6 [],aP 0 7 [],aP 0 6 [],aP 0 9 [],aP 0 10 [],aP 0 11 [],aP 0 12 []] [(4,.obj [ah (bg ct) bE.2.1.cL,ah (bg aI) bE.2.1.cN]),(7,ah eH bx),(8,j cI),(9,j eA),(10,.obj [j c0.Kind,j c0.N]),(12,a1 gf.2),(68,a1 tv)] ez (by kernel_rfl) ?_ ?_
        ·refine av 0 (O.aA (.lit q))<|av 1 (O.aA (.lit q)) ?_
         rcases cz aa with ⟨eu,aa⟩ | ⟨eu,aa⟩
         ·refine bC 2 eu (O.bh q (.obj q) qA q)<|bC 3 eu (O.cw q (.ptr q) cr q)<|bC 4 eu (O.eql (.lit q) (.k q))<|bC 5 eu (O.aA (.lit q)) ?_
          rcases cz aa with ⟨j1,aa⟩ | ⟨j1,aa⟩
          ·obtain rfl:=au aa
           exact bs 6 j1<|bs 7 j1<|bs 8 j1<|bs 9 j1<|bC 10 eu (O.dS (.lit q) j1 (.k q))<|av 11 (O.dS (.lit q) eu (.lit q))<|av 12 (O.dO (.lit q))<|bL.fin q q q (hq q q q q q q q)
          ·refine bC 6 j1 (O.aA (.lit q)) ?_
           obtain ⟨eQ,k7,aa⟩:=ay aa
           obtain rfl:=au aa
           exact bL.c 7 (cu.go (.b0 (.lit q) .nil) (Jn gf.1 _ k7) call17 q) q q q q (.hh q q j1)<|bC 8 j1 (O.dW (cs':=[j c0.Kind,j c0.N]) q (.obj q) lf q q)<|bC 9 j1 (O.Dc (va:=[.int .i64 eQ.Kind,.int .i64 eQ.N]) (vb:=[.int .i64 c0.Kind,.int .i64 c0.N]) (.b' q q) (.b' q q) q q EN)<|bC 10 eu (O.cZ (.lit q) j1 (.lit q))<|av 11 (O.dS (.lit q) eu (.lit q))<|av 12 (O.dO (.lit q))<|bL.fin q q q (hq q q q q q q q)
         ·obtain rfl:=au aa
          exact bs 2 eu<|bs 3 eu<|bs 4 eu<|bs 5 eu<|dy 6<|dy 7<|dy 8<|dy 9<|bs 10 eu<|av 11 (O.cZ (.lit q) eu (.k q))<|av 12 (O.dO (.lit q))<|bL.fin q q q (hq q q q q q q q)
        refine af.aX<|W.bw h q (λrH h=>?_) (λrH h=>?_)
        ·refine W.aU [2] ?_
         refine W.rt ?_
         refine af.dv ?_
         refine af.cK ?_
         refine af.dv ?_
         refine af.cK ?_
         obtain rfl:=au h
         exact af.fP (.n q .nil)
        ·refine W.aZ ?_
         obtain ⟨qv,aa,h⟩:=ay h
         refine W.rd [[],[0],[0,1],[0,1,2],[0,1,2,3],aP 0 5 [],aP 0 6 [],aP 0 7 [],aP 0 8 [],aP 0 8 [],aP 0 8 [],aP 0 8 [9,10],aP 0 8 [9,10,11],aP 0 8 [9,10,11,12],aP 0 8 (aP 9 5 []),aP 0 15 [],aP 0 16 [],aP 0 17 []] [(4,.obj [ah (bg ct) bE.2.1.cL,ah (bg aI) bE.2.1.cN]),(7,ah eH bx),(8,j cI),(9,j eA),(10,.obj [j c0.Kind,j c0.N]),(81,a1 qv)] ez (by kernel_rfl) ?_ ?_
         ·refine av 0 (O.aA (.lit q))<|av 1 (O.not (.lit q))<|av 2 (O.aA (.lit q)) ?_
          rcases cz aa with ⟨k2,aa⟩ | ⟨k2,aa⟩
          ·refine bC 3 k2 (O.bh q (.obj q) qA q)<|bC 4 k2 (O.cw q (.ptr q) cr q)<|bC 5 k2 (O.neq (.lit q) (.k q))<|av 6 (O.dS (.lit q) k2 (.lit q))<|av 7 (O.aA (.lit q)) ?_
           rcases cz aa with ⟨js,aa⟩ | ⟨js,aa⟩
           ·refine bC 8 js (O.dW (cs':=[j c0.Kind,j c0.N]) q (.obj q) lf q q)<|bC 9 js (O.aA (.aE q))<|bC 10 js (O.aA (.lit q)) ?_
            obtain ⟨gK,nb,aa⟩:=ay aa
            obtain rfl:=au aa
            exact bC 11 js (O.cC (.aE q) (.lit q) kn nb)<|bC 12 js (O.ej (.bo q) nT)<|bC 13 js (O.c9 (x:=j gK.Def) (.bo q) cr q)<|bC 14 js (O.dR (cs:=[j 2,j gK.Def]) pz lD q q q)<|bC 15 js (O.Dc (va:=[.int .i64 c0.Kind,.int .i64 c0.N]) (vb:=[.int .i64 2,.int .i64 gK.Def]) (.b' q q) (.b' q q) q q EN)<|av 16 (O.dS (.lit q) js (.lit q))<|av 17 (O.dO (.lit q))<|bL.fin q q q (fp q q q q q q)
           ·obtain rfl:=au aa
            exact bs 8 js<|bs 9 js<|bs 10 js<|bs 11 js<|bs 12 js<|bs 13 js<|bs 14 js<|bs 15 js<|av 16 (O.cZ (.lit q) js (.k q))<|av 17 (O.dO (.lit q))<|bL.fin q q q (fp q q q q q q)
          ·obtain rfl:=au aa
           exact bs 3 k2<|bs 4 k2<|bs 5 k2<|av 6 (O.cZ (.lit q) k2 (.k q))<|av 7 (O.aA (.lit q))<|bs 8 q<|bs 9 q<|bs 10 q<|bs 11 q<|bs 12 q<|bs 13 q<|bs 14 q<|bs 15 q<|av 16 (O.cZ (.lit q) q (.k q))<|av 17 (O.dO (.lit q))<|bL.fin q q q (fp q q q q q q)
         refine af.aX<|W.bw h q (λkE h=>?_) (λkE h=>?_)
         ·refine W.aU [2] ?_
          refine W.rt ?_
          refine af.dv ?_
          refine af.cK ?_
          refine af.dv ?_
          refine af.cK ?_
          obtain rfl:=au h
          exact af.fP (.n q .nil)
         ·refine W.bI<|af.bk ?_
          refine af.aX<|W.aZ ?_
          obtain ⟨Ek,aa,h⟩:=ay h
          refine W.rd [[],[0],[0,1],[0,1,2],[0,1,2,3],aP 0 5 [],[0,1,2,3],aP 0 7 [],aP 0 8 [],[0,1,2,3],[0,1,2,3,9],aP 0 11 [],[0,1,2,3],[0,1,2,3,12],[0,1,2,3],[0,1,2,3,12,13,14],[0,1,2,3,12,13,14,15],[0,1,2,3],[0,1,2,3],[0,1,2,3,17,18],[0,1,2,3,17,18,19],[0,1,2,3,17,18,19,20],aP 0 22 [],aP 0 23 [],aP 0 24 [],aP 0 25 [],aP 0 26 [],aP 0 25 [],aP 0 28 [],aP 0 29 [],aP 0 25 [],aP 0 25 [30],aP 0 32 [],aP 0 25 [],aP 0 25 [33],aP 0 25 [],aP 0 25 [33,34,35],aP 0 25 [33,34,35,36],aP 0 25 [],aP 0 25 [],aP 0 25 [38,39],aP 0 25 [38,39,40],aP 0 25 [38,39,40,41],aP 0 43 [],aP 0 44 [],aP 0 45 [],aP 0 46 [],aP 0 47 [],aP 0 46 [],aP 0 46 [],aP 0 46 [48,49],aP 0 46 [48,49,50],aP 0 46 [48,49,50,51],aP 0 53 [],aP 0 54 [],aP 0 55 [],aP 0 56 []] [(4,.obj [ah (bg ct) bE.2.1.cL,ah (bg aI) bE.2.1.cN]),(7,ah eH bx),(8,j cI),(9,j eA),(155,a1 Ek)] ez (by kernel_rfl) ?_ ?_
          ·refine av 0 (O.bh q (.obj q) qA q)<|av 1 (O.cw q (.ptr q) cr q)<|av 2 (O.eql (.lit q) (.k q))<|av 3 (O.aA (.lit q)) ?_
           rcases cz aa with ⟨ey,aa⟩ | ⟨ey,aa⟩
           ·refine bC 4 ey (O.bh q (.obj q) so q)<|bC 5 ey (O.dm (y:=ah (bg ct) bE.2.1.cL) q (.ptr q) tw q q)<|bC 6 ey (O.aA (.lit q)) ?_
            obtain ⟨gm,n1,aa⟩:=ay aa
            refine bC 7 ey (O.cC (.aE q) (.lit q) uC n1)<|bC 8 ey (O.c9 (x:=ah ct gm) (.bo q) xc q)<|bC 9 ey (O.bh q (.obj q) sm q)<|bC 10 ey (O.cw q (.ptr q) cr q) ?_
            obtain ⟨gS,vu,aa⟩:=ay aa
            refine bL.c 11 (cu.go (.b0 (.aE q) (.b0 (.lit q) .nil)) (Cd gm c0.N _ vu) call28 q) q q q q (.hh q q ey)<|bC 12 ey (O.bh q (.obj q) so q)<|bC 13 ey (O.dm (y:=ah (bg ct) bE.2.1.cL) q (.ptr q) tw q q)<|bC 14 ey (O.aA (.lit q)) ?_
            obtain ⟨iA,qU,aa⟩:=ay aa
            refine bC 15 ey (O.cC (.aE q) (.lit q) uC qU)<|bC 16 ey (O.c9 (x:=ah ct iA) (.bo q) xc q)<|bC 17 ey (O.aA (.aE q))<|bC 18 ey (O.aA (.lit q)) ?_
            obtain ⟨jK,mE,aa⟩:=ay aa
            refine bC 19 ey (O.cC (.aE q) (.lit q) kn mE)<|bC 20 ey (O.ej (.bo q) nT)<|bC 21 ey (O.c9 (x:=j jK.Def) (.bo q) cr q) ?_
            obtain ⟨dc,uc,aa⟩:=ay aa
            refine bL.c 22 (cu.go (.b0 (.aE q) (.b0 (.lit q) .nil)) (Cd iA jK.Def _ uc) call28 q) q q q q (.hh q q ey)<|bC 23 ey (O.gtr (.lit q) (.lit q))<|bC 24 ey (O.aA (.lit q)) ?_
            rcases cz aa with ⟨fY,aa⟩ | ⟨fY,aa⟩
            ·obtain rfl:=au aa
             exact bs 25 fY<|bs 26 fY<|bs 27 fY<|bs 28 fY<|bs 29 fY<|bs 30 fY<|bs 31 fY<|bs 32 fY<|bs 33 fY<|bs 34 fY<|bs 35 fY<|bs 36 fY<|bs 37 fY<|bs 38 fY<|bs 39 fY<|bs 40 fY<|bs 41 fY<|bs 42 fY<|bs 43 fY<|bs 44 fY<|bs 45 fY<|dy 46<|dy 47<|dy 48<|dy 49<|dy 50<|dy 51<|dy 52<|dy 53<|bs 54 fY<|bC 55 ey (O.dS (.lit q) fY (.k q))<|av 56 (O.dS (.lit q) ey (.lit q))<|bL.fin q q q (eW q q q q q)
            ·refine bC 25 fY (O.bh q (.obj q) so q)<|bC 26 fY (O.dm (y:=ah (bg ct) bE.2.1.cL) q (.ptr q) tw q q)<|bC 27 fY (O.aA (.lit q)) ?_
             obtain ⟨r0,Ai,aa⟩:=ay aa
             refine bC 28 fY (O.cC (.aE q) (.lit q) uC Ai)<|bC 29 fY (O.c9 (x:=ah ct r0) (.bo q) xc q)<|bC 30 fY (O.bh q (.obj q) sm q)<|bC 31 fY (O.cw q (.ptr q) cr q) ?_
             obtain ⟨BF,Gp,aa⟩:=ay aa
             refine bL.c 32 (cu.go (.b0 (.aE q) (.b0 (.lit q) .nil)) (Cd r0 c0.N _ Gp) call28 q) q q q q (.hh q q fY)<|bC 33 fY (O.bh q (.obj q) so q)<|bC 34 fY (O.dm (y:=ah (bg ct) bE.2.1.cL) q (.ptr q) tw q q)<|bC 35 fY (O.aA (.lit q)) ?_
             obtain ⟨bR,Sw,aa⟩:=ay aa
             refine bC 36 fY (O.cC (.aE q) (.lit q) uC Sw)<|bC 37 fY (O.c9 (x:=ah ct bR) (.bo q) xc q)<|bC 38 fY (O.aA (.aE q))<|bC 39 fY (O.aA (.lit q)) ?_
             obtain ⟨wA,Lo,aa⟩:=ay aa
             refine bC 40 fY (O.cC (.aE q) (.lit q) kn Lo)<|bC 41 fY (O.ej (.bo q) nT)<|bC 42 fY (O.c9 (x:=j wA.Def) (.bo q) cr q) ?_
             obtain ⟨q',CW,aa⟩:=ay aa
             refine bL.c 43 (cu.go (.b0 (.aE q) (.b0 (.lit q) .nil)) (Cd bR wA.Def _ CW) call28 q) q q q q (.hh q q fY)<|bC 44 fY (O.eql (.lit q) (.lit q))<|bC 45 fY (O.aA (.lit q)) ?_
             rcases cz aa with ⟨jH,aa⟩ | ⟨jH,aa⟩
             ·refine bC 46 jH (O.bh q (.obj q) sm q)<|bC 47 jH (O.cw q (.ptr q) cr q)<|bC 48 jH (O.aA (.aE q))<|bC 49 jH (O.aA (.lit q)) ?_
              obtain ⟨mS,Gq,aa⟩:=ay aa
              obtain rfl:=au aa
              exact bC 50 jH (O.cC (.aE q) (.lit q) kn Gq)<|bC 51 jH (O.ej (.bo q) nT)<|bC 52 jH (O.c9 (x:=j mS.Def) (.bo q) cr q)<|bC 53 jH (O.lss (.lit q) (.lit q))<|bC 54 fY (O.dS (.lit q) jH (.lit q))<|bC 55 ey (O.cZ (.lit q) fY (.lit q))<|av 56 (O.dS (.lit q) ey (.lit q))<|bL.fin q q q (eW q q q q q)
             ·obtain rfl:=au aa
              exact bs 46 jH<|bs 47 jH<|bs 48 jH<|bs 49 jH<|bs 50 jH<|bs 51 jH<|bs 52 jH<|bs 53 jH<|bC 54 fY (O.cZ (.lit q) jH (.k q))<|bC 55 ey (O.cZ (.lit q) fY (.lit q))<|av 56 (O.dS (.lit q) ey (.lit q))<|bL.fin q q q (eW q q q q q)
           ·obtain rfl:=au aa
            exact bs 4 ey<|bs 5 ey<|bs 6 ey<|bs 7 ey<|bs 8 ey<|bs 9 ey<|bs 10 ey<|bs 11 ey<|bs 12 ey<|bs 13 ey<|bs 14 ey<|bs 15 ey<|bs 16 ey<|bs 17 ey<|bs 18 ey<|bs 19 ey<|bs 20 ey<|bs 21 ey<|bs 22 ey<|bs 23 ey<|bs 24 ey<|dy 25<|dy 26<|dy 27<|dy 28<|dy 29<|dy 30<|dy 31<|dy 32<|dy 33<|dy 34<|dy 35<|dy 36<|dy 37<|dy 38<|dy 39<|dy 40<|dy 41<|dy 42<|dy 43<|dy 44<|dy 45<|dy 46<|dy 47<|dy 48<|dy 49<|dy 50<|dy 51<|dy 52<|dy 53<|dy 54<|bs 55 ey<|av 56 (O.cZ (.lit q) ey (.k q))<|bL.fin q q q (eW q q q q q)
          refine af.aX<|W.bw h q (λpW h=>?_) (λpW h=>?_)
          ·refine W.aU [2] ?_
           refine W.rt ?_
           refine af.dv ?_
           refine af.cK ?_
           obtain rfl:=au h
           exact af.fP (.n q .nil)
          ·refine W.bI<|af.bk ?_
           refine af.aX<|W.bm [4,7,8,9] (bq q<|aj (O.add (.lit q) (.k q))<|ar.bm [4,7,8,49] q<|ar.aW) ?_
           obtain rfl:=au h
           exact af.go (dA q q q q)
       ·refine W.da ?_
        refine af.c' ?_
        obtain rfl:=au h
        exact af.x2 (dq q q q)
      ·subst J
       refine af.db ?_
       refine af.aX<|W.aU [4,7,8,13] ?_
       refine W.bk ?_
       obtain ⟨M9,ao,h⟩:=ay h
       refine W.cf (G1:=[(4,_),(7,_),(8,_),(13,_)]) (dA q q q q) ?_
       refine W.iH (s:=1) (λ(wi:Int)=>[(4,.obj [ah (bg ct) bE.2.1.cL,ah (bg aI) bE.2.1.cN]),(7,ah eH bx),(8,j cI),(13,j wi)]) 5 (λ(ta:Unit)=>[(4,.obj [ah (bg ct) bE.2.1.cL,ah (bg aI) bE.2.1.cN]),(7,ah eH bx),(8,j cI)]) (λ(iY:Bool)=>[(2,a1 iY)]) ao (λwi o h=>?_) (λta J=>?_) (λiY J=>?_)
       ·clear ao
        refine W.aZ ?_
        obtain ⟨yu,Lq,h⟩:=ay h
        refine W.aU [4,7,8,13,163] ?_
        refine W.bw h q (λvi h=>?_) (λvi h=>?_)
        ·refine W.bI<|af.aX ?_
         refine W.aZ<|W.bk ?_
         refine W.aZ ?_
         obtain ⟨kp,oG,h⟩:=ay h
         obtain ⟨yv,Gt,h⟩:=ay h
         obtain ⟨HW,Sy,h⟩:=ay h
         obtain ⟨oQ,Sz,h⟩:=ay h
         refine W.rd [[],[],[0,1],[0,1,2],[0,1,2,3],[],aP 0 6 [],aP 0 7 [],aP 0 8 [],[],[],[9,10],[9,10,11],[9,10,11,12],[],[14],aP 9 7 [],aP 9 8 [],aP 9 9 [],aP 0 19 []] [(4,_),(7,_),(8,_),(13,_),(185,_)] ez (by kernel_rfl) (av 0 (O.aA (.aE q))<|av 1 (O.aA (.lit q))<|av 2 (O.cC (.aE q) (.lit q) kn oG)<|av 3 (O.ej (.bo q) pS)<|av 4 (O.c9 (x:=ah ew kp.kg) (.bo q) ry q)<|av 5 (O.aA (.lit q))<|av 6 (O.cC (.aE q) (.lit q) q8 Gt)<|av 7 (O.ej (.bo q) ET)<|av 8 (O.c9 (x:=j yv.At) (.bo q) cr q)<|av 9 (O.aA (.aE q))<|av 10 (O.aA (.lit q))<|av 11 (O.cC (.aE q) (.lit q) kn Sy)<|av 12 (O.ej (.bo q) pS)<|av 13 (O.c9 (x:=ah ew HW.kg) (.bo q) ry q)<|av 14 (O.aA (.lit q))<|av 15 (O.sub (.lit q) (.k q))<|av 16 (O.cC (.aE q) (.lit q) q8 Sz)<|av 17 (O.ej (.bo q) ET)<|av 18 (O.c9 (x:=j oQ.At) (.bo q) cr q)<|av 19 (O.leq (.lit q) (.lit q))<|bL.fin q q q (eW q q q q q)) ?_
         refine af.aX<|W.bw h q (λQ7 h=>?_) (λQ7 h=>?_)
         ·refine W.aU [2] ?_
          refine W.rt ?_
          refine af.dv ?_
          refine af.cK ?_
          obtain rfl:=au h
          exact af.fP (.n q .nil)
         ·refine W.bI<|af.bk ?_
          refine af.aX<|W.bm [4,7,8,13] (bq q<|aj (O.add (.lit q) (.k q))<|ar.bm [4,7,8,165] q<|ar.aW) ?_
          obtain rfl:=au h
          exact af.go (dA q q q q)
        ·refine W.da ?_
         refine af.c' ?_
         obtain rfl:=au h
         exact af.x2 (dq q q q)
       ·subst J
        refine af.db ?_
        refine af.bk ?_
        refine af.aX<|W.bm [4,7,8] (bq q<|aj (O.add (.lit q) (.k q))<|ar.bm [4,7,39] q<|ar.aW) ?_
        obtain rfl:=au h
        exact af.go (dq q q q)
       ·subst J
        refine af.dv ?_
        refine af.dv ?_
        refine af.cK ?_
        obtain rfl:=au h
        exact af.fP (.n q .nil)
      ·subst J
       refine af.dv ?_
       refine af.cK ?_
       refine af.dv ?_
       refine af.cK ?_
       obtain rfl:=au h
       exact af.fP (.n q .nil)
     ·refine W.da ?_
      refine af.c' ?_
      obtain rfl:=au h
      exact af.x2 .nil
    ·subst J
     refine af.db ?_
     refine af.aX<|W.aU [2] ?_
     refine W.rt ?_
     obtain rfl:=au h
     exact cx (.f q q .nil)
    ·subst J
     refine af.dv ?_
     refine af.cK ?_
     obtain rfl:=au h
     exact cx (.f q q .nil)
theorem O7 (a0:oR) (r:Bool) (h:A6 a0=some r):cb Try.prog 7 [.agg (ha.cells a0)] [none] (a1 r):=by
 unfold A6 at h
 refine cb.go (N:=⟨150,[]⟩) Try.func7 q q q q (W.fin ?_)
 refine W.st [(0,.agg (ha.cells a0))] ?_
 refine W.bY [1] (aj (O.box (.b' q q) q)<|ar.aW) ?_
 refine W.aZ ?_
 obtain ⟨aF,fI,h⟩:=ay h
 refine W.bY [1,18] (ee (cu.go .nil (Jl  _ fI) call13 q)<|ar.aW) ?_
 refine W.bw h q (λcO h=>?_) (λcO h=>?_)
 ·refine W.aU [2] ?_
  refine W.rt ?_
  refine af.cK ?_
  obtain rfl:=au h
  exact cx (.f q q .nil)
 ·refine W.bI<|af.aX ?_
  obtain ⟨a_,hd,h⟩:=ay h
  obtain ⟨bE,nf,h⟩:=ay h
  refine W.bY [3,4,6] (aj (O.dW (cs':=[j a0.bu,ah (bg aI) a0.eG,ah aI a0.nO,ah aI a0.lT,a1 a0.pF]) q (.obj q) IL q q)<|ee (cu.go (.b0 (.b' q q) .nil) (Jo a0 _ hd) call20 q)<|ee (cu.go (.b0 (.b' q q) .nil) (Ez a_ _ nf) call21 q)<|aj (O.aA (.cB q q))<|aj (O.ex (y:=.agg (cm.cells bE.1)) q q q)<|aj (O.ex (y:=.agg [ah (bg ct) bE.2.1.cL,ah (bg aI) bE.2.1.cN]) q q q)<|aj (O.ex (y:=j bE.2.2.1) q q q)<|aj (O.ex (y:=a1 bE.2.2.2) q q q)<|aj (O.fL (cs:=[.aK,.aK,.aK,ai aC,ai aC]) og q q)<|aj (O.fL (cs:=[.aK,.aK]) uH q q)<|ar.dI (G2:=[(3,_),(4,_),(24,_),(25,_),(26,_)]) (cs2:=[ah bp bE.1.a',ah a6 bE.1.bu,ah bG bE.1.ba,ai bE.1.bA,ai bE.1.bF]) q (.obj q) (.b' q q) q mR q q q q (.b q (.n q q (.n q q (.n q q (.n q q .nil)))))<|ar.dI (G2:=[(3,_),(4,_),(25,_),(26,_)]) (cs2:=[ah (bg ct) bE.2.1.cL,ah (bg aI) bE.2.1.cN]) q (.obj q) (.b' q q) q wv q q q q (.n q q (.b q (.n q q (.n q q .nil))))<|ar.aW) ?_
  refine W.aZ<|W.aU [3,4,28] ?_
  refine W.bw h q (λdD h=>?_) (λdD h=>?_)
  ·refine W.aU [2] ?_
   refine W.rt ?_
   refine af.cK ?_
   obtain rfl:=au h
   exact cx (.f q q .nil)
  ·refine W.bI<|af.aX ?_
   obtain ⟨bx,fJ,h⟩:=ay h
   refine W.bY [3,4,7] (aj (O.dW (cs':=[ah (bg ct) bE.2.1.cL,ah (bg aI) bE.2.1.cN]) q (.obj q) rn q q)<|ee (cu.go (.b0 (.b' q q) .nil) (Jr bE.2.1 _ fJ) call25 q)<|ar.aW) ?_
   refine W.aZ<|W.aU [4,7,36] ?_
   refine W.bw h q (λc5 h=>?_) (λc5 h=>?_)
   ·refine W.aU [2] ?_
    refine W.rt ?_
    refine af.cK ?_
    obtain rfl:=au h
    exact cx (.f q q .nil)
   ·refine W.bI<|af.aX ?_
    refine W.aZ<|W.aU [4,7,8] ?_
    refine W.bk ?_
    obtain ⟨cF,ao,h⟩:=ay h
    refine W.cf (G1:=[(4,_),(7,_),(8,_)]) (dq q q q) ?_
    refine W.iH (s:=0) (λ(cI:Int)=>[(4,.obj [ah (bg ct) bE.2.1.cL,ah (bg aI) bE.2.1.cN]),(7,ah eH bx),(8,j cI)]) 0 (λ(bQ:Unit)=>[]) (λ(b1:Bool)=>[(2,a1 b1)]) ao (λcI o h=>?_) (λbQ J=>?_) (λb1 J=>?_)
    ·clear ao
     refine W.aZ<|W.aU [4,7,8,40] ?_
     refine W.bw h q (λeb h=>?_) (λeb h=>?_)
     ·refine W.bI<|af.aX ?_
      refine W.aZ<|W.bk ?_
      refine W.aU [4,7,8,9,10] ?_
      refine W.aZ<|W.aU [4,7,8,9,10,11] ?_
      refine W.bk ?_
      obtain ⟨eo,ao,h⟩:=ay h
      refine W.cf (G1:=[(4,_),(7,_),(8,_),(9,_),(10,_),(11,_)]) (fp q q q q q q) ?_
      refine W.iH (s:=(0,0,0)) (λ(eA:Int × Int × Int)=>[(4,.obj [ah (bg ct) bE.2.1.cL,ah (bg aI) bE.2.1.cN]),(7,ah eH bx),(8,j cI),(9,j eA.1),(10,j eA.2.1),(11,j eA.2.2)]) 2 (λ(cA:Int × Int)=>[(4,.obj [ah (bg ct) bE.2.1.cL,ah (bg aI) bE.2.1.cN]),(7,ah eH bx),(8,j cI),(9,j cA.1),(10,j cA.2)]) (λ(ck:Bool)=>[(2,a1 ck)]) ao (λeA o h=>?_) (λcA J=>?_) (λck J=>?_)
      ·clear ao
       refine W.aZ<|W.aU [4,7,8,9,10,11,47] ?_
       refine W.bw h q (λvh h=>?_) (λvh h=>?_)
       ·refine W.bI<|af.aX ?_
        refine W.aZ<|W.bk ?_
        obtain ⟨eZ,j5,h⟩:=ay h
        obtain ⟨eD,mA,h⟩:=ay h
        refine W.aU [4,7,8,9,10,11,12] ?_
        obtain ⟨c0,nZ,h⟩:=ay h
        obtain ⟨c8,mB,h⟩:=ay h
        refine W.bY [4,7,8,9,10,11,12,13,14] (aj (O.aA (.aE q))<|bq q<|aj (O.cC (.aE q) (.lit q) kn nZ)<|aj (O.ej (.bo q) pS)<|aj (O.c9 (x:=ah ew c0.kg) (.bo q) ry q)<|bq q<|ee (cu.go (.b0 (.aE q) (.b0 (.lit q) .nil)) (Js c0.kg eA.2.2 _ mB) call27 q)<|aj (O.aA (.Bw q q))<|aj (O.ex (y:=j c8.1) q q q)<|aj (O.ex (y:=a1 c8.2) q q q)<|ar.aW) ?_
        refine W.aZ ?_
        obtain ⟨nQ,aa,h⟩:=ay h
        refine W.rs [(4,.obj [ah (bg ct) bE.2.1.cL,ah (bg aI) bE.2.1.cN]),(7,ah eH bx),(8,j cI),(9,j eA.1),(10,j eA.2.1),(11,j eA.2.2),(12,j eD),(102,a1 nQ)] ?_ ?_
        ·refine bq q<|aj (O.aA (.lit q)) ?_
         rcases cz aa with ⟨eE,aa⟩ | ⟨eE,aa⟩
         ·refine aM eE (O.aA (.lit q))<|aM eE (O.aA (.lit q))<|aM eE (O.neq (.lit q) (.lit q))<|aj (O.dS (.lit q) eE (.lit q))<|aj (O.aA (.lit q)) ?_
          rcases cz aa with ⟨eu,aa⟩ | ⟨eu,aa⟩
          ·obtain rfl:=au aa
           exact ar.aW
          ·refine aM eu (O.aA (.lit q))<|aM eu (O.not (.lit q))<|aM eu (O.aA (.lit q)) ?_
           rcases cz aa with ⟨j1,aa⟩ | ⟨j1,aa⟩
           ·refine aM j1 (O.aA (.lit q))<|aM j1 (O.geq (.lit q) (.k q))<|aM eu (O.dS (.lit q) j1 (.lit q))<|aM eu (O.aA (.lit q)) ?_
            rcases cz aa with ⟨j2,aa⟩ | ⟨j2,aa⟩
            ·refine aM j2 (O.aA (.lit q))<|aM j2 (O.aA (.aE q))<|aM j2 (O.aA (.lit q)) ?_
             obtain ⟨iM,qS,aa⟩:=ay aa
             refine aM j2 (O.cC (.aE q) (.lit q) kn qS)<|aM j2 (O.ej (.bo q) nT)<|aM j2 (O.c9 (x:=j iM.Def) (.bo q) cr q)<|aM j2 (O.neq (.lit q) (.lit q))<|aM eu (O.dS (.lit q) j2 (.lit q))<|aj (O.cZ (.lit q) eu (.lit q))<|aj (O.aA (.lit q)) ?_
             rcases cz aa with ⟨rH,aa⟩ | ⟨rH,aa⟩
             ·obtain rfl:=au aa
              exact ar.aW
             ·refine aM rH (O.aA (.lit q))<|aM rH (O.aA (.lit q))<|aM eE (O.aA (.lit q))<|aM eE (O.aA (.aE q))<|aM eE (O.aA (.lit q)) ?_
              obtain ⟨cV,qT,aa⟩:=ay aa
              obtain rfl:=au aa
              exact aM eE (O.cC (.aE q) (.lit q) kn qT)<|aM eE (O.ej (.bo q) nT)<|aM eE (O.c9 (x:=j cV.Def) (.bo q) cr q)<|aM eE (O.eql (.lit q) (.lit q))<|aM rH (O.dS (.lit q) eE (.lit q))<|ar.aW
            ·refine b6 j2<|b6 j2<|b6 j2<|b6 j2<|b6 j2<|b6 j2<|b6 j2<|aM eu (O.cZ (.lit q) j2 (.k q))<|aj (O.cZ (.lit q) eu (.lit q))<|bq q<|aM q (O.aA (.lit q))<|aM q (O.aA (.lit q))<|aM eE (O.aA (.lit q))<|aM eE (O.aA (.aE q))<|aM eE (O.aA (.lit q)) ?_
             obtain ⟨eJ,lr,aa⟩:=ay aa
             obtain rfl:=au aa
             exact aM eE (O.cC (.aE q) (.lit q) kn lr)<|aM eE (O.ej (.bo q) nT)<|aM eE (O.c9 (x:=j eJ.Def) (.bo q) cr q)<|aM eE (O.eql (.lit q) (.lit q))<|aM q (O.dS (.lit q) eE (.lit q))<|ar.aW
           ·refine b6 j1<|b6 j1<|aM eu (O.cZ (.lit q) j1 (.k q))<|aM eu (O.aA (.lit q))<|b6 q<|b6 q<|b6 q<|b6 q<|b6 q<|b6 q<|b6 q<|aM eu (O.cZ (.lit q) q (.k q))<|aj (O.cZ (.lit q) eu (.lit q))<|bq q<|aM q (O.aA (.lit q))<|aM q (O.aA (.lit q))<|aM eE (O.aA (.lit q))<|aM eE (O.aA (.aE q))<|aM eE (O.aA (.lit q)) ?_
            obtain ⟨gK,nb,aa⟩:=ay aa
            obtain rfl:=au aa
            exact aM eE (O.cC (.aE q) (.lit q) kn nb)<|aM eE (O.ej (.bo q) nT)<|aM eE (O.c9 (x:=j gK.Def) (.bo q) cr q)<|aM eE (O.eql (.lit q) (.lit q))<|aM q (O.dS (.lit q) eE (.lit q))<|ar.aW
         ·refine b6 eE<|b6 eE<|b6 eE<|aj (O.cZ (.lit q) eE (.k q))<|bq q<|aM q (O.aA (.lit q))<|aM q (O.not (.lit q))<|aM q (O.aA (.lit q)) ?_
          rcases cz aa with ⟨qH,aa⟩ | ⟨qH,aa⟩
          ·refine aM qH (O.aA (.lit q))<|aM qH (O.geq (.lit q) (.k q))<|aM q (O.dS (.lit q) qH (.lit q))<|aM q (O.aA (.lit q)) ?_
           rcases cz aa with ⟨kE,aa⟩ | ⟨kE,aa⟩
           ·refine aM kE (O.aA (.lit q))<|aM kE (O.aA (.aE q))<|aM kE (O.aA (.lit q)) ?_
            obtain ⟨mf,sN,aa⟩:=ay aa
            refine aM kE (O.cC (.aE q) (.lit q) kn sN)<|aM kE (O.ej (.bo q) nT)<|aM kE (O.c9 (x:=j mf.Def) (.bo q) cr q)<|aM kE (O.neq (.lit q) (.lit q))<|aM q (O.dS (.lit q) kE (.lit q))<|aj (O.cZ (.lit q) q (.lit q))<|aj (O.aA (.lit q)) ?_
            rcases cz aa with ⟨iw,aa⟩ | ⟨iw,aa⟩
            ·obtain rfl:=au aa
             exact ar.aW
            ·obtain rfl:=au aa
             exact aM iw (O.aA (.lit q))<|aM iw (O.aA (.lit q))<|b6 eE<|b6 eE<|b6 eE<|b6 eE<|b6 eE<|b6 eE<|b6 eE<|aM iw (O.cZ (.lit q) eE (.k q))<|ar.aW
           ·obtain rfl:=au aa
            exact b6 kE<|b6 kE<|b6 kE<|b6 kE<|b6 kE<|b6 kE<|b6 kE<|aM q (O.cZ (.lit q) kE (.k q))<|aj (O.cZ (.lit q) q (.lit q))<|bq q<|aM q (O.aA (.lit q))<|aM q (O.aA (.lit q))<|b6 eE<|b6 eE<|b6 eE<|b6 eE<|b6 eE<|b6 eE<|b6 eE<|aM q (O.cZ (.lit q) eE (.k q))<|ar.aW
          ·obtain rfl:=au aa
           exact b6 qH<|b6 qH<|aM q (O.cZ (.lit q) qH (.k q))<|aM q (O.aA (.lit q))<|b6 q<|b6 q<|b6 q<|b6 q<|b6 q<|b6 q<|b6 q<|aM q (O.cZ (.lit q) q (.k q))<|aj (O.cZ (.lit q) q (.lit q))<|bq q<|aM q (O.aA (.lit q))<|aM q (O.aA (.lit q))<|b6 eE<|b6 eE<|b6 eE<|b6 eE<|b6 eE<|b6 eE<|b6 eE<|aM q (O.cZ (.lit q) eE (.k q))<|ar.aW
        refine W.bw h q (λFv h=>?_) (λFv h=>?_)
        ·refine W.aU [2] ?_
         refine W.rt ?_
         refine af.cK ?_
         refine af.dv ?_
         refine af.cK ?_
         obtain rfl:=au h
         exact af.fP (.n q .nil)
        ·refine W.bI<|af.aX ?_
         refine W.aZ<|W.aU [4,7,8,9,10,11,12,104] ?_
         refine W.bw h q (λpV h=>?_) (λpV h=>?_)
         ·refine W.da ?_
          refine af.c' ?_
          refine af.db ?_
          refine af.aX<|W.bm [4,7,8,9,10,11] (bq q<|aj (O.add (.lit q) (.k q))<|ar.bm [4,7,8,9,10,49] q<|ar.aW) ?_
          obtain rfl:=au h
          exact af.go (fp q q q q q q)
         ·refine W.bI<|af.aX ?_
          refine W.bY [4,7,8,9,10,11,12] (bq q<|aj (O.add (.lit q) (.k q))<|ar.bm [4,7,8,10,11,12,106] q<|ar.aW) ?_
          refine W.aU [4,7,8,9,10,11,12,15] ?_
          refine W.aZ<|W.aU [4,7,8,9,10,11,12,15,16] ?_
          refine W.bk ?_
          obtain ⟨hU,ao,h⟩:=ay h
          refine W.cf (G1:=[(4,_),(7,_),(8,_),(9,_),(10,_),(11,_),(12,_),(15,_),(16,_)]) (hE q q q q q q q q q) ?_
          refine W.eO (s:=(0,0)) (λ(qc:Int × Int)=>[(4,.obj [ah (bg ct) bE.2.1.cL,ah (bg aI) bE.2.1.cN]),(7,ah eH bx),(8,j cI),(9,j (aQ (eA.1+1))),(10,j eA.2.1),(11,j eA.2.2),(12,j eD),(15,j qc.1),(16,j qc.2)]) 4 (λ(hU:Int)=>[(4,.obj [ah (bg ct) bE.2.1.cL,ah (bg aI) bE.2.1.cN]),(7,ah eH bx),(8,j cI),(9,j (aQ (eA.1+1))),(10,j eA.2.1),(11,j eA.2.2),(15,j hU)]) ao (λqc o h=>?_) ?_
          ·clear ao
           refine W.aZ<|W.aU [4,7,8,9,10,11,12,15,16,111] ?_
           refine W.bw h q (λQY h=>?_) (λQY h=>?_)
           ·refine W.bI<|af.aX ?_
            refine W.aZ ?_
            obtain ⟨vC,aa,h⟩:=ay h
            refine W.bB [(4,.obj [ah (bg ct) bE.2.1.cL,ah (bg aI) bE.2.1.cN]),(7,ah eH bx),(8,j cI),(9,j (aQ (eA.1+1))),(10,j eA.2.1),(11,j eA.2.2),(12,j eD),(15,j vC),(16,j qc.2)] ?_ ?_
            ·clear h; have h:=aa; clear aa
             refine W.bk ?_
             obtain ⟨wA,Lo,h⟩:=ay h
             obtain ⟨q',CW,h⟩:=ay h
             refine W.aU [4,7,8,9,10,11,12,15,16,123] ?_
             obtain ⟨GQ,aa,h⟩:=ay h
             refine W.bB [(4,.obj [ah (bg ct) bE.2.1.cL,ah (bg aI) bE.2.1.cN]),(7,ah eH bx),(8,j cI),(9,j (aQ (eA.1+1))),(10,j eA.2.1),(11,j eA.2.2),(12,j eD),(15,j GQ),(16,j qc.2)] ?_ ?_
             ·clear h; have h:=aa; clear aa
              refine W.bw h q (λQ2 h=>?_) (λQ2 h=>?_)
              ·refine W.bm [4,7,8,9,10,11,12,15,16] (bq q<|aj (O.add (.lit q) (.k q))<|ar.bm [4,7,8,9,10,11,12,16,125] q<|ar.aW) ?_
               obtain rfl:=au h
               exact af.bB (hE q q q q q q q q q)
              ·refine W.bI ?_
               obtain rfl:=au h
               exact af.bB (hE q q q q q q q q q)
             refine af.bk ?_
             obtain rfl:=au h
             exact af.bB (hE q q q q q q q q q)
            refine af.aX<|W.bm [4,7,8,9,10,11,12,15,16] (bq q<|aj (O.add (.lit q) (.k q))<|ar.bm [4,7,8,9,10,11,12,15,113] q<|ar.aW) ?_
            obtain rfl:=au h
            exact af.go (hE q q q q q q q q q)
           ·refine W.da ?_
            refine af.c' ?_
            obtain rfl:=au h
            exact af.aF (hq q q q q q q q)
          refine af.db ?_
          refine af.aX<|W.bm [4,7,8,9,10,11] (bq q<|bq q<|aj (O.Tb (.lit q) (.lit q))<|ar.bm [4,7,8,9,11,128] q<|ar.aW) ?_
          refine af.bk ?_
          refine af.aX<|W.bm [4,7,8,9,10,11] (bq q<|aj (O.add (.lit q) (.k q))<|ar.bm [4,7,8,9,10,49] q<|ar.aW) ?_
          obtain rfl:=au h
          exact af.go (fp q q q q q q)
       ·refine W.da ?_
        refine af.c' ?_
        obtain rfl:=au h
        exact af.x2 (eW q q q q q)
      ·subst J
       refine af.db ?_
       refine af.aX ?_
       obtain ⟨y1,aa,h⟩:=ay h
       refine W.rs [(4,.obj [ah (bg ct) bE.2.1.cL,ah (bg aI) bE.2.1.cN]),(7,ah eH bx),(8,j cI),(149,a1 y1)] ?_ ?_
       ·refine aj (O.aA (.aE q))<|aj (O.aA (.lit q)) ?_
        obtain ⟨yt,Gr,aa⟩:=ay aa
        refine aj (O.cC (.aE q) (.lit q) kn Gr)<|aj (O.ej (.bo q) pS)<|aj (O.c9 (x:=ah ew yt.kg) (.bo q) ry q)<|aj (O.h0 (.aE q) q8)<|bq q<|bq q<|aj (O.sub (.lit q) (.lit q))<|aj (O.neq (.lit q) (.lit q))<|aj (O.aA (.lit q)) ?_
        rcases cz aa with ⟨pW,aa⟩ | ⟨pW,aa⟩
        ·obtain rfl:=au aa
         exact ar.aW
        ·refine aM pW (O.aA (.aE q))<|aM pW (O.aA (.lit q)) ?_
         obtain ⟨HV,Sx,aa⟩:=ay aa
         obtain rfl:=au aa
         exact aM pW (O.cC (.aE q) (.lit q) kn Sx)<|aM pW (O.ej (.bo q) nT)<|aM pW (O.c9 (x:=j HV.Def) (.bo q) cr q)<|aM pW (O.eql (.lit q) (.k q))<|aM pW (O.aA (.lit q))<|aM pW (O.eql (.lit q) (.k q))<|aM pW (O.Tl (.lit q) (.lit q) IX)<|ar.aW
       refine W.bw h q (λQ5 h=>?_) (λQ5 h=>?_)
       ·refine W.aU [2] ?_
        refine W.rt ?_
        refine af.dv ?_
        refine af.cK ?_
        obtain rfl:=au h
        exact af.fP (.n q .nil)
       ·refine W.bI<|af.bk ?_
        refine af.aX<|W.bm [4,7,8] (bq q<|aj (O.add (.lit q) (.k q))<|ar.bm [4,7,42] q<|ar.aW) ?_
        obtain rfl:=au h
        exact af.go (dq q q q)
      ·subst J
       refine af.dv ?_
       refine af.cK ?_
       refine af.dv ?_
       refine af.cK ?_
       obtain rfl:=au h
       exact af.fP (.n q .nil)
     ·refine W.da ?_
      refine af.c' ?_
      obtain rfl:=au h
      exact af.x2 .nil
    ·subst J
     refine af.db ?_
     refine af.aX<|W.aU [2] ?_
     refine W.rt ?_
     obtain rfl:=au h
     exact cx (.f q q .nil)
    ·subst J
     refine af.dv ?_
     refine af.cK ?_
     obtain rfl:=au h
     exact cx (.f q q .nil)
end Go.Proofs
namespace Go.Own
open Go Go.ChangeShapes Go.WideShapes Go.ChangeAt Go.RowKit
variable {H:Type}{enc:TypeId × Value->H}{P:Program}
theorem Mb {f:Func}{s:ChangeSpec}{apart fresh handsOn again:Bool}{W tq:World}{args:Array Value}{v:Value}{ja gs:List (DataW H)}{before lv pv:List MemPlace}
  (sw:DataW.Whole enc P f.params.toList s.vars apart W args.toList ja gs before) (hk:Ic W tq) (sH:before=lv++pv)
  (xz:∀ (b:Nat) (sp:Nat->Bool) (aV:Bool),DataW.TrodAll enc P tq b sp aV f.resultTypes.toList (v.resultList f.resultTypes.size) (s.fn H (ja++gs)).results [])
  (nV:∀ sp:Nat->Bool,(∀ p∈before,sp p.block=true)->DataW.TrodAll enc P tq 0 sp true f.params.toList args.toList (s.fn H (ja++gs)).args lv)
  (Ll:∀ sp:Nat->Bool,(∀ p∈before,sp p.block=true)->DataW.TrodVars enc P tq sp s.vars (s.fn H (ja++gs)).vars pv)
  (e8:∀ (ae:Nat) (t:TypeId) (r:Value),f.resultTypes[ae]?=some t->(v.resultList f.resultTypes.size)[ae]?=some r->Value.okWide P tq .any 0 t r) :
  s.post enc P f apart fresh handsOn again W args v tq:=by
 subst sH
 have bc:∀ p∈lv++pv,p.block<W.heap.size:=λp aG=>sw.lt p aG
 have kl:∀ p∈lv++pv,(λb=>decide (b<W.heap.size)) p.block=true:=λp aG=>decide_eq_true (bc p aG)
 have QQ:=sw
 obtain ⟨_,_,_,_,_,bM,aL⟩:=QQ
 have aD:=trodAll_append (nV (λ_=>true) (λ_ _=>rfl)) (xz 0 (λ_=>true) true)
 refine ⟨ja,gs,lv++pv,[],lv,pv,sw,xz _ _ _,nV _ kl,Ll _ kl,hk.kept _,λ_=>⟨e8,_,_,lv++pv,⟨_,pv,aD,Ll _ (λ_ _=>rfl),rfl,λb off aG=>?_,aL⟩,λp aG _=>aG⟩⟩
 rw [hk.e7 _ (bc _ aG)]
 exact bM b off aG
end Go.Own
namespace Go.Proofs
open Go Go.Own
set_option maxRecDepth 100000
theorem UI:Try.prog.underlying 3=some (.int .i64):=by kernel_rfl
theorem UH:Try.prog.underlying 4=some .bool:=by kernel_rfl
def vP (n:Int):Prop:=(Lit.int .i64 n).wf=true
def okB (_:Bool):Prop:=True
def vQ {α:Type}(p:α->Prop) (l:List α):Prop:=l.length<=maxLen/\∀ x∈l,p x
def Tu (x:oR):Prop:=vP x.bu/\vQ (vQ vP) x.eG/\vQ vP x.nO/\vQ vP x.lT/\okB x.pF/\True
theorem Ir:lS Try.prog aI 3 vP:=.int UI (by kernel_rfl) λ_=>rfl
theorem NC:lS Try.prog bJ 4 okB:=.bool UH (by kernel_rfl) λ_=>rfl
theorem UJ:Try.prog.underlying 29=some (.slice 3):=by kernel_rfl
theorem D1:lS Try.prog (bg aI) 29 (vQ vP):=Ir.slice (t:=29) UJ (by kernel_rfl) (by decide)
theorem ND:lS Try.prog (bg (bg aI)) 34 (vQ (vQ vP)):=D1.slice (t:=34) (by kernel_rfl) (by kernel_rfl) (by decide)
def PD:cD oR:=⟨5,λx=>[j x.bu,ah (bg aI) x.eG,ah aI x.nO,ah aI x.lT,a1 x.pF],λ_=>rfl,λ_=>e0.bK⟩
theorem Hw:Bu Try.prog 36 [3,34,29,29,4]=true:=by kernel_rfl
theorem Iq:lS Try.prog PD 36 Tu:=.struct (t:=36) (.cons Ir (.cons ND (.cons D1 (.cons D1 (.cons NC .nil))))) (λb=>(⟨b.1,b.2.1,b.2.2.1,b.2.2.2.1,b.2.2.2.2.1⟩:oR)) (λx=>(x.bu,x.eG,x.nO,x.lT,x.pF,())) (λ_=>rfl) (λ_=>rfl) Hw (by kernel_rfl)
theorem L4:laidOutB Try.prog=true:=by kernel_rfl
theorem L5:mapsRowed Try.prog=true:=by kernel_rfl
theorem L3:((List.range Try.prog.types.size).all λt=>match Try.prog.underlying t with | some (.slice e)=>decide (0<Try.prog.cellsOf e) | _=>true)=true:=by kernel_rfl
end Go.Proofs
