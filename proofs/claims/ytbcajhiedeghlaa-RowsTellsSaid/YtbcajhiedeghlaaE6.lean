/-
  What is proved here: parts of the proof that the last text states: rules for walks through code, and of this program's functions what they answer. No condition of their own.
-/
import Derived.Test.YtbcajhiedeghlaaRows
import Derived.Test.YtbcajhiedeghlaaE5
namespace Go.Proofs
open Go Go.Own
set_option maxRecDepth 100000
set_option linter.unusedVariables false
theorem Pg (a0:b') (r:(List State) × Int) (h:A_ a0=some r):b_ Try.prog 69 [.agg (ck.cells a0)] [none] (.cG [ag cR r.1,j r.2]):=by
 unfold A_ at h
 refine b_.go (N:=⟨106,[]⟩) Try.func69 q q q q (W.fin ?_)
 refine W.st [(0,.agg (ck.cells a0))] ?_
 refine W.bV [1] (ai (O.box (.b2 q q) q)<|aq.aV) ?_
 refine W.bV [1,4] (ai (O.dE (cs:=[j 0,j 0]) HG D4 q q q)<|ai (O.uX (ys:=[.agg [j 0,j 0]]) (cs:=[j 0,j 0]) ki q q q q q Ih q q)<|ai (O.dE (cs:=[.bl 2 ⟨15,[]⟩ 1,.aI]) Mx M9 q q q)<|ai (O.uX (ys:=[.agg [.bl 2 ⟨15,[]⟩ 1,.aI]]) (cs:=[.bl 2 ⟨15,[]⟩ 1,.aI]) mO q q q q q Nd q q)<|aq.fN (G2:=[(1,.obj (ck.cells a0))]) q (b9.B3 (y':=ak gC [(⟨[(⟨0,0⟩:Item)],([]:List Move)⟩:State)]) q q (.own q) (.l q q (.l q q (.f (.f .nil)) (.f .nil)) .nil) (gr.own (.z (hv:=ln.Ub (en:=dB) (L:=[(⟨0,0⟩:Item)]) (cs':=[j 0,j 0]) q q) (.o .nil))) (.n q .nil) q q)<|bK q) ?_
 obtain ⟨aD,fF,h⟩:=ax h
 refine W.bV [1,4,5] (ai (O.dR (cs':=[ag bq a0.ba,ag a7 a0.bw,ag bE a0.bc,ae a0.bx,ae a0.bA]) q (.obj q) gA q q)<|eE (cr.go (.bT (.b2 q q) .nil) (Pn a0 _ fF) call79 q)<|aq.aV) ?_
 refine W.aX<|W.aT [1,4,5,6] ?_
 refine W.bf ?_
 obtain ⟨a8,ao,h⟩:=ax h
 refine W.ca (G1:=[(1,_),(4,_),(5,_),(6,_)]) (dM q q q q) ?_
 refine W.jZ (s:=([(⟨[(⟨0,0⟩:Item)],([]:List Move)⟩:State)],0)) (λ(s2:List State × Int)=>[(1,.obj (ck.cells a0)),(4,ak gC s2.1),(5,ag aG aD),(6,j s2.2)]) 0 (λ(b4:List State)=>[(4,ak gC b4)]) (λ(cn:List State × Int)=>[(2,ag cR cn.1),(3,j cn.2)]) ao (λs2 o h=>?_) (λb4 J=>?_) (λcn J=>?_)
 ·clear ao
  refine W.aX<|W.aT [1,4,5,6,23] ?_
  refine W.bu h q (λee h=>?_) (λee h=>?_)
  ·refine W.bF<|ah.aU ?_
   refine W.aX<|W.bf ?_
   refine W.aX ?_
   obtain ⟨bz,gw,h⟩:=ax h
   obtain ⟨b1,hK,h⟩:=ax h
   refine W.rd [[],[],[],[1,2],[1,2,3],[1,2,3,4],aN 0 6 [],aN 0 7 []] [(1,_),(4,_),(5,_),(6,_),(7,_)] ei (by kernel_rfl) (av 0 (O.dR (cs':=[ag bq a0.ba,ag a7 a0.bw,ag bE a0.bc,ae a0.bx,ae a0.bA]) q (.obj q) gA q q)<|av 1 (O.aC (.own q))<|av 2 (O.aC (.lit q))<|av 3 (O.gY (en:=gC) q (.bl q) (.lit q) mO gw q)<|av 4 (O.ko (en:=gC) q (.ptr q) u9 gw q q)<|av 5 (O.jz (en:=gC) (x':=ag dB bz.Kernel) q (.ptr q) u5 gw q q)<|gR 6 (cr.go (.bT (.b2 q q) (.bT (.aF q) .nil)) (EK a0 bz.Kernel _ hK) call80 q)<|av 7 (O.ec (.aF q))<|bC.fin q q q (dX q q q q q)) ?_
   refine ah.aU<|W.aT [1,4,5,6,7,8] ?_
   refine W.aX<|W.aT [1,4,5,6,7,8,9] ?_
   refine W.bf ?_
   obtain ⟨bM,ao,h⟩:=ax h
   refine W.ca (G1:=[(1,_),(4,_),(5,_),(6,_),(7,_),(8,ag aG ([]:List Int)),(9,_)]) (.n q (.n q (.n q (.n q (.n q (.w q q .vS (.n q .nil))))))) ?_
   refine W.eg (s:=(([]:List Int),0)) (λ(mg:List Int × Int)=>[(1,.obj (ck.cells a0)),(4,ak gC s2.1),(5,ag aG aD),(6,j s2.2),(7,ag dB b1),(8,ag aG mg.1),(9,j mg.2)]) 2 (λ(bM:List Int)=>[(1,.obj (ck.cells a0)),(4,ak gC s2.1),(5,ag aG aD),(6,j s2.2),(8,ag aG bM)]) ao (λmg o h=>?_) ?_
   ·clear ao
    refine W.aX<|W.aT [1,4,5,6,7,8,9,36] ?_
    refine W.bu h q (λdz h=>?_) (λdz h=>?_)
    ·refine W.bF<|ah.aU ?_
     refine W.aX ?_
     obtain ⟨jQ,aa,h⟩:=ax h
     refine W.bs [(1,.obj (ck.cells a0)),(4,ak gC s2.1),(5,ag aG aD),(6,j s2.2),(7,ag dB b1),(8,ag aG jQ),(9,j mg.2)] ?_ ?_
     ·clear h; have h:=aa; clear aa
      refine W.bf<|W.aX ?_
      obtain ⟨dU,jP,h⟩:=ax h
      obtain ⟨cH,hI,h⟩:=ax h
      refine W.rd [[],[],[],[1,2],[1,2,3],aN 0 5 [],aN 0 6 []] [(1,_),(4,_),(5,_),(6,_),(7,_),(8,_),(9,_),(10,_)] ei (by kernel_rfl) (av 0 (O.dR (cs':=[ag bq a0.ba,ag a7 a0.bw,ag bE a0.bc,ae a0.bx,ae a0.bA]) q (.obj q) gA q q)<|av 1 (O.aC (.aF q))<|av 2 (O.aC (.lit q))<|av 3 (O.cC (.aF q) (.lit q) ki jP)<|av 4 (O.iq (cs':=[j dU.Prod,j dU.dY]) (.bo q) pV q q)<|gR 5 (cr.go (.bT (.b2 q q) (.bT (.b2 q q) .nil)) (EL a0 dU _ hI) call81 q)<|av 6 (O.ec (.lit q))<|bC.fin q q q (jR q q q q q q q q)) ?_
      refine ah.aU<|W.aT [1,4,5,6,7,8,9,10,46] ?_
      obtain ⟨l9,aa,h⟩:=ax h
      refine W.bs [(1,.obj (ck.cells a0)),(4,ak gC s2.1),(5,ag aG aD),(6,j s2.2),(7,ag dB b1),(8,ag aG l9),(9,j mg.2)] ?_ ?_
      ·clear h; have h:=aa; clear aa
       refine W.bu h q (λvh h=>?_) (λvh h=>?_)
       ·obtain ⟨dS,iG,h⟩:=ax h
        refine W.bk [1,4,5,6,7,8,9] (ai (O.aC (.aF q))<|bp q<|eE (cr.go (.bT (.aF q) (.bT (.lit q) .nil)) (tB mg.1 cH _ iG) call67 q)<|aq.bk [1,4,5,6,7,9,49] q<|aq.aV) ?_
        obtain rfl:=au h
        exact ah.bs (g_ q q q q q q q)
       ·refine W.bF ?_
        obtain rfl:=au h
        exact ah.bs (g_ q q q q q q q)
      refine ah.bf ?_
      obtain rfl:=au h
      exact ah.bs (g_ q q q q q q q)
     refine ah.aU<|W.bk [1,4,5,6,7,8,9] (bp q<|ai (O.add (.lit q) (.k q))<|aq.bk [1,4,5,6,7,8,38] q<|aq.aV) ?_
     obtain rfl:=au h
     exact ah.go (g_ q q q q q q q)
    ·refine W.c9 ?_
     refine ah.c7 ?_
     obtain rfl:=au h
     exact ah.aD (dX q q q q q)
   refine ah.c' ?_
   refine ah.aU<|W.aT [1,4,5,6,8,11] ?_
   refine W.bf ?_
   obtain ⟨dj,ao,h⟩:=ax h
   refine W.ca (G1:=[(1,_),(4,_),(5,_),(6,_),(8,_),(11,_)]) (fw q q q q q q) ?_
   refine W.jZ (s:=(s2.1,0)) (λ(c6:List State × Int)=>[(1,.obj (ck.cells a0)),(4,ak gC c6.1),(5,ag aG aD),(6,j s2.2),(8,ag aG bM),(11,j c6.2)]) 4 (λ(dk:List State)=>[(1,.obj (ck.cells a0)),(4,ak gC dk),(5,ag aG aD),(6,j s2.2)]) (λ(fx:List State × Int)=>[(2,ag cR fx.1),(3,j fx.2)]) ao (λc6 o h=>?_) (λdk J=>?_) (λfx J=>?_)
   ·clear ao
    refine W.aX<|W.aT [1,4,5,6,8,11,53] ?_
    refine W.bu h q (λgn h=>?_) (λgn h=>?_)
    ·refine W.bF<|ah.aU ?_
     refine W.aX<|W.bf ?_
     refine W.aX ?_
     obtain ⟨gg,lO,h⟩:=ax h
     obtain ⟨e6,k',h⟩:=ax h
     refine W.bV [1,4,5,6,8,11,62] (ai (O.aC (.aF q))<|ai (O.aC (.aF q))<|bp q<|ai (O.cC (.aF q) (.lit q) eS lO)<|ai (O.dd (x:=j gg) (.bo q) ct q)<|eE (cr.go (.bT (.aF q) (.bT (.lit q) .nil)) (JB bM gg _ k') call70 q)<|aq.aV) ?_
     refine W.bu h q (λgV h=>?_) (λgV h=>?_)
     ·refine W.c9 ?_
      refine ah.c7 ?_
      refine ah.c' ?_
      refine ah.aU<|W.bk [1,4,5,6,8,11] (bp q<|ai (O.add (.lit q) (.k q))<|aq.bk [1,4,5,6,8,55] q<|aq.aV) ?_
      obtain rfl:=au h
      exact ah.go (fw q q q q q q)
     ·refine W.bF<|ah.aU ?_
      refine W.aX ?_
      obtain ⟨fE,l6,h⟩:=ax h
      obtain ⟨c8,sY,h⟩:=ax h
      obtain ⟨e3,l7,h⟩:=ax h
      refine W.rd [[],[],[],[1,2],[1,2,3],[1,2,3,4],[],[],[6,7],[6,7,8],aN 0 10 [],aN 0 11 []] [(1,_),(4,_),(5,_),(6,_),(8,_),(11,_),(12,_)] ei (by kernel_rfl) (av 0 (O.dR (cs':=[ag bq a0.ba,ag a7 a0.bw,ag bE a0.bc,ae a0.bx,ae a0.bA]) q (.obj q) gA q q)<|av 1 (O.aC (.own q))<|av 2 (O.aC (.lit q))<|av 3 (O.gY (en:=gC) q (.bl q) (.lit q) mO l6 q)<|av 4 (O.ko (en:=gC) q (.ptr q) u9 l6 q q)<|av 5 (O.jz (en:=gC) (x':=ag dB fE.Kernel) q (.ptr q) u5 l6 q q)<|av 6 (O.aC (.aF q))<|av 7 (O.aC (.lit q))<|av 8 (O.cC (.aF q) (.lit q) eS sY)<|av 9 (O.dd (x:=j c8) (.bo q) ct q)<|gR 10 (cr.go (.bT (.b2 q q) (.bT (.aF q) (.bT (.lit q) .nil))) (Po a0 fE.Kernel c8 _ l7) call82 q)<|av 11 (O.ec (.aF q))<|bC.fin q q q (g_ q q q q q q q)) ?_
      refine ah.aU ?_
      obtain ⟨iK,po,h⟩:=ax h
      refine W.bV [1,4,5,6,8,11,12,13] (ai (O.aC (.own q))<|ai (O.aC (.aF q))<|eE (cr.vw (ys:=[.bl gC.z ⟨4,[]⟩ c6.1.length,ag dB e3]) q (.c (.row q) (.s .nil)) (Pp c6.1 e3 _ po) call83 q)<|aq.aV) ?_
      refine W.aX<|W.aT [1,4,5,6,8,11,12,13,78] ?_
      refine W.bu h q (λvl h=>?_) (λvl h=>?_)
      ·refine W.bV [1,4,5,6,8,11,12,13] (ai (O.aC (.own q))<|ai (O.px (.bl q) mO)<|aq.bk [1,4,5,6,8,11,12,80] q<|aq.aV) ?_
       refine W.aX<|W.aT [1,4,5,6,8,11,12,13,82] ?_
       refine W.bu h q (λFz h=>?_) (λFz h=>?_)
       ·refine W.aT [2,3] ?_
        refine W.eF (G1:=[(2,ag cR ([]:List State)),(3,_)]) [2] (.z q q .ha (.n q q .nil)) ?_
        refine W.rt ?_
        refine ah.c5 ?_
        refine ah.c5 ?_
        refine ah.d_ ?_
        refine ah.c5 ?_
        obtain rfl:=au h
        exact ah.gx (fC q q)
       ·refine W.bF<|ah.aU ?_
        obtain ⟨gy,pq,h⟩:=ax h
        refine W.bk [1,4,5,6,8,11,13] (ai (O.aC (.own q))<|ai (O.aC (.aF q))<|ai (O.dE (cs:=[ag dB e3,.aI]) Mx M9 q q q)<|ai (O.uX (ys:=[.agg [ag dB e3,.aI]]) (cs:=[ag dB e3,.aI]) mO q q q q q Nd q q)<|ai (O.Em (en:=gC) (M:=[(⟨e3,([]:List Move)⟩:State)]) (r:=gy) (.bl q) q (.own q) q q q q NY q pq)<|aq.fN (G2:=[(1,.obj (ck.cells a0)),(5,ag aG aD),(6,j s2.2),(8,ag aG bM),(11,j c6.2),(13,j (c6.1.length:Int))]) q (b9.IT (M:=[(⟨e3,([]:List Move)⟩:State)]) q q (.bR q) q q q (.f (.f .nil)) (.f (.o .nil)) q q (fw q q q q q q) q q)<|bK q) ?_
        refine ah.aU ?_
        obtain ⟨gI,n4,h⟩:=ax h
        obtain ⟨fT,Al,h⟩:=ax h
        obtain ⟨jS,sZ,h⟩:=ax h
        refine W.rd [[],[],[],[],[2,3],[2,3,4],[2,3,4,5],[],[],[7,8],[7,8,9],[],aN 7 5 [],aN 7 6 [],aN 2 12 [],aN 0 15 [],aN 0 16 [],aN 0 17 []] [(1,_),(4,_),(5,_),(6,_),(8,_),(11,_)] ei (by kernel_rfl) (av 0 (O.aC (.own q))<|av 1 (O.aC (.lit q))<|av 2 (O.aC (.own q))<|av 3 (O.aC (.lit q))<|av 4 (O.gY (en:=gC) q (.bl q) (.lit q) mO n4 q)<|av 5 (O.ko (en:=gC) q (.ptr q) u_ n4 q q)<|av 6 (O.jz (en:=gC) (x':=.bl k4.z ⟨4,[s2.2.toNat * gC.z+1]⟩ gI.fb.length) q (.ptr q) za n4 q q)<|av 7 (O.aC (.aF q))<|av 8 (O.aC (.lit q))<|av 9 (O.cC (.aF q) (.lit q) eS Al)<|av 10 (O.dd (x:=j fT) (.bo q) ct q)<|av 11 (O.aC (.lit q))<|av 12 (O.dE (cs:=[j fT,j (c6.1.length:Int)]) My M' q q q)<|bC.eY 13 (x:=ag k4 [(⟨fT,(c6.1.length:Int)⟩:Move)]) (O.dg (ys:=[.agg [j fT,j (c6.1.length:Int)]]) k4 [(⟨fT,(c6.1.length:Int)⟩:Move)] Bt q q q q q q Nf q q) q q q q .none<|av 14 (O.ap (en:=k4) (r:=jS) (.bl q) (tw (r:=4) (path:=[]) (o:=1) (en:=gC) q n4 q) (.aF q) .i IL q sZ)<|av 15 (O.gY (en:=gC) q (.bl q) (.lit q) mO n4 q)<|av 16 (O.ko (en:=gC) q (.ptr q) u_ n4 q q)<|bC.iZ 17 (G2:=[(1,.obj (ck.cells a0)),(4,ak gC ((c6.1++[(⟨e3,([]:List Move)⟩:State)]).set s2.2.toNat (⟨gI.Kernel,gI.fb++[(⟨fT,(c6.1.length:Int)⟩:Move)]⟩:State))),(5,ag aG aD),(6,j s2.2),(8,ag aG bM),(11,j c6.2)]) (b9.Bz (en:=gC) (en2:=k4) (M:=[(⟨fT,(c6.1.length:Int)⟩:Move)]) (y2:=(⟨gI.Kernel,gI.fb++[(⟨fT,(c6.1.length:Int)⟩:Move)]⟩:State)) (x2:=ak gC ((c6.1++[(⟨e3,([]:List Move)⟩:State)]).set s2.2.toNat (⟨gI.Kernel,gI.fb++[(⟨fT,(c6.1.length:Int)⟩:Move)]⟩:State))) (y0:=.own gC.z (c6.1++[(⟨e3,([]:List Move)⟩:State)]).length ((ch gC (c6.1++[(⟨e3,([]:List Move)⟩:State)])).set (s2.2.toNat * gC.z+1) .dead)) q q (.ptr q) (.bR q) q q n4 q q .iH .gk q q ML q q q q q q (.n q q (.b q (.n q q (.n q q (.n q q (.n q q .nil))))))) q q q q (by kernel_rfl) (by kernel_rfl)<|bC.fin q q q (fw q q q q q q)) ?_
        refine ah.bf ?_
        refine ah.aU<|W.bk [1,4,5,6,8,11] (bp q<|ai (O.add (.lit q) (.k q))<|aq.bk [1,4,5,6,8,55] q<|aq.aV) ?_
        obtain rfl:=au h
        exact ah.go (fw q q q q q q)
      ·refine W.bF<|ah.aU ?_
       obtain ⟨j7,mE,h⟩:=ax h
       obtain ⟨dm,xO,h⟩:=ax h
       obtain ⟨iT,ui,h⟩:=ax h
       refine W.rd [[],[],[],[],[2,3],[2,3,4],[2,3,4,5],[],[],[7,8],[7,8,9],[],aN 7 5 [],aN 7 6 [],aN 2 12 [],aN 0 15 [],aN 0 16 [],aN 0 17 []] [(1,_),(4,_),(5,_),(6,_),(8,_),(11,_)] ei (by kernel_rfl) (av 0 (O.aC (.own q))<|av 1 (O.aC (.lit q))<|av 2 (O.aC (.own q))<|av 3 (O.aC (.lit q))<|av 4 (O.gY (en:=gC) q (.bl q) (.lit q) mO mE q)<|av 5 (O.ko (en:=gC) q (.ptr q) u_ mE q q)<|av 6 (O.jz (en:=gC) (x':=.bl k4.z ⟨4,[s2.2.toNat * gC.z+1]⟩ j7.fb.length) q (.ptr q) za mE q q)<|av 7 (O.aC (.aF q))<|av 8 (O.aC (.lit q))<|av 9 (O.cC (.aF q) (.lit q) eS xO)<|av 10 (O.dd (x:=j dm) (.bo q) ct q)<|av 11 (O.aC (.lit q))<|av 12 (O.dE (cs:=[j dm,j iK]) My M' q q q)<|bC.eY 13 (x:=ag k4 [(⟨dm,iK⟩:Move)]) (O.dg (ys:=[.agg [j dm,j iK]]) k4 [(⟨dm,iK⟩:Move)] Bt q q q q q q Nf q q) q q q q .none<|av 14 (O.ap (en:=k4) (r:=iT) (.bl q) (tw (r:=4) (path:=[]) (o:=1) (en:=gC) q mE q) (.aF q) .i IL q ui)<|av 15 (O.gY (en:=gC) q (.bl q) (.lit q) mO mE q)<|av 16 (O.ko (en:=gC) q (.ptr q) u_ mE q q)<|bC.iZ 17 (G2:=[(1,.obj (ck.cells a0)),(4,ak gC (c6.1.set s2.2.toNat (⟨j7.Kernel,j7.fb++[(⟨dm,iK⟩:Move)]⟩:State))),(5,ag aG aD),(6,j s2.2),(8,ag aG bM),(11,j c6.2)]) (b9.Bz (en:=gC) (en2:=k4) (M:=[(⟨dm,iK⟩:Move)]) (y2:=(⟨j7.Kernel,j7.fb++[(⟨dm,iK⟩:Move)]⟩:State)) (x2:=ak gC (c6.1.set s2.2.toNat (⟨j7.Kernel,j7.fb++[(⟨dm,iK⟩:Move)]⟩:State))) (y0:=.own gC.z c6.1.length ((ch gC c6.1).set (s2.2.toNat * gC.z+1) .dead)) q q (.ptr q) (.bR q) q q mE q q .iH .gk q q ML q q q q q q (.n q q (.b q (.n q q (.n q q (.n q q (.n q q .nil))))))) q q q q (by kernel_rfl) (by kernel_rfl)<|bC.fin q q q (fw q q q q q q)) ?_
       refine ah.bf ?_
       refine ah.aU<|W.bk [1,4,5,6,8,11] (bp q<|ai (O.add (.lit q) (.k q))<|aq.bk [1,4,5,6,8,55] q<|aq.aV) ?_
       obtain rfl:=au h
       exact ah.go (fw q q q q q q)
    ·refine W.c9 ?_
     refine ah.c7 ?_
     obtain rfl:=au h
     exact ah.x2 (dM q q q q)
   ·subst J
    refine ah.c' ?_
    refine ah.bf ?_
    refine ah.aU<|W.bk [1,4,5,6] (bp q<|ai (O.add (.lit q) (.k q))<|aq.bk [1,4,5,25] q<|aq.aV) ?_
    obtain rfl:=au h
    exact ah.go (dM q q q q)
   ·subst J
    refine ah.d_ ?_
    refine ah.d_ ?_
    refine ah.c5 ?_
    obtain rfl:=au h
    exact ah.gx (fC q q)
  ·refine W.c9 ?_
   refine ah.c7 ?_
   obtain rfl:=au h
   exact ah.x2 (.n q .nil)
 ·subst J
  refine ah.c' ?_
  refine ah.aU<|W.bV [2,3] (ai (O.aC (.own q))<|aq.fN (G2:=[]) q (b9.ik q q (.bl q) q .nil q q)<|aq.aV) ?_
  refine W.eF (G1:=[(2,ag cR b4),(3,_)]) [2] (.z q q .ha (.n q q .nil)) ?_
  refine W.rt ?_
  obtain rfl:=au h
  exact cw (.f q q (.f q q .nil))
 ·subst J
  refine ah.d_ ?_
  refine ah.c5 ?_
  obtain rfl:=au h
  exact cw (.f q q (.f q q .nil))
theorem Pa (a0:Source) (r:b' × (List State) × Bool) (h:A6 a0=some r):b_ Try.prog 52 [.agg (da.cells a0)] [none] (.cG [.agg (ck.cells r.1),ag cR r.2.1,a1 r.2.2]):=by
 unfold A6 at h
 refine b_.go (N:=⟨26,[]⟩) Try.func52 q q q q (W.fin ?_)
 refine W.st [(0,.agg (da.cells a0))] ?_
 refine W.bV [1,2] (ai (O.box (.b2 q q) q)<|ai (O.fq (cs:=[.aI,.aI,.aI,ae aA,ae aA]) oY q q)<|aq.aV) ?_
 obtain ⟨aD,fF,h⟩:=ax h
 refine W.bV [2,5,6] (ai (O.dR (cs':=[ae a0.bx,ag cx a0.Decls,ag eM a0.dD,ae a0.bA]) q (.obj q) qE q q)<|eE (cr.go (.bT (.b2 q q) .nil) (Pf a0 _ fF) call68 q)<|ai (O.aC (.cG q q))<|ai (O.ex (y:=.agg (ck.cells aD.1)) q q q)<|ai (O.ex (y:=a1 aD.2) q q q)<|ai (O.fq (cs:=[.aI,.aI,.aI,ae aA,ae aA]) oY q q)<|aq.dx (G2:=[(2,_),(5,_),(13,_)]) (cs2:=[ag bq aD.1.ba,ag a7 aD.1.bw,ag bE aD.1.bc,ae aD.1.bx,ae aD.1.bA]) q (.obj q) (.b2 q q) q nt q q q q (.n q q (.b q (.n q q .nil)))<|aq.aV) ?_
 refine W.aX<|W.aT [2,5,15] ?_
 refine W.bu h q (λcP h=>?_) (λcP h=>?_)
 ·refine W.bV [2,3,4] (ai (O.dR (cs':=[ag bq aD.1.ba,ag a7 aD.1.bw,ag bE aD.1.bc,ae aD.1.bx,ae aD.1.bA]) q (.obj q) gA q q)<|aq.dx (G2:=[(2,_)]) (cs2:=[ag bq aD.1.ba,ag a7 aD.1.bw,ag bE aD.1.bc,ae aD.1.bx,ae aD.1.bA]) q (.obj q) (.b2 q q) q nt q q q q (.b q .nil)<|aq.aV) ?_
  refine W.eF (G1:=[(2,_),(3,ag cR ([]:List State)),(4,_)]) [3] (.n q q (.z q q .ha (.n q q .nil))) ?_
  refine W.rt ?_
  refine ah.c5 ?_
  obtain rfl:=au h
  exact cw (.c (ys0:=[ag bq aD.1.ba,ag a7 aD.1.bw,ag bE aD.1.bc,ae aD.1.bx,ae aD.1.bA]) q gA q q q (.f q (.f q (.f q (.f q (.f q .nil))))) (.f q q (.f q q .nil)))
 ·refine W.bF<|ah.aU ?_
  obtain ⟨a8,hJ,h⟩:=ax h
  refine W.bV [2,5,7,8] (ai (O.dR (cs':=[ag bq aD.1.ba,ag a7 aD.1.bw,ag bE aD.1.bc,ae aD.1.bx,ae aD.1.bA]) q (.obj q) gA q q)<|eE (cr.go (.bT (.b2 q q) .nil) (Pg aD.1 _ hJ) call69 q)<|ai (O.aC (.H3 q q))<|ai (O.ex (y:=ag cR a8.1) q q q)<|ai (O.ex (y:=j a8.2) q q q)<|aq.aV) ?_
  refine W.bV [2,3,4] (ai (O.dR (cs':=[ag bq aD.1.ba,ag a7 aD.1.bw,ag bE aD.1.bc,ae aD.1.bx,ae aD.1.bA]) q (.obj q) gA q q)<|ai (O.aC (.aF q))<|bp q<|ai (O.eql (.lit q) (.k q))<|aq.dx (G2:=[(2,_),(23,_),(25,_)]) (cs2:=[ag bq aD.1.ba,ag a7 aD.1.bw,ag bE aD.1.bc,ae aD.1.bx,ae aD.1.bA]) q (.obj q) (.b2 q q) q nt q q q q (.b q (.n q q (.n q q .nil)))<|aq.aV) ?_
  refine W.rt ?_
  obtain rfl:=au h
  exact cw (.c (ys0:=[ag bq aD.1.ba,ag a7 aD.1.bw,ag bE aD.1.bc,ae aD.1.bx,ae aD.1.bA]) q gA q q q (.f q (.f q (.f q (.f q (.f q .nil))))) (.f q q (.f q q .nil)))
theorem y9 (a0:(List State)) (aw:Int) (a2:Int) (r:Int) (h:qj a0 aw a2=some r):b_ Try.prog 59 [ag cR a0,j aw,j a2] [none,none,none] (j r):=by
 unfold qj at h
 refine b_.go (N:=⟨48,[]⟩) Try.func59 q q q q (W.fin ?_)
 refine W.st [(0,ag cR a0),(1,j aw),(2,j a2)] ?_
 refine W.aT [0,1,2] ?_
 refine W.aX<|W.aT [0,1,2,7] ?_
 refine W.bf ?_
 obtain ⟨x2,ao,h⟩:=ax h
 refine W.ca (G1:=[(0,_),(1,_),(2,_),(7,_)]) (dM q q q q) ?_
 refine W.jZ (s:=0) (λ(s1:Int)=>[(0,ag cR a0),(1,j aw),(2,j a2),(7,j s1)]) 0 (λ(a8:Unit)=>[]) (λ(b4:Int)=>[(6,j b4)]) ao (λs1 o h=>?_) (λa8 J=>?_) (λb4 J=>?_)
 ·clear ao
  refine W.aX ?_
  obtain ⟨sq,aa,h⟩:=ax h
  refine W.rs [(0,ag cR a0),(1,j aw),(2,j a2),(7,j s1),(25,a1 sq)] ?_ ?_
  ·refine bp q<|ai (O.geq (.lit q) (.k q))<|ai (O.aC (.lit q)) ?_
   rcases cB aa with ⟨dH,aa⟩ | ⟨dH,aa⟩
   ·refine aW dH (O.aC (.lit q))<|aW dH (O.aC (.aF q))<|aW dH (O.hc (.aF q) mO)<|aW dH (O.lss (.lit q) (.lit q))<|ai (O.eB (.lit q) dH (.lit q))<|ai (O.aC (.lit q)) ?_
    rcases cB aa with ⟨ee,aa⟩ | ⟨ee,aa⟩
    ·refine aW ee (O.aC (.lit q))<|aW ee (O.aC (.aF q))<|aW ee (O.aC (.lit q)) ?_
     obtain ⟨bz,gw,aa⟩:=ax aa
     obtain rfl:=au aa
     exact aq.aV
    ·obtain rfl:=au aa
     exact aq.aV
   ·obtain rfl:=au aa
    exact aq.aV
  refine W.bu h q (λdi h=>?_) (λdi h=>?_)
  ·refine W.bF<|ah.aU ?_
   refine W.aX<|W.bf ?_
   obtain ⟨bM,iF,h⟩:=ax h
   obtain ⟨bD,gQ,h⟩:=ax h
   refine W.aT [0,1,2,7,38] ?_
   refine W.bu h q (λdz h=>?_) (λdz h=>?_)
   ·obtain ⟨eb,jX,h⟩:=ax h
    obtain ⟨dU,jP,h⟩:=ax h
    refine W.aT [6] ?_
    refine W.rt ?_
    refine ah.d_ ?_
    refine ah.c5 ?_
    obtain rfl:=au h
    exact ah.gx (.n q .nil)
   ·refine W.bF<|ah.bf ?_
    refine ah.aU<|W.bk [0,1,2,7] (bp q<|ai (O.add (.lit q) (.k q))<|aq.bk [0,1,2,27] q<|aq.aV) ?_
    obtain rfl:=au h
    exact ah.go (dM q q q q)
  ·refine W.c9 ?_
   refine ah.c7 ?_
   obtain rfl:=au h
   exact ah.x2 .nil
 ·subst J
  refine ah.c' ?_
  refine ah.aU<|W.aT [6] ?_
  refine W.rt ?_
  obtain rfl:=au h
  exact cw (.f q q .nil)
 ·subst J
  refine ah.d_ ?_
  refine ah.c5 ?_
  obtain rfl:=au h
  exact cw (.f q q .nil)
theorem JA (a0:Cell) (r:Int) (h:yh a0=some r):b_ Try.prog 66 [.agg (fc.cells a0)] [none] (j r):=by
 unfold yh at h
 refine b_.go (N:=⟨17,[]⟩) Try.func66 q q q q (W.fin ?_)
 refine W.st [(0,.agg (fc.cells a0))] ?_
 refine W.bV [1] (ai (O.box (.b2 q q) q)<|aq.aV) ?_
 refine W.aT [1,3] ?_
 refine W.aX<|W.aT [1,3,9] ?_
 obtain ⟨jk,aa,h⟩:=ax h
 refine W.bs [(1,.obj (fc.cells a0)),(3,j jk)] ?_ ?_
 ·clear h; have h:=aa; clear aa
  refine W.bu h q (λcP h=>?_) (λcP h=>?_)
  ·refine W.bk [1,3] (bp q<|ai (O.add (.lit q) (.k q))<|aq.bk [1,11] q<|aq.aV) ?_
   obtain rfl:=au h
   exact ah.bs (fC q q)
  ·refine W.bF ?_
   obtain rfl:=au h
   exact ah.bs (fC q q)
 refine ah.aU<|W.aX ?_
 refine W.aT [3,13] ?_
 obtain ⟨dK,aa,h⟩:=ax h
 refine W.bs [(3,j dK)] ?_ ?_
 ·clear h; have h:=aa; clear aa
  refine W.bu h q (λc0 h=>?_) (λc0 h=>?_)
  ·refine W.bk [3] (bp q<|ai (O.add (.lit q) (.k q))<|aq.bk [15] q<|aq.aV) ?_
   obtain rfl:=au h
   exact ah.bs (.n q .nil)
  ·refine W.bF ?_
   obtain rfl:=au h
   exact ah.bs (.n q .nil)
 refine ah.aU<|W.aT [2] ?_
 refine W.rt ?_
 obtain rfl:=au h
 exact cw (.f q q .nil)
theorem Pb (a0:b') (aw:(List State)) (a2:(List j8)) (r:(List Cell)) (h:A7 a0 aw a2=some r):b_ Try.prog 53 [.agg (ck.cells a0),ag cR aw,ag hW a2] [none,none,none] (ag fc r):=by
 unfold A7 at h
 refine b_.go (N:=⟨108,[]⟩) Try.func53 q q q q (W.fin ?_)
 refine W.st [(0,.agg (ck.cells a0)),(1,ag cR aw),(2,ag hW a2)] ?_
 refine W.bV [1,2,3] (ai (O.box (.b2 q q) q)<|aq.aV) ?_
 refine W.aT [1,2,3,7] ?_
 refine W.aX<|W.aT [1,2,3,7,8] ?_
 refine W.bf ?_
 obtain ⟨x2,ao,h⟩:=ax h
 refine W.ca (G1:=[(1,_),(2,_),(3,_),(7,ak fc ([]:List Cell)),(8,_)]) (.n q (.n q (.n q (.w q q .lb (.n q .nil))))) ?_
 refine W.eg (s:=(([]:List Cell),0)) (λ(s1:List Cell × Int)=>[(1,ag cR aw),(2,ag hW a2),(3,.obj (ck.cells a0)),(7,ak fc s1.1),(8,j s1.2)]) 0 (λ(x2:List Cell)=>[(7,ak fc x2)]) ao (λs1 o h=>?_) ?_
 ·clear ao
  refine W.aX<|W.aT [1,2,3,7,8,17] ?_
  refine W.bu h q (λc0 h=>?_) (λc0 h=>?_)
  ·refine W.bF<|ah.aU ?_
   refine W.aX<|W.bf ?_
   refine W.aT [1,2,3,7,8,9] ?_
   refine W.bf ?_
   obtain ⟨bP,ao,h⟩:=ax h
   refine W.ca (G1:=[(1,_),(2,_),(3,_),(7,_),(8,_),(9,_)]) (fw q q q q q q) ?_
   refine W.eg (s:=(s1.1,0)) (λ(cA:List Cell × Int)=>[(1,ag cR aw),(2,ag hW a2),(3,.obj (ck.cells a0)),(7,ak fc cA.1),(8,j s1.2),(9,j cA.2)]) 2 (λ(bP:List Cell)=>[(1,ag cR aw),(2,ag hW a2),(3,.obj (ck.cells a0)),(7,ak fc bP),(8,j s1.2)]) ao (λcA o h=>?_) ?_
   ·clear ao
    refine W.aX<|W.aT [1,2,3,7,8,9,24] ?_
    refine W.bu h q (λc3 h=>?_) (λc3 h=>?_)
    ·refine W.bF<|ah.aU ?_
     refine W.aX ?_
     obtain ⟨pt,aa,h⟩:=ax h
     refine W.bs [(1,ag cR aw),(2,ag hW a2),(3,.obj (ck.cells a0)),(7,ak fc pt),(8,j s1.2),(9,j cA.2)] ?_ ?_
     ·clear h; have h:=aa; clear aa
      refine W.bf ?_
      obtain ⟨bM,iF,h⟩:=ax h
      refine W.bV [1,2,3,7,8,9,10] (bp q<|bp q<|ai (O.aC (.aF q))<|bp q<|bp q<|eE (cr.go (.bT (.aF q) (.bT (.lit q) (.bT (.lit q) .nil))) (y9 aw s1.2 cA.2 _ iF) call59 q)<|ai (O.dE (cs:=[j s1.2,j cA.2,j bM,a1 false,.aI]) Ut Na q q q)<|ai (O.fq (cs:=[j 0,j 0,j 0,a1 false,.aI]) Na q q)<|aq.dx (G2:=[(1,_),(2,_),(3,_),(7,_),(8,_),(9,_),(10,_)]) (cs2:=[j s1.2,j cA.2,j bM,a1 false,.aI]) q (.obj q) (.b2 q q) q UQ q q q q (.n q q (.n q q (.n q q (.n q q (.n q q (.n q q (.b q .nil)))))))<|bK q) ?_
      refine W.aX<|W.aT [1,2,3,7,8,9,10,11] ?_
      refine W.bf ?_
      obtain ⟨dh,ao,h⟩:=ax h
      refine W.ca (G1:=[(1,_),(2,_),(3,_),(7,_),(8,_),(9,_),(10,_),(11,_)]) (jR q q q q q q q q) ?_
      refine W.eg (s:=(false,0)) (λ(kh:Bool × Int)=>[(1,ag cR aw),(2,ag hW a2),(3,.obj (ck.cells a0)),(7,ak fc cA.1),(8,j s1.2),(9,j cA.2),(10,.obj [j s1.2,j cA.2,j bM,a1 kh.1,.aI]),(11,j kh.2)]) 4 (λ(dh:Bool)=>[(1,ag cR aw),(2,ag hW a2),(3,.obj (ck.cells a0)),(7,ak fc cA.1),(8,j s1.2),(9,j cA.2),(10,.obj [j s1.2,j cA.2,j bM,a1 dh,.aI])]) ao (λkh o h=>?_) ?_
      ·clear ao
       refine W.aX ?_
       obtain ⟨dU,jP,h⟩:=ax h
       refine W.aT [1,2,3,7,8,9,10,11,41] ?_
       refine W.bu h q (λpg h=>?_) (λpg h=>?_)
       ·refine W.bF<|ah.aU ?_
        refine W.aX<|W.bf ?_
        obtain ⟨cj,jY,h⟩:=ax h
        obtain ⟨bZ,gS,h⟩:=ax h
        refine W.bV [1,2,3,7,8,9,10,11,12] (ai (O.aC (.aF q))<|bp q<|ai (O.cC (.aF q) (.lit q) mO jY)<|ai (O.ez (.bo q) u9)<|ai (O.dd (x:=ag dB cj.Kernel) (.bo q) u5 q)<|bp q<|ai (O.cC (.aF q) (.lit q) ki gS)<|ai (O.iq (cs':=[j bZ.Prod,j bZ.dY]) (.bo q) pV q q)<|ai (O.fq (cs:=[j 0,j 0]) D4 q q)<|aq.dx (G2:=[(1,_),(2,_),(3,_),(7,_),(8,_),(9,_),(10,_),(11,_),(12,_)]) (cs2:=[j bZ.Prod,j bZ.dY]) q (.obj q) (.b2 q q) q UJ q q q q (.n q q (.n q q (.n q q (.n q q (.n q q (.n q q (.n q q (.n q q (.b q .nil)))))))))<|bK q) ?_
        obtain ⟨sn,aa,h⟩:=ax h
        refine W.rx [(1,ag cR aw),(2,ag hW a2),(3,.obj (ck.cells a0)),(7,ak fc cA.1),(8,j s1.2),(9,j cA.2),(10,.obj [j s1.2,j cA.2,j bM,a1 sn,.aI]),(11,j kh.2)] ?_ ?_
        ·refine ai (O.a_ q (.obj q) u' q)<|ai (O.cq q (.ptr q) mW q)<|ai (O.aC (.lit q)) ?_
         rcases cB aa with ⟨ht,aa⟩ | ⟨ht,aa⟩
         ·obtain rfl:=au aa
          exact cF ht<|cF ht<|cF ht<|hh<|hh<|hh<|cF ht<|cF ht<|hh<|hh<|hh<|cF ht<|ai (O.eB (.lit q) ht (.k q))<|ai (O.a_ q (.obj q) u' q)<|aq.dx (G2:=[(1,_),(2,_),(3,_),(7,_),(8,_),(9,_),(10,_),(11,_)]) (cs2:=[j s1.2,j cA.2,j bM,a1 true,.aI]) q (.ptr q) (.lit q) q uH q q q q (.n q q (.n q q (.n q q (.n q q (.n q q (.n q q (.b q (.n q q .nil))))))))<|aq.aV
         ·refine aW ht (O.aC (.lit q))<|aW ht (O.eql (.lit q) (.k q))<|aW ht (O.aC (.lit q)) ?_
          rcases cB aa with ⟨kJ,aa⟩ | ⟨kJ,aa⟩
          ·refine aW kJ (O.a_ q (.obj q) nA q)<|aW kJ (O.cq q (.ptr q) ct q)<|aW kJ (O.eql (.lit q) (.k q))<|aW ht (O.eB (.lit q) kJ (.lit q))<|aW ht (O.aC (.lit q)) ?_
           rcases cB aa with ⟨ka,aa⟩ | ⟨ka,aa⟩
           ·obtain rfl:=au aa
            exact aW ka (O.a_ q (.obj q) rN q)<|aW ka (O.cq q (.ptr q) ct q)<|aW ka (O.eql (.lit q) (.k q))<|aW ht (O.eB (.lit q) ka (.lit q))<|ai (O.dL (.lit q) ht (.lit q))<|ai (O.a_ q (.obj q) u' q)<|aq.dx (G2:=[(1,_),(2,_),(3,_),(7,_),(8,_),(9,_),(10,_),(11,_)]) (cs2:=[j s1.2,j cA.2,j bM,a1 (decide (bZ.dY=1)),.aI]) q (.ptr q) (.lit q) q uH q q q q (.n q q (.n q q (.n q q (.n q q (.n q q (.n q q (.b q (.n q q .nil))))))))<|aq.aV
           ·obtain rfl:=au aa
            exact cF ka<|cF ka<|cF ka<|aW ht (O.dL (.lit q) ka (.k q))<|ai (O.dL (.lit q) ht (.lit q))<|ai (O.a_ q (.obj q) u' q)<|aq.dx (G2:=[(1,_),(2,_),(3,_),(7,_),(8,_),(9,_),(10,_),(11,_)]) (cs2:=[j s1.2,j cA.2,j bM,a1 false,.aI]) q (.ptr q) (.lit q) q uH q q q q (.n q q (.n q q (.n q q (.n q q (.n q q (.n q q (.b q (.n q q .nil))))))))<|aq.aV
          ·obtain rfl:=au aa
           exact cF kJ<|cF kJ<|cF kJ<|aW ht (O.dL (.lit q) kJ (.k q))<|aW ht (O.aC (.lit q))<|cF q<|cF q<|cF q<|aW ht (O.dL (.lit q) q (.k q))<|ai (O.dL (.lit q) ht (.lit q))<|ai (O.a_ q (.obj q) u' q)<|aq.dx (G2:=[(1,_),(2,_),(3,_),(7,_),(8,_),(9,_),(10,_),(11,_)]) (cs2:=[j s1.2,j cA.2,j bM,a1 false,.aI]) q (.ptr q) (.lit q) q uH q q q q (.n q q (.n q q (.n q q (.n q q (.n q q (.n q q (.b q (.n q q .nil))))))))<|aq.aV
        refine ah.bf ?_
        refine ah.aU<|W.bk [1,2,3,7,8,9,10,11] (bp q<|ai (O.add (.lit q) (.k q))<|aq.bk [1,2,3,7,8,9,10,43] q<|aq.aV) ?_
        obtain rfl:=au h
        exact ah.go (jR q q q q q q q q)
       ·refine W.c9 ?_
        refine ah.c7 ?_
        obtain rfl:=au h
        exact ah.aD (g_ q q q q q q q)
      refine ah.c' ?_
      refine ah.aU<|W.aX ?_
      refine W.aT [1,2,3,7,8,9,10,13] ?_
      refine W.bf ?_
      obtain ⟨e2,ao,h⟩:=ax h
      refine W.ca (G1:=[(1,_),(2,_),(3,_),(7,_),(8,_),(9,_),(10,.obj [j s1.2,j cA.2,j bM,a1 dh,ag aG ([]:List Int)]),(13,_)]) (.n q (.n q (.n q (.n q (.n q (.n q (.w q q (jg.obj (.f (.f (.f (.f (.i .nil)))))) (.n q .nil)))))))) ?_
      refine W.eg (s:=(([]:List Int),0)) (λ(fS:List Int × Int)=>[(1,ag cR aw),(2,ag hW a2),(3,.obj (ck.cells a0)),(7,ak fc cA.1),(8,j s1.2),(9,j cA.2),(10,.obj [j s1.2,j cA.2,j bM,a1 dh,ag aG fS.1]),(13,j fS.2)]) 6 (λ(e2:List Int)=>[(1,ag cR aw),(2,ag hW a2),(3,.obj (ck.cells a0)),(7,ak fc cA.1),(8,j s1.2),(9,j cA.2),(10,.obj [j s1.2,j cA.2,j bM,a1 dh,ag aG e2])]) ao (λfS o h=>?_) ?_
      ·clear ao
       refine W.aX<|W.aT [1,2,3,7,8,9,10,13,72] ?_
       refine W.bu h q (λvj h=>?_) (λvj h=>?_)
       ·refine W.bF<|ah.aU ?_
        refine W.aX ?_
        obtain ⟨eu,aa,h⟩:=ax h
        refine W.bs [(1,ag cR aw),(2,ag hW a2),(3,.obj (ck.cells a0)),(7,ak fc cA.1),(8,j s1.2),(9,j cA.2),(10,.obj [j s1.2,j cA.2,j bM,a1 dh,ag aG eu]),(13,j fS.2)] ?_ ?_
        ·clear h; have h:=aa; clear aa
         refine W.bf ?_
         obtain ⟨u0,aa,h⟩:=ax h
         refine W.rs [(1,ag cR aw),(2,ag hW a2),(3,.obj (ck.cells a0)),(7,ak fc cA.1),(8,j s1.2),(9,j cA.2),(10,.obj [j s1.2,j cA.2,j bM,a1 dh,ag aG fS.1]),(13,j fS.2),(90,a1 u0)] ?_ ?_
         ·refine ai (O.aC (.aF q))<|ai (O.aC (.lit q)) ?_
          obtain ⟨fE,l6,aa⟩:=ax aa
          refine ai (O.cC (.aF q) (.lit q) Bs l6)<|ai (O.ez (.bo q) JW)<|ai (O.dd (x:=j fE.State) (.bo q) ct q)<|bp q<|ai (O.eql (.lit q) (.lit q))<|ai (O.aC (.lit q)) ?_
          rcases cB aa with ⟨i',aa⟩ | ⟨i',aa⟩
          ·refine aW i' (O.aC (.aF q))<|aW i' (O.aC (.lit q)) ?_
           obtain ⟨e3,l7,aa⟩:=ax aa
           refine aW i' (O.cC (.aF q) (.lit q) Bs l7)<|aW i' (O.ez (.bo q) Cy)<|aW i' (O.dd (x:=ag aG e3.ba) (.bo q) hC q)<|aW i' (O.aC (.lit q)) ?_
           obtain ⟨iK,po,aa⟩:=ax aa
           obtain rfl:=au aa
           exact aq.c (cr.go (.bT (.aF q) (.bT (.lit q) .nil)) (JB e3.ba cA.2 _ po) call70 q) q q (.hf q q i')<|aq.aV
          ·obtain rfl:=au aa
           exact aq.aV
         obtain ⟨oO,aa,h⟩:=ax h
         refine W.bs [(1,ag cR aw),(2,ag hW a2),(3,.obj (ck.cells a0)),(7,ak fc cA.1),(8,j s1.2),(9,j cA.2),(10,.obj [j s1.2,j cA.2,j bM,a1 dh,ag aG oO]),(13,j fS.2)] ?_ ?_
         ·clear h; have h:=aa; clear aa
          refine W.bu h q (λkK h=>?_) (λkK h=>?_)
          ·obtain ⟨gI,n4,h⟩:=ax h
           obtain ⟨fT,Al,h⟩:=ax h
           refine W.rd [[],[0],[],[],[2,3],[2,3,4],[2,3,4,5],aN 0 7 [],aN 0 8 [],aN 0 9 []] [(1,_),(2,_),(3,_),(7,_),(8,_),(9,_),(10,_),(13,_)] ei (by kernel_rfl) (av 0 (O.a_ q (.obj q) zu q)<|av 1 (O.cU (y:=ag aG fS.1) q (.ptr q) hC q q)<|av 2 (O.aC (.aF q))<|av 3 (O.aC (.lit q))<|av 4 (O.cC (.aF q) (.lit q) Bs n4)<|av 5 (O.ez (.bo q) JX)<|av 6 (O.dd (x:=j gI.Prod) (.bo q) ct q)<|gR 7 (cr.go (.bT (.aF q) (.bT (.lit q) .nil)) (tB fS.1 gI.Prod _ Al) call67 q)<|av 8 (O.a_ q (.obj q) zu q)<|bC.dx 9 (G2:=[(1,ag cR aw),(2,ag hW a2),(3,.obj (ck.cells a0)),(7,ak fc cA.1),(8,j s1.2),(9,j cA.2),(10,.obj [j s1.2,j cA.2,j bM,a1 dh,ag aG fT]),(13,j fS.2)]) (cs2:=[j s1.2,j cA.2,j bM,a1 dh,ag aG fT]) q (by kernel_rfl) (by kernel_rfl) q q q (.ptr q) (.aF q) q wy q q q q (.n q q (.n q q (.n q q (.n q q (.n q q (.n q q (.b q (.n q q .nil))))))))<|bC.fin q q q (jR q q q q q q q q)) ?_
           obtain rfl:=au h
           exact ah.bs (jR q q q q q q q q)
          ·refine W.bF ?_
           obtain rfl:=au h
           exact ah.bs (jR q q q q q q q q)
         refine ah.bf ?_
         obtain rfl:=au h
         exact ah.bs (jR q q q q q q q q)
        refine ah.aU<|W.bk [1,2,3,7,8,9,10,13] (bp q<|ai (O.add (.lit q) (.k q))<|aq.bk [1,2,3,7,8,9,10,74] q<|aq.aV) ?_
        obtain rfl:=au h
        exact ah.go (jR q q q q q q q q)
       ·refine W.c9 ?_
        refine ah.c7 ?_
        obtain rfl:=au h
        exact ah.aD (g_ q q q q q q q)
      refine ah.c' ?_
      refine ah.aU ?_
      obtain ⟨jS,sZ,h⟩:=ax h
      refine W.bV [1,2,3,7,8,9,10,102] (ai (O.dR (cs':=[j s1.2,j cA.2,j bM,a1 dh,ag aG e2]) q (.obj q) Ca q q)<|eE (cr.go (.bT (.b2 q q) .nil) (JA (⟨s1.2,cA.2,bM,dh,e2⟩:Cell) _ sZ) call66 q)<|aq.aV) ?_
      obtain ⟨GU,aa,h⟩:=ax h
      refine W.bs [(1,ag cR aw),(2,ag hW a2),(3,.obj (ck.cells a0)),(7,ak fc GU),(8,j s1.2),(9,j cA.2)] ?_ ?_
      ·clear h; have h:=aa; clear aa
       refine W.bu h q (λqW h=>?_) (λqW h=>?_)
       ·obtain ⟨iT,ui,h⟩:=ax h
        refine W.bk [1,2,3,7,8,9] (ai (O.aC (.own q))<|ai (O.dR (cs':=[j s1.2,j cA.2,j bM,a1 dh,ag aG e2]) q (.obj q) Ca q q)<|aq.eY (x:=ag fc [(⟨s1.2,cA.2,bM,dh,e2⟩:Cell)]) (O.dg (ys:=[.agg [j s1.2,j cA.2,j bM,a1 dh,ag aG e2]]) fc [(⟨s1.2,cA.2,bM,dh,e2⟩:Cell)] Bw q q q q q q Vu q q) q q .none<|ai (O.ap (en:=fc) (r:=iT) (.bl q) q (.aF q) .i NZ q ui)<|aq.fN (G2:=[(1,ag cR aw),(2,ag hW a2),(3,.obj (ck.cells a0)),(8,j s1.2),(9,j cA.2)]) q (b9.lp q q (.bR q) q q q (.n q q (.n q q (.n q q (.n q q (.n q q .nil))))) q q)<|bK q) ?_
        obtain rfl:=au h
        exact ah.bs (fw q q q q q q)
       ·refine W.bF ?_
        obtain rfl:=au h
        exact ah.bs (fw q q q q q q)
      refine ah.bf ?_
      obtain rfl:=au h
      exact ah.bs (fw q q q q q q)
     refine ah.aU<|W.bk [1,2,3,7,8,9] (bp q<|ai (O.add (.lit q) (.k q))<|aq.bk [1,2,3,7,8,26] q<|aq.aV) ?_
     obtain rfl:=au h
     exact ah.go (fw q q q q q q)
    ·refine W.c9 ?_
     refine ah.c7 ?_
     obtain rfl:=au h
     exact ah.aD (dX q q q q q)
   refine ah.c' ?_
   refine ah.bf ?_
   refine ah.aU<|W.bk [1,2,3,7,8] (bp q<|ai (O.add (.lit q) (.k q))<|aq.bk [1,2,3,7,19] q<|aq.aV) ?_
   obtain rfl:=au h
   exact ah.go (dX q q q q q)
  ·refine W.c9 ?_
   refine ah.c7 ?_
   obtain rfl:=au h
   exact ah.aD (.n q .nil)
 refine ah.c' ?_
 refine ah.aU<|W.bV [6] (ai (O.aC (.own q))<|aq.fN (G2:=[]) q (b9.ik q q (.bl q) q .nil q q)<|bK q) ?_
 refine W.eF (G1:=[(6,ag fc x2)]) [6] (.z q q .ha .nil) ?_
 refine W.rt ?_
 obtain rfl:=au h
 exact cw (.f q q .nil)
theorem JC (a0:(List (List Int))) (aw:(List (List Int))) (r:(List (List Int))) (h:yj a0 aw=some r):b_ Try.prog 84 [ak (bb aG) a0,ag (bb aG) aw] [none,none] (ak (bb aG) r):=by
 unfold yj at h
 refine b_.go (N:=⟨74,[]⟩) Try.func84 q q q q (W.fin ?_)
 refine W.st [(0,ak (bb aG) a0),(1,ag (bb aG) aw)] ?_
 refine W.aT [0,1] ?_
 refine W.aX<|W.aT [0,1,5] ?_
 refine W.bf ?_
 obtain ⟨x2,ao,h⟩:=ax h
 refine W.ca (G1:=[(0,_),(1,_),(5,_)]) (dt q q q) ?_
 refine W.eg (s:=(a0,true)) (λ(s1:List (List Int) × Bool)=>[(0,ak (bb aG) s1.1),(1,ag (bb aG) aw),(5,a1 s1.2)]) 0 (λ(x2:List (List Int))=>[(0,ak (bb aG) x2)]) ao (λs1 o h=>?_) ?_
 ·clear ao
  refine W.aX<|W.aT [0,1,11] ?_
  refine W.bu h q (λc0 h=>?_) (λc0 h=>?_)
  ·refine W.bF<|ah.aU ?_
   refine W.bf<|W.aT [0,1,5] ?_
   refine W.aT [0,1,5,6] ?_
   refine W.bf ?_
   obtain ⟨bP,ao,h⟩:=ax h
   refine W.ca (G1:=[(0,_),(1,_),(5,_),(6,_)]) (dM q q q q) ?_
   refine W.eg (s:=(s1.1,false,0)) (λ(cA:List (List Int) × Bool × Int)=>[(0,ak (bb aG) cA.1),(1,ag (bb aG) aw),(5,a1 cA.2.1),(6,j cA.2.2)]) 2 (λ(bP:List (List Int) × Bool)=>[(0,ak (bb aG) bP.1),(1,ag (bb aG) aw),(5,a1 bP.2)]) ao (λcA o h=>?_) ?_
   ·clear ao
    refine W.aX<|W.aT [0,1,5,6,15] ?_
    refine W.bu h q (λc3 h=>?_) (λc3 h=>?_)
    ·refine W.bF<|ah.aU ?_
     refine W.aX<|W.bf ?_
     obtain ⟨cv,jx,h⟩:=ax h
     refine W.aT [0,1,5,6,7] ?_
     obtain ⟨bM,iF,h⟩:=ax h
     refine W.bV [0,1,5,6,7,8] (ai (O.aC (.own q))<|bp q<|ai (O.gY (en:=(bb aG)) q (.bl q) (.lit q) kQ iF q)<|ai (O.jz (en:=(bb aG)) (x':=ag aG bM) q (.ptr q) hC iF q q)<|aq.aV) ?_
     refine W.aX<|W.aT [0,1,5,6,7,8,9] ?_
     refine W.bf ?_
     obtain ⟨dh,ao,h⟩:=ax h
     refine W.ca (G1:=[(0,_),(1,_),(5,_),(6,_),(7,_),(8,_),(9,_)]) (g_ q q q q q q q) ?_
     refine W.eg (s:=(cA.1,0)) (λ(kh:List (List Int) × Int)=>[(0,ak (bb aG) kh.1),(1,ag (bb aG) aw),(5,a1 cA.2.1),(6,j cA.2.2),(7,ag aG cv),(8,j (bM.length:Int)),(9,j kh.2)]) 4 (λ(dh:List (List Int))=>[(0,ak (bb aG) dh),(1,ag (bb aG) aw),(5,a1 cA.2.1),(6,j cA.2.2),(8,j (bM.length:Int))]) ao (λkh o h=>?_) ?_
     ·clear ao
      refine W.aX<|W.aT [0,1,5,6,7,8,9,30] ?_
      refine W.bu h q (λeD h=>?_) (λeD h=>?_)
      ·refine W.bF<|ah.aU ?_
       refine W.aX<|W.bf ?_
       refine W.aT [0,1,5,6,7,8,9,10] ?_
       refine W.bf ?_
       obtain ⟨cj,ao,h⟩:=ax h
       refine W.ca (G1:=[(0,_),(1,_),(5,_),(6,_),(7,_),(8,_),(9,_),(10,_)]) (jR q q q q q q q q) ?_
       refine W.eg (s:=(kh.1,0)) (λ(jd:List (List Int) × Int)=>[(0,ak (bb aG) jd.1),(1,ag (bb aG) aw),(5,a1 cA.2.1),(6,j cA.2.2),(7,ag aG cv),(8,j (bM.length:Int)),(9,j kh.2),(10,j jd.2)]) 6 (λ(cj:List (List Int))=>[(0,ak (bb aG) cj),(1,ag (bb aG) aw),(5,a1 cA.2.1),(6,j cA.2.2),(7,ag aG cv),(8,j (bM.length:Int)),(9,j kh.2)]) ao (λjd o h=>?_) ?_
       ·clear ao
        refine W.aX ?_
        obtain ⟨dS,iG,h⟩:=ax h
        obtain ⟨fp,l5,h⟩:=ax h
        refine W.bV [0,1,5,6,7,8,9,10,42] (bp q<|ai (O.aC (.own q))<|ai (O.aC (.aF q))<|bp q<|ai (O.cC (.aF q) (.lit q) eS iG)<|ai (O.dd (x:=j dS) (.bo q) ct q)<|ai (O.gY (en:=(bb aG)) q (.bl q) (.lit q) kQ l5 q)<|ai (O.jz (en:=(bb aG)) (x':=ag aG fp) q (.ptr q) hC l5 q q)<|aq.aV) ?_
        refine W.bu h q (λka h=>?_) (λka h=>?_)
        ·refine W.bF<|ah.aU ?_
         refine W.aX<|W.bf ?_
         obtain ⟨dk,nF,h⟩:=ax h
         obtain ⟨fx,nG,h⟩:=ax h
         obtain ⟨e2,nf,h⟩:=ax h
         obtain ⟨gg,lO,h⟩:=ax h
         obtain ⟨e6,k',h⟩:=ax h
         refine W.rd [[],[],[],[],[2,3],[2,3,4],[],[],[],[7,8],[7,8,9],aN 6 5 [],aN 6 6 [],[],aN 6 8 [],aN 6 9 [],aN 2 14 [],aN 0 17 [],aN 0 18 []] [(0,_),(1,_),(5,_),(6,_),(7,_),(8,_),(9,_),(10,_)] ei (by kernel_rfl) (av 0 (O.aC (.own q))<|av 1 (O.aC (.lit q))<|av 2 (O.aC (.own q))<|av 3 (O.aC (.lit q))<|av 4 (O.gY (en:=(bb aG)) q (.bl q) (.lit q) kQ nF q)<|av 5 (O.jz (en:=(bb aG)) (x':=ag aG dk) q (.ptr q) hC nF q q)<|av 6 (O.aC (.own q))<|av 7 (O.aC (.aF q))<|av 8 (O.aC (.lit q))<|av 9 (O.cC (.aF q) (.lit q) eS nG)<|av 10 (O.dd (x:=j fx) (.bo q) ct q)<|av 11 (O.gY (en:=(bb aG)) q (.bl q) (.lit q) kQ nf q)<|av 12 (O.jz (en:=(bb aG)) (x':=ag aG e2) q (.ptr q) hC nf q q)<|av 13 (O.aC (.lit q))<|av 14 (O.cC (.aF q) (.lit q) eS lO)<|av 15 (O.dd (x:=j gg) (.bo q) ct q)<|gR 16 (cr.go (.bT (.aF q) (.bT (.lit q) .nil)) (tB dk gg _ k') call67 q)<|av 17 (O.gY (en:=(bb aG)) q (.bl q) (.lit q) kQ nF q)<|bC.iZ 18 (G2:=[(0,ak (bb aG) (jd.1.set cA.2.2.toNat e6)),(1,ag (bb aG) aw),(5,a1 cA.2.1),(6,j cA.2.2),(7,ag aG cv),(8,j (bM.length:Int)),(9,j kh.2),(10,j jd.2)]) (b9.pI (en:=(bb aG)) (y2:=e6) (cs':=[ag aG e6]) (x2:=ak (bb aG) (jd.1.set cA.2.2.toNat e6)) q q (.ptr q) (.aF q) q nF wy q q q q q q q (.b q (.n q q (.n q q (.n q q (.n q q (.n q q (.n q q (.n q q .nil))))))))) q q q q (by kernel_rfl) (by kernel_rfl)<|bC.fin q q q (jR q q q q q q q q)) ?_
         refine ah.bf ?_
         refine ah.aU<|W.bk [0,1,5,6,7,8,9,10] (bp q<|ai (O.add (.lit q) (.k q))<|aq.bk [0,1,5,6,7,8,9,44] q<|aq.aV) ?_
         obtain rfl:=au h
         exact ah.go (jR q q q q q q q q)
        ·refine W.c9 ?_
         refine ah.c7 ?_
         obtain rfl:=au h
         exact ah.aD (g_ q q q q q q q)
       refine ah.c' ?_
       refine ah.bf ?_
       refine ah.aU<|W.bk [0,1,5,6,7,8,9] (bp q<|ai (O.add (.lit q) (.k q))<|aq.bk [0,1,5,6,7,8,32] q<|aq.aV) ?_
       obtain rfl:=au h
       exact ah.go (g_ q q q q q q q)
      ·refine W.c9 ?_
       refine ah.c7 ?_
       obtain rfl:=au h
       exact ah.aD (dX q q q q q)
     refine ah.c' ?_
     refine ah.aU ?_
     obtain ⟨tA,aa,h⟩:=ax h
     refine W.rx [(0,ak (bb aG) dh),(1,ag (bb aG) aw),(5,a1 tA),(6,j cA.2.2)] ?_ ?_
     ·refine bp q<|ai (O.aC (.lit q)) ?_
      rcases cB aa with ⟨gV,aa⟩ | ⟨gV,aa⟩
      ·obtain rfl:=au aa
       exact cF gV<|cF gV<|cF gV<|cF gV<|cF gV<|cF gV<|cF gV<|ai (O.eB (.lit q) gV (.k q))<|aq.bk [0,1,6,72] q<|aq.aV
      ·refine aW gV (O.aC (.own q))<|aW gV (O.aC (.lit q)) ?_
       obtain ⟨fE,l6,aa⟩:=ax aa
       obtain rfl:=au aa
       exact aW gV (O.gY (en:=(bb aG)) q (.bl q) (.lit q) kQ l6 q)<|aW gV (O.jz (en:=(bb aG)) (x':=ag aG fE) q (.ptr q) hC l6 q q)<|aW gV (O.hc (.aF q) eS)<|aW gV (O.aC (.lit q))<|aW gV (O.neq (.lit q) (.lit q))<|ai (O.dL (.lit q) gV (.lit q))<|aq.bk [0,1,6,72] q<|aq.aV
     refine ah.bf ?_
     refine ah.aU<|W.bk [0,1,5,6] (bp q<|ai (O.add (.lit q) (.k q))<|aq.bk [0,1,5,17] q<|aq.aV) ?_
     obtain rfl:=au h
     exact ah.go (dM q q q q)
    ·refine W.c9 ?_
     refine ah.c7 ?_
     obtain rfl:=au h
     exact ah.aD (dt q q q)
   refine ah.c' ?_
   refine ah.bf ?_
   obtain rfl:=au h
   exact ah.go (dt q q q)
  ·refine W.c9 ?_
   refine ah.c7 ?_
   obtain rfl:=au h
   exact ah.aD (.n q .nil)
 refine ah.c' ?_
 refine ah.aU<|W.bV [4] (ai (O.aC (.own q))<|aq.fN (G2:=[]) q (b9.ik q q (.bl q) q .nil q q)<|bK q) ?_
 refine W.rt ?_
 obtain rfl:=au h
 exact cw (.o q .nil)
theorem Cq (a0:(List State)) (r:(List Trans)) (h:pC a0=some r):b_ Try.prog 88 [ag cR a0] [none] (ag fW r):=by
 unfold pC at h
 refine b_.go (N:=⟨47,[]⟩) Try.func88 q q q q (W.fin ?_)
 refine W.st [(0,ag cR a0)] ?_
 refine W.aT [0] ?_
 refine W.aT [0,3] ?_
 refine W.aX<|W.aT [0,3,4] ?_
 refine W.bf ?_
 obtain ⟨x2,ao,h⟩:=ax h
 refine W.ca (G1:=[(0,_),(3,ak fW ([]:List Trans)),(4,_)]) (.n q (.w q q .lb (.n q .nil))) ?_
 refine W.eg (s:=(([]:List Trans),0)) (λ(s1:List Trans × Int)=>[(0,ag cR a0),(3,ak fW s1.1),(4,j s1.2)]) 0 (λ(x2:List Trans)=>[(3,ak fW x2)]) ao (λs1 o h=>?_) ?_
 ·clear ao
  refine W.aX<|W.aT [0,3,4,9] ?_
  refine W.bu h q (λc0 h=>?_) (λc0 h=>?_)
  ·refine W.bF<|ah.aU ?_
   refine W.aX<|W.bf ?_
   refine W.aT [0,3,4,5] ?_
   refine W.bf ?_
   obtain ⟨bP,ao,h⟩:=ax h
   refine W.ca (G1:=[(0,_),(3,_),(4,_),(5,_)]) (dM q q q q) ?_
   refine W.eg (s:=(s1.1,0)) (λ(cA:List Trans × Int)=>[(0,ag cR a0),(3,ak fW cA.1),(4,j s1.2),(5,j cA.2)]) 2 (λ(bP:List Trans)=>[(0,ag cR a0),(3,ak fW bP),(4,j s1.2)]) ao (λcA o h=>?_) ?_
   ·clear ao
    refine W.aX ?_
    obtain ⟨b1,hK,h⟩:=ax h
    refine W.aT [0,3,4,5,19] ?_
    refine W.bu h q (λdi h=>?_) (λdi h=>?_)
    ·refine W.bF<|ah.aU ?_
     refine W.aX ?_
     obtain ⟨kd,aa,h⟩:=ax h
     refine W.bs [(0,ag cR a0),(3,ak fW kd),(4,j s1.2),(5,j cA.2)] ?_ ?_
     ·clear h; have h:=aa; clear aa
      refine W.bf ?_
      obtain ⟨bD,gQ,h⟩:=ax h
      obtain ⟨dh,kL,h⟩:=ax h
      refine W.aT [0,3,4,5,31] ?_
      obtain ⟨jQ,aa,h⟩:=ax h
      refine W.bs [(0,ag cR a0),(3,ak fW jQ),(4,j s1.2),(5,j cA.2)] ?_ ?_
      ·clear h; have h:=aa; clear aa
       refine W.bu h q (λeD h=>?_) (λeD h=>?_)
       ·obtain ⟨cH,hI,h⟩:=ax h
        obtain ⟨cj,jY,h⟩:=ax h
        obtain ⟨bZ,gS,h⟩:=ax h
        refine W.bk [0,3,4,5] (ai (O.aC (.own q))<|bp q<|ai (O.aC (.aF q))<|bp q<|ai (O.cC (.aF q) (.lit q) mO hI)<|ai (O.ez (.bo q) u_)<|ai (O.dd (x:=ag k4 cH.fb) (.bo q) za q)<|bp q<|ai (O.cC (.aF q) (.lit q) Bt jY)<|ai (O.ez (.bo q) EY)<|ai (O.dd (x:=j cj.Sym) (.bo q) ct q)<|ai (O.dE (cs:=[j s1.2,j cj.Sym]) Uq Vl q q q)<|aq.eY (x:=ag fW [(⟨s1.2,cj.Sym⟩:Trans)]) (O.dg (ys:=[.agg [j s1.2,j cj.Sym]]) fW [(⟨s1.2,cj.Sym⟩:Trans)] qs q q q q q q Vq q q) q q .none<|ai (O.ap (en:=fW) (r:=bZ) (.bl q) q (.aF q) .i NU q gS)<|aq.fN (G2:=[(0,ag cR a0),(4,j s1.2),(5,j cA.2)]) q (b9.lp q q (.bR q) q q q (.n q q (.n q q (.n q q .nil))) q q)<|bK q) ?_
        obtain rfl:=au h
        exact ah.bs (dM q q q q)
       ·refine W.bF ?_
        obtain rfl:=au h
        exact ah.bs (dM q q q q)
      refine ah.bf ?_
      obtain rfl:=au h
      exact ah.bs (dM q q q q)
     refine ah.aU<|W.bk [0,3,4,5] (bp q<|ai (O.add (.lit q) (.k q))<|aq.bk [0,3,4,21] q<|aq.aV) ?_
     obtain rfl:=au h
     exact ah.go (dM q q q q)
    ·refine W.c9 ?_
     refine ah.c7 ?_
     obtain rfl:=au h
     exact ah.aD (dt q q q)
   refine ah.c' ?_
   refine ah.bf ?_
   refine ah.aU<|W.bk [0,3,4] (bp q<|ai (O.add (.lit q) (.k q))<|aq.bk [0,3,11] q<|aq.aV) ?_
   obtain rfl:=au h
   exact ah.go (dt q q q)
  ·refine W.c9 ?_
   refine ah.c7 ?_
   obtain rfl:=au h
   exact ah.aD (.n q .nil)
 refine ah.c' ?_
 refine ah.aU<|W.bV [2] (ai (O.aC (.own q))<|aq.fN (G2:=[]) q (b9.ik q q (.bl q) q .nil q q)<|bK q) ?_
 refine W.eF (G1:=[(2,ag fW x2)]) [2] (.z q q .ha .nil) ?_
 refine W.rt ?_
 obtain rfl:=au h
 exact cw (.f q q .nil)
theorem OQ (a0:(List Item)) (r:Bool) (h:AO a0=some r):b_ Try.prog 104 [ag dB a0] [none] (a1 r):=by
 unfold AO at h
 refine b_.go (N:=⟨24,[]⟩) Try.func104 q q q q (W.fin ?_)
 refine W.st [(0,ag dB a0)] ?_
 refine W.aT [0] ?_
 refine W.aX<|W.aT [0,3] ?_
 refine W.bf ?_
 obtain ⟨x2,ao,h⟩:=ax h
 refine W.ca (G1:=[(0,_),(3,_)]) (fC q q) ?_
 refine W.jZ (s:=0) (λ(s1:Int)=>[(0,ag dB a0),(3,j s1)]) 0 (λ(a8:Unit)=>[]) (λ(b4:Bool)=>[(2,a1 b4)]) ao (λs1 o h=>?_) (λa8 J=>?_) (λb4 J=>?_)
 ·clear ao
  refine W.aX<|W.aT [0,3,7] ?_
  refine W.bu h q (λdH h=>?_) (λdH h=>?_)
  ·refine W.bF<|ah.aU ?_
   refine W.aX<|W.bf ?_
   obtain ⟨sr,aa,h⟩:=ax h
   refine W.rs [(0,ag dB a0),(3,j s1),(23,a1 sr)] ?_ ?_
   ·refine ai (O.aC (.aF q))<|ai (O.aC (.lit q)) ?_
    obtain ⟨bP,ga,aa⟩:=ax aa
    refine ai (O.cC (.aF q) (.lit q) ki ga)<|ai (O.ez (.bo q) nA)<|ai (O.dd (x:=j bP.Prod) (.bo q) ct q)<|ai (O.eql (.lit q) (.k q))<|ai (O.aC (.lit q)) ?_
    rcases cB aa with ⟨dn,aa⟩ | ⟨dn,aa⟩
    ·refine aW dn (O.aC (.aF q))<|aW dn (O.aC (.lit q)) ?_
     obtain ⟨b1,hK,aa⟩:=ax aa
     obtain rfl:=au aa
     exact aq.aV
    ·obtain rfl:=au aa
     exact aq.aV
   refine W.bu h q (λeJ h=>?_) (λeJ h=>?_)
   ·refine W.aT [2] ?_
    refine W.rt ?_
    refine ah.d_ ?_
    refine ah.c5 ?_
    obtain rfl:=au h
    exact ah.gx (.n q .nil)
   ·refine W.bF<|ah.bf ?_
    refine ah.aU<|W.bk [0,3] (bp q<|ai (O.add (.lit q) (.k q))<|aq.bk [0,9] q<|aq.aV) ?_
    obtain rfl:=au h
    exact ah.go (fC q q)
  ·refine W.c9 ?_
   refine ah.c7 ?_
   obtain rfl:=au h
   exact ah.x2 .nil
 ·subst J
  refine ah.c' ?_
  refine ah.aU<|W.aT [2] ?_
  refine W.rt ?_
  obtain rfl:=au h
  exact cw (.f q q .nil)
 ·subst J
  refine ah.d_ ?_
  refine ah.c5 ?_
  obtain rfl:=au h
  exact cw (.f q q .nil)
theorem Pq (a0:(List State)) (r:(List (List Int))) (h:Bh a0=some r):b_ Try.prog 85 [ag cR a0] [none] (ak (bb aG) r):=by
 unfold Bh at h
 refine b_.go (N:=⟨74,[]⟩) Try.func85 q q q q (W.fin ?_)
 refine W.st [(0,ag cR a0)] ?_
 refine W.aT [0] ?_
 obtain ⟨aD,fF,h⟩:=ax h
 refine W.bV [0,3] (ai (O.aC (.aF q))<|eE (cr.go (.bT (.aF q) .nil) (Cq a0 _ fF) call88 q)<|aq.aV) ?_
 refine W.aT [0,3,4] ?_
 refine W.aX<|W.aT [0,3,4,5] ?_
 refine W.bf ?_
 obtain ⟨a8,ao,h⟩:=ax h
 refine W.ca (G1:=[(0,_),(3,_),(4,ak (bb aG) ([]:List (List Int))),(5,_)]) (.n q (.n q (.w q q .lb (.n q .nil)))) ?_
 refine W.eg (s:=(([]:List (List Int)),0)) (λ(s2:List (List Int) × Int)=>[(0,ag cR a0),(3,ag fW aD),(4,ak (bb aG) s2.1),(5,j s2.2)]) 0 (λ(a8:List (List Int))=>[(4,ak (bb aG) a8)]) ao (λs2 o h=>?_) ?_
 ·clear ao
  refine W.aX<|W.aT [0,3,4,5,14] ?_
  refine W.bu h q (λdH h=>?_) (λdH h=>?_)
  ·refine W.bF<|ah.aU ?_
   refine W.aX<|W.bf ?_
   refine W.aT [0,3,4,5,6] ?_
   refine W.aX ?_
   obtain ⟨bP,ga,h⟩:=ax h
   obtain ⟨bz,gw,h⟩:=ax h
   obtain ⟨b1,hK,h⟩:=ax h
   refine W.rd [[],[],[],[1,2],[1,2,3],[1,2,3,4],[],[],[6,7],[6,7,8],[6,7,8,9],aN 0 11 [],aN 0 12 []] [(0,_),(3,_),(4,_),(5,_),(6,_),(7,_)] ei (by kernel_rfl) (av 0 (O.aC (.aF q))<|av 1 (O.aC (.aF q))<|av 2 (O.aC (.lit q))<|av 3 (O.cC (.aF q) (.lit q) qs ga)<|av 4 (O.ez (.bo q) xl)<|av 5 (O.dd (x:=j bP.State) (.bo q) ct q)<|av 6 (O.aC (.aF q))<|av 7 (O.aC (.lit q))<|av 8 (O.cC (.aF q) (.lit q) qs gw)<|av 9 (O.ez (.bo q) zl)<|av 10 (O.dd (x:=j bz.e4) (.bo q) ct q)<|gR 11 (cr.go (.bT (.aF q) (.bT (.lit q) (.bT (.lit q) .nil))) (y9 a0 bP.State bz.e4 _ hK) call59 q)<|av 12 (O.ec (.lit q))<|bC.fin q q q (fw q q q q q q)) ?_
   refine ah.aU<|W.aX ?_
   obtain ⟨cv,jx,h⟩:=ax h
   obtain ⟨bM,iF,h⟩:=ax h
   refine W.bV [0,3,4,5,6,7,34] (ai (O.aC (.aF q))<|bp q<|ai (O.cC (.aF q) (.lit q) mO jx)<|ai (O.ez (.bo q) u9)<|ai (O.dd (x:=ag dB cv.Kernel) (.bo q) u5 q)<|eE (cr.go (.bT (.aF q) .nil) (OQ cv.Kernel _ iF) call104 q)<|bK q) ?_
   obtain ⟨gT,aa,h⟩:=ax h
   refine W.bs [(0,ag cR a0),(3,ag fW aD),(4,ak (bb aG) s2.1),(5,j s2.2),(6,ak aG gT),(7,j b1)] ?_ ?_
   ·clear h; have h:=aa; clear aa
    refine W.bu h q (λdz h=>?_) (λdz h=>?_)
    ·obtain ⟨eb,jX,h⟩:=ax h
     refine W.bk [0,3,4,5,6,7] (ai (O.aC (.aI q))<|aq.eY (x:=ag aG [0]) (O.dg (ys:=[j 0]) aG [0] eS q q q q q q nR q q) q q .none<|ai (O.N1 (en:=aG) (r:=eb) (.aI q) (.aF q) .i nx q jX)<|aq.fN (G2:=[(0,ag cR a0),(3,ag fW aD),(4,ak (bb aG) s2.1),(5,j s2.2),(7,j b1)]) q (b9.ik q q (.own q) q (.n q q (.n q q (.n q q (.n q q (.n q q .nil))))) q q)<|bK q) ?_
     obtain rfl:=au h
     exact ah.bs (fw q q q q q q)
    ·refine W.bF ?_
     obtain rfl:=au h
     exact ah.bs (.n q (.n q (.n q (.n q (.w q q .lb (.n q .nil))))))
   refine ah.aU<|W.aX ?_
   refine W.aT [0,3,4,5,6,7,8] ?_
   refine W.bf<|W.eF (G1:=[(0,_),(3,_),(4,_),(5,_),(6,ag aG gT),(7,_),(8,_)]) [6] (.n q q (.n q q (.n q q (.n q q (.z q q .ha (.n q q (.n q q .nil))))))) ?_
   obtain ⟨cH,ao,h⟩:=ax h
   refine W.ca (G1:=[(0,_),(3,_),(4,_),(5,_),(6,_),(7,_),(8,_)]) (g_ q q q q q q q) ?_
   refine W.eg (s:=(gT,0)) (λ(iu:List Int × Int)=>[(0,ag cR a0),(3,ag fW aD),(4,ak (bb aG) s2.1),(5,j s2.2),(6,ag aG iu.1),(7,j b1),(8,j iu.2)]) 2 (λ(cH:List Int)=>[(0,ag cR a0),(3,ag fW aD),(4,ak (bb aG) s2.1),(5,j s2.2),(6,ag aG cH)]) ao (λiu o h=>?_) ?_
   ·clear ao
    refine W.aX ?_
    obtain ⟨bZ,gS,h⟩:=ax h
    refine W.aT [0,3,4,5,6,7,8,45] ?_
    refine W.bu h q (λht h=>?_) (λht h=>?_)
    ·refine W.bF<|ah.aU ?_
     refine W.aX ?_
     obtain ⟨fX,aa,h⟩:=ax h
     refine W.bs [(0,ag cR a0),(3,ag fW aD),(4,ak (bb aG) s2.1),(5,j s2.2),(6,ag aG fX),(7,j b1),(8,j iu.2)] ?_ ?_
     ·clear h; have h:=aa; clear aa
      refine W.bf ?_
      obtain ⟨dj,n2,h⟩:=ax h
      obtain ⟨dk,nF,h⟩:=ax h
      refine W.aT [0,3,4,5,6,7,8,57] ?_
      obtain ⟨q9,aa,h⟩:=ax h
      refine W.bs [(0,ag cR a0),(3,ag fW aD),(4,ak (bb aG) s2.1),(5,j s2.2),(6,ag aG q9),(7,j b1),(8,j iu.2)] ?_ ?_
      ·clear h; have h:=aa; clear aa
       refine W.bu h q (λgn h=>?_) (λgn h=>?_)
       ·obtain ⟨gg,lO,h⟩:=ax h
        obtain ⟨e6,k',h⟩:=ax h
        obtain ⟨gh,qa,h⟩:=ax h
        refine W.bk [0,3,4,5,6,7,8] (ai (O.aC (.aF q))<|ai (O.aC (.aF q))<|bp q<|ai (O.cC (.aF q) (.lit q) mO lO)<|ai (O.ez (.bo q) u_)<|ai (O.dd (x:=ag k4 gg.fb) (.bo q) za q)<|bp q<|ai (O.cC (.aF q) (.lit q) Bt k')<|ai (O.ez (.bo q) EY)<|ai (O.dd (x:=j e6.Sym) (.bo q) ct q)<|eE (cr.go (.bT (.aF q) (.bT (.lit q) .nil)) (tB iu.1 e6.Sym _ qa) call67 q)<|aq.bk [0,3,4,5,7,8,68] q<|aq.aV) ?_
        obtain rfl:=au h
        exact ah.bs (g_ q q q q q q q)
       ·refine W.bF ?_
        obtain rfl:=au h
        exact ah.bs (g_ q q q q q q q)
      refine ah.bf ?_
      obtain rfl:=au h
      exact ah.bs (g_ q q q q q q q)
     refine ah.aU<|W.bk [0,3,4,5,6,7,8] (bp q<|ai (O.add (.lit q) (.k q))<|aq.bk [0,3,4,5,6,7,47] q<|aq.aV) ?_
     obtain rfl:=au h
     exact ah.go (g_ q q q q q q q)
    ·refine W.c9 ?_
     refine ah.c7 ?_
     obtain rfl:=au h
     exact ah.aD (dX q q q q q)
   refine ah.c' ?_
   refine ah.aU ?_
   obtain ⟨fE,l6,h⟩:=ax h
   refine W.bk [0,3,4,5] (ai (O.aC (.own q))<|ai (O.aC (.aF q))<|aq.eY (x:=ag (bb aG) [cH]) (O.dg (ys:=[ag aG cH]) (bb aG) [cH] kQ q q q q q q Ij q q) q q .none<|ai (O.ap (en:=(bb aG)) (r:=fE) (.bl q) q (.aF q) .i Ei q l6)<|aq.fN (G2:=[(0,ag cR a0),(3,ag fW aD),(5,j s2.2)]) q (b9.lp q q (.bR q) q q q (.n q q (.n q q (.n q q .nil))) q q)<|bK q) ?_
   refine ah.bf ?_
   refine ah.aU<|W.bk [0,3,4,5] (bp q<|ai (O.add (.lit q) (.k q))<|aq.bk [0,3,4,16] q<|aq.aV) ?_
   obtain rfl:=au h
   exact ah.go (dM q q q q)
  ·refine W.c9 ?_
   refine ah.c7 ?_
   obtain rfl:=au h
   exact ah.aD (.n q .nil)
 refine ah.c' ?_
 refine ah.aU<|W.bV [2] (ai (O.aC (.own q))<|aq.fN (G2:=[]) q (b9.ik q q (.bl q) q .nil q q)<|bK q) ?_
 refine W.rt ?_
 obtain rfl:=au h
 exact cw (.o q .nil)
theorem Jo (a0:(List Bool)) (aw:(List Int)) (r:Bool) (h:x8 a0 aw=some r):b_ Try.prog 107 [ag bH a0,ag aG aw] [none,none] (a1 r):=by
 unfold x8 at h
 refine b_.go (N:=⟨28,[]⟩) Try.func107 q q q q (W.fin ?_)
 refine W.st [(0,ag bH a0),(1,ag aG aw)] ?_
 refine W.aT [0,1] ?_
 refine W.aX<|W.aT [0,1,5] ?_
 refine W.bf ?_
 obtain ⟨x2,ao,h⟩:=ax h
 refine W.ca (G1:=[(0,_),(1,_),(5,_)]) (dt q q q) ?_
 refine W.jZ (s:=0) (λ(s1:Int)=>[(0,ag bH a0),(1,ag aG aw),(5,j s1)]) 0 (λ(a8:Unit)=>[]) (λ(b4:Bool)=>[(4,a1 b4)]) ao (λs1 o h=>?_) (λa8 J=>?_) (λb4 J=>?_)
 ·clear ao
  refine W.aX<|W.aT [0,1,5,9] ?_
  refine W.bu h q (λdH h=>?_) (λdH h=>?_)
  ·refine W.bF<|ah.aU ?_
   refine W.aX<|W.bf ?_
   obtain ⟨iz,aa,h⟩:=ax h
   refine W.rs [(0,ag bH a0),(1,ag aG aw),(5,j s1),(27,a1 iz)] ?_ ?_
   ·refine ai (O.aC (.aF q))<|ai (O.aC (.lit q)) ?_
    obtain ⟨bP,ga,aa⟩:=ax aa
    refine ai (O.cC (.aF q) (.lit q) eS ga)<|ai (O.dd (x:=j bP) (.bo q) ct q)<|ai (O.lss (.lit q) (.k q))<|ai (O.aC (.lit q)) ?_
    rcases cB aa with ⟨dn,aa⟩ | ⟨dn,aa⟩
    ·obtain rfl:=au aa
     exact aq.aV
    ·refine aW dn (O.aC (.aF q))<|aW dn (O.aC (.aF q))<|aW dn (O.aC (.lit q)) ?_
     obtain ⟨b1,hK,aa⟩:=ax aa
     refine aW dn (O.cC (.aF q) (.lit q) eS hK)<|aW dn (O.dd (x:=j b1) (.bo q) ct q)<|aW dn (O.sub (.lit q) (.k q)) ?_
     obtain ⟨cv,jx,aa⟩:=ax aa
     obtain rfl:=au aa
     exact aq.aV
   refine W.bu h q (λe_ h=>?_) (λe_ h=>?_)
   ·refine W.aT [4] ?_
    refine W.rt ?_
    refine ah.d_ ?_
    refine ah.c5 ?_
    obtain rfl:=au h
    exact ah.gx (.n q .nil)
   ·refine W.bF<|ah.bf ?_
    refine ah.aU<|W.bk [0,1,5] (bp q<|ai (O.add (.lit q) (.k q))<|aq.bk [0,1,11] q<|aq.aV) ?_
    obtain rfl:=au h
    exact ah.go (dt q q q)
  ·refine W.c9 ?_
   refine ah.c7 ?_
   obtain rfl:=au h
   exact ah.x2 .nil
 ·subst J
  refine ah.c' ?_
  refine ah.aU<|W.aT [4] ?_
  refine W.rt ?_
  obtain rfl:=au h
  exact cw (.f q q .nil)
 ·subst J
  refine ah.d_ ?_
  refine ah.c5 ?_
  obtain rfl:=au h
  exact cw (.f q q .nil)
theorem Jm (a0:b') (r:(List Bool)) (h:x6 a0=some r):b_ Try.prog 105 [.agg (ck.cells a0)] [none] (ag bH r):=by
 unfold x6 at h
 refine b_.go (N:=⟨41,[]⟩) Try.func105 q q q q (W.fin ?_)
 refine W.st [(0,.agg (ck.cells a0))] ?_
 refine W.bV [1] (ai (O.box (.b2 q q) q)<|aq.aV) ?_
 obtain ⟨aD,fF,h⟩:=ax h
 refine W.bV [1,3] (ai (O.a_ q (.obj q) sC q)<|ai (O.cU (y:=ag a7 a0.bw) q (.ptr q) sw q q)<|ai (O.hc (.aF q) r5)<|ai (O.mk (en:=bH) (z0:=false) oT (.lit q) (.lit q) Ie q q fF Et q)<|aq.fN (G2:=[(1,.obj (ck.cells a0))]) q (b9.ik q q (.own q) q (.n q q .nil) q q)<|bK q) ?_
 refine W.aX<|W.aT [1,3,4] ?_
 refine W.bf ?_
 obtain ⟨a8,ao,h⟩:=ax h
 refine W.ca (G1:=[(1,_),(3,_),(4,_)]) (dt q q q) ?_
 refine W.eg (s:=(aD,true)) (λ(s2:List Bool × Bool)=>[(1,.obj (ck.cells a0)),(3,ak bH s2.1),(4,a1 s2.2)]) 0 (λ(a8:List Bool)=>[(3,ak bH a8)]) ao (λs2 o h=>?_) ?_
 ·clear ao
  refine W.aX<|W.aT [1,3,11] ?_
  refine W.bu h q (λdH h=>?_) (λdH h=>?_)
  ·refine W.bF<|ah.aU ?_
   refine W.bf<|W.aT [1,3,4] ?_
   refine W.aT [1,3,4,5] ?_
   refine W.bf ?_
   obtain ⟨bz,ao,h⟩:=ax h
   refine W.ca (G1:=[(1,_),(3,_),(4,_),(5,_)]) (dM q q q q) ?_
   refine W.eg (s:=(s2.1,false,0)) (λ(cM:List Bool × Bool × Int)=>[(1,.obj (ck.cells a0)),(3,ak bH cM.1),(4,a1 cM.2.1),(5,j cM.2.2)]) 2 (λ(bz:List Bool × Bool)=>[(1,.obj (ck.cells a0)),(3,ak bH bz.1),(4,a1 bz.2)]) ao (λcM o h=>?_) ?_
   ·clear ao
    refine W.aX<|W.aT [1,3,4,5,16] ?_
    refine W.bu h q (λdi h=>?_) (λdi h=>?_)
    ·refine W.bF<|ah.aU ?_
     refine W.aX ?_
     obtain ⟨kd,aa,h⟩:=ax h
     refine W.bs [(1,.obj (ck.cells a0)),(3,ak bH kd.1),(4,a1 kd.2),(5,j cM.2.2)] ?_ ?_
     ·clear h; have h:=aa; clear aa
      refine W.bf ?_
      obtain ⟨bD,gQ,h⟩:=ax h
      refine W.bV [1,3,4,5,6] (ai (O.a_ q (.obj q) lI q)<|ai (O.cU (y:=ag bE a0.bc) q (.ptr q) mX q q)<|bp q<|ai (O.cC (.aF q) (.lit q) ns gQ)<|ai (O.iq (cs':=[j bD.Left,ag aG bD.fz,j bD.Prec,ae bD.Code,ag aG bD.ti,j bD.At]) (.bo q) IX q q)<|ai (O.fq (cs:=[j 0,.aI,j 0,ae aA,.aI,j 0]) BM q q)<|aq.dx (G2:=[(1,_),(3,_),(4,_),(5,_),(6,_)]) (cs2:=[j bD.Left,ag aG bD.fz,j bD.Prec,ae bD.Code,ag aG bD.ti,j bD.At]) q (.obj q) (.b2 q q) q MM q q q q (.n q q (.n q q (.n q q (.n q q (.b q .nil)))))<|bK q) ?_
      obtain ⟨tz,aa,h⟩:=ax h
      refine W.rs [(1,.obj (ck.cells a0)),(3,ak bH cM.1),(4,a1 cM.2.1),(5,j cM.2.2),(6,.obj (bE.cells bD)),(35,a1 tz)] ?_ ?_
      ·refine ai (O.aC (.own q))<|ai (O.a_ q (.obj q) zj q)<|ai (O.cq q (.ptr q) ct q) ?_
       obtain ⟨dh,kL,aa⟩:=ax aa
       refine ai (O.gY (en:=bH) q (.bl q) (.lit q) oT kL q)<|ai (O.jz (en:=bH) (x':=a1 dh) q (.ptr q) mW kL q q)<|ai (O.not (.lit q))<|ai (O.aC (.lit q)) ?_
       rcases cB aa with ⟨hn,aa⟩ | ⟨hn,aa⟩
       ·refine aW hn (O.aC (.own q))<|aW hn (O.a_ q (.obj q) mZ q)<|aW hn (O.cU (y:=ag aG bD.fz) q (.ptr q) hC q q) ?_
        obtain ⟨dU,jP,aa⟩:=ax aa
        obtain rfl:=au aa
        exact aq.c (cr.vw (ys:=[.bl bH.z ⟨3,[]⟩ cM.1.length,ag aG bD.fz]) q (.c (.row q) (.s .nil)) (Jo cM.1 bD.fz _ jP) call107 q) q q (.hf q q hn)<|aq.aV
       ·obtain rfl:=au aa
        exact aq.aV
      obtain ⟨l9,aa,h⟩:=ax h
      refine W.bs [(1,.obj (ck.cells a0)),(3,ak bH l9.1),(4,a1 l9.2),(5,j cM.2.2)] ?_ ?_
      ·clear h; have h:=aa; clear aa
       refine W.bu h q (λvh h=>?_) (λvh h=>?_)
       ·obtain ⟨dS,iG,h⟩:=ax h
        refine W.bV [1,3,5] (ai (O.aC (.own q))<|ai (O.a_ q (.obj q) zj q)<|ai (O.cq q (.ptr q) ct q)<|ai (O.gY (en:=bH) q (.bl q) (.lit q) oT iG q)<|aq.h_ (G2:=[(1,.obj (ck.cells a0)),(3,ak bH (cM.1.set bD.Left.toNat true)),(5,j cM.2.2)]) q (b9.pI (en:=bH) (y2:=true) (cs':=[a1 true]) (x2:=ak bH (cM.1.set bD.Left.toNat true)) q q (.ptr q) (.k q) q iG uH q q q q q q q (.n q q (.b q (.n q q .nil))))<|bK q) ?_
        refine W.II [1,3,4,5] ?_
        obtain rfl:=au h
        exact ah.bs (dM q q q q)
       ·refine W.bF ?_
        obtain rfl:=au h
        exact ah.bs (dM q q q q)
      refine ah.bf ?_
      obtain rfl:=au h
      exact ah.bs (dM q q q q)
     refine ah.aU<|W.bk [1,3,4,5] (bp q<|ai (O.add (.lit q) (.k q))<|aq.bk [1,3,4,18] q<|aq.aV) ?_
     obtain rfl:=au h
     exact ah.go (dM q q q q)
    ·refine W.c9 ?_
     refine ah.c7 ?_
     obtain rfl:=au h
     exact ah.aD (dt q q q)
   refine ah.c' ?_
   refine ah.bf ?_
   obtain rfl:=au h
   exact ah.go (dt q q q)
  ·refine W.c9 ?_
   refine ah.c7 ?_
   obtain rfl:=au h
   exact ah.aD (.n q .nil)
 refine ah.c' ?_
 refine ah.aU<|W.bV [2] (ai (O.aC (.own q))<|aq.fN (G2:=[]) q (b9.ik q q (.bl q) q .nil q q)<|bK q) ?_
 refine W.eF (G1:=[(2,ag bH a8)]) [2] (.z q q .ha .nil) ?_
 refine W.rt ?_
 obtain rfl:=au h
 exact cw (.f q q .nil)
theorem Jn (a0:(List Trans)) (aw:Int) (a2:Int) (r:Int) (h:x7 a0 aw a2=some r):b_ Try.prog 106 [ag fW a0,j aw,j a2] [none,none,none] (j r):=by
 unfold x7 at h
 refine b_.go (N:=⟨31,[]⟩) Try.func106 q q q q (W.fin ?_)
 refine W.st [(0,ag fW a0),(1,j aw),(2,j a2)] ?_
 refine W.aT [0,1,2] ?_
 refine W.aX<|W.aT [0,1,2,7] ?_
 refine W.bf ?_
 obtain ⟨x2,ao,h⟩:=ax h
 refine W.ca (G1:=[(0,_),(1,_),(2,_),(7,_)]) (dM q q q q) ?_
 refine W.jZ (s:=0) (λ(s1:Int)=>[(0,ag fW a0),(1,j aw),(2,j a2),(7,j s1)]) 0 (λ(a8:Unit)=>[]) (λ(b4:Int)=>[(6,j b4)]) ao (λs1 o h=>?_) (λa8 J=>?_) (λb4 J=>?_)
 ·clear ao
  refine W.aX<|W.aT [0,1,2,7,11] ?_
  refine W.bu h q (λdH h=>?_) (λdH h=>?_)
  ·refine W.bF<|ah.aU ?_
   refine W.aX<|W.bf ?_
   obtain ⟨sr,aa,h⟩:=ax h
   refine W.rs [(0,ag fW a0),(1,j aw),(2,j a2),(7,j s1),(29,a1 sr)] ?_ ?_
   ·refine ai (O.aC (.aF q))<|ai (O.aC (.lit q)) ?_
    obtain ⟨bP,ga,aa⟩:=ax aa
    refine ai (O.cC (.aF q) (.lit q) qs ga)<|ai (O.ez (.bo q) xl)<|ai (O.dd (x:=j bP.State) (.bo q) ct q)<|bp q<|ai (O.eql (.lit q) (.lit q))<|ai (O.aC (.lit q)) ?_
    rcases cB aa with ⟨dn,aa⟩ | ⟨dn,aa⟩
    ·refine aW dn (O.aC (.aF q))<|aW dn (O.aC (.lit q)) ?_
     obtain ⟨b1,hK,aa⟩:=ax aa
     obtain rfl:=au aa
     exact aq.aV
    ·obtain rfl:=au aa
     exact aq.aV
   refine W.bu h q (λeJ h=>?_) (λeJ h=>?_)
   ·refine W.aT [6] ?_
    refine W.rt ?_
    refine ah.d_ ?_
    refine ah.c5 ?_
    obtain rfl:=au h
    exact ah.gx (.n q .nil)
   ·refine W.bF<|ah.bf ?_
    refine ah.aU<|W.bk [0,1,2,7] (bp q<|ai (O.add (.lit q) (.k q))<|aq.bk [0,1,2,13] q<|aq.aV) ?_
    obtain rfl:=au h
    exact ah.go (dM q q q q)
  ·refine W.c9 ?_
   refine ah.c7 ?_
   obtain rfl:=au h
   exact ah.x2 .nil
 ·subst J
  refine ah.c' ?_
  refine ah.aU<|W.aT [6] ?_
  refine W.rt ?_
  obtain rfl:=au h
  exact cw (.f q q .nil)
 ·subst J
  refine ah.d_ ?_
  refine ah.c5 ?_
  obtain rfl:=au h
  exact cw (.f q q .nil)
theorem Pr (a0:b') (aw:(List State)) (r:(List (List Int))) (h:Bi a0 aw=some r):b_ Try.prog 86 [.agg (ck.cells a0),ag cR aw] [none,none] (ag (bb aG) r):=by
 unfold Bi at h
 refine b_.go (N:=⟨74,[]⟩) Try.func86 q q q q (W.fin ?_)
 refine W.st [(0,.agg (ck.cells a0)),(1,ag cR aw)] ?_
 refine W.bV [1,2] (ai (O.box (.b2 q q) q)<|aq.aV) ?_
 obtain ⟨aD,fF,h⟩:=ax h
 refine W.bV [1,2,5] (ai (O.aC (.aF q))<|eE (cr.go (.bT (.aF q) .nil) (Cq aw _ fF) call88 q)<|aq.aV) ?_
 obtain ⟨x2,ho,h⟩:=ax h
 refine W.bV [1,5,6] (ai (O.dR (cs':=[ag bq a0.ba,ag a7 a0.bw,ag bE a0.bc,ae a0.bx,ae a0.bA]) q (.obj q) gA q q)<|eE (cr.go (.bT (.b2 q q) .nil) (Jm a0 _ ho) call105 q)<|aq.aV) ?_
 refine W.aT [1,5,6,7] ?_
 refine W.aX<|W.aT [1,5,6,7,8] ?_
 refine W.bf ?_
 obtain ⟨b4,ao,h⟩:=ax h
 refine W.ca (G1:=[(1,_),(5,_),(6,_),(7,ak (bb aG) ([]:List (List Int))),(8,_)]) (.n q (.n q (.n q (.w q q .lb (.n q .nil))))) ?_
 refine W.eg (s:=(([]:List (List Int)),0)) (λ(cK:List (List Int) × Int)=>[(1,ag cR aw),(5,ag fW aD),(6,ag bH x2),(7,ak (bb aG) cK.1),(8,j cK.2)]) 0 (λ(b4:List (List Int))=>[(7,ak (bb aG) b4)]) ao (λcK o h=>?_) ?_
 ·clear ao
  refine W.aX<|W.aT [1,5,6,7,8,20] ?_
  refine W.bu h q (λee h=>?_) (λee h=>?_)
  ·refine W.bF<|ah.aU ?_
   refine W.aX<|W.bf ?_
   refine W.aT [1,5,6,7,8,9] ?_
   refine W.aX ?_
   obtain ⟨bz,gw,h⟩:=ax h
   obtain ⟨b1,hK,h⟩:=ax h
   obtain ⟨cv,jx,h⟩:=ax h
   refine W.rd [[],[],[],[1,2],[1,2,3],[1,2,3,4],[],[],[6,7],[6,7,8],[6,7,8,9],aN 0 11 [],aN 0 12 []] [(1,_),(5,_),(6,_),(7,_),(8,_),(9,_),(10,_)] ei (by kernel_rfl) (av 0 (O.aC (.aF q))<|av 1 (O.aC (.aF q))<|av 2 (O.aC (.lit q))<|av 3 (O.cC (.aF q) (.lit q) qs gw)<|av 4 (O.ez (.bo q) xl)<|av 5 (O.dd (x:=j bz.State) (.bo q) ct q)<|av 6 (O.aC (.aF q))<|av 7 (O.aC (.lit q))<|av 8 (O.cC (.aF q) (.lit q) qs hK)<|av 9 (O.ez (.bo q) zl)<|av 10 (O.dd (x:=j b1.e4) (.bo q) ct q)<|gR 11 (cr.go (.bT (.aF q) (.bT (.lit q) (.bT (.lit q) .nil))) (y9 aw bz.State b1.e4 _ jx) call59 q)<|av 12 (O.ec (.lit q))<|bC.fin q q q (g_ q q q q q q q)) ?_
   refine ah.aU<|W.aX ?_
   refine W.aT [1,5,6,7,8,9,10,11] ?_
   refine W.bf ?_
   obtain ⟨bD,ao,h⟩:=ax h
   refine W.ca (G1:=[(1,_),(5,_),(6,_),(7,_),(8,_),(9,ag aG ([]:List Int)),(10,_),(11,_)]) (.n q (.n q (.n q (.n q (.n q (.w q q .vS (fC q q))))))) ?_
   refine W.eg (s:=(([]:List Int),0)) (λ(dw:List Int × Int)=>[(1,ag cR aw),(5,ag fW aD),(6,ag bH x2),(7,ak (bb aG) cK.1),(8,j cK.2),(9,ag aG dw.1),(10,j cv),(11,j dw.2)]) 2 (λ(bD:List Int)=>[(1,ag cR aw),(5,ag fW aD),(6,ag bH x2),(7,ak (bb aG) cK.1),(8,j cK.2),(9,ag aG bD)]) ao (λdw o h=>?_) ?_
   ·clear ao
    refine W.aX ?_
    obtain ⟨eb,jX,h⟩:=ax h
    refine W.aT [1,5,6,7,8,9,10,11,42] ?_
    refine W.bu h q (λeD h=>?_) (λeD h=>?_)
    ·refine W.bF<|ah.aU ?_
     refine W.aX ?_
     obtain ⟨nK,aa,h⟩:=ax h
     refine W.bs [(1,ag cR aw),(5,ag fW aD),(6,ag bH x2),(7,ak (bb aG) cK.1),(8,j cK.2),(9,ag aG nK),(10,j cv),(11,j dw.2)] ?_ ?_
     ·clear h; have h:=aa; clear aa
      refine W.bf ?_
      obtain ⟨cj,jY,h⟩:=ax h
      obtain ⟨bZ,gS,h⟩:=ax h
      refine W.aT [1,5,6,7,8,9,10,11,12] ?_
      obtain ⟨uZ,aa,h⟩:=ax h
      refine W.rs [(1,ag cR aw),(5,ag fW aD),(6,ag bH x2),(7,ak (bb aG) cK.1),(8,j cK.2),(9,ag aG dw.1),(10,j cv),(11,j dw.2),(12,j bZ.Sym),(62,a1 uZ)] ?_ ?_
      ·refine bp q<|ai (O.geq (.lit q) (.k q))<|ai (O.aC (.lit q)) ?_
       rcases cB aa with ⟨ht,aa⟩ | ⟨ht,aa⟩
       ·refine aW ht (O.aC (.aF q))<|aW ht (O.aC (.lit q))<|aW ht (O.sub (.lit q) (.k q)) ?_
        obtain ⟨fp,l5,aa⟩:=ax aa
        obtain rfl:=au aa
        exact aq.aV
       ·obtain rfl:=au aa
        exact aq.aV
      obtain ⟨nj,aa,h⟩:=ax h
      refine W.bs [(1,ag cR aw),(5,ag fW aD),(6,ag bH x2),(7,ak (bb aG) cK.1),(8,j cK.2),(9,ag aG nj),(10,j cv),(11,j dw.2)] ?_ ?_
      ·clear h; have h:=aa; clear aa
       refine W.bu h q (λm_ h=>?_) (λm_ h=>?_)
       ·obtain ⟨e2,nf,h⟩:=ax h
        obtain ⟨gg,lO,h⟩:=ax h
        refine W.bk [1,5,6,7,8,9,10,11] (ai (O.aC (.aF q))<|ai (O.aC (.aF q))<|bp q<|bp q<|eE (cr.go (.bT (.aF q) (.bT (.lit q) (.bT (.lit q) .nil))) (Jn aD cv bZ.Sym _ nf) call106 q)<|eE (cr.go (.bT (.aF q) (.bT (.lit q) .nil)) (tB dw.1 e2 _ lO) call67 q)<|aq.bk [1,5,6,7,8,10,11,68] q<|aq.aV) ?_
        obtain rfl:=au h
        exact ah.bs (jR q q q q q q q q)
       ·refine W.bF ?_
        obtain rfl:=au h
        exact ah.bs (jR q q q q q q q q)
      refine ah.bf ?_
      obtain rfl:=au h
      exact ah.bs (jR q q q q q q q q)
     refine ah.aU<|W.bk [1,5,6,7,8,9,10,11] (bp q<|ai (O.add (.lit q) (.k q))<|aq.bk [1,5,6,7,8,9,10,44] q<|aq.aV) ?_
     obtain rfl:=au h
     exact ah.go (jR q q q q q q q q)
    ·refine W.c9 ?_
     refine ah.c7 ?_
     obtain rfl:=au h
     exact ah.aD (fw q q q q q q)
   refine ah.c' ?_
   refine ah.aU ?_
   obtain ⟨e6,k',h⟩:=ax h
   refine W.bk [1,5,6,7,8] (ai (O.aC (.own q))<|ai (O.aC (.aF q))<|aq.eY (x:=ag (bb aG) [bD]) (O.dg (ys:=[ag aG bD]) (bb aG) [bD] kQ q q q q q q Ij q q) q q .none<|ai (O.ap (en:=(bb aG)) (r:=e6) (.bl q) q (.aF q) .i Ei q k')<|aq.fN (G2:=[(1,ag cR aw),(5,ag fW aD),(6,ag bH x2),(8,j cK.2)]) q (b9.lp q q (.bR q) q q q (.n q q (.n q q (.n q q (.n q q .nil)))) q q)<|bK q) ?_
   refine ah.bf ?_
   refine ah.aU<|W.bk [1,5,6,7,8] (bp q<|ai (O.add (.lit q) (.k q))<|aq.bk [1,5,6,7,22] q<|aq.aV) ?_
   obtain rfl:=au h
   exact ah.go (dX q q q q q)
  ·refine W.c9 ?_
   refine ah.c7 ?_
   obtain rfl:=au h
   exact ah.aD (.n q .nil)
 refine ah.c' ?_
 refine ah.aU<|W.bV [4] (ai (O.aC (.own q))<|aq.fN (G2:=[]) q (b9.ik q q (.bl q) q .nil q q)<|bK q) ?_
 refine W.eF (G1:=[(4,ag (bb aG) b4)]) [4] (.z q q .ha .nil) ?_
 refine W.rt ?_
 obtain rfl:=au h
 exact cw (.f q q .nil)
theorem JD (a0:(List State)) (aw:Int) (a2:(List Int)) (r:Int) (h:yk a0 aw a2=some r):b_ Try.prog 89 [ag cR a0,j aw,ag aG a2] [none,none,none] (j r):=by
 unfold yk at h
 refine b_.go (N:=⟨26,[]⟩) Try.func89 q q q q (W.fin ?_)
 refine W.st [(0,ag cR a0),(1,j aw),(2,ag aG a2)] ?_
 refine W.aT [0,1,2] ?_
 refine W.aX<|W.aT [0,1,2,7] ?_
 refine W.bf ?_
 obtain ⟨x2,ao,h⟩:=ax h
 refine W.ca (G1:=[(0,_),(1,_),(2,_),(7,_)]) (dM q q q q) ?_
 refine W.eg (s:=(aw,0)) (λ(s1:Int × Int)=>[(0,ag cR a0),(1,j s1.1),(2,ag aG a2),(7,j s1.2)]) 0 (λ(x2:Int)=>[(1,j x2)]) ao (λs1 o h=>?_) ?_
 ·clear ao
  refine W.aX ?_
  obtain ⟨kF,aa,h⟩:=ax h
  refine W.rs [(0,ag cR a0),(1,j s1.1),(2,ag aG a2),(7,j s1.2),(15,a1 kF)] ?_ ?_
  ·refine bp q<|ai (O.aC (.aF q))<|ai (O.hc (.aF q) eS)<|ai (O.lss (.lit q) (.lit q))<|ai (O.aC (.lit q)) ?_
   rcases cB aa with ⟨c0,aa⟩ | ⟨c0,aa⟩
   ·obtain rfl:=au aa
    exact aq.aV
   ·obtain rfl:=au aa
    exact aq.aV
  refine W.bu h q (λee h=>?_) (λee h=>?_)
  ·refine W.bF<|ah.aU ?_
   refine W.aX<|W.bf ?_
   obtain ⟨bz,gw,h⟩:=ax h
   obtain ⟨b1,hK,h⟩:=ax h
   refine W.bk [0,1,2,7] (ai (O.aC (.aF q))<|bp q<|ai (O.aC (.aF q))<|bp q<|ai (O.cC (.aF q) (.lit q) eS gw)<|ai (O.dd (x:=j bz) (.bo q) ct q)<|eE (cr.go (.bT (.aF q) (.bT (.lit q) (.bT (.lit q) .nil))) (y9 a0 s1.1 bz _ hK) call59 q)<|aq.bk [0,2,7,24] q<|aq.aV) ?_
   refine ah.bf ?_
   refine ah.aU<|W.bk [0,1,2,7] (bp q<|ai (O.add (.lit q) (.k q))<|aq.bk [0,1,2,17] q<|aq.aV) ?_
   obtain rfl:=au h
   exact ah.go (dM q q q q)
  ·refine W.c9 ?_
   refine ah.c7 ?_
   obtain rfl:=au h
   exact ah.aD (.n q .nil)
 refine ah.c' ?_
 refine ah.aU<|W.aT [6] ?_
 refine W.rt ?_
 obtain rfl:=au h
 exact cw (.f q q .nil)
theorem Ps (a0:b') (aw:(List State)) (r:(List (List Int))) (h:Bj a0 aw=some r):b_ Try.prog 87 [.agg (ck.cells a0),ag cR aw] [none,none] (ag (bb aG) r):=by
 unfold Bj at h
 refine b_.go (N:=⟨104,[]⟩) Try.func87 q q q q (W.fin ?_)
 refine W.st [(0,.agg (ck.cells a0)),(1,ag cR aw)] ?_
 refine W.bV [1,2] (ai (O.box (.b2 q q) q)<|aq.aV) ?_
 obtain ⟨aD,fF,h⟩:=ax h
 refine W.bV [1,2,5] (ai (O.aC (.aF q))<|eE (cr.go (.bT (.aF q) .nil) (Cq aw _ fF) call88 q)<|aq.aV) ?_
 obtain ⟨x2,ho,h⟩:=ax h
 refine W.bV [1,2,5,6] (ai (O.dR (cs':=[ag bq a0.ba,ag a7 a0.bw,ag bE a0.bc,ae a0.bx,ae a0.bA]) q (.obj q) gA q q)<|eE (cr.go (.bT (.b2 q q) .nil) (Jm a0 _ ho) call105 q)<|aq.aV) ?_
 obtain ⟨a8,hJ,h⟩:=ax h
 refine W.bV [1,2,5,6,7] (ai (O.aC (.aF q))<|ai (O.hc (.aF q) qs)<|ai (O.TA (e:=aG) kQ (.lit q) (.lit q) Vn q q hJ Oe q)<|aq.fN (G2:=[(1,ag cR aw),(2,.obj (ck.cells a0)),(5,ag fW aD),(6,ag bH x2)]) q (b9.ik q q (.own q) q (.n q q (.n q q (.n q q (.n q q .nil)))) q q)<|bK q) ?_
 refine W.aX<|W.aT [1,2,5,6,7,8] ?_
 refine W.bf ?_
 obtain ⟨cn,ao,h⟩:=ax h
 refine W.ca (G1:=[(1,_),(2,_),(5,_),(6,_),(7,_),(8,_)]) (fw q q q q q q) ?_
 refine W.eg (s:=(a8,0)) (λ(bL:List (List Int) × Int)=>[(1,ag cR aw),(2,.obj (ck.cells a0)),(5,ag fW aD),(6,ag bH x2),(7,ak (bb aG) bL.1),(8,j bL.2)]) 0 (λ(cn:List (List Int))=>[(7,ak (bb aG) cn)]) ao (λbL o h=>?_) ?_
 ·clear ao
  refine W.aX<|W.aT [1,2,5,6,7,8,24] ?_
  refine W.bu h q (λdn h=>?_) (λdn h=>?_)
  ·refine W.bF<|ah.aU ?_
   refine W.aX<|W.bf ?_
   refine W.aT [1,2,5,6,7,8,9] ?_
   refine W.bf ?_
   obtain ⟨cv,ao,h⟩:=ax h
   refine W.ca (G1:=[(1,_),(2,_),(5,_),(6,_),(7,_),(8,_),(9,_)]) (g_ q q q q q q q) ?_
   refine W.eg (s:=(bL.1,0)) (λ(dT:List (List Int) × Int)=>[(1,ag cR aw),(2,.obj (ck.cells a0)),(5,ag fW aD),(6,ag bH x2),(7,ak (bb aG) dT.1),(8,j bL.2),(9,j dT.2)]) 2 (λ(cv:List (List Int))=>[(1,ag cR aw),(2,.obj (ck.cells a0)),(5,ag fW aD),(6,ag bH x2),(7,ak (bb aG) cv),(8,j bL.2)]) ao (λdT o h=>?_) ?_
   ·clear ao
    refine W.aX<|W.aT [1,2,5,6,7,8,9,31] ?_
    refine W.bu h q (λe_ h=>?_) (λe_ h=>?_)
    ·refine W.bF<|ah.aU ?_
     refine W.aX ?_
     obtain ⟨fj,aa,h⟩:=ax h
     refine W.bs [(1,ag cR aw),(2,.obj (ck.cells a0)),(5,ag fW aD),(6,ag bH x2),(7,ak (bb aG) fj),(8,j bL.2),(9,j dT.2)] ?_ ?_
     ·clear h; have h:=aa; clear aa
      refine W.bf ?_
      obtain ⟨eb,jX,h⟩:=ax h
      refine W.aT [1,2,5,6,7,8,9,10] ?_
      refine W.aX<|W.aX ?_
      obtain ⟨dU,jP,h⟩:=ax h
      obtain ⟨cH,hI,h⟩:=ax h
      refine W.rd [[],[0],[],[0,1,2],[0,1,2,3],aN 0 5 [],aN 0 6 [],[],[],[7,8],[7,8,9],[7,8,9,10],aN 0 12 []] [(1,_),(2,_),(5,_),(6,_),(7,_),(8,_),(9,_),(10,_),(52,_)] ei (by kernel_rfl) (av 0 (O.a_ q (.obj q) lI q)<|av 1 (O.cU (y:=ag bE a0.bc) q (.ptr q) mX q q)<|av 2 (O.aC (.lit q))<|av 3 (O.cC (.aF q) (.lit q) ns jP)<|av 4 (O.ez (.bo q) zj)<|av 5 (O.dd (x:=j dU.Left) (.bo q) ct q)<|av 6 (O.add (.k q) (.lit q))<|av 7 (O.aC (.aF q))<|av 8 (O.aC (.lit q))<|av 9 (O.cC (.aF q) (.lit q) qs hI)<|av 10 (O.ez (.bo q) zl)<|av 11 (O.dd (x:=j cH.e4) (.bo q) ct q)<|av 12 (O.neq (.lit q) (.lit q))<|bC.fin q q q (iI q q q q q q q q q)) ?_
      refine ah.aU<|W.bu h q (λgf h=>?_) (λgf h=>?_)
      ·refine W.c9 ?_
       refine ah.c7 ?_
       refine ah.c' ?_
       obtain rfl:=au h
       exact ah.bs (g_ q q q q q q q)
      ·refine W.bF<|ah.aU ?_
       refine W.aT [1,2,5,6,7,8,9,10,11] ?_
       refine W.bf ?_
       obtain ⟨dS,ao,h⟩:=ax h
       refine W.ca (G1:=[(1,_),(2,_),(5,_),(6,_),(7,_),(8,_),(9,_),(10,_),(11,_)]) (iI q q q q q q q q q) ?_
       refine W.eg (s:=(dT.1,0)) (λ(iQ:List (List Int) × Int)=>[(1,ag cR aw),(2,.obj (ck.cells a0)),(5,ag fW aD),(6,ag bH x2),(7,ak (bb aG) iQ.1),(8,j bL.2),(9,j dT.2),(10,ag aG eb.fz),(11,j iQ.2)]) 4 (λ(dS:List (List Int))=>[(1,ag cR aw),(2,.obj (ck.cells a0)),(5,ag fW aD),(6,ag bH x2),(7,ak (bb aG) dS),(8,j bL.2),(9,j dT.2)]) ao (λiQ o h=>?_) ?_
       ·clear ao
        refine W.aX<|W.aT [1,2,5,6,7,8,9,10,11,56] ?_
        refine W.bu h q (λka h=>?_) (λka h=>?_)
        ·refine W.bF<|ah.aU ?_
         refine W.aX ?_
         obtain ⟨nj,aa,h⟩:=ax h
         refine W.bs [(1,ag cR aw),(2,.obj (ck.cells a0)),(5,ag fW aD),(6,ag bH x2),(7,ak (bb aG) nj),(8,j bL.2),(9,j dT.2),(10,ag aG eb.fz),(11,j iQ.2)] ?_ ?_
         ·clear h; have h:=aa; clear aa
          refine W.bf<|W.aX ?_
          obtain ⟨y6,aa,h⟩:=ax h
          refine W.rs [(1,ag cR aw),(2,.obj (ck.cells a0)),(5,ag fW aD),(6,ag bH x2),(7,ak (bb aG) iQ.1),(8,j bL.2),(9,j dT.2),(10,ag aG eb.fz),(11,j iQ.2),(72,a1 y6)] ?_ ?_
          ·refine ai (O.aC (.aF q))<|ai (O.aC (.lit q)) ?_
           obtain ⟨fx,nG,aa⟩:=ax aa
           refine ai (O.cC (.aF q) (.lit q) eS nG)<|ai (O.dd (x:=j fx) (.bo q) ct q)<|ai (O.lss (.lit q) (.k q))<|ai (O.aC (.lit q)) ?_
           rcases cB aa with ⟨gn,aa⟩ | ⟨gn,aa⟩
           ·obtain rfl:=au aa
            exact aq.aV
           ·refine aW gn (O.aC (.aF q))<|aW gn (O.aC (.aF q))<|aW gn (O.aC (.lit q))<|aW gn (O.add (.lit q) (.k q)) ?_
            obtain ⟨gg,lO,aa⟩:=ax aa
            refine aW gn (O.HS (.aF q) (.lit q) eS lO) ?_
            obtain ⟨e6,k',aa⟩:=ax aa
            obtain rfl:=au aa
            exact aq.c (cr.go (.bT (.aF q) (.bT (.aF q) .nil)) (Jo x2 gg _ k') call107 q) q q (.hf q q gn)<|aq.aV
          refine W.bu h q (λqV h=>?_) (λqV h=>?_)
          ·refine W.c9 ?_
           refine ah.c7 ?_
           refine ah.c' ?_
           obtain rfl:=au h
           exact ah.bs (iI q q q q q q q q q)
          ·refine W.bF<|ah.aU ?_
           refine W.aX ?_
           obtain ⟨c8,sY,h⟩:=ax h
           obtain ⟨e3,l7,h⟩:=ax h
           obtain ⟨iK,po,h⟩:=ax h
           refine W.rd [[],[],[],[1,2],[1,2,3],[1,2,3,4],[],[],[6,7],aN 0 9 [],aN 0 10 []] [(1,_),(2,_),(5,_),(6,_),(7,_),(8,_),(9,_),(10,_),(11,_),(12,_)] ei (by kernel_rfl) (av 0 (O.aC (.aF q))<|av 1 (O.aC (.aF q))<|av 2 (O.aC (.lit q))<|av 3 (O.cC (.aF q) (.lit q) qs sY)<|av 4 (O.ez (.bo q) xl)<|av 5 (O.dd (x:=j c8.State) (.bo q) ct q)<|av 6 (O.aC (.aF q))<|av 7 (O.aC (.lit q))<|av 8 (O.HR (.aF q) (.lit q) eS l7)<|gR 9 (cr.go (.bT (.aF q) (.bT (.lit q) (.bT (.aF q) .nil))) (JD aw c8.State e3 _ po) call89 q)<|av 10 (O.ec (.lit q))<|bC.fin q q q (r9 q q q q q q q q q q)) ?_
           refine ah.aU<|W.aT [1,2,5,6,7,8,9,10,11,12,84] ?_
           obtain ⟨vI,aa,h⟩:=ax h
           refine W.bs [(1,ag cR aw),(2,.obj (ck.cells a0)),(5,ag fW aD),(6,ag bH x2),(7,ak (bb aG) vI),(8,j bL.2),(9,j dT.2),(10,ag aG eb.fz),(11,j iQ.2)] ?_ ?_
           ·clear h; have h:=aa; clear aa
            refine W.bu h q (λFz h=>?_) (λFz h=>?_)
            ·obtain ⟨gy,pq,h⟩:=ax h
             obtain ⟨gI,n4,h⟩:=ax h
             refine W.bV [1,2,5,6,7,8,9,10,11,13] (ai (O.aC (.aF q))<|bp q<|ai (O.aC (.aF q))<|bp q<|ai (O.cC (.aF q) (.lit q) eS pq)<|ai (O.dd (x:=j gy) (.bo q) ct q)<|eE (cr.go (.bT (.aF q) (.bT (.lit q) (.bT (.lit q) .nil))) (Jn aD iK gy _ n4) call106 q)<|aq.aV) ?_
             refine W.aT [1,2,5,6,7,8,9,10,11,13,93] ?_
             obtain ⟨GS,aa,h⟩:=ax h
             refine W.bs [(1,ag cR aw),(2,.obj (ck.cells a0)),(5,ag fW aD),(6,ag bH x2),(7,ak (bb aG) GS),(8,j bL.2),(9,j dT.2),(10,ag aG eb.fz),(11,j iQ.2)] ?_ ?_
             ·clear h; have h:=aa; clear aa
              refine W.bu h q (λRg h=>?_) (λRg h=>?_)
              ·obtain ⟨j7,mE,h⟩:=ax h
               obtain ⟨dm,xO,h⟩:=ax h
               refine W.bk [1,2,5,6,7,8,9,10,11] (ai (O.aC (.own q))<|bp q<|ai (O.aC (.own q))<|bp q<|ai (O.gY (en:=(bb aG)) q (.bl q) (.lit q) kQ mE q)<|ai (O.jz (en:=(bb aG)) (x':=ag aG j7) q (.ptr q) hC mE q q)<|bp q<|eE (cr.go (.bT (.aF q) (.bT (.lit q) .nil)) (tB j7 bL.2 _ xO) call67 q)<|ai (O.gY (en:=(bb aG)) q (.bl q) (.lit q) kQ mE q)<|aq.h_ (G2:=[(1,ag cR aw),(2,.obj (ck.cells a0)),(5,ag fW aD),(6,ag bH x2),(7,ak (bb aG) (iQ.1.set gI.toNat dm)),(8,j bL.2),(9,j dT.2),(10,ag aG eb.fz),(11,j iQ.2)]) q (b9.pI (en:=(bb aG)) (y2:=dm) (cs':=[ag aG dm]) (x2:=ak (bb aG) (iQ.1.set gI.toNat dm)) q q (.ptr q) (.aF q) q mE wy q q q q q q q (.n q q (.n q q (.n q q (.n q q (.b q (.n q q (.n q q (.n q q (.n q q .nil))))))))))<|bK q) ?_
               obtain rfl:=au h
               exact ah.bs (iI q q q q q q q q q)
              ·refine W.bF ?_
               obtain rfl:=au h
               exact ah.bs (iI q q q q q q q q q)
             obtain rfl:=au h
             exact ah.bs (iI q q q q q q q q q)
            ·refine W.bF ?_
             obtain rfl:=au h
             exact ah.bs (iI q q q q q q q q q)
           refine ah.bf ?_
           obtain rfl:=au h
           exact ah.bs (iI q q q q q q q q q)
         refine ah.aU<|W.bk [1,2,5,6,7,8,9,10,11] (bp q<|ai (O.add (.lit q) (.k q))<|aq.bk [1,2,5,6,7,8,9,10,58] q<|aq.aV) ?_
         obtain rfl:=au h
         exact ah.go (iI q q q q q q q q q)
        ·refine W.c9 ?_
         refine ah.c7 ?_
         obtain rfl:=au h
         exact ah.aD (g_ q q q q q q q)
       refine ah.c' ?_
       refine ah.bf ?_
       obtain rfl:=au h
       exact ah.bs (g_ q q q q q q q)
     refine ah.aU<|W.bk [1,2,5,6,7,8,9] (bp q<|ai (O.add (.lit q) (.k q))<|aq.bk [1,2,5,6,7,8,33] q<|aq.aV) ?_
     obtain rfl:=au h
     exact ah.go (g_ q q q q q q q)
    ·refine W.c9 ?_
     refine ah.c7 ?_
     obtain rfl:=au h
     exact ah.aD (fw q q q q q q)
   refine ah.c' ?_
   refine ah.bf ?_
   refine ah.aU<|W.bk [1,2,5,6,7,8] (bp q<|ai (O.add (.lit q) (.k q))<|aq.bk [1,2,5,6,7,26] q<|aq.aV) ?_
   obtain rfl:=au h
   exact ah.go (fw q q q q q q)
  ·refine W.c9 ?_
   refine ah.c7 ?_
   obtain rfl:=au h
   exact ah.aD (.n q .nil)
 refine ah.c' ?_
 refine ah.aU<|W.bV [4] (ai (O.aC (.own q))<|aq.fN (G2:=[]) q (b9.ik q q (.bl q) q .nil q q)<|bK q) ?_
 refine W.eF (G1:=[(4,ag (bb aG) cn)]) [4] (.z q q .ha .nil) ?_
 refine W.rt ?_
 obtain rfl:=au h
 exact cw (.f q q .nil)
theorem Ph (a0:b') (aw:(List State)) (r:(List (List Int))) (h:A' a0 aw=some r):b_ Try.prog 71 [.agg (ck.cells a0),ag cR aw] [none,none] (ag (bb aG) r):=by
 unfold A' at h
 refine b_.go (N:=⟨15,[]⟩) Try.func71 q q q q (W.fin ?_)
 refine W.st [(0,.agg (ck.cells a0)),(1,ag cR aw)] ?_
 refine W.bV [1,2] (ai (O.box (.b2 q q) q)<|aq.aV) ?_
 refine W.aX ?_
 obtain ⟨aD,fF,h⟩:=ax h
 obtain ⟨x2,ho,h⟩:=ax h
 obtain ⟨a8,hJ,h⟩:=ax h
 obtain ⟨b4,n5,h⟩:=ax h
 obtain ⟨cn,kM,h⟩:=ax h
 refine W.T8 [0,1,2,3,4,6,7,5,8,9,10] [[],[0],[],[],[0,1,2,3],[],[],aN 0 5 [],aN 0 8 [],aN 0 9 [],aN 0 10 []] [(4,_)] ei (by kernel_rfl) (by kernel_rfl) (av 0 (O.aC (.aF q))<|gR 1 (cr.go (.bT (.aF q) .nil) (Pq aw _ fF) call85 q)<|av 2 (O.dR (cs':=[ag bq a0.ba,ag a7 a0.bw,ag bE a0.bc,ae a0.bx,ae a0.bA]) q (.obj q) gA q q)<|av 3 (O.aC (.aF q))<|gR 4 (cr.go (.bT (.b2 q q) (.bT (.aF q) .nil)) (Pr a0 aw _ ho) call86 q)<|av 5 (O.dR (cs':=[ag bq a0.ba,ag a7 a0.bw,ag bE a0.bc,ae a0.bx,ae a0.bA]) q (.obj q) gA q q)<|av 6 (O.aC (.aF q))<|bC.dE 7 (G2:=[(10,ak (bb aG) a8),(1,ag cR aw),(2,.obj (ck.cells a0))]) (U:=[(6,12,some (ag cR aw)),(5,11,some (.agg [ag bq a0.ba,ag a7 a0.bw,ag bE a0.bc,ae a0.bx,ae a0.bA]))]) (kV.v (b9.mY (b9.call q q (h2.lC (en:=(bb aG)) (L:=aD) (G2:=[(1,ag cR aw),(2,.obj (ck.cells a0))]) (ys:=[ag (bb aG) x2]) q q q q (JC aD x2 _ hJ) call84 (fC q q) q q)))) q q (by kernel_rfl) q q q (.c (.inr (.inr (.inr (.inr (.inl ⟨_,_,_,q,cV.bI⟩))))) q q q q q (gz.wanted .none) (O.aC (.aF q)) (.c (.inr (.inr (.inr (.inr (.inr ⟨_,q,tq.pl,Ji⟩))))) q q q q q (gz.wanted .none) (O.dR (cs':=[ag bq a0.ba,ag a7 a0.bw,ag bE a0.bc,ae a0.bx,ae a0.bA]) q (.obj q) gA q q) .nil)) (by kernel_rfl)<|gR 8 (cr.go (.bT (.b2 q q) (.bT (.aF q) .nil)) (Ps a0 aw _ n5) call87 q)<|bC.iZ 9 (G2:=[(14,ak (bb aG) cn)]) (b9.call q q (h2.lC (en:=(bb aG)) (L:=a8) (G2:=[]) (ys:=[ag (bb aG) b4]) q q q q (JC a8 b4 _ kM) call84 .nil q q)) q q q q (by kernel_rfl) (by kernel_rfl)<|bC.bv 10 (G2:=[]) (b9.ik q q (.own q) q .nil q q) q q q q (by kernel_rfl) (by kernel_rfl)<|bC.fin q q q (.n q .nil)) ?_
 refine ah.aU<|W.eF (G1:=[(4,ag (bb aG) cn)]) [4] (.z q q .ha .nil) ?_
 refine W.rt ?_
 obtain rfl:=au h
 exact cw (.f q q .nil)
theorem Pj (a0:b') (aw:(List Item)) (r:(List Int)) (h:Ba a0 aw=some r):b_ Try.prog 72 [.agg (ck.cells a0),ag dB aw] [none,none] (ag aG r):=by
 unfold Ba at h
 refine b_.go (N:=⟨51,[]⟩) Try.func72 q q q q (W.fin ?_)
 refine W.st [(0,.agg (ck.cells a0)),(1,ag dB aw)] ?_
 refine W.bV [1,2] (ai (O.box (.b2 q q) q)<|aq.aV) ?_
 refine W.aT [1,2,5] ?_
 obtain ⟨aD,fF,h⟩:=ax h
 refine W.bV [2,5,6] (ai (O.dR (cs':=[ag bq a0.ba,ag a7 a0.bw,ag bE a0.bc,ae a0.bx,ae a0.bA]) q (.obj q) gA q q)<|ai (O.aC (.aF q))<|eE (cr.go (.bT (.b2 q q) (.bT (.aF q) .nil)) (EK a0 aw _ fF) call80 q)<|aq.aV) ?_
 refine W.aX<|W.aT [2,5,6,7] ?_
 refine W.bf ?_
 obtain ⟨a8,ao,h⟩:=ax h
 refine W.ca (G1:=[(2,_),(5,ak aG ([]:List Int)),(6,_),(7,_)]) (.n q (.w q q .lb (fC q q))) ?_
 refine W.eg (s:=(([]:List Int),0)) (λ(s2:List Int × Int)=>[(2,.obj (ck.cells a0)),(5,ak aG s2.1),(6,ag dB aD),(7,j s2.2)]) 0 (λ(a8:List Int)=>[(5,ak aG a8)]) ao (λs2 o h=>?_) ?_
 ·clear ao
  refine W.aX<|W.aT [2,5,6,7,14] ?_
  refine W.bu h q (λdH h=>?_) (λdH h=>?_)
  ·refine W.bF<|ah.aU ?_
   refine W.aX ?_
   obtain ⟨kN,aa,h⟩:=ax h
   refine W.bs [(2,.obj (ck.cells a0)),(5,ak aG kN),(6,ag dB aD),(7,j s2.2)] ?_ ?_
   ·clear h; have h:=aa; clear aa
    refine W.bf<|W.aX ?_
    obtain ⟨qF,aa,h⟩:=ax h
    refine W.rd [[],[],[0,1],[0,1,2],[0,1,2,3],aN 0 5 [],aN 0 6 [],aN 0 7 [],aN 0 7 [],aN 0 9 [],aN 0 10 [],aN 0 11 [],aN 0 7 [],aN 0 7 [12],aN 0 7 [],aN 0 7 [],aN 0 7 [14,15],aN 0 7 [14,15,16],aN 0 7 [14,15,16,17],aN 0 7 (aN 12 7 []),aN 0 7 (aN 12 8 []),aN 0 7 (aN 12 9 []),aN 0 7 (aN 12 10 []),aN 0 23 [],aN 0 24 []] [(2,.obj (ck.cells a0)),(5,ak aG s2.1),(6,ag dB aD),(7,j s2.2),(41,a1 qF)] ei (by kernel_rfl) ?_ ?_
    ·refine av 0 (O.aC (.aF q))<|av 1 (O.aC (.lit q)) ?_
     obtain ⟨bz,gw,aa⟩:=ax aa
     refine av 2 (O.cC (.aF q) (.lit q) ki gw)<|av 3 (O.ez (.bo q) nA)<|av 4 (O.dd (x:=j bz.Prod) (.bo q) ct q)<|av 5 (O.gtr (.lit q) (.k q))<|av 6 (O.aC (.lit q)) ?_
     rcases cB aa with ⟨c3,aa⟩ | ⟨c3,aa⟩
     ·refine b8 7 c3 (O.aC (.aF q))<|b8 8 c3 (O.aC (.lit q)) ?_
      obtain ⟨cv,jx,aa⟩:=ax aa
      refine b8 9 c3 (O.cC (.aF q) (.lit q) ki jx)<|b8 10 c3 (O.ez (.bo q) rN)<|b8 11 c3 (O.dd (x:=j cv.dY) (.bo q) ct q)<|b8 12 c3 (O.a_ q (.obj q) lI q)<|b8 13 c3 (O.cU (y:=ag bE a0.bc) q (.ptr q) mX q q)<|b8 14 c3 (O.aC (.aF q))<|b8 15 c3 (O.aC (.lit q)) ?_
      obtain ⟨bM,iF,aa⟩:=ax aa
      refine b8 16 c3 (O.cC (.aF q) (.lit q) ki iF)<|b8 17 c3 (O.ez (.bo q) nA)<|b8 18 c3 (O.dd (x:=j bM.Prod) (.bo q) ct q) ?_
      obtain ⟨bD,gQ,aa⟩:=ax aa
      obtain rfl:=au aa
      exact b8 19 c3 (O.cC (.aF q) (.lit q) ns gQ)<|b8 20 c3 (O.ez (.bo q) mZ)<|b8 21 c3 (O.dd (x:=ag aG bD.fz) (.bo q) hC q)<|b8 22 c3 (O.hc (.aF q) eS)<|b8 23 c3 (O.eql (.lit q) (.lit q))<|av 24 (O.eB (.lit q) c3 (.lit q))<|bC.fin q q q (dX q q q q q)
     ·obtain rfl:=au aa
      exact bS 7 c3<|bS 8 c3<|bS 9 c3<|bS 10 c3<|bS 11 c3<|bS 12 c3<|bS 13 c3<|bS 14 c3<|bS 15 c3<|bS 16 c3<|bS 17 c3<|bS 18 c3<|bS 19 c3<|bS 20 c3<|bS 21 c3<|bS 22 c3<|bS 23 c3<|av 24 (O.dL (.lit q) c3 (.k q))<|bC.fin q q q (dX q q q q q)
    refine ah.aU ?_
    obtain ⟨jQ,aa,h⟩:=ax h
    refine W.bs [(2,.obj (ck.cells a0)),(5,ak aG jQ),(6,ag dB aD),(7,j s2.2)] ?_ ?_
    ·clear h; have h:=aa; clear aa
     refine W.bu h q (λeD h=>?_) (λeD h=>?_)
     ·obtain ⟨cH,hI,h⟩:=ax h
      obtain ⟨cj,jY,h⟩:=ax h
      refine W.bk [2,5,6,7] (ai (O.aC (.own q))<|ai (O.aC (.aF q))<|bp q<|ai (O.cC (.aF q) (.lit q) ki hI)<|ai (O.ez (.bo q) nA)<|ai (O.dd (x:=j cH.Prod) (.bo q) ct q)<|aq.eY (x:=ag aG [cH.Prod]) (O.dg (ys:=[j cH.Prod]) aG [cH.Prod] eS q q q q q q nR q q) q q .none<|ai (O.ap (en:=aG) (r:=cj) (.bl q) q (.aF q) .i nx q jY)<|aq.fN (G2:=[(2,.obj (ck.cells a0)),(6,ag dB aD),(7,j s2.2)]) q (b9.lp q q (.bR q) q q q (.n q q (.n q q (.n q q .nil))) q q)<|bK q) ?_
      obtain rfl:=au h
      exact ah.bs (dM q q q q)
     ·refine W.bF ?_
      obtain rfl:=au h
      exact ah.bs (dM q q q q)
    refine ah.bf ?_
    obtain rfl:=au h
    exact ah.bs (dM q q q q)
   refine ah.aU<|W.bk [2,5,6,7] (bp q<|ai (O.add (.lit q) (.k q))<|aq.bk [2,5,6,16] q<|aq.aV) ?_
   obtain rfl:=au h
   exact ah.go (dM q q q q)
  ·refine W.c9 ?_
   refine ah.c7 ?_
   obtain rfl:=au h
   exact ah.aD (.n q .nil)
 refine ah.c' ?_
 refine ah.aU<|W.bV [4] (ai (O.aC (.own q))<|aq.fN (G2:=[]) q (b9.ik q q (.bl q) q .nil q q)<|bK q) ?_
 refine W.eF (G1:=[(4,ag aG a8)]) [4] (.z q q .ha .nil) ?_
 refine W.rt ?_
 obtain rfl:=au h
 exact cw (.f q q .nil)
theorem Pk (a0:b') (aw:(List State)) (a2:Int) (a3:Int) (r:(List Int)) (h:Bb a0 aw a2 a3=some r):b_ Try.prog 73 [.agg (ck.cells a0),ag cR aw,j a2,j a3] [none,none,none,none] (ag aG r):=by
 unfold Bb at h
 refine b_.go (N:=⟨74,[]⟩) Try.func73 q q q q (W.fin ?_)
 refine W.st [(0,.agg (ck.cells a0)),(1,ag cR aw),(2,j a2),(3,j a3)] ?_
 refine W.bV [1,2,3,4] (ai (O.box (.b2 q q) q)<|aq.aV) ?_
 refine W.aX ?_
 obtain ⟨c4,aa,h⟩:=ax h
 refine W.rs [(1,ag cR aw),(2,j a2),(3,j a3),(4,.obj (ck.cells a0)),(30,a1 c4)] ?_ ?_
 ·refine bp q<|ai (O.lss (.lit q) (.k q))<|ai (O.aC (.lit q)) ?_
  rcases cB aa with ⟨db,aa⟩ | ⟨db,aa⟩
  ·obtain rfl:=au aa
   exact aq.aV
  ·refine aW db (O.aC (.lit q))<|aW db (O.aC (.aF q))<|aW db (O.hc (.aF q) mO)<|aW db (O.geq (.lit q) (.lit q))<|ai (O.dL (.lit q) db (.lit q))<|ai (O.aC (.lit q)) ?_
   rcases cB aa with ⟨cP,aa⟩ | ⟨cP,aa⟩
   ·obtain rfl:=au aa
    exact aq.aV
   ·refine aW cP (O.aC (.lit q))<|aW cP (O.lss (.lit q) (.k q))<|ai (O.dL (.lit q) cP (.lit q))<|ai (O.aC (.lit q)) ?_
    rcases cB aa with ⟨fe,aa⟩ | ⟨fe,aa⟩
    ·obtain rfl:=au aa
     exact aq.aV
    ·obtain rfl:=au aa
     exact aq.aV
 refine W.bu h q (λdH h=>?_) (λdH h=>?_)
 ·refine W.aT [8] ?_
  refine W.eF (G1:=[(8,ag aG ([]:List Int))]) [8] (.z q q .ha .nil) ?_
  refine W.rt ?_
  refine ah.c5 ?_
  obtain rfl:=au h
  exact cw (.f q q .nil)
 ·refine W.bF<|ah.aU ?_
  obtain ⟨bP,ga,h⟩:=ax h
  refine W.bV [1,2,3,4,9] (ai (O.aC (.aF q))<|eE (cr.go (.bT (.aF q) .nil) (Cq aw _ ga) call88 q)<|aq.aV) ?_
  refine W.aT [1,2,3,4,9,10] ?_
  refine W.aX<|W.aT [1,2,3,4,9,10,11] ?_
  refine W.bf ?_
  obtain ⟨b1,ao,h⟩:=ax h
  refine W.ca (G1:=[(1,_),(2,_),(3,_),(4,_),(9,_),(10,ak aG ([]:List Int)),(11,_)]) (.n q (.n q (.n q (.n q (.n q (.w q q .lb (.n q .nil))))))) ?_
  refine W.eg (s:=(([]:List Int),0)) (λ(ev:List Int × Int)=>[(1,ag cR aw),(2,j a2),(3,j a3),(4,.obj (ck.cells a0)),(9,ag fW bP),(10,ak aG ev.1),(11,j ev.2)]) 0 (λ(b1:List Int)=>[(10,ak aG b1)]) ao (λev o h=>?_) ?_
  ·clear ao
   refine W.aX<|W.aT [1,2,3,4,9,10,11,36] ?_
   refine W.bu h q (λeJ h=>?_) (λeJ h=>?_)
   ·refine W.bF<|ah.aU ?_
    refine W.aX ?_
    obtain ⟨gT,aa,h⟩:=ax h
    refine W.bs [(1,ag cR aw),(2,j a2),(3,j a3),(4,.obj (ck.cells a0)),(9,ag fW bP),(10,ak aG gT),(11,j ev.2)] ?_ ?_
    ·clear h; have h:=aa; clear aa
     refine W.bf<|W.aX ?_
     obtain ⟨nW,aa,h⟩:=ax h
     refine W.rd [[],[],[0,1],[0,1,2],[0,1,2,3],[],[5],[],[5,6,7],[5,6,7,8],aN 5 5 [],aN 5 6 [],aN 0 12 [],aN 0 13 [],aN 0 14 [],aN 0 14 [],aN 0 14 [],aN 0 14 [15,16],aN 0 14 [15,16,17],aN 0 14 [15,16,17,18],aN 0 14 [],aN 0 14 [20],aN 0 14 [],aN 0 14 [20,21,22],aN 0 14 [20,21,22,23],aN 0 14 (aN 20 5 []),aN 0 26 [],aN 0 14 [],aN 0 28 [],aN 0 29 []] [(1,ag cR aw),(2,j a2),(3,j a3),(4,.obj (ck.cells a0)),(9,ag fW bP),(10,ak aG ev.1),(11,j ev.2),(68,a1 nW)] ei (by kernel_rfl) ?_ ?_
     ·refine av 0 (O.aC (.aF q))<|av 1 (O.aC (.lit q)) ?_
      obtain ⟨dh,kL,aa⟩:=ax aa
      refine av 2 (O.cC (.aF q) (.lit q) qs kL)<|av 3 (O.ez (.bo q) zl)<|av 4 (O.dd (x:=j dh.e4) (.bo q) ct q)<|av 5 (O.a_ q (.obj q) lI q)<|av 6 (O.cU (y:=ag bE a0.bc) q (.ptr q) mX q q)<|av 7 (O.aC (.lit q)) ?_
      obtain ⟨eb,jX,aa⟩:=ax aa
      refine av 8 (O.cC (.aF q) (.lit q) ns jX)<|av 9 (O.ez (.bo q) zj)<|av 10 (O.dd (x:=j eb.Left) (.bo q) ct q)<|av 11 (O.add (.k q) (.lit q))<|av 12 (O.eql (.lit q) (.lit q))<|av 13 (O.aC (.lit q)) ?_
      rcases cB aa with ⟨eD,aa⟩ | ⟨eD,aa⟩
      ·refine b8 14 eD (O.aC (.aF q))<|b8 15 eD (O.aC (.aF q))<|b8 16 eD (O.aC (.lit q)) ?_
       obtain ⟨cH,hI,aa⟩:=ax aa
       refine b8 17 eD (O.cC (.aF q) (.lit q) qs hI)<|b8 18 eD (O.ez (.bo q) xl)<|b8 19 eD (O.dd (x:=j cH.State) (.bo q) ct q)<|b8 20 eD (O.a_ q (.obj q) lI q)<|b8 21 eD (O.cU (y:=ag bE a0.bc) q (.ptr q) mX q q)<|b8 22 eD (O.aC (.lit q)) ?_
       obtain ⟨cj,jY,aa⟩:=ax aa
       refine b8 23 eD (O.cC (.aF q) (.lit q) ns jY)<|b8 24 eD (O.ez (.bo q) mZ)<|b8 25 eD (O.dd (x:=ag aG cj.fz) (.bo q) hC q) ?_
       obtain ⟨bZ,gS,aa⟩:=ax aa
       obtain rfl:=au aa
       exact bC.c 26 (cr.go (.bT (.aF q) (.bT (.lit q) (.bT (.aF q) .nil))) (JD aw cH.State cj.fz _ gS) call89 q) q q q q (.hf q q eD)<|b8 27 eD (O.aC (.lit q))<|b8 28 eD (O.eql (.lit q) (.lit q))<|av 29 (O.eB (.lit q) eD (.lit q))<|bC.fin q q q (jR q q q q q q q q)
      ·obtain rfl:=au aa
       exact bS 14 eD<|bS 15 eD<|bS 16 eD<|bS 17 eD<|bS 18 eD<|bS 19 eD<|bS 20 eD<|bS 21 eD<|bS 22 eD<|bS 23 eD<|bS 24 eD<|bS 25 eD<|bS 26 eD<|bS 27 eD<|bS 28 eD<|av 29 (O.dL (.lit q) eD (.k q))<|bC.fin q q q (jR q q q q q q q q)
     refine ah.aU ?_
     obtain ⟨fX,aa,h⟩:=ax h
     refine W.bs [(1,ag cR aw),(2,j a2),(3,j a3),(4,.obj (ck.cells a0)),(9,ag fW bP),(10,ak aG fX),(11,j ev.2)] ?_ ?_
     ·clear h; have h:=aa; clear aa
      refine W.bu h q (λka h=>?_) (λka h=>?_)
      ·obtain ⟨dk,nF,h⟩:=ax h
       refine W.bk [1,2,3,4,9,10,11] (ai (O.aC (.own q))<|bp q<|aq.eY (x:=ag aG [ev.2]) (O.dg (ys:=[j ev.2]) aG [ev.2] eS q q q q q q nR q q) q q .none<|ai (O.ap (en:=aG) (r:=dk) (.bl q) q (.aF q) .i nx q nF)<|aq.fN (G2:=[(1,ag cR aw),(2,j a2),(3,j a3),(4,.obj (ck.cells a0)),(9,ag fW bP),(11,j ev.2)]) q (b9.lp q q (.bR q) q q q (.n q q (.n q q (.n q q (.n q q (.n q q (.n q q .nil)))))) q q)<|bK q) ?_
       obtain rfl:=au h
       exact ah.bs (g_ q q q q q q q)
      ·refine W.bF ?_
       obtain rfl:=au h
       exact ah.bs (g_ q q q q q q q)
     refine ah.bf ?_
     obtain rfl:=au h
     exact ah.bs (g_ q q q q q q q)
    refine ah.aU<|W.bk [1,2,3,4,9,10,11] (bp q<|ai (O.add (.lit q) (.k q))<|aq.bk [1,2,3,4,9,10,38] q<|aq.aV) ?_
    obtain rfl:=au h
    exact ah.go (g_ q q q q q q q)
   ·refine W.c9 ?_
    refine ah.c7 ?_
    obtain rfl:=au h
    exact ah.aD (.n q .nil)
  refine ah.c' ?_
  refine ah.aU<|W.bV [8] (ai (O.aC (.own q))<|aq.fN (G2:=[]) q (b9.ik q q (.bl q) q .nil q q)<|bK q) ?_
  refine W.eF (G1:=[(8,ag aG b1)]) [8] (.z q q .ha .nil) ?_
  refine W.rt ?_
  obtain rfl:=au h
  exact cw (.f q q .nil)
theorem Pc (a0:b') (aw:(List State)) (r:(List j8)) (h:A8 a0 aw=some r):b_ Try.prog 54 [.agg (ck.cells a0),ag cR aw] [none,none] (ag hW r):=by
 unfold A8 at h
 refine b_.go (N:=⟨87,[]⟩) Try.func54 q q q q (W.fin ?_)
 refine W.st [(0,.agg (ck.cells a0)),(1,ag cR aw)] ?_
 refine W.bV [1,2] (ai (O.box (.b2 q q) q)<|aq.aV) ?_
 obtain ⟨aD,fF,h⟩:=ax h
 refine W.bV [1,2,5] (ai (O.dR (cs':=[ag bq a0.ba,ag a7 a0.bw,ag bE a0.bc,ae a0.bx,ae a0.bA]) q (.obj q) gA q q)<|ai (O.aC (.aF q))<|eE (cr.go (.bT (.b2 q q) (.bT (.aF q) .nil)) (Ph a0 aw _ fF) call71 q)<|aq.aV) ?_
 refine W.aT [1,2,5,6] ?_
 refine W.aX<|W.aT [1,2,5,6,7] ?_
 refine W.bf ?_
 obtain ⟨a8,ao,h⟩:=ax h
 refine W.ca (G1:=[(1,_),(2,_),(5,_),(6,ak hW ([]:List j8)),(7,_)]) (.n q (.n q (.n q (.w q q .lb (.n q .nil))))) ?_
 refine W.eg (s:=(([]:List j8),0)) (λ(s2:List j8 × Int)=>[(1,ag cR aw),(2,.obj (ck.cells a0)),(5,ag (bb aG) aD),(6,ak hW s2.1),(7,j s2.2)]) 0 (λ(a8:List j8)=>[(6,ak hW a8)]) ao (λs2 o h=>?_) ?_
 ·clear ao
  refine W.aX<|W.aT [1,2,5,6,7,20] ?_
  refine W.bu h q (λdH h=>?_) (λdH h=>?_)
  ·refine W.bF<|ah.aU ?_
   refine W.aX<|W.bf ?_
   refine W.aX ?_
   obtain ⟨bP,ga,h⟩:=ax h
   obtain ⟨bz,gw,h⟩:=ax h
   refine W.rd [[],[],[],[1,2],[1,2,3],[1,2,3,4],aN 0 6 [],aN 0 7 []] [(1,_),(2,_),(5,_),(6,_),(7,_),(8,_)] ei (by kernel_rfl) (av 0 (O.dR (cs':=[ag bq a0.ba,ag a7 a0.bw,ag bE a0.bc,ae a0.bx,ae a0.bA]) q (.obj q) gA q q)<|av 1 (O.aC (.aF q))<|av 2 (O.aC (.lit q))<|av 3 (O.cC (.aF q) (.lit q) mO ga)<|av 4 (O.ez (.bo q) u9)<|av 5 (O.dd (x:=ag dB bP.Kernel) (.bo q) u5 q)<|gR 6 (cr.go (.bT (.b2 q q) (.bT (.aF q) .nil)) (Pj a0 bP.Kernel _ gw) call72 q)<|av 7 (O.ec (.aF q))<|bC.fin q q q (fw q q q q q q)) ?_
   refine ah.aU<|W.aT [1,2,5,6,7,8,9] ?_
   refine W.bf ?_
   obtain ⟨cv,ao,h⟩:=ax h
   refine W.ca (G1:=[(1,_),(2,_),(5,_),(6,_),(7,_),(8,_),(9,_)]) (g_ q q q q q q q) ?_
   refine W.eg (s:=(s2.1,0)) (λ(dT:List j8 × Int)=>[(1,ag cR aw),(2,.obj (ck.cells a0)),(5,ag (bb aG) aD),(6,ak hW dT.1),(7,j s2.2),(8,ag aG bz),(9,j dT.2)]) 2 (λ(cv:List j8)=>[(1,ag cR aw),(2,.obj (ck.cells a0)),(5,ag (bb aG) aD),(6,ak hW cv),(7,j s2.2)]) ao (λdT o h=>?_) ?_
   ·clear ao
    refine W.aX<|W.aT [1,2,5,6,7,8,9,33] ?_
    refine W.bu h q (λe_ h=>?_) (λe_ h=>?_)
    ·refine W.bF<|ah.aU ?_
     refine W.aX<|W.bf ?_
     obtain ⟨dh,kL,h⟩:=ax h
     refine W.bV [1,2,5,6,7,8,9,10] (bp q<|ai (O.aC (.aF q))<|bp q<|ai (O.cC (.aF q) (.lit q) eS kL)<|ai (O.dd (x:=j dh) (.bo q) ct q)<|ai (O.dE (cs:=[j s2.2,j dh,.aI]) Up M_ q q q)<|ai (O.fq (cs:=[j 0,j 0,.aI]) M_ q q)<|aq.dx (G2:=[(1,_),(2,_),(5,_),(6,_),(7,_),(8,_),(9,_),(10,_)]) (cs2:=[j s2.2,j dh,.aI]) q (.obj q) (.b2 q q) q UK q q q q (.n q q (.n q q (.n q q (.n q q (.n q q (.n q q (.n q q (.b q .nil))))))))<|bK q) ?_
     refine W.aX ?_
     obtain ⟨eb,jX,h⟩:=ax h
     obtain ⟨dU,jP,h⟩:=ax h
     refine W.rd [[],[],[],[],[],[3,4],[3,4,5],aN 0 7 [],aN 0 8 []] [(1,_),(2,_),(5,_),(6,_),(7,_),(8,_),(9,_),(10,_),(11,_)] ei (by kernel_rfl) (av 0 (O.dR (cs':=[ag bq a0.ba,ag a7 a0.bw,ag bE a0.bc,ae a0.bx,ae a0.bA]) q (.obj q) gA q q)<|av 1 (O.aC (.aF q))<|av 2 (O.aC (.lit q))<|av 3 (O.aC (.aF q))<|av 4 (O.aC (.lit q))<|av 5 (O.cC (.aF q) (.lit q) eS jX)<|av 6 (O.dd (x:=j eb) (.bo q) ct q)<|gR 7 (cr.go (.bT (.b2 q q) (.bT (.aF q) (.bT (.lit q) (.bT (.lit q) .nil)))) (Pk a0 aw s2.2 eb _ jP) call73 q)<|av 8 (O.ec (.aF q))<|bC.fin q q q (iI q q q q q q q q q)) ?_
     refine ah.aU<|W.aX ?_
     refine W.aT [1,2,5,6,7,8,9,10,11,12] ?_
     refine W.bf ?_
     obtain ⟨cj,ao,h⟩:=ax h
     refine W.ca (G1:=[(1,_),(2,_),(5,_),(6,_),(7,_),(8,_),(9,_),(10,.obj [j s2.2,j dh,ag aG ([]:List Int)]),(11,_),(12,_)]) (.n q (.n q (.n q (.n q (.n q (.n q (.n q (.w q q (jg.obj (.f (.f (.i .nil)))) (fC q q))))))))) ?_
     refine W.eg (s:=(([]:List Int),0)) (λ(jd:List Int × Int)=>[(1,ag cR aw),(2,.obj (ck.cells a0)),(5,ag (bb aG) aD),(6,ak hW dT.1),(7,j s2.2),(8,ag aG bz),(9,j dT.2),(10,.obj [j s2.2,j dh,ag aG jd.1]),(11,ag aG dU),(12,j jd.2)]) 4 (λ(cj:List Int)=>[(1,ag cR aw),(2,.obj (ck.cells a0)),(5,ag (bb aG) aD),(6,ak hW dT.1),(7,j s2.2),(8,ag aG bz),(9,j dT.2),(10,.obj [j s2.2,j dh,ag aG cj])]) ao (λjd o h=>?_) ?_
     ·clear ao
      refine W.aX<|W.aT [1,2,5,6,7,8,9,10,11,12,53] ?_
      refine W.bu h q (λht h=>?_) (λht h=>?_)
      ·refine W.bF<|ah.aU ?_
       refine W.aX<|W.bf ?_
       refine W.aT [1,2,5,6,7,8,9,10,11,12,13] ?_
       refine W.bf ?_
       obtain ⟨dj,ao,h⟩:=ax h
       refine W.ca (G1:=[(1,_),(2,_),(5,_),(6,_),(7,_),(8,_),(9,_),(10,_),(11,_),(12,_),(13,_)]) (DW q q q q q q q q q q q) ?_
       refine W.eg (s:=(jd.1,0)) (λ(c6:List Int × Int)=>[(1,ag cR aw),(2,.obj (ck.cells a0)),(5,ag (bb aG) aD),(6,ak hW dT.1),(7,j s2.2),(8,ag aG bz),(9,j dT.2),(10,.obj [j s2.2,j dh,ag aG c6.1]),(11,ag aG dU),(12,j jd.2),(13,j c6.2)]) 6 (λ(dj:List Int)=>[(1,ag cR aw),(2,.obj (ck.cells a0)),(5,ag (bb aG) aD),(6,ak hW dT.1),(7,j s2.2),(8,ag aG bz),(9,j dT.2),(10,.obj [j s2.2,j dh,ag aG dj]),(11,ag aG dU),(12,j jd.2)]) ao (λc6 o h=>?_) ?_
       ·clear ao
        refine W.aX ?_
        obtain ⟨fx,nG,h⟩:=ax h
        obtain ⟨e2,nf,h⟩:=ax h
        refine W.aT [1,2,5,6,7,8,9,10,11,12,13,65] ?_
        refine W.bu h q (λvi h=>?_) (λvi h=>?_)
        ·refine W.bF<|ah.aU ?_
         refine W.aX<|W.bf ?_
         obtain ⟨e6,k',h⟩:=ax h
         obtain ⟨gh,qa,h⟩:=ax h
         obtain ⟨fE,l6,h⟩:=ax h
         obtain ⟨c8,sY,h⟩:=ax h
         refine W.rd [[],[0],[],[],[],[3,4],[3,4,5],aN 2 5 [],aN 2 6 [],[],aN 2 8 [],aN 2 9 [],aN 0 12 [],aN 0 13 [],aN 0 14 []] [(1,_),(2,_),(5,_),(6,_),(7,_),(8,_),(9,_),(10,_),(11,_),(12,_),(13,_)] ei (by kernel_rfl) (av 0 (O.a_ q (.obj q) Cy q)<|av 1 (O.cU (y:=ag aG c6.1) q (.ptr q) hC q q)<|av 2 (O.aC (.aF q))<|av 3 (O.aC (.aF q))<|av 4 (O.aC (.lit q))<|av 5 (O.cC (.aF q) (.lit q) eS k')<|av 6 (O.dd (x:=j e6) (.bo q) ct q)<|av 7 (O.cC (.aF q) (.lit q) kQ qa)<|av 8 (O.dd (x:=ag aG gh) (.bo q) hC q)<|av 9 (O.aC (.lit q))<|av 10 (O.cC (.aF q) (.lit q) eS l6)<|av 11 (O.dd (x:=j fE) (.bo q) ct q)<|gR 12 (cr.go (.bT (.aF q) (.bT (.lit q) .nil)) (tB c6.1 fE _ sY) call67 q)<|av 13 (O.a_ q (.obj q) Cy q)<|bC.dx 14 (G2:=[(1,ag cR aw),(2,.obj (ck.cells a0)),(5,ag (bb aG) aD),(6,ak hW dT.1),(7,j s2.2),(8,ag aG bz),(9,j dT.2),(10,.obj [j s2.2,j dh,ag aG c8]),(11,ag aG dU),(12,j jd.2),(13,j c6.2)]) (cs2:=[j s2.2,j dh,ag aG c8]) q (by kernel_rfl) (by kernel_rfl) q q q (.ptr q) (.aF q) q wy q q q q (.n q q (.n q q (.n q q (.n q q (.n q q (.n q q (.n q q (.b q (.n q q (.n q q (.n q q .nil)))))))))))<|bC.fin q q q (DW q q q q q q q q q q q)) ?_
         refine ah.bf ?_
         refine ah.aU<|W.bk [1,2,5,6,7,8,9,10,11,12,13] (bp q<|ai (O.add (.lit q) (.k q))<|aq.bk [1,2,5,6,7,8,9,10,11,12,67] q<|aq.aV) ?_
         obtain rfl:=au h
         exact ah.go (DW q q q q q q q q q q q)
        ·refine W.c9 ?_
         refine ah.c7 ?_
         obtain rfl:=au h
         exact ah.aD (r9 q q q q q q q q q q)
       refine ah.c' ?_
       refine ah.bf ?_
       refine ah.aU<|W.bk [1,2,5,6,7,8,9,10,11,12] (bp q<|ai (O.add (.lit q) (.k q))<|aq.bk [1,2,5,6,7,8,9,10,11,55] q<|aq.aV) ?_
       obtain rfl:=au h
       exact ah.go (r9 q q q q q q q q q q)
      ·refine W.c9 ?_
       refine ah.c7 ?_
       obtain rfl:=au h
       exact ah.aD (jR q q q q q q q q)
     refine ah.c' ?_
     refine ah.aU ?_
     obtain ⟨e3,l7,h⟩:=ax h
     refine W.bk [1,2,5,6,7,8,9] (ai (O.aC (.own q))<|ai (O.dR (cs':=[j s2.2,j dh,ag aG cj]) q (.obj q) N9 q q)<|aq.eY (x:=ag hW [(⟨s2.2,dh,cj⟩:j8)]) (O.dg (ys:=[.agg [j s2.2,j dh,ag aG cj]]) hW [(⟨s2.2,dh,cj⟩:j8)] Bs q q q q q q Vp q q) q q .none<|ai (O.ap (en:=hW) (r:=e3) (.bl q) q (.aF q) .i NT q l7)<|aq.fN (G2:=[(1,ag cR aw),(2,.obj (ck.cells a0)),(5,ag (bb aG) aD),(7,j s2.2),(8,ag aG bz),(9,j dT.2)]) q (b9.lp q q (.bR q) q q q (.n q q (.n q q (.n q q (.n q q (.n q q (.n q q .nil)))))) q q)<|bK q) ?_
     refine ah.bf ?_
     refine ah.aU<|W.bk [1,2,5,6,7,8,9] (bp q<|ai (O.add (.lit q) (.k q))<|aq.bk [1,2,5,6,7,8,35] q<|aq.aV) ?_
     obtain rfl:=au h
     exact ah.go (g_ q q q q q q q)
    ·refine W.c9 ?_
     refine ah.c7 ?_
     obtain rfl:=au h
     exact ah.aD (dX q q q q q)
   refine ah.c' ?_
   refine ah.bf ?_
   refine ah.aU<|W.bk [1,2,5,6,7] (bp q<|ai (O.add (.lit q) (.k q))<|aq.bk [1,2,5,6,22] q<|aq.aV) ?_
   obtain rfl:=au h
   exact ah.go (dX q q q q q)
  ·refine W.c9 ?_
   refine ah.c7 ?_
   obtain rfl:=au h
   exact ah.aD (.n q .nil)
 refine ah.c' ?_
 refine ah.aU<|W.bV [4] (ai (O.aC (.own q))<|aq.fN (G2:=[]) q (b9.ik q q (.bl q) q .nil q q)<|bK q) ?_
 refine W.eF (G1:=[(4,ag hW a8)]) [4] (.z q q .ha .nil) ?_
 refine W.rt ?_
 obtain rfl:=au h
 exact cw (.f q q .nil)
theorem O5 (a0:Source) (r:b' × (List State) × (List Cell) × Bool) (h:A0 a0=some r):b_ Try.prog 30 [.agg (da.cells a0)] [none] (.cG [.agg (ck.cells r.1),ag cR r.2.1,ag fc r.2.2.1,a1 r.2.2.2]):=by
 unfold A0 at h
 refine b_.go (N:=⟨26,[]⟩) Try.func30 q q q q (W.fin ?_)
 refine W.st [(0,.agg (da.cells a0))] ?_
 refine W.bV [1,2] (ai (O.box (.b2 q q) q)<|ai (O.fq (cs:=[.aI,.aI,.aI,ae aA,ae aA]) oY q q)<|aq.aV) ?_
 obtain ⟨aD,fF,h⟩:=ax h
 refine W.bV [2,6,7,8] (ai (O.dR (cs':=[ae a0.bx,ag cx a0.Decls,ag eM a0.dD,ae a0.bA]) q (.obj q) qE q q)<|eE (cr.go (.bT (.b2 q q) .nil) (Pa a0 _ fF) call52 q)<|ai (O.aC (.cG q q))<|ai (O.ex (y:=.agg (ck.cells aD.1)) q q q)<|ai (O.ex (y:=ag cR aD.2.1) q q q)<|ai (O.ex (y:=a1 aD.2.2) q q q)<|ai (O.fq (cs:=[.aI,.aI,.aI,ae aA,ae aA]) oY q q)<|aq.dx (G2:=[(2,_),(6,_),(13,_),(14,_)]) (cs2:=[ag bq aD.1.ba,ag a7 aD.1.bw,ag bE aD.1.bc,ae aD.1.bx,ae aD.1.bA]) q (.obj q) (.b2 q q) q nt q q q q (.n q q (.b q (.n q q (.n q q .nil))))<|aq.aV) ?_
 refine W.aX<|W.aT [2,6,7,16] ?_
 refine W.bu h q (λcP h=>?_) (λcP h=>?_)
 ·refine W.bV [2,3,4,5] (ai (O.dR (cs':=[ag bq aD.1.ba,ag a7 aD.1.bw,ag bE aD.1.bc,ae aD.1.bx,ae aD.1.bA]) q (.obj q) gA q q)<|aq.dx (G2:=[(2,_)]) (cs2:=[ag bq aD.1.ba,ag a7 aD.1.bw,ag bE aD.1.bc,ae aD.1.bx,ae aD.1.bA]) q (.obj q) (.b2 q q) q nt q q q q (.b q .nil)<|aq.aV) ?_
  refine W.eF (G1:=[(2,_),(3,ag cR ([]:List State)),(4,ag fc ([]:List Cell)),(5,_)]) [3,4] (.n q q (.z q q .ha (.z q q .ha (.n q q .nil)))) ?_
  refine W.rt ?_
  refine ah.c5 ?_
  obtain rfl:=au h
  exact cw (.c (ys0:=[ag bq aD.1.ba,ag a7 aD.1.bw,ag bE aD.1.bc,ae aD.1.bx,ae aD.1.bA]) q gA q q q (.f q (.f q (.f q (.f q (.f q .nil))))) (.f q q (.f q q (.f q q .nil))))
 ·refine W.bF<|ah.aU ?_
  refine W.aX ?_
  obtain ⟨a8,hJ,h⟩:=ax h
  obtain ⟨b4,n5,h⟩:=ax h
  refine W.rd [[],[],[],[],[],[],[4,5],aN 2 5 [],(0::aN 2 6 []),aN 0 9 [],aN 0 10 [],aN 0 11 []] [(2,_),(3,_),(4,_),(5,_)] ei (by kernel_rfl) (av 0 (O.dR (cs':=[ag bq aD.1.ba,ag a7 aD.1.bw,ag bE aD.1.bc,ae aD.1.bx,ae aD.1.bA]) q (.obj q) gA q q)<|av 1 (O.aC (.aF q))<|av 2 (O.dR (cs':=[ag bq aD.1.ba,ag a7 aD.1.bw,ag bE aD.1.bc,ae aD.1.bx,ae aD.1.bA]) q (.obj q) gA q q)<|av 3 (O.aC (.aF q))<|av 4 (O.dR (cs':=[ag bq aD.1.ba,ag a7 aD.1.bw,ag bE aD.1.bc,ae aD.1.bx,ae aD.1.bA]) q (.obj q) gA q q)<|av 5 (O.aC (.aF q))<|gR 6 (cr.go (.bT (.b2 q q) (.bT (.aF q) .nil)) (Pc aD.1 aD.2.1 _ hJ) call54 q)<|gR 7 (cr.go (.bT (.b2 q q) (.bT (.aF q) (.bT (.aF q) .nil))) (Pb aD.1 aD.2.1 a8 _ n5) call53 q)<|bC.dE 8 (G2:=[(2,.obj (ck.cells aD.1)),(7,ag cR aD.2.1),(25,ag fc b4)]) (U:=[(1,19,some (ag cR aD.2.1))]) (kV.v (b9.mY (b9.dx (G2:=[(2,.obj (ck.cells aD.1)),(7,ag cR aD.2.1),(25,ag fc b4)]) (cs2:=[ag bq aD.1.ba,ag a7 aD.1.bw,ag bE aD.1.bc,ae aD.1.bx,ae aD.1.bA]) q q q (.obj q) (.b2 q q) q nt q q q q (.b q (.n q q (.n q q .nil)))))) q q (by kernel_rfl) q q q (.c (.inr (.inr (.inr (.inr (.inl ⟨_,_,_,q,cV.bI⟩))))) q q q q q (gz.wanted .none) (O.aC (.aF q)) .nil) (by kernel_rfl)<|av 9 (O.ec (.aF q))<|av 10 (O.ec (.aF q))<|av 11 (O.ec (.k q))<|bC.fin q q q (dM q q q q)) ?_
  refine ah.aU<|W.rt ?_
  obtain rfl:=au h
  exact cw (.c (ys0:=[ag bq aD.1.ba,ag a7 aD.1.bw,ag bE aD.1.bc,ae aD.1.bx,ae aD.1.bA]) q gA q q q (.f q (.f q (.f q (.f q (.f q .nil))))) (.f q q (.f q q (.f q q .nil))))
theorem Pt (a0:b') (aw:Int) (r:Int × Int) (h:Bk a0 aw=some r):b_ Try.prog 91 [.agg (ck.cells a0),j aw] [none,none] (.cG [j r.1,j r.2]):=by
 unfold Bk at h
 refine b_.go (N:=⟨39,[]⟩) Try.func91 q q q q (W.fin ?_)
 refine W.st [(0,.agg (ck.cells a0)),(1,j aw)] ?_
 refine W.bV [1,2] (ai (O.box (.b2 q q) q)<|aq.aV) ?_
 refine W.aX ?_
 obtain ⟨c4,aa,h⟩:=ax h
 refine W.rs [(1,j aw),(2,.obj (ck.cells a0)),(24,a1 c4)] ?_ ?_
 ·refine bp q<|ai (O.lss (.lit q) (.k q))<|ai (O.aC (.lit q)) ?_
  rcases cB aa with ⟨db,aa⟩ | ⟨db,aa⟩
  ·obtain rfl:=au aa
   exact aq.aV
  ·refine aW db (O.aC (.lit q))<|aW db (O.a_ q (.obj q) lI q)<|aW db (O.cU (y:=ag bE a0.bc) q (.ptr q) mX q q)<|aW db (O.hc (.aF q) ns)<|aW db (O.geq (.lit q) (.lit q))<|ai (O.dL (.lit q) db (.lit q))<|ai (O.aC (.lit q)) ?_
   rcases cB aa with ⟨cP,aa⟩ | ⟨cP,aa⟩
   ·obtain rfl:=au aa
    exact aq.aV
   ·refine aW cP (O.a_ q (.obj q) lI q)<|aW cP (O.cU (y:=ag bE a0.bc) q (.ptr q) mX q q)<|aW cP (O.aC (.lit q)) ?_
    obtain ⟨a8,hJ,aa⟩:=ax aa
    obtain rfl:=au aa
    exact aq.aV
 refine W.bu h q (λdH h=>?_) (λdH h=>?_)
 ·refine W.aT [4,5] ?_
  refine W.rt ?_
  refine ah.c5 ?_
  obtain rfl:=au h
  exact cw (.f q q (.f q q .nil))
 ·refine W.bF<|ah.aU ?_
  refine W.aX ?_
  obtain ⟨bP,ga,h⟩:=ax h
  obtain ⟨bz,gw,h⟩:=ax h
  refine W.rd [[],[0],[],[2],[],[2,3,4],[2,3,4,5],aN 2 5 [],aN 0 8 [],aN 0 9 [],[],aN 0 11 []] [(6,_)] ei (by kernel_rfl) (av 0 (O.a_ q (.obj q) oD q)<|av 1 (O.cU (y:=ag bq a0.ba) q (.ptr q) pZ q q)<|av 2 (O.a_ q (.obj q) lI q)<|av 3 (O.cU (y:=ag bE a0.bc) q (.ptr q) mX q q)<|av 4 (O.aC (.lit q))<|av 5 (O.cC (.aF q) (.lit q) ns ga)<|av 6 (O.ez (.bo q) zk)<|av 7 (O.dd (x:=j bP.Prec) (.bo q) ct q)<|av 8 (O.cC (.aF q) (.lit q) qt gw)<|av 9 (O.iq (cs':=[ae bz.Name,a1 bz.Lit,j bz.cJ,j bz.Level,j bz.fy,ae bz.Tag]) (.bo q) Eo q q)<|av 10 (O.fq (cs:=[ae aA,a1 false,j 0,j 0,j 0,ae aA]) wH q q)<|bC.dx 11 (G2:=[(6,.obj (bq.cells bz))]) (cs2:=[ae bz.Name,a1 bz.Lit,j bz.cJ,j bz.Level,j bz.fy,ae bz.Tag]) q (by kernel_rfl) (by kernel_rfl) q q q (.obj q) (.b2 q q) q HY q q q q (.b q .nil)<|bC.fin q q q (.n q .nil)) ?_
  refine ah.aU<|W.aX ?_
  refine W.rd [[],[0],[],[2],[0,1],aN 0 5 []] [(4,_),(5,_)] ei (by kernel_rfl) (av 0 (O.a_ q (.obj q) CD q)<|av 1 (O.cq q (.ptr q) ct q)<|av 2 (O.a_ q (.obj q) E1 q)<|av 3 (O.cq q (.ptr q) ct q)<|av 4 (O.ec (.lit q))<|av 5 (O.ec (.lit q))<|bC.fin q q q (fC q q)) ?_
  refine ah.aU<|W.rt ?_
  obtain rfl:=au h
  exact cw (.f q q (.f q q .nil))
theorem Pl (a0:b') (aw:Int) (a2:Int) (r:Int) (h:Bc a0 aw a2=some r):b_ Try.prog 75 [.agg (ck.cells a0),j aw,j a2] [none,none,none] (j r):=by
 unfold Bc at h
 refine b_.go (N:=⟨61,[]⟩) Try.func75 q q q q (W.fin ?_)
 refine W.st [(0,.agg (ck.cells a0)),(1,j aw),(2,j a2)] ?_
 refine W.bV [1,2,3] (ai (O.box (.b2 q q) q)<|aq.aV) ?_
 obtain ⟨aD,fF,h⟩:=ax h
 refine W.bV [2,3,7] (ai (O.dR (cs':=[ag bq a0.ba,ag a7 a0.bw,ag bE a0.bc,ae a0.bx,ae a0.bA]) q (.obj q) gA q q)<|bp q<|eE (cr.go (.bT (.b2 q q) (.bT (.lit q) .nil)) (Pt a0 aw _ fF) call91 q)<|ai (O.aC (.H3 q q))<|ai (O.ex (y:=j aD.1) q q q)<|ai (O.ex (y:=j aD.2) q q q)<|aq.aV) ?_
 refine W.aX ?_
 obtain ⟨qJ,aa,h⟩:=ax h
 refine W.rs [(2,j a2),(3,.obj (ck.cells a0)),(7,j aD.1),(37,a1 qJ)] ?_ ?_
 ·refine bp q<|ai (O.eql (.lit q) (.k q))<|ai (O.aC (.lit q)) ?_
  rcases cB aa with ⟨cP,aa⟩ | ⟨cP,aa⟩
  ·obtain rfl:=au aa
   exact aq.aV
  ·refine aW cP (O.aC (.lit q))<|aW cP (O.lss (.lit q) (.k q))<|ai (O.dL (.lit q) cP (.lit q))<|ai (O.aC (.lit q)) ?_
   rcases cB aa with ⟨fe,aa⟩ | ⟨fe,aa⟩
   ·obtain rfl:=au aa
    exact aq.aV
   ·refine aW fe (O.aC (.lit q))<|aW fe (O.a_ q (.obj q) oD q)<|aW fe (O.cU (y:=ag bq a0.ba) q (.ptr q) pZ q q)<|aW fe (O.hc (.aF q) qt)<|aW fe (O.geq (.lit q) (.lit q))<|ai (O.dL (.lit q) fe (.lit q))<|ai (O.aC (.lit q)) ?_
    rcases cB aa with ⟨c0,aa⟩ | ⟨c0,aa⟩
    ·obtain rfl:=au aa
     exact aq.aV
    ·refine aW c0 (O.a_ q (.obj q) oD q)<|aW c0 (O.cU (y:=ag bq a0.ba) q (.ptr q) pZ q q)<|aW c0 (O.aC (.lit q)) ?_
     obtain ⟨cn,kM,aa⟩:=ax aa
     obtain rfl:=au aa
     exact aq.aV
 refine W.bu h q (λdn h=>?_) (λdn h=>?_)
 ·refine W.aT [6] ?_
  refine W.rt ?_
  refine ah.c5 ?_
  obtain rfl:=au h
  exact cw (.f q q .nil)
 ·refine W.bF<|ah.aU ?_
  obtain ⟨b1,hK,h⟩:=ax h
  refine W.bV [7,9] (ai (O.a_ q (.obj q) oD q)<|ai (O.cU (y:=ag bq a0.ba) q (.ptr q) pZ q q)<|bp q<|ai (O.cC (.aF q) (.lit q) qt hK)<|ai (O.iq (cs':=[ae b1.Name,a1 b1.Lit,j b1.cJ,j b1.Level,j b1.fy,ae b1.Tag]) (.bo q) Eo q q)<|ai (O.fq (cs:=[ae aA,a1 false,j 0,j 0,j 0,ae aA]) wH q q)<|aq.dx (G2:=[(7,_),(9,_)]) (cs2:=[ae b1.Name,a1 b1.Lit,j b1.cJ,j b1.Level,j b1.fy,ae b1.Tag]) q (.obj q) (.b2 q q) q HY q q q q (.n q q (.b q .nil))<|bK q) ?_
  refine W.aX<|W.bf ?_
  refine W.aT [7,9,43] ?_
  refine W.bu h q (λdi h=>?_) (λdi h=>?_)
  ·refine W.aT [6] ?_
   refine W.rt ?_
   refine ah.d_ ?_
   refine ah.c5 ?_
   obtain rfl:=au h
   exact cw (.f q q .nil)
  ·refine W.aT [9,48] ?_
   refine W.bu h q (λeJ h=>?_) (λeJ h=>?_)
   ·refine W.aT [6] ?_
    refine W.rt ?_
    refine ah.d_ ?_
    refine ah.c5 ?_
    obtain rfl:=au h
    exact cw (.f q q .nil)
   ·refine W.aT [9,53] ?_
    refine W.bu h q (λe_ h=>?_) (λe_ h=>?_)
    ·refine W.aT [6] ?_
     refine W.rt ?_
     refine ah.d_ ?_
     refine ah.c5 ?_
     obtain rfl:=au h
     exact cw (.f q q .nil)
    ·refine W.aT [57] ?_
     refine W.bu h q (λdz h=>?_) (λdz h=>?_)
     ·refine W.aT [6] ?_
      refine W.rt ?_
      refine ah.d_ ?_
      refine ah.c5 ?_
      obtain rfl:=au h
      exact cw (.f q q .nil)
     ·refine W.bF<|ah.bf ?_
      refine ah.aU<|W.aT [6] ?_
      refine W.rt ?_
      obtain rfl:=au h
      exact cw (.f q q .nil)
theorem Pd (a0:b') (aw:Cell) (r:Act × (List fL)) (h:yg a0 aw=some r):b_ Try.prog 58 [.agg (ck.cells a0),.agg (fc.cells aw)] [none,none] (.cG [.agg [j r.1.Kind,j r.1.N],ag eL r.2]):=by
 unfold yg at h
 refine b_.go (N:=⟨97,[]⟩) Try.func58 q q q q (W.fin ?_)
 refine W.st [(0,.agg (ck.cells a0)),(1,.agg (fc.cells aw))] ?_
 refine W.bV [2,3,4] (ai (O.box (.b2 q q) q)<|ai (O.box (.b2 q q) q)<|ai (O.fq (cs:=[j 0,j 0]) lS q q)<|aq.aV) ?_
 refine W.aT [2,3,4,6] ?_
 refine W.aX<|W.aT [2,3,4,6,7] ?_
 refine W.bf ?_
 obtain ⟨x2,ao,h⟩:=ax h
 refine W.ca (G1:=[(2,_),(3,_),(4,_),(6,ak eL ([]:List fL)),(7,_)]) (.n q (.n q (.n q (.w q q .lb (.n q .nil))))) ?_
 refine W.eg (s:=(([]:List fL),1)) (λ(s1:List fL × Int)=>[(2,.obj (ck.cells a0)),(3,.obj (fc.cells aw)),(4,.obj [j 0,j 0]),(6,ak eL s1.1),(7,j s1.2)]) 0 (λ(x2:List fL)=>[(2,.obj (ck.cells a0)),(3,.obj (fc.cells aw)),(4,.obj [j 0,j 0]),(6,ak eL x2)]) ao (λs1 o h=>?_) ?_
 ·clear ao
  refine W.aX<|W.aT [2,3,4,6,7,15] ?_
  refine W.bu h q (λc0 h=>?_) (λc0 h=>?_)
  ·refine W.bF<|ah.aU ?_
   refine W.aX<|W.bf ?_
   refine W.ca (G1:=[(2,_),(3,_),(4,_),(6,_),(7,_)]) (dX q q q q q) ?_
   obtain ⟨cn,kM,h⟩:=ax h
   obtain ⟨bP,ga,h⟩:=ax h
   obtain ⟨bz,gw,h⟩:=ax h
   refine W.rd [[],[],[1],[],[3],[],[5],[5,6],[5,6,7],[],[9],[],[9,10,11],[9,10,11,12],aN 1 13 [],aN 1 14 [],aN 0 16 [],aN 0 17 []] [(2,_),(3,_),(4,_),(6,_),(7,_)] ei (by kernel_rfl) (av 0 (O.aC (.own q))<|av 1 (O.a_ q (.obj q) EZ q)<|av 2 (O.cq q (.ptr q) ct q)<|av 3 (O.a_ q (.obj q) zt q)<|av 4 (O.cq q (.ptr q) ct q)<|av 5 (O.a_ q (.obj q) zu q)<|av 6 (O.cU (y:=ag aG aw.bc) q (.ptr q) hC q q)<|av 7 (O.cC (.aF q) (.k q) eS kM)<|av 8 (O.dd (x:=j cn) (.bo q) ct q)<|av 9 (O.a_ q (.obj q) zu q)<|av 10 (O.cU (y:=ag aG aw.bc) q (.ptr q) hC q q)<|av 11 (O.aC (.lit q))<|av 12 (O.cC (.aF q) (.lit q) eS ga)<|av 13 (O.dd (x:=j bP) (.bo q) ct q)<|av 14 (O.dE (cs:=[j aw.State,j aw.b5,j cn,j bP]) Mz Nb q q q)<|bC.eY 15 (x:=ag eL [(⟨aw.State,aw.b5,cn,bP⟩:fL)]) (O.dg (ys:=[.agg [j aw.State,j aw.b5,j cn,j bP]]) eL [(⟨aw.State,aw.b5,cn,bP⟩:fL)] HQ q q q q q q Ni q q) q q q q .none<|av 16 (O.ap (en:=eL) (r:=bz) (.bl q) q (.aF q) .i Ek q gw)<|bC.bv 17 (G2:=[(2,.obj (ck.cells a0)),(3,.obj (fc.cells aw)),(4,.obj [j 0,j 0]),(7,j s1.2)]) (b9.lp q q (.bR q) q q q (.n q q (.n q q (.n q q (.n q q .nil)))) q q) q q q q (by kernel_rfl) (by kernel_rfl)<|bC.fin q q q (dX q q q q q)) ?_
   refine ah.bf ?_
   refine ah.aU<|W.bk [2,3,4,6,7] (bp q<|ai (O.add (.lit q) (.k q))<|aq.bk [2,3,4,6,17] q<|aq.aV) ?_
   obtain rfl:=au h
   exact ah.go (dX q q q q q)
  ·refine W.c9 ?_
   refine ah.c7 ?_
   obtain rfl:=au h
   exact ah.aD (dM q q q q)
 refine ah.c' ?_
 refine ah.aU<|W.bV [2,3,4,6,8] (ai (O.a_ q (.obj q) E0 q)<|ai (O.cq q (.ptr q) ct q)<|ai (O.dE (cs:=[j 1,j aw.js]) qq lS q q q)<|ai (O.fq (cs:=[j 0,j 0]) lS q q)<|aq.dx (G2:=[(2,_),(3,_),(4,_),(6,_),(8,_)]) (cs2:=[j 1,j aw.js]) q (.obj q) (.b2 q q) q mP q q q q (.n q q (.n q q (.n q q (.n q q (.b q .nil)))))<|bK q) ?_
 refine W.aX<|W.aT [2,3,4,6,8,39] ?_
 obtain ⟨fk,aa,h⟩:=ax h
 refine W.bs [(2,.obj (ck.cells a0)),(3,.obj (fc.cells aw)),(4,.obj [j 0,j 0]),(6,ak eL x2),(8,.obj [j fk.1,j fk.2])] ?_ ?_
 ·clear h; have h:=aa; clear aa
  refine W.bu h q (λdi h=>?_) (λdi h=>?_)
  ·refine W.bk [2,3,4,6,8] (ai (O.dE (cs:=[j 3,j 0]) qq lS q q q)<|aq.dx (G2:=[(2,_),(3,_),(4,_),(6,_),(8,_)]) (cs2:=[j 3,j 0]) q (.obj q) (.b2 q q) q mP q q q q (.n q q (.n q q (.n q q (.n q q (.b q .nil)))))<|bK q) ?_
   obtain rfl:=au h
   exact ah.bs (dX q q q q q)
  ·refine W.bF ?_
   obtain rfl:=au h
   exact ah.bs (dX q q q q q)
 refine ah.aU<|W.aX ?_
 refine W.aT [2,3,4,6,8,44] ?_
 refine W.bu h q (λeJ h=>?_) (λeJ h=>?_)
 ·refine W.bV [4,5] (ai (O.dR (cs':=[j fk.1,j fk.2]) q (.obj q) lG q q)<|ai (O.aC (.own q))<|aq.dx (G2:=[(4,_),(6,_),(46,.bl eL.z ⟨6,[]⟩ x2.length)]) (cs2:=[j fk.1,j fk.2]) q (.obj q) (.b2 q q) q mP q q q q (.b q (.n q q (.w (en:=eL) q q q q .nil)))<|aq.fN (G2:=[(4,.obj [j fk.1,j fk.2])]) q (b9.ik q q (.bl q) q (.n q q .nil) q q)<|bK q) ?_
  refine W.eF (G1:=[(4,_),(5,ag eL x2)]) [5] (.n q q (.z q q .ha .nil)) ?_
  refine W.rt ?_
  refine ah.c5 ?_
  obtain rfl:=au h
  exact cw (.c (ys0:=[j fk.1,j fk.2]) q lG q q q (.f q (.f q .nil)) (.f q q .nil))
 ·refine W.bF<|ah.aU ?_
  obtain ⟨bD,gQ,h⟩:=ax h
  refine W.aT [2,3,4,6,8,9] ?_
  refine W.aX ?_
  obtain ⟨jK,aa,h⟩:=ax h
  refine W.rs [(2,.obj (ck.cells a0)),(3,.obj (fc.cells aw)),(4,.obj [j 0,j 0]),(6,ak eL x2),(8,.obj [j fk.1,j fk.2]),(9,j bD),(58,a1 jK)] ?_ ?_
  ·refine ai (O.a_ q (.obj q) E0 q)<|ai (O.cq q (.ptr q) ct q)<|ai (O.lss (.lit q) (.k q))<|ai (O.aC (.lit q)) ?_
   rcases cB aa with ⟨dz,aa⟩ | ⟨dz,aa⟩
   ·obtain rfl:=au aa
    exact aq.aV
   ·obtain rfl:=au aa
    exact aq.aV
  refine W.bu h q (λeD h=>?_) (λeD h=>?_)
  ·refine W.bV [4,5] (bp q<|ai (O.dE (cs:=[j 2,j bD]) qq lS q q q)<|ai (O.aC (.own q))<|aq.dx (G2:=[(4,_),(6,_),(61,.bl eL.z ⟨6,[]⟩ x2.length)]) (cs2:=[j 2,j bD]) q (.obj q) (.b2 q q) q mP q q q q (.b q (.n q q (.w (en:=eL) q q q q .nil)))<|aq.fN (G2:=[(4,.obj [j 2,j bD])]) q (b9.ik q q (.bl q) q (.n q q .nil) q q)<|bK q) ?_
   refine W.eF (G1:=[(4,_),(5,ag eL x2)]) [5] (.n q q (.z q q .ha .nil)) ?_
   refine W.rt ?_
   refine ah.c5 ?_
   obtain rfl:=au h
   exact cw (.c (ys0:=[j 2,j bD]) q lG q q q (.f q (.f q .nil)) (.f q q .nil))
  ·refine W.bF<|ah.aU ?_
   obtain ⟨cH,hI,h⟩:=ax h
   refine W.bV [3,4,6,8,9,10] (ai (O.dR (cs':=[ag bq a0.ba,ag a7 a0.bw,ag bE a0.bc,ae a0.bx,ae a0.bA]) q (.obj q) gA q q)<|bp q<|ai (O.a_ q (.obj q) zt q)<|ai (O.cq q (.ptr q) ct q)<|eE (cr.go (.bT (.b2 q q) (.bT (.lit q) (.bT (.lit q) .nil))) (Pl a0 bD aw.b5 _ hI) call75 q)<|aq.aV) ?_
   refine W.aX<|W.bf ?_
   obtain ⟨Cg,aa,h⟩:=ax h
   refine W.rs [(3,.obj (fc.cells aw)),(4,.obj [j 0,j 0]),(6,ak eL x2),(8,.obj [j fk.1,j fk.2]),(9,j bD),(10,j cH),(67,a1 Cg)] ?_ ?_
   ·refine ai (O.a_ q (.obj q) u' q)<|ai (O.cq q (.ptr q) mW q)<|ai (O.aC (.lit q)) ?_
    rcases cB aa with ⟨gf,aa⟩ | ⟨gf,aa⟩
    ·obtain rfl:=au aa
     exact aq.aV
    ·obtain rfl:=au aa
     exact aq.aV
   refine W.bu h q (λht h=>?_) (λht h=>?_)
   ·refine W.aX ?_
    obtain ⟨fp,l5,h⟩:=ax h
    refine W.rd [[],[],[],[2],[],[4],[],aN 2 5 [],aN 2 6 [],aN 1 8 [],aN 0 10 [],aN 0 11 []] [(4,_),(5,_)] ei (by kernel_rfl) (av 0 (O.dR (cs':=[j fk.1,j fk.2]) q (.obj q) lG q q)<|av 1 (O.aC (.own q))<|av 2 (O.a_ q (.obj q) EZ q)<|av 3 (O.cq q (.ptr q) ct q)<|av 4 (O.a_ q (.obj q) zt q)<|av 5 (O.cq q (.ptr q) ct q)<|av 6 (O.aC (.lit q))<|av 7 (O.dE (cs:=[j aw.State,j aw.b5,j (-1),j bD]) Mz Nb q q q)<|bC.eY 8 (x:=ag eL [(⟨aw.State,aw.b5,(-1),bD⟩:fL)]) (O.dg (ys:=[.agg [j aw.State,j aw.b5,j (-1),j bD]]) eL [(⟨aw.State,aw.b5,(-1),bD⟩:fL)] HQ q q q q q q Ni q q) q q q q .none<|av 9 (O.ap (en:=eL) (r:=fp) (.bl q) q (.aF q) .i Ek q l5)<|bC.I6 10 (G2:=[(4,.obj [j fk.1,j fk.2]),(83,ak eL (x2++[(⟨aw.State,aw.b5,(-1),bD⟩:fL)]))]) (kV.settle (ts:=[83]) (xs:=[.bl eL.z ⟨83,[]⟩ (x2.length+[(⟨aw.State,aw.b5,(-1),bD⟩:fL)].length)]) (ys:=[.own eL.z (x2.length+[(⟨aw.State,aw.b5,(-1),bD⟩:fL)].length) (ch eL x2++ch eL [(⟨aw.State,aw.b5,(-1),bD⟩:fL)])]) (g2:=get [(4,.obj [j 0,j 0]),(6,.dead),(74,.agg [j fk.1,j fk.2]),(83,ak eL (x2++[(⟨aw.State,aw.b5,(-1),bD⟩:fL)]))]) q (iw.take (.lR q q q .iH .nil)) (by decide) q (NO q) (Trim.keep (.n q (.n q (.n q (.e q (vV _ _ _) .nil))))) (b9.mY (b9.dx (G2:=[(4,.obj [j fk.1,j fk.2]),(83,ak eL (x2++[(⟨aw.State,aw.b5,(-1),bD⟩:fL)]))]) (cs2:=[j fk.1,j fk.2]) q q q (.obj q) (.b2 q q) q mP q q q q (.b q (.n q q .nil))))) q q (by kernel_rfl) q q (by kernel_rfl)<|bC.bv 11 (G2:=[(4,.obj [j fk.1,j fk.2])]) (b9.ik q q (.own q) q (.n q q .nil) q q) q q q q (by kernel_rfl) (by kernel_rfl)<|bC.fin q q q (fC q q)) ?_
    refine ah.aU<|W.eF (G1:=[(4,_),(5,ag eL (x2++[(⟨aw.State,aw.b5,(-1),bD⟩:fL)]))]) [5] (.n q q (.z q q .ha .nil)) ?_
    refine W.rt ?_
    refine ah.d_ ?_
    refine ah.c5 ?_
    obtain rfl:=au h
    exact cw (.c (ys0:=[j fk.1,j fk.2]) q lG q q q (.f q (.f q .nil)) (.f q q .nil))
   ·refine W.aT [4,6,8,9,10,84] ?_
    refine W.bu h q (λka h=>?_) (λka h=>?_)
    ·refine W.bV [4,5] (bp q<|ai (O.dE (cs:=[j 2,j bD]) qq lS q q q)<|ai (O.aC (.own q))<|aq.dx (G2:=[(4,_),(6,_),(89,.bl eL.z ⟨6,[]⟩ x2.length)]) (cs2:=[j 2,j bD]) q (.obj q) (.b2 q q) q mP q q q q (.b q (.n q q (.w (en:=eL) q q q q .nil)))<|aq.fN (G2:=[(4,.obj [j 2,j bD])]) q (b9.ik q q (.bl q) q (.n q q .nil) q q)<|bK q) ?_
     refine W.eF (G1:=[(4,_),(5,ag eL x2)]) [5] (.n q q (.z q q .ha .nil)) ?_
     refine W.rt ?_
     refine ah.d_ ?_
     refine ah.c5 ?_
     obtain rfl:=au h
     exact cw (.c (ys0:=[j 2,j bD]) q lG q q q (.f q (.f q .nil)) (.f q q .nil))
    ·refine W.aT [4,6,8,90] ?_
     refine W.bu h q (λi_ h=>?_) (λi_ h=>?_)
     ·refine W.bV [4,5] (ai (O.dE (cs:=[j 4,j 0]) qq lS q q q)<|ai (O.aC (.own q))<|aq.dx (G2:=[(4,_),(6,_),(94,.bl eL.z ⟨6,[]⟩ x2.length)]) (cs2:=[j 4,j 0]) q (.obj q) (.b2 q q) q mP q q q q (.b q (.n q q (.w (en:=eL) q q q q .nil)))<|aq.fN (G2:=[(4,.obj [j 4,j 0])]) q (b9.ik q q (.bl q) q (.n q q .nil) q q)<|bK q) ?_
      refine W.eF (G1:=[(4,_),(5,ag eL x2)]) [5] (.n q q (.z q q .ha .nil)) ?_
      refine W.rt ?_
      refine ah.d_ ?_
      refine ah.c5 ?_
      obtain rfl:=au h
      exact cw (.c (ys0:=[j 4,j 0]) q lG q q q (.f q (.f q .nil)) (.f q q .nil))
     ·refine W.bF<|ah.bf ?_
      refine ah.aU<|W.bV [4,5] (ai (O.dR (cs':=[j fk.1,j fk.2]) q (.obj q) lG q q)<|ai (O.aC (.own q))<|aq.dx (G2:=[(4,_),(6,_),(96,.bl eL.z ⟨6,[]⟩ x2.length)]) (cs2:=[j fk.1,j fk.2]) q (.obj q) (.b2 q q) q mP q q q q (.b q (.n q q (.w (en:=eL) q q q q .nil)))<|aq.fN (G2:=[(4,.obj [j fk.1,j fk.2])]) q (b9.ik q q (.bl q) q (.n q q .nil) q q)<|bK q) ?_
      refine W.eF (G1:=[(4,_),(5,ag eL x2)]) [5] (.n q q (.z q q .ha .nil)) ?_
      refine W.rt ?_
      obtain rfl:=au h
      exact cw (.c (ys0:=[j fk.1,j fk.2]) q lG q q q (.f q (.f q .nil)) (.f q q .nil))
theorem O6 (a0:b') (aw:(List State)) (a2:(List Cell)) (r:jE × (List fL)) (h:A1 a0 aw a2=some r):b_ Try.prog 32 [.agg (ck.cells a0),ag cR aw,ag fc a2] [none,none,none] (.cG [.agg [ag (bb cu) r.1.cQ,ag (bb aG) r.1.cL],ag eL r.2]):=by
 unfold A1 at h
 refine b_.go (N:=⟨92,[]⟩) Try.func32 q q q q (W.fin ?_)
 refine W.st [(0,.agg (ck.cells a0)),(1,ag cR aw),(2,ag fc a2)] ?_
 refine W.bV [1,2,3,6] (ai (O.box (.b2 q q) q)<|ai (O.fq (cs:=[.aI,.aI]) wG q q)<|aq.aV) ?_
 refine W.bV [1,2,3,6,8] (ai (O.fq (cs:=[.aI,.aI]) wG q q)<|bK q) ?_
 refine W.aT [1,2,3,6,8,9] ?_
 refine W.aX<|W.aT [1,2,3,6,8,9,10] ?_
 refine W.bf ?_
 obtain ⟨x2,ao,h⟩:=ax h
 refine W.ca (G1:=[(1,_),(2,_),(3,_),(6,_),(8,.obj [ak (bb cu) ([]:List (List Act)),ak (bb aG) ([]:List (List Int))]),(9,ak eL ([]:List fL)),(10,_)]) (.n q (.n q (.n q (.n q (.w q q (jg.obj (.o (.o .nil))) (.w q q .lb (.n q .nil))))))) ?_
 refine W.eg (s:=(([]:List (List Act)),([]:List (List Int)),([]:List fL),0)) (λ(s1:List (List Act) × List (List Int) × List fL × Int)=>[(1,ag cR aw),(2,ag fc a2),(3,.obj (ck.cells a0)),(6,.obj [.aI,.aI]),(8,.obj [ak (bb cu) s1.1,ak (bb aG) s1.2.1]),(9,ak eL s1.2.2.1),(10,j s1.2.2.2)]) 0 (λ(x2:List (List Act) × List (List Int) × List fL)=>[(6,.obj [.aI,.aI]),(8,.obj [ak (bb cu) x2.1,ak (bb aG) x2.2.1]),(9,ak eL x2.2.2)]) ao (λs1 o h=>?_) ?_
 ·clear ao
  refine W.aX<|W.aT [1,2,3,6,8,9,10,20] ?_
  refine W.bu h q (λc0 h=>?_) (λc0 h=>?_)
  ·refine W.bF<|ah.aU ?_
   refine W.aX<|W.bf ?_
   obtain ⟨cn,kM,h⟩:=ax h
   refine W.bV [1,2,3,6,8,9,10,11] (ai (O.a_ q (.obj q) oD q)<|ai (O.cU (y:=ag bq a0.ba) q (.ptr q) pZ q q)<|ai (O.hc (.aF q) qt)<|ai (O.mk (en:=cu) (z0:=(⟨0,0⟩:Act)) ta (.lit q) (.lit q) lS q q kM Od q)<|aq.fN (G2:=[(1,ag cR aw),(2,ag fc a2),(3,.obj (ck.cells a0)),(6,.obj [.aI,.aI]),(8,.obj [ak (bb cu) s1.1,ak (bb aG) s1.2.1]),(9,ak eL s1.2.2.1),(10,j s1.2.2.2)]) q (b9.ik q q (.own q) q (.n q q (.n q q (.n q q (.n q q (.n q q (.n q q (.n q q .nil))))))) q q)<|bK q) ?_
   refine W.aX<|W.aT [1,2,3,6,8,9,10,11,12] ?_
   refine W.bf ?_
   obtain ⟨bz,ao,h⟩:=ax h
   refine W.ca (G1:=[(1,_),(2,_),(3,_),(6,_),(8,_),(9,_),(10,_),(11,_),(12,_)]) (iI q q q q q q q q q) ?_
   refine W.eg (s:=(s1.2.2.1,cn,0)) (λ(cM:List fL × List Act × Int)=>[(1,ag cR aw),(2,ag fc a2),(3,.obj (ck.cells a0)),(6,.obj [.aI,.aI]),(8,.obj [ak (bb cu) s1.1,ak (bb aG) s1.2.1]),(9,ak eL cM.1),(10,j s1.2.2.2),(11,ak cu cM.2.1),(12,j cM.2.2)]) 2 (λ(bz:List fL × List Act)=>[(1,ag cR aw),(2,ag fc a2),(3,.obj (ck.cells a0)),(6,.obj [.aI,.aI]),(8,.obj [ak (bb cu) s1.1,ak (bb aG) s1.2.1]),(9,ak eL bz.1),(10,j s1.2.2.2),(11,ak cu bz.2)]) ao (λcM o h=>?_) ?_
   ·clear ao
    refine W.aX<|W.aT [1,2,3,6,8,9,10,11,12,30] ?_
    refine W.bu h q (λdi h=>?_) (λdi h=>?_)
    ·refine W.bF<|ah.aU ?_
     refine W.aX ?_
     obtain ⟨kd,aa,h⟩:=ax h
     refine W.bs [(1,ag cR aw),(2,ag fc a2),(3,.obj (ck.cells a0)),(6,.obj [.aI,.aI]),(8,.obj [ak (bb cu) s1.1,ak (bb aG) s1.2.1]),(9,ak eL kd.1),(10,j s1.2.2.2),(11,ak cu kd.2),(12,j cM.2.2)] ?_ ?_
     ·clear h; have h:=aa; clear aa
      refine W.bf ?_
      obtain ⟨bD,gQ,h⟩:=ax h
      refine W.aT [1,2,3,6,8,9,10,11,12,39] ?_
      obtain ⟨fj,aa,h⟩:=ax h
      refine W.bs [(1,ag cR aw),(2,ag fc a2),(3,.obj (ck.cells a0)),(6,.obj [.aI,.aI]),(8,.obj [ak (bb cu) s1.1,ak (bb aG) s1.2.1]),(9,ak eL fj.1),(10,j s1.2.2.2),(11,ak cu fj.2),(12,j cM.2.2)] ?_ ?_
      ·clear h; have h:=aa; clear aa
       refine W.bu h q (λhn h=>?_) (λhn h=>?_)
       ·refine W.aX ?_
        obtain ⟨dU,jP,h⟩:=ax h
        obtain ⟨cH,hI,h⟩:=ax h
        refine W.rd [[],[],[],[1,2],[1,2,3],aN 0 5 [],aN 0 6 [],aN 0 7 [],aN 0 7 [],[],aN 0 8 [9],aN 0 11 []] [(1,_),(2,_),(3,_),(6,_),(8,_),(9,_),(10,_),(11,_),(12,_),(13,_),(14,_)] ei (by kernel_rfl) (av 0 (O.dR (cs':=[ag bq a0.ba,ag a7 a0.bw,ag bE a0.bc,ae a0.bx,ae a0.bA]) q (.obj q) gA q q)<|av 1 (O.aC (.aF q))<|av 2 (O.aC (.lit q))<|av 3 (O.cC (.aF q) (.lit q) Bw jP)<|av 4 (O.iq (cs':=[j dU.State,j dU.b5,j dU.js,a1 dU.kT,ag aG dU.bc]) (.bo q) Ca q q)<|gR 5 (cr.go (.bT (.b2 q q) (.bT (.b2 q q) .nil)) (Pd a0 dU _ hI) call58 q)<|av 6 (O.aC (.cG q q))<|av 7 (O.ex (y:=.agg [j cH.1.Kind,j cH.1.N]) q q q)<|av 8 (O.ex (y:=ag eL cH.2) q q q)<|av 9 (O.fq (cs:=[j 0,j 0]) lS q q)<|bC.dE 10 (G2:=[(1,ag cR aw),(2,ag fc a2),(3,.obj (ck.cells a0)),(6,.obj [.aI,.aI]),(8,.obj [ak (bb cu) s1.1,ak (bb aG) s1.2.1]),(9,ak eL cM.1),(10,j s1.2.2.2),(11,ak cu cM.2.1),(12,j cM.2.2),(13,.obj [j cH.1.Kind,j cH.1.N]),(40,.cG [.agg [j cH.1.Kind,j cH.1.N],ag eL cH.2])]) (U:=[(8,48,some (ag eL cH.2))]) (kV.v (b9.mY (b9.dx (G2:=[(1,ag cR aw),(2,ag fc a2),(3,.obj (ck.cells a0)),(6,.obj [.aI,.aI]),(8,.obj [ak (bb cu) s1.1,ak (bb aG) s1.2.1]),(9,ak eL cM.1),(10,j s1.2.2.2),(11,ak cu cM.2.1),(12,j cM.2.2),(13,.obj [j cH.1.Kind,j cH.1.N]),(40,.cG [.agg [j cH.1.Kind,j cH.1.N],ag eL cH.2])]) (cs2:=[j cH.1.Kind,j cH.1.N]) q q q (.obj q) (.b2 q q) q mP q q q q (.n q q (.n q q (.n q q (.n q q (.n q q (.n q q (.n q q (.n q q (.n q q (.b q (.n q q .nil)))))))))))))) q q (by kernel_rfl) q q q (.c (.inr (.inr (.inr (.inr (.inl ⟨_,_,_,q,cV.bI⟩))))) q q q q q (gz.wanted .none) (O.ex (y:=ag eL cH.2) q q q) .nil) (by kernel_rfl)<|av 11 (O.ec (.aF q))<|bC.fin q q q (DW q q q q q q q q q q q)) ?_
        refine ah.aU<|W.aX ?_
        obtain ⟨cj,jY,h⟩:=ax h
        obtain ⟨bZ,gS,h⟩:=ax h
        refine W.rd [[],[],[],[1,2],[1,2,3],[1,2,3,4],[],aN 0 7 [],aN 0 8 []] [(1,_),(2,_),(3,_),(6,_),(8,_),(9,_),(10,_),(11,_),(12,_),(14,_)] ei (by kernel_rfl) (av 0 (O.aC (.own q))<|av 1 (O.aC (.aF q))<|av 2 (O.aC (.lit q))<|av 3 (O.cC (.aF q) (.lit q) Bw jY)<|av 4 (O.ez (.bo q) zt)<|av 5 (O.dd (x:=j cj.b5) (.bo q) ct q)<|av 6 (O.dR (cs':=[j cH.1.Kind,j cH.1.N]) q (.obj q) lG q q)<|av 7 (O.gY (en:=cu) q (.bl q) (.lit q) ta gS q)<|bC.iZ 8 (G2:=[(1,ag cR aw),(2,ag fc a2),(3,.obj (ck.cells a0)),(6,.obj [.aI,.aI]),(8,.obj [ak (bb cu) s1.1,ak (bb aG) s1.2.1]),(9,ak eL cM.1),(10,j s1.2.2.2),(11,ak cu (cM.2.1.set cj.b5.toNat cH.1)),(12,j cM.2.2),(14,ag eL cH.2)]) (b9.pI (en:=cu) (y2:=cH.1) (cs':=[j cH.1.Kind,j cH.1.N]) (x2:=ak cu (cM.2.1.set cj.b5.toNat cH.1)) q q (.ptr q) (.b2 q q) q gS mP q q q q q q q (.n q q (.n q q (.n q q (.n q q (.n q q (.n q q (.n q q (.b q (.n q q (.n q q .nil))))))))))) q q q q (by kernel_rfl) (by kernel_rfl)<|bC.fin q q q (r9 q q q q q q q q q q)) ?_
        refine ah.aU ?_
        obtain ⟨dS,iG,h⟩:=ax h
        refine W.bk [1,2,3,6,8,9,10,11,12] (ai (O.aC (.own q))<|ai (O.aC (.aF q))<|ai (O.ap (en:=eL) (r:=dS) (.bl q) q (.aF q) .i Ek q iG)<|aq.fN (G2:=[(1,ag cR aw),(2,ag fc a2),(3,.obj (ck.cells a0)),(6,.obj [.aI,.aI]),(8,.obj [ak (bb cu) s1.1,ak (bb aG) s1.2.1]),(10,j s1.2.2.2),(11,ak cu (cM.2.1.set cj.b5.toNat cH.1)),(12,j cM.2.2)]) q (b9.lp q q (.bR q) q q q (.n q q (.n q q (.n q q (.n q q (.n q q (.n q q (.n q q (.n q q .nil)))))))) q q)<|bK q) ?_
        obtain rfl:=au h
        exact ah.bs (iI q q q q q q q q q)
       ·refine W.bF ?_
        obtain rfl:=au h
        exact ah.bs (iI q q q q q q q q q)
      refine ah.bf ?_
      obtain rfl:=au h
      exact ah.bs (iI q q q q q q q q q)
     refine ah.aU<|W.bk [1,2,3,6,8,9,10,11,12] (bp q<|ai (O.add (.lit q) (.k q))<|aq.bk [1,2,3,6,8,9,10,11,32] q<|aq.aV) ?_
     obtain rfl:=au h
     exact ah.go (iI q q q q q q q q q)
    ·refine W.c9 ?_
     refine ah.c7 ?_
     obtain rfl:=au h
     exact ah.aD (jR q q q q q q q q)
   refine ah.c' ?_
   refine ah.aU ?_
   obtain ⟨fp,l5,h⟩:=ax h
   refine W.bV [1,2,3,6,8,9,10,11,15] (ai (O.a_ q (.obj q) sC q)<|ai (O.cU (y:=ag a7 a0.bw) q (.ptr q) sw q q)<|ai (O.hc (.aF q) r5)<|ai (O.mk (en:=aG) (z0:=0) eS (.lit q) (.lit q) Vo q q l5 Og q)<|aq.fN (G2:=[(1,ag cR aw),(2,ag fc a2),(3,.obj (ck.cells a0)),(6,.obj [.aI,.aI]),(8,.obj [ak (bb cu) s1.1,ak (bb aG) s1.2.1]),(9,ak eL bz.1),(10,j s1.2.2.2),(11,ak cu bz.2)]) q (b9.ik q q (.own q) q (.n q q (.n q q (.n q q (.n q q (.n q q (.n q q (.n q q (.n q q .nil)))))))) q q)<|bK q) ?_
   refine W.aX<|W.aT [1,2,3,6,8,9,10,11,15,16] ?_
   refine W.bf ?_
   obtain ⟨dk,ao,h⟩:=ax h
   refine W.ca (G1:=[(1,_),(2,_),(3,_),(6,_),(8,_),(9,_),(10,_),(11,_),(15,_),(16,_)]) (r9 q q q q q q q q q q) ?_
   refine W.eg (s:=(fp,0)) (λ(mc:List Int × Int)=>[(1,ag cR aw),(2,ag fc a2),(3,.obj (ck.cells a0)),(6,.obj [.aI,.aI]),(8,.obj [ak (bb cu) s1.1,ak (bb aG) s1.2.1]),(9,ak eL bz.1),(10,j s1.2.2.2),(11,ak cu bz.2),(15,ak aG mc.1),(16,j mc.2)]) 4 (λ(dk:List Int)=>[(1,ag cR aw),(2,ag fc a2),(3,.obj (ck.cells a0)),(6,.obj [.aI,.aI]),(8,.obj [ak (bb cu) s1.1,ak (bb aG) s1.2.1]),(9,ak eL bz.1),(10,j s1.2.2.2),(11,ak cu bz.2),(15,ak aG dk)]) ao (λmc o h=>?_) ?_
   ·clear ao
    refine W.aX<|W.aT [1,2,3,6,8,9,10,11,15,16,67] ?_
    refine W.bu h q (λgn h=>?_) (λgn h=>?_)
    ·refine W.bF<|ah.aU ?_
     refine W.aX<|W.bf ?_
     obtain ⟨gg,lO,h⟩:=ax h
     obtain ⟨e6,k',h⟩:=ax h
     refine W.bk [1,2,3,6,8,9,10,11,15,16] (ai (O.aC (.own q))<|bp q<|ai (O.aC (.aF q))<|bp q<|bp q<|ai (O.add (.k q) (.lit q))<|eE (cr.go (.bT (.aF q) (.bT (.lit q) (.bT (.lit q) .nil))) (y9 aw s1.2.2.2 (aO (1000+mc.2)) _ lO) call59 q)<|ai (O.gY (en:=aG) q (.bl q) (.lit q) eS k' q)<|aq.h_ (G2:=[(1,ag cR aw),(2,ag fc a2),(3,.obj (ck.cells a0)),(6,.obj [.aI,.aI]),(8,.obj [ak (bb cu) s1.1,ak (bb aG) s1.2.1]),(9,ak eL bz.1),(10,j s1.2.2.2),(11,ak cu bz.2),(15,ak aG (mc.1.set mc.2.toNat gg)),(16,j mc.2)]) q (b9.pI (en:=aG) (y2:=gg) (cs':=[j gg]) (x2:=ak aG (mc.1.set mc.2.toNat gg)) q q (.ptr q) (.lit q) q k' nP q q q q q q q (.n q q (.n q q (.n q q (.n q q (.n q q (.n q q (.n q q (.n q q (.b q (.n q q .nil)))))))))))<|bK q) ?_
     refine ah.bf ?_
     refine ah.aU<|W.bk [1,2,3,6,8,9,10,11,15,16] (bp q<|ai (O.add (.lit q) (.k q))<|aq.bk [1,2,3,6,8,9,10,11,15,69] q<|aq.aV) ?_
     obtain rfl:=au h
     exact ah.go (r9 q q q q q q q q q q)
    ·refine W.c9 ?_
     refine ah.c7 ?_
     obtain rfl:=au h
     exact ah.aD (iI q q q q q q q q q)
   refine ah.c' ?_
   refine ah.aU<|W.eF (G1:=[(1,_),(2,_),(3,_),(6,_),(8,_),(9,_),(10,_),(11,ag cu bz.2),(15,ag aG dk)]) [11,15] (.n q q (.n q q (.n q q (.n q q (.n q q (.n q q (.n q q (.z q q .ha (.z q q .ha .nil))))))))) ?_
   obtain ⟨gh,qa,h⟩:=ax h
   obtain ⟨fE,l6,h⟩:=ax h
   refine W.rd [[],[0],[],[2],[0,1,2,3],[],[5],[],[7],aN 0 9 [],aN 0 7 [],aN 0 11 [],aN 0 12 [],aN 0 13 []] [(1,_),(2,_),(3,_),(6,_),(8,_),(9,_),(10,_)] ei (by kernel_rfl) (av 0 (O.a_ q (.obj q) xo q)<|av 1 (O.cU (y:=.bl (bb cu).z ⟨8,[0]⟩ s1.1.length) q (.ptr q) zc q q)<|av 2 (O.aC (.aF q))<|bC.eY 3 (x:=ag (bb cu) [bz.2]) (O.dg (ys:=[ag cu bz.2]) (bb cu) [bz.2] Bv q q q q q q Vt q q) q q q q .none<|av 4 (O.ap (en:=(bb cu)) (r:=gh) (.bl q) q (.aF q) .i NX q qa)<|av 5 (O.a_ q (.obj q) sD q)<|av 6 (O.cU (y:=.bl (bb aG).z ⟨8,[1]⟩ s1.2.1.length) q (.ptr q) pY q q)<|av 7 (O.aC (.aF q))<|bC.eY 8 (x:=ag (bb aG) [dk]) (O.dg (ys:=[ag aG dk]) (bb aG) [dk] kQ q q q q q q Ij q q) q q q q .none<|av 9 (O.NR (en:=(bb aG)) (r:=fE) (.bl q) q (.aF q) .i Ei q l6 (LS (by kernel_rfl) (by kernel_rfl)))<|av 10 (O.a_ q (.obj q) xo q)<|bC.I6 11 (G2:=[(1,ag cR aw),(2,ag fc a2),(3,.obj (ck.cells a0)),(6,.obj [.aI,.aI]),(8,.obj [ak (bb cu) (s1.1++[bz.2]),.dead]),(9,ak eL bz.1),(10,j s1.2.2.2),(87,ak (bb aG) (s1.2.1++[dk]))]) (kV.settle (ts:=[82,87]) (xs:=[.bl (bb cu).z ⟨82,[]⟩ (s1.1.length+[bz.2].length),.bl (bb aG).z ⟨87,[]⟩ (s1.2.1.length+[dk].length)]) (ys:=[.own (bb cu).z (s1.1.length+[bz.2].length) (ch (bb cu) s1.1++ch (bb cu) [bz.2]),.own (bb aG).z (s1.2.1.length+[dk].length) (ch (bb aG) s1.2.1++ch (bb aG) [dk])]) (g2:=get [(1,ag cR aw),(2,ag fc a2),(3,.obj (ck.cells a0)),(6,.obj [.aI,.aI]),(8,.obj [.dead,.dead]),(9,ak eL bz.1),(10,j s1.2.2.2),(82,ak (bb cu) (s1.1++[bz.2])),(87,ak (bb aG) (s1.2.1++[dk])),(88,.ptr ⟨8,[]⟩ 0)]) q (iw.take (.lR q q q .iH (.lR q q q .iH .nil))) (by decide) q (NP q q) (Trim.keep (.n q (.n q (.n q (.n q (.n q (.n q (.n q (.e q (vV _ _ _) (.e q (vV _ _ _) (.q q q q .nil))))))))))) (b9.mY (b9.yv (y':=ak (bb cu) (s1.1++[bz.2])) (cs2:=[ak (bb cu) (s1.1++[bz.2]),.dead]) q q (.ptr q) (.own q) (.r q .nil) .refl q UP q q q q q (.n q q (.n q q (.n q q (.n q q (.b q (.n q q (.n q q (.n q q .nil))))))))))) q q (by kernel_rfl) q q (by kernel_rfl)<|av 12 (O.a_ q (.obj q) sD q)<|bC.iZ 13 (G2:=[(1,ag cR aw),(2,ag fc a2),(3,.obj (ck.cells a0)),(6,.obj [.aI,.aI]),(8,.obj [ak (bb cu) (s1.1++[bz.2]),ak (bb aG) (s1.2.1++[dk])]),(9,ak eL bz.1),(10,j s1.2.2.2)]) (b9.yv (y':=ak (bb aG) (s1.2.1++[dk])) (cs2:=[ak (bb cu) (s1.1++[bz.2]),ak (bb aG) (s1.2.1++[dk])]) q q (.ptr q) (.own q) (.r q .nil) .refl q UO q q q q q (.n q q (.n q q (.n q q (.n q q (.b q (.n q q (.n q q .nil)))))))) q q q q (by kernel_rfl) (by kernel_rfl)<|bC.fin q q q (g_ q q q q q q q)) ?_
   refine ah.bf ?_
   refine ah.aU<|W.bk [1,2,3,6,8,9,10] (bp q<|ai (O.add (.lit q) (.k q))<|aq.bk [1,2,3,6,8,9,22] q<|aq.aV) ?_
   obtain rfl:=au h
   exact ah.go (g_ q q q q q q q)
  ·refine W.c9 ?_
   refine ah.c7 ?_
   obtain rfl:=au h
   exact ah.aD (dt q q q)
 refine ah.c' ?_
 refine ah.aU<|W.aX ?_
 refine W.eF (G1:=[(6,_),(8,.obj [ag (bb cu) x2.1,ag (bb aG) x2.2.1]),(9,_)]) [8] (.n q q (.z q q (gr.obj (.z (.z .nil))) (.n q q .nil))) ?_
 refine W.bk [6,7] (ai (O.dR (cs':=[ag (bb cu) x2.1,ag (bb aG) x2.2.1]) q (.obj q) pW q q)<|ai (O.aC (.own q))<|aq.dx (G2:=[(6,_),(9,_),(91,.bl eL.z ⟨9,[]⟩ x2.2.2.length)]) (cs2:=[ag (bb cu) x2.1,ag (bb aG) x2.2.1]) q (.obj q) (.b2 q q) q yy q q q q (.b q (.n q q (.w (en:=eL) q q q q .nil)))<|aq.fN (G2:=[(6,.obj [ag (bb cu) x2.1,ag (bb aG) x2.2.1])]) q (b9.ik q q (.bl q) q (.n q q .nil) q q)<|bK q) ?_
 refine ah.aU<|W.eF (G1:=[(6,_),(7,ag eL x2.2.2)]) [7] (.n q q (.z q q .ha .nil)) ?_
 refine W.rt ?_
 obtain rfl:=au h
 exact cw (.c (ys0:=[ag (bb cu) x2.1,ag (bb aG) x2.2.1]) q pW q q q (.f q (.f q .nil)) (.f q q .nil))
theorem O9 (a0:(List Cell)) (r:Int) (h:A4 a0=some r):b_ Try.prog 48 [ag fc a0] [none] (j r):=by
 unfold A4 at h
 refine b_.go (N:=⟨20,[]⟩) Try.func48 q q q q (W.fin ?_)
 refine W.st [(0,ag fc a0)] ?_
 refine W.aT [0] ?_
 refine W.aT [0,3] ?_
 refine W.aX<|W.aT [0,3,4] ?_
 refine W.bf ?_
 obtain ⟨x2,ao,h⟩:=ax h
 refine W.ca (G1:=[(0,_),(3,_),(4,_)]) (dt q q q) ?_
 refine W.eg (s:=(0,0)) (λ(s1:Int × Int)=>[(0,ag fc a0),(3,j s1.1),(4,j s1.2)]) 0 (λ(x2:Int)=>[(3,j x2)]) ao (λs1 o h=>?_) ?_
 ·clear ao
  refine W.aX<|W.aT [0,3,4,8] ?_
  refine W.bu h q (λc0 h=>?_) (λc0 h=>?_)
  ·refine W.bF<|ah.aU ?_
   refine W.aX ?_
   obtain ⟨nk,aa,h⟩:=ax h
   refine W.bs [(0,ag fc a0),(3,j nk),(4,j s1.2)] ?_ ?_
   ·clear h; have h:=aa; clear aa
    refine W.bf ?_
    obtain ⟨bP,ga,h⟩:=ax h
    obtain ⟨bz,gw,h⟩:=ax h
    refine W.bV [0,3,4,16] (ai (O.aC (.aF q))<|bp q<|ai (O.cC (.aF q) (.lit q) Bw ga)<|ai (O.iq (cs':=[j bP.State,j bP.b5,j bP.js,a1 bP.kT,ag aG bP.bc]) (.bo q) Ca q q)<|eE (cr.go (.bT (.b2 q q) .nil) (JA bP _ gw) call66 q)<|aq.aV) ?_
    obtain ⟨fk,aa,h⟩:=ax h
    refine W.bs [(0,ag fc a0),(3,j fk),(4,j s1.2)] ?_ ?_
    ·clear h; have h:=aa; clear aa
     refine W.bu h q (λdi h=>?_) (λdi h=>?_)
     ·refine W.bk [0,3,4] (bp q<|ai (O.add (.lit q) (.k q))<|aq.bk [0,4,18] q<|aq.aV) ?_
      obtain rfl:=au h
      exact ah.bs (dt q q q)
     ·refine W.bF ?_
      obtain rfl:=au h
      exact ah.bs (dt q q q)
    refine ah.bf ?_
    obtain rfl:=au h
    exact ah.bs (dt q q q)
   refine ah.aU<|W.bk [0,3,4] (bp q<|ai (O.add (.lit q) (.k q))<|aq.bk [0,3,10] q<|aq.aV) ?_
   obtain rfl:=au h
   exact ah.go (dt q q q)
  ·refine W.c9 ?_
   refine ah.c7 ?_
   obtain rfl:=au h
   exact ah.aD (.n q .nil)
 refine ah.c' ?_
 refine ah.aU<|W.aT [2] ?_
 refine W.rt ?_
 obtain rfl:=au h
 exact cw (.f q q .nil)
theorem Ju (a0:Source) (r:b' × jE × Int × Bool) (h:yb a0=some r):b_ Try.prog 21 [.agg (da.cells a0)] [none] (.cG [.agg (ck.cells r.1),.agg [ag (bb cu) r.2.1.cQ,ag (bb aG) r.2.1.cL],j r.2.2.1,a1 r.2.2.2]):=by
 unfold yb at h
 refine b_.go (N:=⟨34,[]⟩) Try.func21 q q q q (W.fin ?_)
 refine W.st [(0,.agg (da.cells a0))] ?_
 refine W.bV [1,2,3] (ai (O.box (.b2 q q) q)<|ai (O.fq (cs:=[.aI,.aI,.aI,ae aA,ae aA]) oY q q)<|ai (O.fq (cs:=[.aI,.aI]) wG q q)<|aq.aV) ?_
 obtain ⟨aD,fF,h⟩:=ax h
 refine W.bV [2,3,6,7,8,9] (ai (O.dR (cs':=[ae a0.bx,ag cx a0.Decls,ag eM a0.dD,ae a0.bA]) q (.obj q) qE q q)<|eE (cr.go (.bT (.b2 q q) .nil) (O5 a0 _ fF) call30 q)<|ai (O.aC (.cG q q))<|ai (O.ex (y:=.agg (ck.cells aD.1)) q q q)<|ai (O.ex (y:=ag cR aD.2.1) q q q)<|ai (O.ex (y:=ag fc aD.2.2.1) q q q)<|ai (O.ex (y:=a1 aD.2.2.2) q q q)<|ai (O.fq (cs:=[.aI,.aI,.aI,ae aA,ae aA]) oY q q)<|aq.dx (G2:=[(2,_),(3,_),(6,_),(16,_),(17,_),(18,_)]) (cs2:=[ag bq aD.1.ba,ag a7 aD.1.bw,ag bE aD.1.bc,ae aD.1.bx,ae aD.1.bA]) q (.obj q) (.b2 q q) q nt q q q q (.n q q (.n q q (.b q (.n q q (.n q q (.n q q .nil))))))<|aq.aV) ?_
 refine W.aX<|W.aT [2,3,6,7,8,20] ?_
 refine W.bu h q (λcP h=>?_) (λcP h=>?_)
 ·refine W.bV [2,3,4,5] (ai (O.dR (cs':=[ag bq aD.1.ba,ag a7 aD.1.bw,ag bE aD.1.bc,ae aD.1.bx,ae aD.1.bA]) q (.obj q) gA q q)<|ai (O.dE (cs:=[.aI,.aI]) Us wG q q q)<|aq.dx (G2:=[(2,_),(3,_),(22,_)]) (cs2:=[ag bq aD.1.ba,ag a7 aD.1.bw,ag bE aD.1.bc,ae aD.1.bx,ae aD.1.bA]) q (.obj q) (.b2 q q) q nt q q q q (.b q (.n q q (.n q q .nil)))<|aq.dx (G2:=[(2,_),(3,_)]) (cs2:=[.aI,.aI]) q (.obj q) (.b2 q q) q yy q q q q (.n q q (.b q .nil))<|aq.aV) ?_
  refine W.eF (G1:=[(2,_),(3,.obj [ag (bb cu) ([]:List (List Act)),ag (bb aG) ([]:List (List Int))]),(4,_),(5,_)]) [3] (.n q q (.z q q (gr.obj (.z (.z .nil))) (.n q q (.n q q .nil)))) ?_
  refine W.rt ?_
  refine ah.c5 ?_
  obtain rfl:=au h
  exact cw (.c (ys0:=[ag bq aD.1.ba,ag a7 aD.1.bw,ag bE aD.1.bc,ae aD.1.bx,ae aD.1.bA]) q gA q q q (.f q (.f q (.f q (.f q (.f q .nil))))) (.c (ys0:=[ag (bb cu) ([]:List (List Act)),ag (bb aG) ([]:List (List Int))]) q pW q q q (.f q (.f q .nil)) (.f q q (.f q q .nil))))
 ·refine W.bF<|ah.aU ?_
  obtain ⟨a8,hJ,h⟩:=ax h
  refine W.bV [2,3,6,8,10] (ai (O.dR (cs':=[ag bq aD.1.ba,ag a7 aD.1.bw,ag bE aD.1.bc,ae aD.1.bx,ae aD.1.bA]) q (.obj q) gA q q)<|ai (O.aC (.aF q))<|ai (O.aC (.aF q))<|eE (cr.go (.bT (.b2 q q) (.bT (.aF q) (.bT (.aF q) .nil))) (O6 aD.1 aD.2.1 aD.2.2.1 _ hJ) call32 q)<|ai (O.aC (.cG q q))<|ai (O.ex (y:=.agg [ag (bb cu) a8.1.cQ,ag (bb aG) a8.1.cL]) q q q)<|ai (O.ex (y:=ag eL a8.2) q q q)<|ai (O.fq (cs:=[.aI,.aI]) wG q q)<|aq.dx (G2:=[(2,_),(3,_),(6,_),(8,_),(10,_),(29,_)]) (cs2:=[ag (bb cu) a8.1.cQ,ag (bb aG) a8.1.cL]) q (.obj q) (.b2 q q) q yy q q q q (.n q q (.n q q (.n q q (.n q q (.b q (.n q q .nil))))))<|aq.aV) ?_
  refine W.aX ?_
  obtain ⟨b4,n5,h⟩:=ax h
  refine W.rd [[],[],[],[2],[0,2,3],aN 0 5 [],aN 0 6 [],aN 0 7 []] [(2,_),(3,_),(4,_),(5,_)] ei (by kernel_rfl) (av 0 (O.dR (cs':=[ag bq aD.1.ba,ag a7 aD.1.bw,ag bE aD.1.bc,ae aD.1.bx,ae aD.1.bA]) q (.obj q) gA q q)<|av 1 (O.dR (cs':=[ag (bb cu) a8.1.cQ,ag (bb aG) a8.1.cL]) q (.obj q) pW q q)<|av 2 (O.aC (.aF q))<|gR 3 (cr.go (.bT (.aF q) .nil) (O9 aD.2.2.1 _ n5) call48 q)<|bC.dE 4 (G2:=[(2,.obj (ck.cells aD.1)),(3,.obj [.aI,.aI]),(10,.obj [ag (bb cu) a8.1.cQ,ag (bb aG) a8.1.cL]),(33,j b4)]) (U:=[(1,31,some (.agg [ag (bb cu) a8.1.cQ,ag (bb aG) a8.1.cL]))]) (kV.v (b9.mY (b9.dx (G2:=[(2,.obj (ck.cells aD.1)),(3,.obj [.aI,.aI]),(10,.obj [ag (bb cu) a8.1.cQ,ag (bb aG) a8.1.cL]),(33,j b4)]) (cs2:=[ag bq aD.1.ba,ag a7 aD.1.bw,ag bE aD.1.bc,ae aD.1.bx,ae aD.1.bA]) q q q (.obj q) (.b2 q q) q nt q q q q (.b q (.n q q (.n q q (.n q q .nil))))))) q q (by kernel_rfl) q q q (.c (.inr (.inr (.inr (.inr (.inr ⟨_,q,tq.pl,Ji⟩))))) q q q q q (gz.wanted .none) (O.dR (cs':=[ag (bb cu) a8.1.cQ,ag (bb aG) a8.1.cL]) q (.obj q) pW q q) .nil) (by kernel_rfl)<|bC.dx 5 (G2:=[(2,.obj (ck.cells aD.1)),(3,.obj [ag (bb cu) a8.1.cQ,ag (bb aG) a8.1.cL]),(33,j b4)]) (cs2:=[ag (bb cu) a8.1.cQ,ag (bb aG) a8.1.cL]) q (by kernel_rfl) (by kernel_rfl) q q q (.obj q) (.b2 q q) q yy q q q q (.n q q (.b q (.n q q .nil)))<|av 6 (O.ec (.lit q))<|av 7 (O.ec (.k q))<|bC.fin q q q (dM q q q q)) ?_
  refine ah.aU<|W.rt ?_
  obtain rfl:=au h
  exact cw (.c (ys0:=[ag bq aD.1.ba,ag a7 aD.1.bw,ag bE aD.1.bc,ae aD.1.bx,ae aD.1.bA]) q gA q q q (.f q (.f q (.f q (.f q (.f q .nil))))) (.c (ys0:=[ag (bb cu) a8.1.cQ,ag (bb aG) a8.1.cL]) q pW q q q (.f q (.f q .nil)) (.f q q (.f q q .nil))))
theorem O_ (a0:(List cE)) (aw:(List cE)) (r:Bool) (h:yf a0 aw=some r):b_ Try.prog 49 [ag dC a0,ag dC aw] [none,none] (a1 r):=by
 unfold yf at h
 refine b_.go (N:=⟨26,[]⟩) Try.func49 q q q q (W.fin ?_)
 refine W.st [(0,ag dC a0),(1,ag dC aw)] ?_
 refine W.aT [0,1] ?_
 refine W.aX<|W.aT [0,1,10] ?_
 refine W.bu h q (λdb h=>?_) (λdb h=>?_)
 ·refine W.aT [4] ?_
  refine W.rt ?_
  refine ah.c5 ?_
  obtain rfl:=au h
  exact cw (.f q q .nil)
 ·refine W.bF<|ah.aU ?_
  refine W.aX<|W.aT [0,1,5] ?_
  refine W.bf ?_
  obtain ⟨a8,ao,h⟩:=ax h
  refine W.ca (G1:=[(0,_),(1,_),(5,_)]) (dt q q q) ?_
  refine W.jZ (s:=0) (λ(s2:Int)=>[(0,ag dC a0),(1,ag dC aw),(5,j s2)]) 0 (λ(b4:Unit)=>[]) (λ(cn:Bool)=>[(4,a1 cn)]) ao (λs2 o h=>?_) (λb4 J=>?_) (λcn J=>?_)
  ·clear ao
   refine W.aX<|W.aT [0,1,5,14] ?_
   refine W.bu h q (λee h=>?_) (λee h=>?_)
   ·refine W.bF<|ah.aU ?_
    refine W.aX<|W.bf ?_
    refine W.aX ?_
    obtain ⟨bz,gw,h⟩:=ax h
    obtain ⟨b1,hK,h⟩:=ax h
    refine W.rd [[],[],[0,1],[0,1,2],[],[],[4,5],[4,5,6],aN 0 8 []] [(0,_),(1,_),(5,_),(25,_)] ei (by kernel_rfl) (av 0 (O.aC (.aF q))<|av 1 (O.aC (.lit q))<|av 2 (O.cC (.aF q) (.lit q) r6 gw)<|av 3 (O.iq (cs':=[j bz.At,j bz.pT]) (.bo q) IZ q q)<|av 4 (O.aC (.aF q))<|av 5 (O.aC (.lit q))<|av 6 (O.cC (.aF q) (.lit q) r6 hK)<|av 7 (O.iq (cs':=[j b1.At,j b1.pT]) (.bo q) IZ q q)<|av 8 (O.LR (va:=[.int .i64 bz.At,.int .i64 bz.pT]) (vb:=[.int .i64 b1.At,.int .i64 b1.pT]) (.b2 q q) (.b2 q q) q q PT)<|bC.fin q q q (dM q q q q)) ?_
    refine ah.aU<|W.bu h q (λdi h=>?_) (λdi h=>?_)
    ·refine W.aT [4] ?_
     refine W.rt ?_
     refine ah.d_ ?_
     refine ah.c5 ?_
     obtain rfl:=au h
     exact ah.gx (.n q .nil)
    ·refine W.bF<|ah.bf ?_
     refine ah.aU<|W.bk [0,1,5] (bp q<|ai (O.add (.lit q) (.k q))<|aq.bk [0,1,16] q<|aq.aV) ?_
     obtain rfl:=au h
     exact ah.go (dt q q q)
   ·refine W.c9 ?_
    refine ah.c7 ?_
    obtain rfl:=au h
    exact ah.x2 .nil
  ·subst J
   refine ah.c' ?_
   refine ah.aU<|W.aT [4] ?_
   refine W.rt ?_
   obtain rfl:=au h
   exact cw (.f q q .nil)
  ·subst J
   refine ah.d_ ?_
   refine ah.c5 ?_
   obtain rfl:=au h
   exact cw (.f q q .nil)
theorem Co (a0:(List Row)) (aw:(List Row)) (r:Bool) (h:rf a0 aw=some r):b_ Try.prog 22 [ag dO a0,ag dO aw] [none,none] (a1 r):=by
 unfold rf at h
 refine b_.go (N:=⟨42,[]⟩) Try.func22 q q q q (W.fin ?_)
 refine W.st [(0,ag dO a0),(1,ag dO aw)] ?_
 refine W.aT [0,1] ?_
 refine W.aX<|W.aT [0,1,10] ?_
 refine W.bu h q (λdb h=>?_) (λdb h=>?_)
 ·refine W.aT [4] ?_
  refine W.rt ?_
  refine ah.c5 ?_
  obtain rfl:=au h
  exact cw (.f q q .nil)
 ·refine W.bF<|ah.aU ?_
  refine W.aX<|W.aT [0,1,5] ?_
  refine W.bf ?_
  obtain ⟨a8,ao,h⟩:=ax h
  refine W.ca (G1:=[(0,_),(1,_),(5,_)]) (dt q q q) ?_
  refine W.jZ (s:=0) (λ(s2:Int)=>[(0,ag dO a0),(1,ag dO aw),(5,j s2)]) 0 (λ(b4:Unit)=>[]) (λ(cn:Bool)=>[(4,a1 cn)]) ao (λs2 o h=>?_) (λb4 J=>?_) (λcn J=>?_)
  ·clear ao
   refine W.aX<|W.aT [0,1,5,14] ?_
   refine W.bu h q (λee h=>?_) (λee h=>?_)
   ·refine W.bF<|ah.aU ?_
    refine W.aX<|W.bf ?_
    refine W.aX ?_
    obtain ⟨jK,aa,h⟩:=ax h
    refine W.rd [[],[],[0,1],[0,1,2],[0,1,2,3],[],[],[5,6],[5,6,7],[5,6,7,8],aN 0 10 [],aN 0 11 [],aN 0 12 [],aN 0 12 [],aN 0 14 [],aN 0 15 [],aN 0 16 [],aN 0 12 [],aN 0 12 [],aN 0 12 [17,18],aN 0 12 [17,18,19],aN 0 12 [17,18,19,20],aN 0 22 [],aN 0 23 [],aN 0 24 []] [(0,ag dO a0),(1,ag dO aw),(5,j s2),(41,a1 jK)] ei (by kernel_rfl) ?_ ?_
    ·refine av 0 (O.aC (.aF q))<|av 1 (O.aC (.lit q)) ?_
     obtain ⟨bz,gw,aa⟩:=ax aa
     refine av 2 (O.cC (.aF q) (.lit q) rn gw)<|av 3 (O.ez (.bo q) xp)<|av 4 (O.dd (x:=j bz.Def) (.bo q) ct q)<|av 5 (O.aC (.aF q))<|av 6 (O.aC (.lit q)) ?_
     obtain ⟨b1,hK,aa⟩:=ax aa
     refine av 7 (O.cC (.aF q) (.lit q) rn hK)<|av 8 (O.ez (.bo q) xp)<|av 9 (O.dd (x:=j b1.Def) (.bo q) ct q)<|av 10 (O.neq (.lit q) (.lit q))<|av 11 (O.aC (.lit q)) ?_
     rcases cB aa with ⟨di,aa⟩ | ⟨di,aa⟩
     ·obtain rfl:=au aa
      exact bS 12 di<|bS 13 di<|bS 14 di<|bS 15 di<|bS 16 di<|bS 17 di<|bS 18 di<|bS 19 di<|bS 20 di<|bS 21 di<|bS 22 di<|bS 23 di<|av 24 (O.eB (.lit q) di (.k q))<|bC.fin q q q (dM q q q q)
     ·refine b8 12 di (O.aC (.aF q))<|b8 13 di (O.aC (.lit q)) ?_
      obtain ⟨bM,iF,aa⟩:=ax aa
      refine b8 14 di (O.cC (.aF q) (.lit q) rn iF)<|b8 15 di (O.ez (.bo q) qN)<|b8 16 di (O.dd (x:=ag dC bM.rC) (.bo q) u6 q)<|b8 17 di (O.aC (.aF q))<|b8 18 di (O.aC (.lit q)) ?_
      obtain ⟨bD,gQ,aa⟩:=ax aa
      refine b8 19 di (O.cC (.aF q) (.lit q) rn gQ)<|b8 20 di (O.ez (.bo q) qN)<|b8 21 di (O.dd (x:=ag dC bD.rC) (.bo q) u6 q) ?_
      obtain ⟨dh,kL,aa⟩:=ax aa
      obtain rfl:=au aa
      exact bC.c 22 (cr.go (.bT (.aF q) (.bT (.aF q) .nil)) (O_ bM.rC bD.rC _ kL) call49 q) q q q q (.hf q q di)<|b8 23 di (O.not (.lit q))<|av 24 (O.dL (.lit q) di (.lit q))<|bC.fin q q q (dM q q q q)
    refine ah.aU<|W.bu h q (λeD h=>?_) (λeD h=>?_)
    ·refine W.aT [4] ?_
     refine W.rt ?_
     refine ah.d_ ?_
     refine ah.c5 ?_
     obtain rfl:=au h
     exact ah.gx (.n q .nil)
    ·refine W.bF<|ah.bf ?_
     refine ah.aU<|W.bk [0,1,5] (bp q<|ai (O.add (.lit q) (.k q))<|aq.bk [0,1,16] q<|aq.aV) ?_
     obtain rfl:=au h
     exact ah.go (dt q q q)
   ·refine W.c9 ?_
    refine ah.c7 ?_
    obtain rfl:=au h
    exact ah.x2 .nil
  ·subst J
   refine ah.c' ?_
   refine ah.aU<|W.aT [4] ?_
   refine W.rt ?_
   obtain rfl:=au h
   exact cw (.f q q .nil)
  ·subst J
   refine ah.d_ ?_
   refine ah.c5 ?_
   obtain rfl:=au h
   exact cw (.f q q .nil)
theorem Jy (a0:(List Int)) (r:Int) (h:wc a0=some r):b_ Try.prog 50 [ag aG a0] [none] (j r):=by
 unfold wc at h
 refine b_.go (N:=⟨44,[]⟩) Try.func50 q q q q (W.fin ?_)
 refine W.st [(0,ag aG a0)] ?_
 refine W.aT [0] ?_
 refine W.bV [0,3] (ai (O.TB qe qg)<|aq.fN (G2:=[(0,ag aG a0)]) q (b9.B3 (y':=.mp (kB qe qg ([]:List (Int × Int)))) q q (.mp q) (.m q .nil) .refl (.n q .nil) q q)<|bK q) ?_
 refine W.aT [0,3,4] ?_
 refine W.aX<|W.bV [3,4,9,10,11] (ai (O.aC (.aF q))<|ai (O.hc (.aF q) eS)<|ai (O.aC (.k q))<|bK q) ?_
 refine W.bf ?_
 obtain ⟨x2,ao,h⟩:=ax h
 refine W.ca (G1:=[(3,_),(4,_),(9,_),(10,_),(11,_)]) (dX q q q q q) ?_
 refine W.eg (s:=(([]:List (Int × Int)),(-1),0)) (λ(s1:(List (Int × Int)) × Int × Int)=>[(3,.mp (kB qe qg s1.1)),(4,j s1.2.1),(9,ag aG a0),(10,j (a0.length:Int)),(11,j s1.2.2)]) 0 (λ(x2:Int)=>[(4,j x2)]) ao (λs1 o h=>?_) ?_
 ·clear ao
  refine W.aT [3,4,9,10,11,12] ?_
  refine W.aX<|W.bu h q (λc0 h=>?_) (λc0 h=>?_)
  ·refine W.bF<|ah.aU ?_
   refine W.aX ?_
   obtain ⟨nk,aa,h⟩:=ax h
   refine W.bs [(3,.mp (kB qe qg nk.1)),(4,j nk.2),(9,ag aG a0),(10,j (a0.length:Int)),(11,j s1.2.2)] ?_ ?_
   ·clear h; have h:=aa; clear aa
    refine W.bf ?_
    obtain ⟨bP,ga,h⟩:=ax h
    refine W.aT [3,4,6,9,10,11] ?_
    obtain ⟨bz,gw,h⟩:=ax h
    obtain ⟨b1,hK,h⟩:=ax h
    refine W.bV [3,4,6,9,10,11] (ai (O.aC (.mp q))<|bp q<|ai (O.qd (K:=qe) (V:=qg) (m:=s1.1) (x:=bP) (Y:=j bP) (X:=j bz) (.hN q) q (.lit q) q DX gw q)<|ai (O.add (.lit q) (.k q))<|aq.h_ (G2:=[(3,.mp (kB qe qg b1)),(4,j s1.2.1),(6,j bP),(9,ag aG a0),(10,j (a0.length:Int)),(11,j s1.2.2)]) q (b9.mt (K:=qe) (V:=qg) (m:=s1.1) (m':=b1) (x:=bP) (y:=aO (bz+1)) (Y:=j bP) (Z:=j (aO (bz+1))) (p:=⟨3,[]⟩) (x2:=.mp (kB qe qg b1)) q q (.hN q) q (.lit q) q (.lit q) q DX hK q q q (.b q (.n q q (.n q q (.n q q (.n q q (.n q q .nil)))))))<|bK q) ?_
    obtain ⟨cv,jx,h⟩:=ax h
    obtain ⟨bM,iF,h⟩:=ax h
    refine W.bV [3,4,6,7,9,10,11] (ai (O.aC (.mp q))<|bp q<|ai (O.qd (K:=qe) (V:=qg) (m:=b1) (x:=bP) (Y:=j bP) (X:=j cv) (.hN q) q (.lit q) q DX jx q)<|ai (O.aC (.mp q))<|bp q<|ai (O.qd (K:=qe) (V:=qg) (m:=b1) (x:=s1.2.1) (Y:=j s1.2.1) (X:=j bM) (.hN q) q (.lit q) q DX iF q)<|aq.aV) ?_
    obtain ⟨qG,aa,h⟩:=ax h
    refine W.rs [(3,.mp (kB qe qg b1)),(4,j s1.2.1),(6,j bP),(9,ag aG a0),(10,j (a0.length:Int)),(11,j s1.2.2),(40,a1 qG)] ?_ ?_
    ·refine bp q<|ai (O.lss (.lit q) (.k q))<|ai (O.aC (.lit q)) ?_
     rcases cB aa with ⟨e_,aa⟩ | ⟨e_,aa⟩
     ·obtain rfl:=au aa
      exact aq.aV
     ·refine aW e_ (O.aC (.lit q))<|aW e_ (O.gtr (.lit q) (.k q))<|ai (O.dL (.lit q) e_ (.lit q))<|ai (O.aC (.lit q)) ?_
      rcases cB aa with ⟨dz,aa⟩ | ⟨dz,aa⟩
      ·obtain rfl:=au aa
       exact aq.aV
      ·refine aW dz (O.aC (.lit q))<|aW dz (O.eql (.lit q) (.k q))<|aW dz (O.aC (.lit q)) ?_
       rcases cB aa with ⟨hn,aa⟩ | ⟨hn,aa⟩
       ·obtain rfl:=au aa
        exact aW hn (O.aC (.lit q))<|aW hn (O.aC (.lit q))<|aW hn (O.lss (.lit q) (.lit q))<|aW dz (O.eB (.lit q) hn (.lit q))<|aq.aV
       ·obtain rfl:=au aa
        exact cF hn<|cF hn<|cF hn<|aW dz (O.dL (.lit q) hn (.k q))<|aq.aV
    obtain ⟨nK,aa,h⟩:=ax h
    refine W.bs [(3,.mp (kB qe qg b1)),(4,j nK),(9,ag aG a0),(10,j (a0.length:Int)),(11,j s1.2.2)] ?_ ?_
    ·clear h; have h:=aa; clear aa
     refine W.bu h q (λgf h=>?_) (λgf h=>?_)
     ·refine W.bk [3,4,9,10,11] (bp q<|aq.bk [3,9,10,11,41] q<|aq.aV) ?_
      obtain rfl:=au h
      exact ah.bs (dX q q q q q)
     ·refine W.bF ?_
      obtain rfl:=au h
      exact ah.bs (dX q q q q q)
    refine ah.bf ?_
    obtain rfl:=au h
    exact ah.bs (dX q q q q q)
   refine ah.aU<|W.bk [3,4,9,10,11] (ai (O.add (.lit q) (.k q))<|aq.bk [3,4,9,10,42] q<|aq.aV) ?_
   obtain rfl:=au h
   exact ah.go (dX q q q q q)
  ·refine W.c9 ?_
   refine ah.c7 ?_
   obtain rfl:=au h
   exact ah.aD (.n q .nil)
 refine ah.c' ?_
 refine ah.aU<|W.aT [2] ?_
 refine W.rt ?_
 obtain rfl:=au h
 exact cw (.f q q .nil)
theorem Jv (a0:jE) (r:(List Row)) (h:yc a0=some r):b_ Try.prog 23 [.agg [ag (bb cu) a0.cQ,ag (bb aG) a0.cL]] [none] (ag dO r):=by
 unfold yc at h
 refine b_.go (N:=⟨75,[]⟩) Try.func23 q q q q (W.fin ?_)
 refine W.st [(0,.agg [ag (bb cu) a0.cQ,ag (bb aG) a0.cL])] ?_
 refine W.bV [1] (ai (O.box (.b2 q q) q)<|aq.aV) ?_
 refine W.aT [1,3] ?_
 refine W.aX<|W.bV [3,13,14,15] (ai (O.a_ q (.obj q) xo q)<|ai (O.cU (y:=ag (bb cu) a0.cQ) q (.ptr q) zc q q)<|ai (O.hc (.aF q) Bv)<|ai (O.aC (.k q))<|bK q) ?_
 refine W.bf ?_
 obtain ⟨x2,ao,h⟩:=ax h
 refine W.ca (G1:=[(3,ak dO ([]:List Row)),(13,_),(14,_),(15,_)]) (.w q q .lb (dt q q q)) ?_
 refine W.eg (s:=(([]:List Row),0)) (λ(s1:List Row × Int)=>[(3,ak dO s1.1),(13,ag (bb cu) a0.cQ),(14,j (a0.cQ.length:Int)),(15,j s1.2)]) 0 (λ(x2:List Row)=>[(3,ak dO x2)]) ao (λs1 o h=>?_) ?_
 ·clear ao
  refine W.aT [3,13,14,15,16] ?_
  refine W.aX<|W.bu h q (λc0 h=>?_) (λc0 h=>?_)
  ·refine W.bF<|ah.aU ?_
   refine W.aX<|W.bf ?_
   obtain ⟨cn,kM,h⟩:=ax h
   refine W.aT [3,5,13,14,15] ?_
   refine W.aT [3,5,6,13,14,15] ?_
   refine W.aX<|W.bV [3,5,6,13,14,15,19,20,21] (ai (O.aC (.aF q))<|ai (O.hc (.aF q) ta)<|ai (O.aC (.k q))<|bK q) ?_
   refine W.bf ?_
   obtain ⟨bz,ao,h⟩:=ax h
   refine W.ca (G1:=[(3,_),(5,_),(6,ak aG ([]:List Int)),(13,_),(14,_),(15,_),(19,_),(20,_),(21,_)]) (.n q (.n q (.w q q .lb (fw q q q q q q)))) ?_
   refine W.eg (s:=(([]:List Int),0)) (λ(cM:List Int × Int)=>[(3,ak dO s1.1),(5,ag cu cn),(6,ak aG cM.1),(13,ag (bb cu) a0.cQ),(14,j (a0.cQ.length:Int)),(15,j s1.2),(19,ag cu cn),(20,j (cn.length:Int)),(21,j cM.2)]) 2 (λ(bz:List Int)=>[(3,ak dO s1.1),(5,ag cu cn),(6,ak aG bz),(13,ag (bb cu) a0.cQ),(14,j (a0.cQ.length:Int)),(15,j s1.2)]) ao (λcM o h=>?_) ?_
   ·clear ao
    refine W.aT [3,5,6,13,14,15,19,20,21,22] ?_
    refine W.aX<|W.bu h q (λdi h=>?_) (λdi h=>?_)
    ·refine W.bF<|ah.aU ?_
     refine W.aX ?_
     obtain ⟨kd,aa,h⟩:=ax h
     refine W.bs [(3,ak dO s1.1),(5,ag cu cn),(6,ak aG kd),(13,ag (bb cu) a0.cQ),(14,j (a0.cQ.length:Int)),(15,j s1.2),(19,ag cu cn),(20,j (cn.length:Int)),(21,j cM.2)] ?_ ?_
     ·clear h; have h:=aa; clear aa
      refine W.bf ?_
      obtain ⟨bD,gQ,h⟩:=ax h
      refine W.bV [3,5,6,8,13,14,15,19,20,21] (ai (O.cC (.aF q) (.lit q) ta gQ)<|ai (O.iq (cs':=[j bD.Kind,j bD.N]) (.bo q) lG q q)<|ai (O.fq (cs:=[j 0,j 0]) lS q q)<|aq.dx (G2:=[(3,_),(5,_),(6,_),(8,_),(13,_),(14,_),(15,_),(19,_),(20,_),(21,_)]) (cs2:=[j bD.Kind,j bD.N]) q (.obj q) (.b2 q q) q mP q q q q (.n q q (.n q q (.n q q (.b q (.n q q (.n q q (.n q q (.n q q (.n q q (.n q q .nil))))))))))<|bK q) ?_
      refine W.aT [3,5,6,8,13,14,15,19,20,21,27] ?_
      obtain ⟨fj,aa,h⟩:=ax h
      refine W.bs [(3,ak dO s1.1),(5,ag cu cn),(6,ak aG fj),(13,ag (bb cu) a0.cQ),(14,j (a0.cQ.length:Int)),(15,j s1.2),(19,ag cu cn),(20,j (cn.length:Int)),(21,j cM.2)] ?_ ?_
      ·clear h; have h:=aa; clear aa
       refine W.bu h q (λhn h=>?_) (λhn h=>?_)
       ·obtain ⟨dU,jP,h⟩:=ax h
        refine W.bk [3,5,6,13,14,15,19,20,21] (ai (O.aC (.own q))<|ai (O.a_ q (.obj q) qM q)<|ai (O.cq q (.ptr q) ct q)<|aq.eY (x:=ag aG [bD.N]) (O.dg (ys:=[j bD.N]) aG [bD.N] eS q q q q q q nR q q) q q .none<|ai (O.ap (en:=aG) (r:=dU) (.bl q) q (.aF q) .i nx q jP)<|aq.fN (G2:=[(3,ak dO s1.1),(5,ag cu cn),(13,ag (bb cu) a0.cQ),(14,j (a0.cQ.length:Int)),(15,j s1.2),(19,ag cu cn),(20,j (cn.length:Int)),(21,j cM.2)]) q (b9.lp q q (.bR q) q q q (.n q q (.n q q (.n q q (.n q q (.n q q (.n q q (.n q q (.n q q .nil)))))))) q q)<|bK q) ?_
        obtain rfl:=au h
        exact ah.bs (iI q q q q q q q q q)
       ·refine W.bF ?_
        obtain rfl:=au h
        exact ah.bs (iI q q q q q q q q q)
      refine ah.bf ?_
      obtain rfl:=au h
      exact ah.bs (iI q q q q q q q q q)
     refine ah.aU<|W.bk [3,5,6,13,14,15,19,20,21] (ai (O.add (.lit q) (.k q))<|aq.bk [3,5,6,13,14,15,19,20,33] q<|aq.aV) ?_
     obtain rfl:=au h
     exact ah.go (iI q q q q q q q q q)
    ·refine W.c9 ?_
     refine ah.c7 ?_
     obtain rfl:=au h
     exact ah.aD (fw q q q q q q)
   refine ah.c' ?_
   refine ah.aU ?_
   obtain ⟨cH,hI,h⟩:=ax h
   refine W.bV [3,5,9,13,14,15] (ai (O.aC (.own q))<|eE (cr.vw (ys:=[.bl aG.z ⟨6,[]⟩ bz.length]) q (.c (.row q) .nil) (Jy bz _ hI) call50 q)<|ai (O.dE (cs:=[j cH,.aI]) rl om q q q)<|ai (O.fq (cs:=[j 0,.aI]) om q q)<|aq.dx (G2:=[(3,_),(5,_),(9,_),(13,_),(14,_),(15,_)]) (cs2:=[j cH,.aI]) q (.obj q) (.b2 q q) q DT q q q q (.n q q (.n q q (.b q (.n q q (.n q q (.n q q .nil))))))<|bK q) ?_
   refine W.aX<|W.bV [3,9,13,14,15,37,38,39] (ai (O.aC (.aF q))<|ai (O.hc (.aF q) ta)<|ai (O.aC (.k q))<|bK q) ?_
   refine W.bf ?_
   obtain ⟨bZ,ao,h⟩:=ax h
   refine W.ca (G1:=[(3,_),(9,.obj [j cH,ak dC ([]:List cE)]),(13,_),(14,_),(15,_),(37,_),(38,_),(39,_)]) (.n q (.w q q (jg.obj (.f (.o .nil))) (fw q q q q q q))) ?_
   refine W.eg (s:=(([]:List cE),0)) (λ(hq:List cE × Int)=>[(3,ak dO s1.1),(9,.obj [j cH,ak dC hq.1]),(13,ag (bb cu) a0.cQ),(14,j (a0.cQ.length:Int)),(15,j s1.2),(37,ag cu cn),(38,j (cn.length:Int)),(39,j hq.2)]) 4 (λ(bZ:List cE)=>[(3,ak dO s1.1),(9,.obj [j cH,ak dC bZ]),(13,ag (bb cu) a0.cQ),(14,j (a0.cQ.length:Int)),(15,j s1.2)]) ao (λhq o h=>?_) ?_
   ·clear ao
    refine W.aT [3,9,13,14,15,37,38,39,40] ?_
    refine W.aX<|W.bu h q (λkJ h=>?_) (λkJ h=>?_)
    ·refine W.bF<|ah.aU ?_
     refine W.aX ?_
     obtain ⟨vE,aa,h⟩:=ax h
     refine W.bs [(3,ak dO s1.1),(9,.obj [j cH,ak dC vE]),(13,ag (bb cu) a0.cQ),(14,j (a0.cQ.length:Int)),(15,j s1.2),(37,ag cu cn),(38,j (cn.length:Int)),(39,j hq.2)] ?_ ?_
     ·clear h; have h:=aa; clear aa
      refine W.bf ?_
      obtain ⟨dk,nF,h⟩:=ax h
      refine W.bV [3,9,10,11,13,14,15,37,38,39] (bp q<|ai (O.cC (.aF q) (.lit q) ta nF)<|ai (O.iq (cs':=[j dk.Kind,j dk.N]) (.bo q) lG q q)<|ai (O.fq (cs:=[j 0,j 0]) lS q q)<|ID q<|aq.dx (G2:=[(3,_),(9,_),(10,_),(11,_),(13,_),(14,_),(15,_),(37,_),(38,_),(39,_)]) (cs2:=[j dk.Kind,j dk.N]) q (.obj q) (.b2 q q) q mP q q q q (.n q q (.n q q (.n q q (.b q (.n q q (.n q q (.n q q (.n q q (.n q q (.n q q .nil))))))))))<|bK q) ?_
      obtain ⟨so,aa,h⟩:=ax h
      refine W.rs [(3,ak dO s1.1),(9,.obj [j cH,ak dC hq.1]),(10,j hq.2),(11,.obj [j dk.Kind,j dk.N]),(13,ag (bb cu) a0.cQ),(14,j (a0.cQ.length:Int)),(15,j s1.2),(37,ag cu cn),(38,j (cn.length:Int)),(39,j hq.2),(58,a1 so)] ?_ ?_
      ·refine ai (O.a_ q (.obj q) pb q)<|ai (O.cq q (.ptr q) ct q)<|ai (O.neq (.lit q) (.k q))<|ai (O.aC (.lit q)) ?_
       rcases cB aa with ⟨m_,aa⟩ | ⟨m_,aa⟩
       ·refine aW m_ (O.a_ q (.obj q) pb q)<|aW m_ (O.cq q (.ptr q) ct q)<|aW m_ (O.neq (.lit q) (.k q))<|aW m_ (O.aC (.lit q)) ?_
        rcases cB aa with ⟨gn,aa⟩ | ⟨gn,aa⟩
        ·obtain rfl:=au aa
         exact cF gn<|cF gn<|cF gn<|cF gn<|cF gn<|aW m_ (O.eB (.lit q) gn (.k q))<|aq.aV
        ·obtain rfl:=au aa
         exact aW gn (O.a_ q (.obj q) qM q)<|aW gn (O.cq q (.ptr q) ct q)<|aW gn (O.a_ q (.obj q) xp q)<|aW gn (O.cq q (.ptr q) ct q)<|aW gn (O.neq (.lit q) (.lit q))<|aW m_ (O.dL (.lit q) gn (.lit q))<|aq.aV
       ·obtain rfl:=au aa
        exact aq.aV
      obtain ⟨vG,aa,h⟩:=ax h
      refine W.bs [(3,ak dO s1.1),(9,.obj [j cH,ak dC vG]),(13,ag (bb cu) a0.cQ),(14,j (a0.cQ.length:Int)),(15,j s1.2),(37,ag cu cn),(38,j (cn.length:Int)),(39,j hq.2)] ?_ ?_
      ·clear h; have h:=aa; clear aa
       refine W.bu h q (λgV h=>?_) (λgV h=>?_)
       ·obtain ⟨fE,l6,h⟩:=ax h
        obtain ⟨c8,sY,h⟩:=ax h
        refine W.rd [[],[0],[],[],[3],[2,3,4],[2,3,4,5],aN 0 7 [],aN 0 8 [],aN 0 9 []] [(3,_),(9,_),(13,_),(14,_),(15,_),(37,_),(38,_),(39,_)] ei (by kernel_rfl) (av 0 (O.a_ q (.obj q) qN q)<|av 1 (O.cU (y:=.bl dC.z ⟨9,[1]⟩ hq.1.length) q (.ptr q) u6 q q)<|av 2 (O.aC (.lit q))<|av 3 (O.dR (cs':=[j dk.Kind,j dk.N]) q (.obj q) lG q q)<|gR 4 (cr.go (.bT (.b2 q q) .nil) (Jt dk _ l6) call15 q)<|av 5 (O.dE (cs:=[j hq.2,j fE]) uC uL q q q)<|bC.eY 6 (x:=ag dC [(⟨hq.2,fE⟩:cE)]) (O.dg (ys:=[.agg [j hq.2,j fE]]) dC [(⟨hq.2,fE⟩:cE)] r6 q q q q q q wJ q q) q q q q .none<|av 7 (O.ap (en:=dC) (r:=c8) (.bl q) q (.aF q) .i B6 q sY)<|av 8 (O.a_ q (.obj q) qN q)<|bC.iZ 9 (G2:=[(3,ak dO s1.1),(9,.obj [j cH,ak dC (hq.1++[(⟨hq.2,fE⟩:cE)])]),(13,ag (bb cu) a0.cQ),(14,j (a0.cQ.length:Int)),(15,j s1.2),(37,ag cu cn),(38,j (cn.length:Int)),(39,j hq.2)]) (b9.kt (g1:=_) (en:=dC) (M:=[(⟨hq.2,fE⟩:cE)]) (cs2:=[j cH,ak dC (hq.1++[(⟨hq.2,fE⟩:cE)])]) q q (.ptr q) (.bR q) q q q .iH .gk q q DS q q q q (.n q q (.b q (.n q q (.n q q (.n q q (.n q q (.n q q (.n q q .nil))))))))) q q q q (by kernel_rfl) (by kernel_rfl)<|bC.fin q q q (jR q q q q q q q q)) ?_
        obtain rfl:=au h
        exact ah.bs (jR q q q q q q q q)
       ·refine W.bF ?_
        obtain rfl:=au h
        exact ah.bs (jR q q q q q q q q)
      refine ah.bf ?_
      obtain rfl:=au h
      exact ah.bs (jR q q q q q q q q)
     refine ah.aU<|W.bk [3,9,13,14,15,37,38,39] (ai (O.add (.lit q) (.k q))<|aq.bk [3,9,13,14,15,37,38,68] q<|aq.aV) ?_
     obtain rfl:=au h
     exact ah.go (jR q q q q q q q q)
    ·refine W.c9 ?_
     refine ah.c7 ?_
     obtain rfl:=au h
     exact ah.aD (dX q q q q q)
   refine ah.c' ?_
   refine ah.aU<|W.eF (G1:=[(3,_),(9,.obj [j cH,ag dC bZ]),(13,_),(14,_),(15,_)]) [9] (.n q q (.z q q (gr.obj (.f (.z .nil))) (.n q q (.n q q (.n q q .nil))))) ?_
   obtain ⟨e3,l7,h⟩:=ax h
   refine W.bk [3,13,14,15] (ai (O.aC (.own q))<|ai (O.dR (cs':=[j cH,ag dC bZ]) q (.obj q) B' q q)<|aq.eY (x:=ag dO [(⟨cH,bZ⟩:Row)]) (O.dg (ys:=[.agg [j cH,ag dC bZ]]) dO [(⟨cH,bZ⟩:Row)] rn q q q q q q yG q q) q q .none<|ai (O.ap (en:=dO) (r:=e3) (.bl q) q (.aF q) .i B5 q l7)<|aq.fN (G2:=[(13,ag (bb cu) a0.cQ),(14,j (a0.cQ.length:Int)),(15,j s1.2)]) q (b9.lp q q (.bR q) q q q (.n q q (.n q q (.n q q .nil))) q q)<|bK q) ?_
   refine ah.bf ?_
   refine ah.aU<|W.bk [3,13,14,15] (ai (O.add (.lit q) (.k q))<|aq.bk [3,13,14,73] q<|aq.aV) ?_
   obtain rfl:=au h
   exact ah.go (dM q q q q)
  ·refine W.c9 ?_
   refine ah.c7 ?_
   obtain rfl:=au h
   exact ah.aD (.n q .nil)
 refine ah.c' ?_
 refine ah.aU<|W.bV [2] (ai (O.aC (.own q))<|aq.fN (G2:=[]) q (b9.ik q q (.bl q) q .nil q q)<|bK q) ?_
 refine W.eF (G1:=[(2,ag dO x2)]) [2] (.z q q .ha .nil) ?_
 refine W.rt ?_
 obtain rfl:=au h
 exact cw (.f q q .nil)
theorem Jw (a0:jE) (r:(List Row)) (h:yd a0=some r):b_ Try.prog 25 [.agg [ag (bb cu) a0.cQ,ag (bb aG) a0.cL]] [none] (ag dO r):=by
 unfold yd at h
 refine b_.go (N:=⟨86,[]⟩) Try.func25 q q q q (W.fin ?_)
 refine W.st [(0,.agg [ag (bb cu) a0.cQ,ag (bb aG) a0.cL])] ?_
 refine W.bV [1] (ai (O.box (.b2 q q) q)<|aq.aV) ?_
 refine W.aX<|W.aT [1,14] ?_
 refine W.bu h q (λdb h=>?_) (λdb h=>?_)
 ·refine W.aT [2] ?_
  refine W.eF (G1:=[(2,ag dO ([]:List Row))]) [2] (.z q q .ha .nil) ?_
  refine W.rt ?_
  refine ah.c5 ?_
  obtain rfl:=au h
  exact cw (.f q q .nil)
 ·refine W.bF<|ah.aU ?_
  refine W.aT [1,3] ?_
  refine W.aX ?_
  obtain ⟨x2,ho,h⟩:=ax h
  refine W.bV [1,3,19,20] (ai (O.a_ q (.obj q) sD q)<|ai (O.cU (y:=ag (bb aG) a0.cL) q (.ptr q) pY q q)<|ai (O.cC (.aF q) (.k q) kQ ho)<|ai (O.dd (x:=ag aG x2) (.bo q) hC q)<|ai (O.hc (.aF q) eS)<|ai (O.aC (.k q))<|bK q) ?_
  refine W.bf ?_
  obtain ⟨b4,ao,h⟩:=ax h
  refine W.ca (G1:=[(1,_),(3,ak dO ([]:List Row)),(19,_),(20,_)]) (.n q (.w q q .lb (fC q q))) ?_
  refine W.eg (s:=(([]:List Row),0)) (λ(cK:List Row × Int)=>[(1,.obj [ag (bb cu) a0.cQ,ag (bb aG) a0.cL]),(3,ak dO cK.1),(19,j (x2.length:Int)),(20,j cK.2)]) 0 (λ(b4:List Row)=>[(3,ak dO b4)]) ao (λcK o h=>?_) ?_
  ·clear ao
   refine W.aT [1,3,19,20,21] ?_
   refine W.aX<|W.bu h q (λee h=>?_) (λee h=>?_)
   ·refine W.bF<|ah.aU ?_
    refine W.aX<|W.bf ?_
    refine W.aT [1,3,4,19,20] ?_
    refine W.aT [1,3,4,5,19,20] ?_
    refine W.aX<|W.bV [1,3,4,5,19,20,24,25,26] (ai (O.a_ q (.obj q) sD q)<|ai (O.cU (y:=ag (bb aG) a0.cL) q (.ptr q) pY q q)<|ai (O.hc (.aF q) kQ)<|ai (O.aC (.k q))<|bK q) ?_
    refine W.bf ?_
    obtain ⟨b1,ao,h⟩:=ax h
    refine W.ca (G1:=[(1,_),(3,_),(4,_),(5,ak aG ([]:List Int)),(19,_),(20,_),(24,_),(25,_),(26,_)]) (.n q (.n q (.n q (.w q q .lb (dX q q q q q))))) ?_
    refine W.eg (s:=(([]:List Int),0)) (λ(ev:List Int × Int)=>[(1,.obj [ag (bb cu) a0.cQ,ag (bb aG) a0.cL]),(3,ak dO cK.1),(4,j cK.2),(5,ak aG ev.1),(19,j (x2.length:Int)),(20,j cK.2),(24,ag (bb aG) a0.cL),(25,j (a0.cL.length:Int)),(26,j ev.2)]) 2 (λ(b1:List Int)=>[(1,.obj [ag (bb cu) a0.cQ,ag (bb aG) a0.cL]),(3,ak dO cK.1),(4,j cK.2),(5,ak aG b1),(19,j (x2.length:Int)),(20,j cK.2)]) ao (λev o h=>?_) ?_
    ·clear ao
     refine W.aT [1,3,4,5,19,20,24,25,26,27] ?_
     refine W.aX<|W.bu h q (λeJ h=>?_) (λeJ h=>?_)
     ·refine W.bF<|ah.aU ?_
      refine W.aX ?_
      obtain ⟨gT,aa,h⟩:=ax h
      refine W.bs [(1,.obj [ag (bb cu) a0.cQ,ag (bb aG) a0.cL]),(3,ak dO cK.1),(4,j cK.2),(5,ak aG gT),(19,j (x2.length:Int)),(20,j cK.2),(24,ag (bb aG) a0.cL),(25,j (a0.cL.length:Int)),(26,j ev.2)] ?_ ?_
      ·clear h; have h:=aa; clear aa
       refine W.bf ?_
       obtain ⟨dh,kL,h⟩:=ax h
       refine W.aT [1,3,4,5,7,19,20,24,25,26] ?_
       obtain ⟨eb,jX,h⟩:=ax h
       refine W.aT [1,3,4,5,7,19,20,24,25,26,34] ?_
       obtain ⟨dv,aa,h⟩:=ax h
       refine W.bs [(1,.obj [ag (bb cu) a0.cQ,ag (bb aG) a0.cL]),(3,ak dO cK.1),(4,j cK.2),(5,ak aG dv),(19,j (x2.length:Int)),(20,j cK.2),(24,ag (bb aG) a0.cL),(25,j (a0.cL.length:Int)),(26,j ev.2)] ?_ ?_
       ·clear h; have h:=aa; clear aa
        refine W.bu h q (λpg h=>?_) (λpg h=>?_)
        ·obtain ⟨cj,jY,h⟩:=ax h
         obtain ⟨bZ,gS,h⟩:=ax h
         refine W.bk [1,3,4,5,19,20,24,25,26] (ai (O.aC (.own q))<|ai (O.aC (.aF q))<|bp q<|ai (O.cC (.aF q) (.lit q) eS jY)<|ai (O.dd (x:=j cj) (.bo q) ct q)<|aq.eY (x:=ag aG [cj]) (O.dg (ys:=[j cj]) aG [cj] eS q q q q q q nR q q) q q .none<|ai (O.ap (en:=aG) (r:=bZ) (.bl q) q (.aF q) .i nx q gS)<|aq.fN (G2:=[(1,.obj [ag (bb cu) a0.cQ,ag (bb aG) a0.cL]),(3,ak dO cK.1),(4,j cK.2),(19,j (x2.length:Int)),(20,j cK.2),(24,ag (bb aG) a0.cL),(25,j (a0.cL.length:Int)),(26,j ev.2)]) q (b9.lp q q (.bR q) q q q (.n q q (.n q q (.n q q (.n q q (.n q q (.n q q (.n q q (.n q q .nil)))))))) q q)<|bK q) ?_
         obtain rfl:=au h
         exact ah.bs (iI q q q q q q q q q)
        ·refine W.bF ?_
         obtain rfl:=au h
         exact ah.bs (iI q q q q q q q q q)
       refine ah.bf ?_
       obtain rfl:=au h
       exact ah.bs (iI q q q q q q q q q)
      refine ah.aU<|W.bk [1,3,4,5,19,20,24,25,26] (ai (O.add (.lit q) (.k q))<|aq.bk [1,3,4,5,19,20,24,25,42] q<|aq.aV) ?_
      obtain rfl:=au h
      exact ah.go (iI q q q q q q q q q)
     ·refine W.c9 ?_
      refine ah.c7 ?_
      obtain rfl:=au h
      exact ah.aD (fw q q q q q q)
    refine ah.c' ?_
    refine ah.aU ?_
    obtain ⟨dS,iG,h⟩:=ax h
    refine W.bV [1,3,4,8,19,20] (ai (O.aC (.own q))<|eE (cr.vw (ys:=[.bl aG.z ⟨5,[]⟩ b1.length]) q (.c (.row q) .nil) (Jy b1 _ iG) call50 q)<|ai (O.dE (cs:=[j dS,.aI]) rl om q q q)<|ai (O.fq (cs:=[j 0,.aI]) om q q)<|aq.dx (G2:=[(1,_),(3,_),(4,_),(8,_),(19,_),(20,_)]) (cs2:=[j dS,.aI]) q (.obj q) (.b2 q q) q DT q q q q (.n q q (.n q q (.n q q (.b q (.n q q (.n q q .nil))))))<|bK q) ?_
    refine W.aX<|W.bV [1,3,4,8,19,20,47,48,49] (ai (O.a_ q (.obj q) sD q)<|ai (O.cU (y:=ag (bb aG) a0.cL) q (.ptr q) pY q q)<|ai (O.hc (.aF q) kQ)<|ai (O.aC (.k q))<|bK q) ?_
    refine W.bf ?_
    obtain ⟨dj,ao,h⟩:=ax h
    refine W.ca (G1:=[(1,_),(3,_),(4,_),(8,.obj [j dS,ak dC ([]:List cE)]),(19,_),(20,_),(47,_),(48,_),(49,_)]) (.n q (.n q (.n q (.w q q (jg.obj (.f (.o .nil))) (dX q q q q q))))) ?_
    refine W.eg (s:=(([]:List cE),0)) (λ(c6:List cE × Int)=>[(1,.obj [ag (bb cu) a0.cQ,ag (bb aG) a0.cL]),(3,ak dO cK.1),(4,j cK.2),(8,.obj [j dS,ak dC c6.1]),(19,j (x2.length:Int)),(20,j cK.2),(47,ag (bb aG) a0.cL),(48,j (a0.cL.length:Int)),(49,j c6.2)]) 4 (λ(dj:List cE)=>[(1,.obj [ag (bb cu) a0.cQ,ag (bb aG) a0.cL]),(3,ak dO cK.1),(8,.obj [j dS,ak dC dj]),(19,j (x2.length:Int)),(20,j cK.2)]) ao (λc6 o h=>?_) ?_
    ·clear ao
     refine W.aT [1,3,4,8,19,20,47,48,49,50] ?_
     refine W.aX<|W.bu h q (λm_ h=>?_) (λm_ h=>?_)
     ·refine W.bF<|ah.aU ?_
      refine W.aX ?_
      obtain ⟨GR,aa,h⟩:=ax h
      refine W.bs [(1,.obj [ag (bb cu) a0.cQ,ag (bb aG) a0.cL]),(3,ak dO cK.1),(4,j cK.2),(8,.obj [j dS,ak dC GR]),(19,j (x2.length:Int)),(20,j cK.2),(47,ag (bb aG) a0.cL),(48,j (a0.cL.length:Int)),(49,j c6.2)] ?_ ?_
      ·clear h; have h:=aa; clear aa
       refine W.bf ?_
       obtain ⟨gg,lO,h⟩:=ax h
       refine W.aT [1,3,4,8,9,10,19,20,47,48,49] ?_
       refine W.aX ?_
       obtain ⟨tA,aa,h⟩:=ax h
       refine W.rd [[],[],[0,1],[0,1,2],[0,1,2,3],aN 0 5 [],aN 0 6 [],aN 0 6 [],aN 0 8 [],aN 0 9 [],aN 0 6 [],aN 0 6 [10],aN 0 12 [],aN 0 13 []] [(1,.obj [ag (bb cu) a0.cQ,ag (bb aG) a0.cL]),(3,ak dO cK.1),(4,j cK.2),(8,.obj [j dS,ak dC c6.1]),(9,j c6.2),(10,ag aG gg),(19,j (x2.length:Int)),(20,j cK.2),(47,ag (bb aG) a0.cL),(48,j (a0.cL.length:Int)),(49,j c6.2),(67,a1 tA)] ei (by kernel_rfl) ?_ ?_
       ·refine av 0 (O.aC (.aF q))<|av 1 (O.aC (.lit q)) ?_
        obtain ⟨e6,k',aa⟩:=ax aa
        refine av 2 (O.cC (.aF q) (.lit q) eS k')<|av 3 (O.dd (x:=j e6) (.bo q) ct q)<|av 4 (O.geq (.lit q) (.k q))<|av 5 (O.aC (.lit q)) ?_
        rcases cB aa with ⟨gV,aa⟩ | ⟨gV,aa⟩
        ·refine b8 6 gV (O.aC (.aF q))<|b8 7 gV (O.aC (.lit q)) ?_
         obtain ⟨fE,l6,aa⟩:=ax aa
         obtain rfl:=au aa
         exact b8 8 gV (O.cC (.aF q) (.lit q) eS l6)<|b8 9 gV (O.dd (x:=j fE) (.bo q) ct q)<|b8 10 gV (O.a_ q (.obj q) xp q)<|b8 11 gV (O.cq q (.ptr q) ct q)<|b8 12 gV (O.neq (.lit q) (.lit q))<|av 13 (O.eB (.lit q) gV (.lit q))<|bC.fin q q q (.n q (.n q (.n q (.n q (.n q (.n q (.n q (.n q (.n q (.n q (.n q (.n q .nil))))))))))))
        ·obtain rfl:=au aa
         exact bS 6 gV<|bS 7 gV<|bS 8 gV<|bS 9 gV<|bS 10 gV<|bS 11 gV<|bS 12 gV<|av 13 (O.dL (.lit q) gV (.k q))<|bC.fin q q q (.n q (.n q (.n q (.n q (.n q (.n q (.n q (.n q (.n q (.n q (.n q (.n q .nil))))))))))))
       refine ah.aU ?_
       obtain ⟨s5,aa,h⟩:=ax h
       refine W.bs [(1,.obj [ag (bb cu) a0.cQ,ag (bb aG) a0.cL]),(3,ak dO cK.1),(4,j cK.2),(8,.obj [j dS,ak dC s5]),(19,j (x2.length:Int)),(20,j cK.2),(47,ag (bb aG) a0.cL),(48,j (a0.cL.length:Int)),(49,j c6.2)] ?_ ?_
       ·clear h; have h:=aa; clear aa
        refine W.bu h q (λvk h=>?_) (λvk h=>?_)
        ·obtain ⟨hs,l8,h⟩:=ax h
         obtain ⟨cZ,n3,h⟩:=ax h
         refine W.rd [[],[0],[],[],[],[3,4],[3,4,5],aN 2 5 [],aN 2 6 [],aN 0 9 [],aN 0 10 [],aN 0 11 []] [(1,_),(3,_),(4,_),(8,_),(19,_),(20,_),(47,_),(48,_),(49,_)] ei (by kernel_rfl) (av 0 (O.a_ q (.obj q) qN q)<|av 1 (O.cU (y:=.bl dC.z ⟨8,[1]⟩ c6.1.length) q (.ptr q) u6 q q)<|av 2 (O.aC (.lit q))<|av 3 (O.aC (.aF q))<|av 4 (O.aC (.lit q))<|av 5 (O.cC (.aF q) (.lit q) eS l8)<|av 6 (O.dd (x:=j hs) (.bo q) ct q)<|av 7 (O.dE (cs:=[j c6.2,j hs]) uC uL q q q)<|bC.eY 8 (x:=ag dC [(⟨c6.2,hs⟩:cE)]) (O.dg (ys:=[.agg [j c6.2,j hs]]) dC [(⟨c6.2,hs⟩:cE)] r6 q q q q q q wJ q q) q q q q .none<|av 9 (O.ap (en:=dC) (r:=cZ) (.bl q) q (.aF q) .i B6 q n3)<|av 10 (O.a_ q (.obj q) qN q)<|bC.iZ 11 (G2:=[(1,.obj [ag (bb cu) a0.cQ,ag (bb aG) a0.cL]),(3,ak dO cK.1),(4,j cK.2),(8,.obj [j dS,ak dC (c6.1++[(⟨c6.2,hs⟩:cE)])]),(19,j (x2.length:Int)),(20,j cK.2),(47,ag (bb aG) a0.cL),(48,j (a0.cL.length:Int)),(49,j c6.2)]) (b9.kt (g1:=_) (en:=dC) (M:=[(⟨c6.2,hs⟩:cE)]) (cs2:=[j dS,ak dC (c6.1++[(⟨c6.2,hs⟩:cE)])]) q q (.ptr q) (.bR q) q q q .iH .gk q q DS q q q q (.n q q (.n q q (.n q q (.b q (.n q q (.n q q (.n q q (.n q q (.n q q .nil)))))))))) q q q q (by kernel_rfl) (by kernel_rfl)<|bC.fin q q q (iI q q q q q q q q q)) ?_
         obtain rfl:=au h
         exact ah.bs (iI q q q q q q q q q)
        ·refine W.bF ?_
         obtain rfl:=au h
         exact ah.bs (iI q q q q q q q q q)
       refine ah.bf ?_
       obtain rfl:=au h
       exact ah.bs (iI q q q q q q q q q)
      refine ah.aU<|W.bk [1,3,4,8,19,20,47,48,49] (ai (O.add (.lit q) (.k q))<|aq.bk [1,3,4,8,19,20,47,48,79] q<|aq.aV) ?_
      obtain rfl:=au h
      exact ah.go (iI q q q q q q q q q)
     ·refine W.c9 ?_
      refine ah.c7 ?_
      obtain rfl:=au h
      exact ah.aD (dX q q q q q)
    refine ah.c' ?_
    refine ah.aU<|W.eF (G1:=[(1,_),(3,_),(8,.obj [j dS,ag dC dj]),(19,_),(20,_)]) [8] (.n q q (.n q q (.z q q (gr.obj (.f (.z .nil))) (.n q q (.n q q .nil))))) ?_
    obtain ⟨gy,pq,h⟩:=ax h
    refine W.bk [1,3,19,20] (ai (O.aC (.own q))<|ai (O.dR (cs':=[j dS,ag dC dj]) q (.obj q) B' q q)<|aq.eY (x:=ag dO [(⟨dS,dj⟩:Row)]) (O.dg (ys:=[.agg [j dS,ag dC dj]]) dO [(⟨dS,dj⟩:Row)] rn q q q q q q yG q q) q q .none<|ai (O.ap (en:=dO) (r:=gy) (.bl q) q (.aF q) .i B5 q pq)<|aq.fN (G2:=[(1,.obj [ag (bb cu) a0.cQ,ag (bb aG) a0.cL]),(19,j (x2.length:Int)),(20,j cK.2)]) q (b9.lp q q (.bR q) q q q (.n q q (.n q q (.n q q .nil))) q q)<|bK q) ?_
    refine ah.bf ?_
    refine ah.aU<|W.bk [1,3,19,20] (ai (O.add (.lit q) (.k q))<|aq.bk [1,3,19,84] q<|aq.aV) ?_
    obtain rfl:=au h
    exact ah.go (dM q q q q)
   ·refine W.c9 ?_
    refine ah.c7 ?_
    obtain rfl:=au h
    exact ah.aD (.n q .nil)
  refine ah.c' ?_
  refine ah.aU<|W.bV [2] (ai (O.aC (.own q))<|aq.fN (G2:=[]) q (b9.ik q q (.bl q) q .nil q q)<|bK q) ?_
  refine W.eF (G1:=[(2,ag dO b4)]) [2] (.z q q .ha .nil) ?_
  refine W.rt ?_
  obtain rfl:=au h
  exact cw (.f q q .nil)
theorem OY  (r:Bool) (h:DB =some r):b_ Try.prog 13 [] [] (a1 r):=by
 unfold DB at h
 refine b_.go (N:=⟨71,[]⟩) Try.func13 q q q q (W.fin ?_)
 refine W.st [] ?_
 refine W.ec [] ?_
 refine W.bV [1,2,3] (ai (O.dE (cs:=[ae ({ data:=#[101] }),a1 false,j 0,j 0]) uD pK q q q)<|ai (O.dE (cs:=[ae ({ data:=#[101] }),a1 false,j 0,j 0,ae aA,j 0]) uE oZ q q q)<|ai (O.dE (cs:=[ae ({ data:=#[120] }),a1 true,j 0,j 0]) uD pK q q q)<|ai (O.dE (cs:=[ae ({ data:=#[120] }),a1 true,j 0,j 0,ae aA,j 0]) uE oZ q q q)<|ai (O.dE (cs:=[ae ({ data:=#[43] }),a1 true,j 0,j 0]) uD pK q q q)<|ai (O.dE (cs:=[ae ({ data:=#[43] }),a1 true,j 0,j 0,ae aA,j 0]) uE oZ q q q)<|ai (O.fq (cs:=[ae aA,a1 false,j 0,j 0,ae aA,j 0]) oZ q q)<|ai (O.fq (cs:=[ae aA,a1 false,j 0,j 0,ae aA,j 0]) oZ q q)<|ai (O.fq (cs:=[ae aA,a1 false,j 0,j 0,ae aA,j 0]) oZ q q)<|aq.dx (G2:=[(1,_),(2,_),(3,_),(12,_),(14,_)]) (cs2:=[ae ({ data:=#[101] }),a1 false,j 0,j 0,ae aA,j 0]) q (.obj q) (.b2 q q) q yz q q q q (.b q (.n q q (.n q q (.n q q (.n q q .nil)))))<|aq.dx (G2:=[(1,_),(2,_),(3,_),(14,_)]) (cs2:=[ae ({ data:=#[120] }),a1 true,j 0,j 0,ae aA,j 0]) q (.obj q) (.b2 q q) q yz q q q q (.n q q (.b q (.n q q (.n q q .nil))))<|aq.dx (G2:=[(1,_),(2,_),(3,_)]) (cs2:=[ae ({ data:=#[43] }),a1 true,j 0,j 0,ae aA,j 0]) q (.obj q) (.b2 q q) q yz q q q q (.n q q (.n q q (.b q .nil)))<|bK q) ?_
 obtain ⟨aD,fF,h⟩:=ax h
 refine W.bV [5,7] (ai (O.dR (cs':=[ae ({ data:=#[101] }),a1 false,j 0,j 0,ae aA,j 0]) q (.obj q) uT q q)<|ai (O.dR (cs':=[ae ({ data:=#[43] }),a1 true,j 0,j 0,ae aA,j 0]) q (.obj q) uT q q)<|ai (O.dR (cs':=[ae ({ data:=#[120] }),a1 true,j 0,j 0,ae aA,j 0]) q (.obj q) uT q q)<|aq.eY (x:=ag ed [(⟨(⟨{ data:=#[101] },false,0,0⟩:Sym),aA,0⟩:Part),(⟨(⟨{ data:=#[43] },true,0,0⟩:Sym),aA,0⟩:Part),(⟨(⟨{ data:=#[120] },true,0,0⟩:Sym),aA,0⟩:Part)]) (O.dg (ys:=[.agg [ae ({ data:=#[101] }),a1 false,j 0,j 0,ae aA,j 0],.agg [ae ({ data:=#[43] }),a1 true,j 0,j 0,ae aA,j 0],.agg [ae ({ data:=#[120] }),a1 true,j 0,j 0,ae aA,j 0]]) ed [(⟨(⟨{ data:=#[101] },false,0,0⟩:Sym),aA,0⟩:Part),(⟨(⟨{ data:=#[43] },true,0,0⟩:Sym),aA,0⟩:Part),(⟨(⟨{ data:=#[120] },true,0,0⟩:Sym),aA,0⟩:Part)] qu q q q q q q wK q q) q q .none<|ai (O.dE (cs:=[ag ed [(⟨(⟨{ data:=#[101] },false,0,0⟩:Sym),aA,0⟩:Part),(⟨(⟨{ data:=#[43] },true,0,0⟩:Sym),aA,0⟩:Part),(⟨(⟨{ data:=#[120] },true,0,0⟩:Sym),aA,0⟩:Part)],ae aA,a1 false,j 0,j 0,j 0]) DN yE q q q)<|ai (O.dR (cs':=[ae ({ data:=#[120] }),a1 true,j 0,j 0,ae aA,j 0]) q (.obj q) uT q q)<|aq.eY (x:=ag ed [(⟨(⟨{ data:=#[120] },true,0,0⟩:Sym),aA,0⟩:Part)]) (O.dg (ys:=[.agg [ae ({ data:=#[120] }),a1 true,j 0,j 0,ae aA,j 0]]) ed [(⟨(⟨{ data:=#[120] },true,0,0⟩:Sym),aA,0⟩:Part)] qu q q q q q q wK q q) q q .none<|ai (O.dE (cs:=[ag ed [(⟨(⟨{ data:=#[120] },true,0,0⟩:Sym),aA,0⟩:Part)],ae aA,a1 false,j 0,j 0,j 0]) DN yE q q q)<|aq.eY (x:=ag dN [(⟨[(⟨(⟨{ data:=#[101] },false,0,0⟩:Sym),aA,0⟩:Part),(⟨(⟨{ data:=#[43] },true,0,0⟩:Sym),aA,0⟩:Part),(⟨(⟨{ data:=#[120] },true,0,0⟩:Sym),aA,0⟩:Part)],(⟨aA,false,0,0⟩:Sym),0⟩:Alt),(⟨[(⟨(⟨{ data:=#[120] },true,0,0⟩:Sym),aA,0⟩:Part)],(⟨aA,false,0,0⟩:Sym),0⟩:Alt)]) (O.dg (ys:=[.agg [ag ed [(⟨(⟨{ data:=#[101] },false,0,0⟩:Sym),aA,0⟩:Part),(⟨(⟨{ data:=#[43] },true,0,0⟩:Sym),aA,0⟩:Part),(⟨(⟨{ data:=#[120] },true,0,0⟩:Sym),aA,0⟩:Part)],ae aA,a1 false,j 0,j 0,j 0],.agg [ag ed [(⟨(⟨{ data:=#[120] },true,0,0⟩:Sym),aA,0⟩:Part)],ae aA,a1 false,j 0,j 0,j 0]]) dN [(⟨[(⟨(⟨{ data:=#[101] },false,0,0⟩:Sym),aA,0⟩:Part),(⟨(⟨{ data:=#[43] },true,0,0⟩:Sym),aA,0⟩:Part),(⟨(⟨{ data:=#[120] },true,0,0⟩:Sym),aA,0⟩:Part)],(⟨aA,false,0,0⟩:Sym),0⟩:Alt),(⟨[(⟨(⟨{ data:=#[120] },true,0,0⟩:Sym),aA,0⟩:Part)],(⟨aA,false,0,0⟩:Sym),0⟩:Alt)] pF q q q q q q D6 q q) q q .none<|ai (O.dE (cs:=[ae ({ data:=#[101] }),ag dN [(⟨[(⟨(⟨{ data:=#[101] },false,0,0⟩:Sym),aA,0⟩:Part),(⟨(⟨{ data:=#[43] },true,0,0⟩:Sym),aA,0⟩:Part),(⟨(⟨{ data:=#[120] },true,0,0⟩:Sym),aA,0⟩:Part)],(⟨aA,false,0,0⟩:Sym),0⟩:Alt),(⟨[(⟨(⟨{ data:=#[120] },true,0,0⟩:Sym),aA,0⟩:Part)],(⟨aA,false,0,0⟩:Sym),0⟩:Alt)],j 0]) HK yF q q q)<|aq.eY (x:=ag eM [(⟨{ data:=#[101] },[(⟨[(⟨(⟨{ data:=#[101] },false,0,0⟩:Sym),aA,0⟩:Part),(⟨(⟨{ data:=#[43] },true,0,0⟩:Sym),aA,0⟩:Part),(⟨(⟨{ data:=#[120] },true,0,0⟩:Sym),aA,0⟩:Part)],(⟨aA,false,0,0⟩:Sym),0⟩:Alt),(⟨[(⟨(⟨{ data:=#[120] },true,0,0⟩:Sym),aA,0⟩:Part)],(⟨aA,false,0,0⟩:Sym),0⟩:Alt)],0⟩:fi)]) (O.dg (ys:=[.agg [ae ({ data:=#[101] }),ag dN [(⟨[(⟨(⟨{ data:=#[101] },false,0,0⟩:Sym),aA,0⟩:Part),(⟨(⟨{ data:=#[43] },true,0,0⟩:Sym),aA,0⟩:Part),(⟨(⟨{ data:=#[120] },true,0,0⟩:Sym),aA,0⟩:Part)],(⟨aA,false,0,0⟩:Sym),0⟩:Alt),(⟨[(⟨(⟨{ data:=#[120] },true,0,0⟩:Sym),aA,0⟩:Part)],(⟨aA,false,0,0⟩:Sym),0⟩:Alt)],j 0]]) eM [(⟨{ data:=#[101] },[(⟨[(⟨(⟨{ data:=#[101] },false,0,0⟩:Sym),aA,0⟩:Part),(⟨(⟨{ data:=#[43] },true,0,0⟩:Sym),aA,0⟩:Part),(⟨(⟨{ data:=#[120] },true,0,0⟩:Sym),aA,0⟩:Part)],(⟨aA,false,0,0⟩:Sym),0⟩:Alt),(⟨[(⟨(⟨{ data:=#[120] },true,0,0⟩:Sym),aA,0⟩:Part)],(⟨aA,false,0,0⟩:Sym),0⟩:Alt)],0⟩:fi)] lh q q q q q q Il q q) q q .none<|aq.eY (x:=.agg [ae aA,ag cx ([]:List Decl),ag eM [(⟨{ data:=#[101] },[(⟨[(⟨(⟨{ data:=#[101] },false,0,0⟩:Sym),aA,0⟩:Part),(⟨(⟨{ data:=#[43] },true,0,0⟩:Sym),aA,0⟩:Part),(⟨(⟨{ data:=#[120] },true,0,0⟩:Sym),aA,0⟩:Part)],(⟨aA,false,0,0⟩:Sym),0⟩:Alt),(⟨[(⟨(⟨{ data:=#[120] },true,0,0⟩:Sym),aA,0⟩:Part)],(⟨aA,false,0,0⟩:Sym),0⟩:Alt)],0⟩:fi)],ae aA]) (O.dE (cs:=[ae aA,.aI,ag eM [(⟨{ data:=#[101] },[(⟨[(⟨(⟨{ data:=#[101] },false,0,0⟩:Sym),aA,0⟩:Part),(⟨(⟨{ data:=#[43] },true,0,0⟩:Sym),aA,0⟩:Part),(⟨(⟨{ data:=#[120] },true,0,0⟩:Sym),aA,0⟩:Part)],(⟨aA,false,0,0⟩:Sym),0⟩:Alt),(⟨[(⟨(⟨{ data:=#[120] },true,0,0⟩:Sym),aA,0⟩:Part)],(⟨aA,false,0,0⟩:Sym),0⟩:Alt)],0⟩:fi)],ae aA]) HI wF q q q) q q .none<|eE (cr.go (.bT (.b2 q q) .nil) (Ju (⟨aA,([]:List Decl),[(⟨{ data:=#[101] },[(⟨[(⟨(⟨{ data:=#[101] },false,0,0⟩:Sym),aA,0⟩:Part),(⟨(⟨{ data:=#[43] },true,0,0⟩:Sym),aA,0⟩:Part),(⟨(⟨{ data:=#[120] },true,0,0⟩:Sym),aA,0⟩:Part)],(⟨aA,false,0,0⟩:Sym),0⟩:Alt),(⟨[(⟨(⟨{ data:=#[120] },true,0,0⟩:Sym),aA,0⟩:Part)],(⟨aA,false,0,0⟩:Sym),0⟩:Alt)],0⟩:fi)],aA⟩:Source) _ fF) call21 q)<|ai (O.aC (.cG q q))<|ai (O.ex (y:=.agg (ck.cells aD.1)) q q q)<|ai (O.ex (y:=.agg [ag (bb cu) aD.2.1.cQ,ag (bb aG) aD.2.1.cL]) q q q)<|ai (O.ex (y:=j aD.2.2.1) q q q)<|ai (O.ex (y:=a1 aD.2.2.2) q q q)<|ai (O.fq (cs:=[.aI,.aI,.aI,ae aA,ae aA]) oY q q)<|ai (O.fq (cs:=[.aI,.aI]) wG q q)<|aq.dx (G2:=[(4,_),(5,_),(30,_),(31,_),(32,_)]) (cs2:=[ag bq aD.1.ba,ag a7 aD.1.bw,ag bE aD.1.bc,ae aD.1.bx,ae aD.1.bA]) q (.obj q) (.b2 q q) q nt q q q q (.b q (.n q q (.n q q (.n q q (.n q q .nil)))))<|aq.dx (G2:=[(5,_),(31,_),(32,_)]) (cs2:=[ag (bb cu) aD.2.1.cQ,ag (bb aG) aD.2.1.cL]) q (.obj q) (.b2 q q) q yy q q q q (.b q (.n q q (.n q q .nil)))<|aq.aV) ?_
 refine W.bV [5,7,8] (ai (O.dE (cs:=[j 4,j 2]) uC uL q q q)<|aq.eY (x:=ag dC [(⟨4,2⟩:cE)]) (O.dg (ys:=[.agg [j 4,j 2]]) dC [(⟨4,2⟩:cE)] r6 q q q q q q wJ q q) q q .none<|ai (O.dE (cs:=[j (-1),ag dC [(⟨4,2⟩:cE)]]) rl om q q q)<|aq.eY (x:=.agg [j 2,ag dC ([]:List cE)]) (O.dE (cs:=[j 2,.aI]) rl om q q q) q q .none<|ai (O.dE (cs:=[j 0,j 20001]) uC uL q q q)<|ai (O.dE (cs:=[j 3,j 4]) uC uL q q q)<|aq.eY (x:=ag dC [(⟨0,20001⟩:cE),(⟨3,4⟩:cE)]) (O.dg (ys:=[.agg [j 0,j 20001],.agg [j 3,j 4]]) dC [(⟨0,20001⟩:cE),(⟨3,4⟩:cE)] r6 q q q q q q wJ q q) q q .none<|ai (O.dE (cs:=[j (-1),ag dC [(⟨0,20001⟩:cE),(⟨3,4⟩:cE)]]) rl om q q q)<|ai (O.dE (cs:=[j 4,j 5]) uC uL q q q)<|aq.eY (x:=ag dC [(⟨4,5⟩:cE)]) (O.dg (ys:=[.agg [j 4,j 5]]) dC [(⟨4,5⟩:cE)] r6 q q q q q q wJ q q) q q .none<|ai (O.dE (cs:=[j (-1),ag dC [(⟨4,5⟩:cE)]]) rl om q q q)<|aq.eY (x:=.agg [j 1,ag dC ([]:List cE)]) (O.dE (cs:=[j 1,.aI]) rl om q q q) q q .none<|ai (O.dg (ys:=[.agg [j (-1),ag dC [(⟨4,2⟩:cE)]],.agg [j 2,ag dC ([]:List cE)],.agg [j (-1),ag dC [(⟨0,20001⟩:cE),(⟨3,4⟩:cE)]],.agg [j (-1),ag dC [(⟨4,5⟩:cE)]],.agg [j 1,ag dC ([]:List cE)]]) dO [(⟨(-1),[(⟨4,2⟩:cE)]⟩:Row),(⟨2,([]:List cE)⟩:Row),(⟨(-1),[(⟨0,20001⟩:cE),(⟨3,4⟩:cE)]⟩:Row),(⟨(-1),[(⟨4,5⟩:cE)]⟩:Row),(⟨1,([]:List cE)⟩:Row)] rn q q q q q q yG q q)<|aq.fN (G2:=[(5,.obj [ag (bb cu) aD.2.1.cQ,ag (bb aG) aD.2.1.cL]),(7,a1 aD.2.2.2)]) q (b9.ik q q (.own q) q (.n q q (.n q q .nil)) q q)<|bK q) ?_
 obtain ⟨qF,aa,h⟩:=ax h
 refine W.rs [(0,a1 qF)] ?_ ?_
 ·refine bp q<|ai (O.aC (.lit q)) ?_
  rcases cB aa with ⟨cP,aa⟩ | ⟨cP,aa⟩
  ·refine aW cP (O.dR (cs':=[ag (bb cu) aD.2.1.cQ,ag (bb aG) aD.2.1.cL]) q (.obj q) pW q q) ?_
   obtain ⟨a8,hJ,aa⟩:=ax aa
   refine aq.c (cr.go (.bT (.b2 q q) .nil) (Jv aD.2.1 _ hJ) call23 q) q q (.hf q q cP)<|aW cP (O.aC (.own q)) ?_
   obtain ⟨b4,n5,aa⟩:=ax aa
   refine aq.c (cr.vw (ys:=[ag dO a8,.bl dO.z ⟨8,[]⟩ [(⟨(-1),[(⟨4,2⟩:cE)]⟩:Row),(⟨2,([]:List cE)⟩:Row),(⟨(-1),[(⟨0,20001⟩:cE),(⟨3,4⟩:cE)]⟩:Row),(⟨(-1),[(⟨4,5⟩:cE)]⟩:Row),(⟨1,([]:List cE)⟩:Row)].length]) q (.s (.c (.row q) .nil)) (Co a8 [(⟨(-1),[(⟨4,2⟩:cE)]⟩:Row),(⟨2,([]:List cE)⟩:Row),(⟨(-1),[(⟨0,20001⟩:cE),(⟨3,4⟩:cE)]⟩:Row),(⟨(-1),[(⟨4,5⟩:cE)]⟩:Row),(⟨1,([]:List cE)⟩:Row)] _ n5) call22 q) q q (.hf q q cP)<|ai (O.eB (.lit q) cP (.lit q))<|ai (O.aC (.lit q)) ?_
   rcases cB aa with ⟨dH,aa⟩ | ⟨dH,aa⟩
   ·refine aW dH (O.dR (cs':=[ag (bb cu) aD.2.1.cQ,ag (bb aG) aD.2.1.cL]) q (.obj q) pW q q) ?_
    obtain ⟨bP,ga,aa⟩:=ax aa
    refine aq.c (cr.go (.bT (.b2 q q) .nil) (Jw aD.2.1 _ ga) call25 q) q q (.hf q q dH)<|aq.eY (x:=.agg [j (-1),ag dC ([]:List cE)]) (O.dE (cs:=[j (-1),.aI]) rl om q q q) q q (.hf q q dH)<|aq.eY (x:=.agg [j 2,ag dC ([]:List cE)]) (O.dE (cs:=[j 2,.aI]) rl om q q q) q q (.hf q q dH)<|aq.eY (x:=ag dO [(⟨(-1),([]:List cE)⟩:Row),(⟨2,([]:List cE)⟩:Row)]) (O.dg (ys:=[.agg [j (-1),ag dC ([]:List cE)],.agg [j 2,ag dC ([]:List cE)]]) dO [(⟨(-1),([]:List cE)⟩:Row),(⟨2,([]:List cE)⟩:Row)] rn q q q q q q yG q q) q q (.hf q q dH) ?_
    obtain ⟨bz,gw,aa⟩:=ax aa
    refine aq.c (cr.go (.bT (.aF q) (.bT (.aF q) .nil)) (Co bP [(⟨(-1),([]:List cE)⟩:Row),(⟨2,([]:List cE)⟩:Row)] _ gw) call22 q) q q (.hf q q dH)<|ai (O.eB (.lit q) dH (.lit q))<|ai (O.aC (.lit q)) ?_
    rcases cB aa with ⟨c3,aa⟩ | ⟨c3,aa⟩
    ·refine aW c3 (O.dE (cs:=[j 1,j 4]) qq lS q q q) ?_
     obtain ⟨cv,jx,aa⟩:=ax aa
     refine aq.c (cr.go (.bT (.b2 q q) .nil) (Jt (⟨1,4⟩:Act) _ jx) call15 q) q q (.hf q q c3)<|aW c3 (O.eql (.lit q) (.k q))<|ai (O.eB (.lit q) c3 (.lit q))<|ai (O.aC (.lit q)) ?_
     rcases cB aa with ⟨eJ,aa⟩ | ⟨eJ,aa⟩
     ·obtain ⟨bD,gQ,aa⟩:=ax aa
      obtain rfl:=au aa
      exact aq.c (cr.go (.bT (.k q) .nil) (O0 (-3) _ gQ) call17 q) q q (.hf q q eJ)<|aW eJ (O.dE (cs:=[j 2,j 3]) qq lS q q q)<|aW eJ (O.JU (va:=[.int .i64 bD.Kind,.int .i64 bD.N]) (vb:=[.int .i64 2,.int .i64 3]) (.b2 q q) (.b2 q q) q q PS)<|aq.aV
     ·obtain rfl:=au aa
      exact aq.aV
    ·obtain rfl:=au aa
     exact aq.aV
   ·obtain rfl:=au aa
    exact aq.aV
  ·obtain rfl:=au aa
   exact aq.aV
 refine W.rt ?_
 obtain rfl:=au h
 exact ah.fin (Fin.ro (.f q q .nil) q (pz (by kernel_rfl)) .nil q (.inr q))
theorem Cn (a0:Int) (aw:Int) (r:Int) (h:uw a0 aw=some r):b_ Try.prog 14 [j a0,j aw] [none,none] (j r):=by
 unfold uw at h
 refine b_.go (N:=⟨15,[]⟩) Try.func14 q q q q (W.fin ?_)
 refine W.st [(0,j a0),(1,j aw)] ?_
 refine W.aT [0,1] ?_
 obtain ⟨aD,fF,h⟩:=ax h
 refine W.bV [1,5] (bp q<|bp q<|ai (O.rem (.lit q) (.lit q) fF)<|aq.aV) ?_
 refine W.aX<|W.aT [1,5,10] ?_
 obtain ⟨GQ,aa,h⟩:=ax h
 refine W.bs [(5,j GQ)] ?_ ?_
 ·clear h; have h:=aa; clear aa
  refine W.bu h q (λfe h=>?_) (λfe h=>?_)
  ·refine W.bk [5] (bp q<|bp q<|ai (O.add (.lit q) (.lit q))<|aq.bk [13] q<|aq.aV) ?_
   obtain rfl:=au h
   exact ah.bs (.n q .nil)
  ·refine W.bF ?_
   obtain rfl:=au h
   exact ah.bs (.n q .nil)
 refine ah.aU<|W.aT [4] ?_
 refine W.rt ?_
 obtain rfl:=au h
 exact cw (.f q q .nil)
theorem OZ (a0:Act) (r:Int) (h:mK a0=some r):b_ Try.prog 16 [.agg [j a0.Kind,j a0.N]] [none] (j r):=by
 unfold mK at h
 refine b_.go (N:=⟨55,[]⟩) Try.func16 q q q q (W.fin ?_)
 refine W.st [(0,.agg [j a0.Kind,j a0.N])] ?_
 refine W.bV [1] (ai (O.box (.b2 q q) q)<|aq.aV) ?_
 refine W.aX<|W.bf ?_
 obtain ⟨kn,aa,h⟩:=ax h
 refine W.rs [(1,.obj [j a0.Kind,j a0.N]),(3,a1 kn)] ?_ ?_
 ·refine ai (O.a_ q (.obj q) pb q)<|ai (O.cq q (.ptr q) ct q)<|ai (O.eql (.lit q) (.k q))<|ai (O.aC (.lit q)) ?_
  rcases cB aa with ⟨db,aa⟩ | ⟨db,aa⟩
  ·refine aW db (O.a_ q (.obj q) qM q)<|aW db (O.cq q (.ptr q) ct q)<|aW db (O.geq (.lit q) (.k q))<|ai (O.eB (.lit q) db (.lit q))<|ai (O.aC (.lit q)) ?_
   rcases cB aa with ⟨cP,aa⟩ | ⟨cP,aa⟩
   ·obtain rfl:=au aa
    exact aq.aV
   ·obtain rfl:=au aa
    exact aq.aV
  ·obtain rfl:=au aa
   exact aq.aV
 refine W.bu h q (λc0 h=>?_) (λc0 h=>?_)
 ·refine W.aT [2] ?_
  refine W.rt ?_
  refine ah.d_ ?_
  refine ah.c5 ?_
  obtain rfl:=au h
  exact cw (.f q q .nil)
 ·obtain ⟨lX,aa,h⟩:=ax h
  refine W.rs [(1,.obj [j a0.Kind,j a0.N]),(20,a1 lX)] ?_ ?_
  ·refine ai (O.a_ q (.obj q) pb q)<|ai (O.cq q (.ptr q) ct q)<|ai (O.eql (.lit q) (.k q))<|ai (O.aC (.lit q)) ?_
   rcases cB aa with ⟨dH,aa⟩ | ⟨dH,aa⟩
   ·refine aW dH (O.a_ q (.obj q) qM q)<|aW dH (O.cq q (.ptr q) ct q)<|aW dH (O.geq (.lit q) (.k q))<|ai (O.eB (.lit q) dH (.lit q))<|ai (O.aC (.lit q)) ?_
    rcases cB aa with ⟨ee,aa⟩ | ⟨ee,aa⟩
    ·obtain rfl:=au aa
     exact aq.aV
    ·obtain rfl:=au aa
     exact aq.aV
   ·obtain rfl:=au aa
    exact aq.aV
  refine W.bu h q (λc3 h=>?_) (λc3 h=>?_)
  ·refine W.bV [2] (ai (O.a_ q (.obj q) qM q)<|ai (O.cq q (.ptr q) ct q)<|ai (O.neg (.lit q))<|aq.aV) ?_
   refine W.rt ?_
   refine ah.d_ ?_
   refine ah.c5 ?_
   obtain rfl:=au h
   exact cw (.f q q .nil)
  ·obtain ⟨iz,aa,h⟩:=ax h
   refine W.rs [(1,.obj [j a0.Kind,j a0.N]),(37,a1 iz)] ?_ ?_
   ·refine ai (O.a_ q (.obj q) pb q)<|ai (O.cq q (.ptr q) ct q)<|ai (O.eql (.lit q) (.k q))<|ai (O.aC (.lit q)) ?_
    rcases cB aa with ⟨di,aa⟩ | ⟨di,aa⟩
    ·obtain rfl:=au aa
     exact aq.aV
    ·obtain rfl:=au aa
     exact aq.aV
   refine W.bu h q (λe_ h=>?_) (λe_ h=>?_)
   ·refine W.aT [2] ?_
    refine W.rt ?_
    refine ah.d_ ?_
    refine ah.c5 ?_
    obtain rfl:=au h
    exact cw (.f q q .nil)
   ·obtain ⟨jK,aa,h⟩:=ax h
    refine W.rs [(46,a1 jK)] ?_ ?_
    ·refine ai (O.a_ q (.obj q) pb q)<|ai (O.cq q (.ptr q) ct q)<|ai (O.eql (.lit q) (.k q))<|ai (O.aC (.lit q)) ?_
     rcases cB aa with ⟨dz,aa⟩ | ⟨dz,aa⟩
     ·obtain rfl:=au aa
      exact aq.aV
     ·obtain rfl:=au aa
      exact aq.aV
    refine W.bu h q (λeD h=>?_) (λeD h=>?_)
    ·refine W.aT [2] ?_
     refine W.rt ?_
     refine ah.d_ ?_
     refine ah.c5 ?_
     obtain rfl:=au h
     exact cw (.f q q .nil)
    ·refine W.bF<|ah.bf ?_
     refine ah.aU<|W.aT [2] ?_
     refine W.rt ?_
     obtain rfl:=au h
     exact cw (.f q q .nil)
theorem xg (a0:ByteArray) (aw:Int) (r:ByteArray) (h:rZ a0 aw=some r):b_ Try.prog 42 [ae a0,j aw] [none,none] (ae r):=by
 unfold rZ at h
 refine b_.go (N:=⟨13,[]⟩) Try.func42 q q q q (W.fin ?_)
 refine W.st [(0,ae a0),(1,j aw)] ?_
 refine W.aT [0,1] ?_
 refine W.aX<|W.aT [0,1,8] ?_
 refine W.bu h q (λdb h=>?_) (λdb h=>?_)
 ·obtain ⟨x2,ho,h⟩:=ax h
  refine W.bV [4] (bp q<|bp q<|ai (O.Uy (.lit q) (.lit q) j4 ho)<|aq.aV) ?_
  refine W.rt ?_
  refine ah.c5 ?_
  obtain rfl:=au h
  exact cw (.f q q .nil)
 ·refine W.bF<|ah.aU ?_
  refine W.aT [4] ?_
  refine W.rt ?_
  obtain rfl:=au h
  exact cw (.f q q .nil)
theorem EJ (a0:Sym) (r:Sym) (h:wb a0=some r):b_ Try.prog 43 [.agg (dc.cells a0)] [none] (.agg (dc.cells r)):=by
 unfold wb at h
 refine b_.go (N:=⟨13,[]⟩) Try.func43 q q q q (W.fin ?_)
 refine W.st [(0,.agg (dc.cells a0))] ?_
 refine W.bV [1,2] (ai (O.box (.b2 q q) q)<|ai (O.fq (cs:=[ae aA,a1 false,j 0,j 0]) pK q q)<|bK q) ?_
 refine W.aX ?_
 obtain ⟨aD,fF,h⟩:=ax h
 refine W.rd [[],[0],[0,1],[],[3],[],[5],[],[7],aN 0 9 [],aN 0 10 []] [(2,_)] ei (by kernel_rfl) (av 0 (O.a_ q (.obj q) kq q)<|av 1 (O.cq q (.ptr q) eI q)<|gR 2 (cr.go (.bT (.lit q) (.bT (.k q) .nil)) (xg a0.Name 25 _ fF) call42 q)<|av 3 (O.a_ q (.obj q) tC q)<|av 4 (O.cq q (.ptr q) mW q)<|av 5 (O.a_ q (.obj q) tD q)<|av 6 (O.cq q (.ptr q) ct q)<|av 7 (O.a_ q (.obj q) qO q)<|av 8 (O.cq q (.ptr q) ct q)<|av 9 (O.dE (cs:=[ae aD,a1 a0.Lit,j a0.cJ,j a0.At]) uD pK q q q)<|bC.dx 10 (G2:=[(2,.obj [ae aD,a1 a0.Lit,j a0.cJ,j a0.At])]) (cs2:=[ae aD,a1 a0.Lit,j a0.cJ,j a0.At]) q (by kernel_rfl) (by kernel_rfl) q q q (.obj q) (.b2 q q) q wz q q q q (.b q .nil)<|bC.fin q q q (.n q .nil)) ?_
 refine ah.aU<|W.rt ?_
 obtain rfl:=au h
 exact cw (.c (ys0:=[ae aD,a1 a0.Lit,j a0.cJ,j a0.At]) q kD q q q (.f q (.f q (.f q (.f q .nil)))) .nil)
theorem O1 (a0:Source) (r:Source) (h:AW a0=some r):b_ Try.prog 19 [.agg (da.cells a0)] [none] (.agg (da.cells r)):=by
 unfold AW at h
 refine b_.go (N:=⟨208,[]⟩) Try.func19 q q q q (W.fin ?_)
 refine W.st [(0,.agg (da.cells a0))] ?_
 refine W.bV [1,2] (ai (O.box (.b2 q q) q)<|ai (O.fq (cs:=[ae aA,.aI,.aI,ae aA]) wF q q)<|bK q) ?_
 refine W.aX ?_
 obtain ⟨aD,fF,h⟩:=ax h
 obtain ⟨x2,ho,h⟩:=ax h
 refine W.rd [[],[0],[0,1],[],[3],aN 0 5 [],aN 0 6 [],[],aN 0 8 []] [(1,_),(2,_),(3,_)] ei (by kernel_rfl) (av 0 (O.a_ q (.obj q) CB q)<|av 1 (O.cq q (.ptr q) eI q)<|gR 2 (cr.go (.bT (.lit q) (.bT (.k q) .nil)) (xg a0.bx 40 _ fF) call42 q)<|av 3 (O.a_ q (.obj q) CC q)<|av 4 (O.cq q (.ptr q) eI q)<|gR 5 (cr.go (.bT (.lit q) (.bT (.k q) .nil)) (xg a0.bA 40 _ ho) call42 q)<|av 6 (O.dE (cs:=[ae aD,.aI,.aI,ae x2]) HI wF q q q)<|av 7 (O.fq (cs:=[ae aA,.aI,.aI,ae aA]) wF q q)<|bC.dx 8 (G2:=[(1,.obj (da.cells a0)),(2,.obj [ae aA,.aI,.aI,ae aA]),(3,.obj [ae aD,.aI,.aI,ae x2])]) (cs2:=[ae aD,.aI,.aI,ae x2]) q (by kernel_rfl) (by kernel_rfl) q q q (.obj q) (.b2 q q) q DQ q q q q (.n q q (.n q q (.b q .nil)))<|bC.fin q q q (dt q q q)) ?_
 refine ah.aU<|W.aX ?_
 refine W.aT [1,2,3,4] ?_
 refine W.bf ?_
 obtain ⟨b4,ao,h⟩:=ax h
 refine W.ca (G1:=[(1,_),(2,_),(3,.obj [ae aD,ak cx ([]:List Decl),.aI,ae x2]),(4,_)]) (.n q (.n q (.w q q (jg.obj (.f (.o (.f (.f .nil))))) (.n q .nil)))) ?_
 refine W.eg (s:=(([]:List Decl),0)) (λ(cK:List Decl × Int)=>[(1,.obj (da.cells a0)),(2,.obj [ae aA,.aI,.aI,ae aA]),(3,.obj [ae aD,ak cx cK.1,.aI,ae x2]),(4,j cK.2)]) 0 (λ(b4:List Decl)=>[(1,.obj (da.cells a0)),(2,.obj [ae aA,.aI,.aI,ae aA]),(3,.obj [ae aD,ak cx b4,.aI,ae x2])]) ao (λcK o h=>?_) ?_
 ·clear ao
  refine W.aX ?_
  obtain ⟨lX,aa,h⟩:=ax h
  refine W.rs [(1,.obj (da.cells a0)),(2,.obj [ae aA,.aI,.aI,ae aA]),(3,.obj [ae aD,ak cx cK.1,.aI,ae x2]),(4,j cK.2),(28,a1 lX)] ?_ ?_
  ·refine bp q<|ai (O.a_ q (.obj q) pc q)<|ai (O.cU (y:=ag cx a0.Decls) q (.ptr q) pX q q)<|ai (O.hc (.aF q) oe)<|ai (O.lss (.lit q) (.lit q))<|ai (O.aC (.lit q)) ?_
   rcases cB aa with ⟨ee,aa⟩ | ⟨ee,aa⟩
   ·obtain rfl:=au aa
    exact aq.aV
   ·obtain rfl:=au aa
    exact aq.aV
  refine W.bu h q (λc3 h=>?_) (λc3 h=>?_)
  ·refine W.bF<|ah.aU ?_
   refine W.aX<|W.bf ?_
   refine W.aX ?_
   obtain ⟨cv,jx,h⟩:=ax h
   obtain ⟨bM,iF,h⟩:=ax h
   obtain ⟨bD,gQ,h⟩:=ax h
   obtain ⟨dh,kL,h⟩:=ax h
   refine W.rd [[],[0],[],[0,1,2],[0,1,2,3],aN 0 5 [],[],[6],[],[6,7,8],[6,7,8,9],aN 6 5 [],aN 6 6 [],[],[13],[],[13,14,15],[13,14,15,16],aN 13 5 [],aN 0 19 [],[],aN 0 21 []] [(1,_),(2,_),(3,_),(4,_),(5,_)] ei (by kernel_rfl) (av 0 (O.a_ q (.obj q) pc q)<|av 1 (O.cU (y:=ag cx a0.Decls) q (.ptr q) pX q q)<|av 2 (O.aC (.lit q))<|av 3 (O.cC (.aF q) (.lit q) oe jx)<|av 4 (O.ez (.bo q) oB)<|av 5 (O.dd (x:=j cv.Kind) (.bo q) ct q)<|av 6 (O.a_ q (.obj q) pc q)<|av 7 (O.cU (y:=ag cx a0.Decls) q (.ptr q) pX q q)<|av 8 (O.aC (.lit q))<|av 9 (O.cC (.aF q) (.lit q) oe iF)<|av 10 (O.ez (.bo q) nz)<|av 11 (O.dd (x:=ae bM.Tag) (.bo q) eI q)<|gR 12 (cr.go (.bT (.lit q) (.bT (.k q) .nil)) (xg bM.Tag 25 _ gQ) call42 q)<|av 13 (O.a_ q (.obj q) pc q)<|av 14 (O.cU (y:=ag cx a0.Decls) q (.ptr q) pX q q)<|av 15 (O.aC (.lit q))<|av 16 (O.cC (.aF q) (.lit q) oe kL)<|av 17 (O.ez (.bo q) JV)<|av 18 (O.dd (x:=j dh.At) (.bo q) ct q)<|av 19 (O.dE (cs:=[j cv.Kind,ae bD,.aI,j dh.At]) Mw D3 q q q)<|av 20 (O.fq (cs:=[j 0,ae aA,.aI,j 0]) D3 q q)<|bC.dx 21 (G2:=[(1,.obj (da.cells a0)),(2,.obj [ae aA,.aI,.aI,ae aA]),(3,.obj [ae aD,ak cx cK.1,.aI,ae x2]),(4,j cK.2),(5,.obj [j cv.Kind,ae bD,.aI,j dh.At])]) (cs2:=[j cv.Kind,ae bD,.aI,j dh.At]) q (by kernel_rfl) (by kernel_rfl) q q q (.obj q) (.b2 q q) q MK q q q q (.n q q (.n q q (.n q q (.n q q (.b q .nil)))))<|bC.fin q q q (dX q q q q q)) ?_
   refine ah.aU<|W.aX ?_
   refine W.aT [1,2,3,4,5,6] ?_
   refine W.bf ?_
   obtain ⟨dU,ao,h⟩:=ax h
   refine W.ca (G1:=[(1,_),(2,_),(3,_),(4,_),(5,.obj [j cv.Kind,ae bD,ak dc ([]:List Sym),j dh.At]),(6,_)]) (.n q (.n q (.n q (.n q (.w q q (jg.obj (.f (.f (.o (.f .nil))))) (.n q .nil)))))) ?_
   refine W.eg (s:=(([]:List Sym),0)) (λ(gl:List Sym × Int)=>[(1,.obj (da.cells a0)),(2,.obj [ae aA,.aI,.aI,ae aA]),(3,.obj [ae aD,ak cx cK.1,.aI,ae x2]),(4,j cK.2),(5,.obj [j cv.Kind,ae bD,ak dc gl.1,j dh.At]),(6,j gl.2)]) 2 (λ(dU:List Sym)=>[(1,.obj (da.cells a0)),(2,.obj [ae aA,.aI,.aI,ae aA]),(3,.obj [ae aD,ak cx cK.1,.aI,ae x2]),(4,j cK.2),(5,.obj [j cv.Kind,ae bD,ak dc dU,j dh.At])]) ao (λgl o h=>?_) ?_
   ·clear ao
    refine W.aX ?_
    obtain ⟨nW,aa,h⟩:=ax h
    refine W.rs [(1,.obj (da.cells a0)),(2,.obj [ae aA,.aI,.aI,ae aA]),(3,.obj [ae aD,ak cx cK.1,.aI,ae x2]),(4,j cK.2),(5,.obj [j cv.Kind,ae bD,ak dc gl.1,j dh.At]),(6,j gl.2),(63,a1 nW)] ?_ ?_
    ·refine bp q<|ai (O.a_ q (.obj q) pc q)<|ai (O.cU (y:=ag cx a0.Decls) q (.ptr q) pX q q)<|ai (O.aC (.lit q)) ?_
     obtain ⟨cj,jY,aa⟩:=ax aa
     refine ai (O.cC (.aF q) (.lit q) oe jY)<|ai (O.ez (.bo q) oC)<|ai (O.dd (x:=ag dc cj.eV) (.bo q) p1 q)<|ai (O.hc (.aF q) pG)<|ai (O.lss (.lit q) (.lit q))<|ai (O.aC (.lit q)) ?_
     rcases cB aa with ⟨vh,aa⟩ | ⟨vh,aa⟩
     ·obtain rfl:=au aa
      exact aq.aV
     ·obtain rfl:=au aa
      exact aq.aV
    refine W.bu h q (λkJ h=>?_) (λkJ h=>?_)
    ·refine W.bF<|ah.aU ?_
     refine W.aX<|W.bf ?_
     obtain ⟨dj,n2,h⟩:=ax h
     obtain ⟨dk,nF,h⟩:=ax h
     obtain ⟨fx,nG,h⟩:=ax h
     obtain ⟨e2,nf,h⟩:=ax h
     refine W.rd [[],[0],[],[2],[],[2,3,4],[2,3,4,5],aN 2 5 [],[],aN 2 7 [],aN 2 8 [],aN 2 9 [],aN 2 10 [],aN 0 13 [],aN 0 14 [],aN 0 15 []] [(1,_),(2,_),(3,_),(4,_),(5,_),(6,_)] ei (by kernel_rfl) (av 0 (O.a_ q (.obj q) oC q)<|av 1 (O.cU (y:=.bl dc.z ⟨5,[2]⟩ gl.1.length) q (.ptr q) p1 q q)<|av 2 (O.a_ q (.obj q) pc q)<|av 3 (O.cU (y:=ag cx a0.Decls) q (.ptr q) pX q q)<|av 4 (O.aC (.lit q))<|av 5 (O.cC (.aF q) (.lit q) oe n2)<|av 6 (O.ez (.bo q) oC)<|av 7 (O.dd (x:=ag dc dj.eV) (.bo q) p1 q)<|av 8 (O.aC (.lit q))<|av 9 (O.cC (.aF q) (.lit q) pG nF)<|av 10 (O.iq (cs':=[ae dk.Name,a1 dk.Lit,j dk.cJ,j dk.At]) (.bo q) kD q q)<|gR 11 (cr.go (.bT (.b2 q q) .nil) (EJ dk _ nG) call43 q)<|bC.eY 12 (x:=ag dc [fx]) (O.dg (ys:=[.agg (dc.cells fx)]) dc [fx] pG q q q q q q Ik q q) q q q q .none<|av 13 (O.ap (en:=dc) (r:=e2) (.bl q) q (.aF q) .i IS q nf)<|av 14 (O.a_ q (.obj q) oC q)<|bC.iZ 15 (G2:=[(1,.obj (da.cells a0)),(2,.obj [ae aA,.aI,.aI,ae aA]),(3,.obj [ae aD,ak cx cK.1,.aI,ae x2]),(4,j cK.2),(5,.obj [j cv.Kind,ae bD,ak dc (gl.1++[fx]),j dh.At]),(6,j gl.2)]) (b9.kt (g1:=_) (en:=dc) (M:=[fx]) (cs2:=[j cv.Kind,ae bD,ak dc (gl.1++[fx]),j dh.At]) q q (.ptr q) (.bR q) q q q .iH .gk q q MP q q q q (.n q q (.n q q (.n q q (.n q q (.b q (.n q q .nil))))))) q q q q (by kernel_rfl) (by kernel_rfl)<|bC.fin q q q (fw q q q q q q)) ?_
     refine ah.bf ?_
     refine ah.aU<|W.bk [1,2,3,4,5,6] (bp q<|ai (O.add (.lit q) (.k q))<|aq.bk [1,2,3,4,5,65] q<|aq.aV) ?_
     obtain rfl:=au h
     exact ah.go (fw q q q q q q)
    ·refine W.c9 ?_
     refine ah.c7 ?_
     obtain rfl:=au h
     exact ah.aD (dX q q q q q)
   refine ah.c' ?_
   refine ah.aU<|W.eF (G1:=[(1,_),(2,_),(3,_),(4,_),(5,.obj [j cv.Kind,ae bD,ag dc dU,j dh.At])]) [5] (.n q q (.n q q (.n q q (.n q q (.z q q (gr.obj (.f (.f (.z (.f .nil))))) .nil))))) ?_
   obtain ⟨gg,lO,h⟩:=ax h
   refine W.bk [1,2,3,4] (ai (O.a_ q (.obj q) pc q)<|ai (O.cU (y:=.bl cx.z ⟨3,[1]⟩ cK.1.length) q (.ptr q) pX q q)<|ai (O.dR (cs':=[j cv.Kind,ae bD,ag dc dU,j dh.At]) q (.obj q) B_ q q)<|aq.eY (x:=ag cx [(⟨cv.Kind,bD,dU,dh.At⟩:Decl)]) (O.dg (ys:=[.agg [j cv.Kind,ae bD,ag dc dU,j dh.At]]) cx [(⟨cv.Kind,bD,dU,dh.At⟩:Decl)] oe q q q q q q Nc q q) q q .none<|ai (O.ap (en:=cx) (r:=gg) (.bl q) q (.aF q) .i IN q lO)<|ai (O.a_ q (.obj q) pc q)<|aq.h_ (G2:=[(1,.obj (da.cells a0)),(2,.obj [ae aA,.aI,.aI,ae aA]),(3,.obj [ae aD,ak cx (cK.1++[(⟨cv.Kind,bD,dU,dh.At⟩:Decl)]),.aI,ae x2]),(4,j cK.2)]) q (b9.kt (g1:=_) (en:=cx) (M:=[(⟨cv.Kind,bD,dU,dh.At⟩:Decl)]) (cs2:=[ae aD,ak cx (cK.1++[(⟨cv.Kind,bD,dU,dh.At⟩:Decl)]),.aI,ae x2]) q q (.ptr q) (.bR q) q q q .iH .gk q q UN q q q q (.n q q (.n q q (.b q (.n q q .nil)))))<|bK q) ?_
   refine ah.bf ?_
   refine ah.aU<|W.bk [1,2,3,4] (bp q<|ai (O.add (.lit q) (.k q))<|aq.bk [1,2,3,30] q<|aq.aV) ?_
   obtain rfl:=au h
   exact ah.go (dM q q q q)
  ·refine W.c9 ?_
   refine ah.c7 ?_
   obtain rfl:=au h
   exact ah.aD (dt q q q)
 refine ah.c' ?_
 refine ah.aU<|W.aX ?_
 refine W.aT [1,2,3,7] ?_
 refine W.bf ?_
 obtain ⟨gh,ao,h⟩:=ax h
 refine W.ca (G1:=[(1,_),(2,_),(3,.obj [ae aD,ak cx b4,ak eM ([]:List fi),ae x2]),(7,_)]) (.n q (.n q (.w q q (jg.obj (.f (.f (.o (.f .nil))))) (.n q .nil)))) ?_
 refine W.eg (s:=(([]:List fi),0)) (λ(f_:List fi × Int)=>[(1,.obj (da.cells a0)),(2,.obj [ae aA,.aI,.aI,ae aA]),(3,.obj [ae aD,ak cx b4,ak eM f_.1,ae x2]),(7,j f_.2)]) 4 (λ(gh:List fi)=>[(2,.obj [ae aA,.aI,.aI,ae aA]),(3,.obj [ae aD,ak cx b4,ak eM gh,ae x2])]) ao (λf_ o h=>?_) ?_
 ·clear ao
  refine W.aX ?_
  obtain ⟨qH,aa,h⟩:=ax h
  refine W.rs [(1,.obj (da.cells a0)),(2,.obj [ae aA,.aI,.aI,ae aA]),(3,.obj [ae aD,ak cx b4,ak eM f_.1,ae x2]),(7,j f_.2),(95,a1 qH)] ?_ ?_
  ·refine bp q<|ai (O.a_ q (.obj q) kH q)<|ai (O.cU (y:=ag eM a0.dD) q (.ptr q) lr q q)<|ai (O.hc (.aF q) lh)<|ai (O.lss (.lit q) (.lit q))<|ai (O.aC (.lit q)) ?_
   rcases cB aa with ⟨i',aa⟩ | ⟨i',aa⟩
   ·obtain rfl:=au aa
    exact aq.aV
   ·obtain rfl:=au aa
    exact aq.aV
  refine W.bu h q (λvk h=>?_) (λvk h=>?_)
  ·refine W.bF<|ah.aU ?_
   refine W.aX<|W.bf ?_
   refine W.aX ?_
   obtain ⟨hs,l8,h⟩:=ax h
   obtain ⟨cZ,n3,h⟩:=ax h
   obtain ⟨gy,pq,h⟩:=ax h
   refine W.rd [[],[0],[],[0,1,2],[0,1,2,3],aN 0 5 [],aN 0 6 [],[],[7],[],[7,8,9],[7,8,9,10],aN 7 5 [],aN 0 13 [],[],aN 0 15 []] [(1,_),(2,_),(3,_),(7,_),(8,_)] ei (by kernel_rfl) (av 0 (O.a_ q (.obj q) kH q)<|av 1 (O.cU (y:=ag eM a0.dD) q (.ptr q) lr q q)<|av 2 (O.aC (.lit q))<|av 3 (O.cC (.aF q) (.lit q) lh l8)<|av 4 (O.ez (.bo q) sF)<|av 5 (O.dd (x:=ae hs.Left) (.bo q) eI q)<|gR 6 (cr.go (.bT (.lit q) (.bT (.k q) .nil)) (xg hs.Left 25 _ n3) call42 q)<|av 7 (O.a_ q (.obj q) kH q)<|av 8 (O.cU (y:=ag eM a0.dD) q (.ptr q) lr q q)<|av 9 (O.aC (.lit q))<|av 10 (O.cC (.aF q) (.lit q) lh pq)<|av 11 (O.ez (.bo q) E3)<|av 12 (O.dd (x:=j gy.At) (.bo q) ct q)<|av 13 (O.dE (cs:=[ae cZ,.aI,j gy.At]) HK yF q q q)<|av 14 (O.fq (cs:=[ae aA,.aI,j 0]) yF q q)<|bC.dx 15 (G2:=[(1,.obj (da.cells a0)),(2,.obj [ae aA,.aI,.aI,ae aA]),(3,.obj [ae aD,ak cx b4,ak eM f_.1,ae x2]),(7,j f_.2),(8,.obj [ae cZ,.aI,j gy.At])]) (cs2:=[ae cZ,.aI,j gy.At]) q (by kernel_rfl) (by kernel_rfl) q q q (.obj q) (.b2 q q) q H2 q q q q (.n q q (.n q q (.n q q (.n q q (.b q .nil)))))<|bC.fin q q q (dX q q q q q)) ?_
   refine ah.aU<|W.aX ?_
   refine W.aT [1,2,3,7,8,9] ?_
   refine W.bf ?_
   obtain ⟨fT,ao,h⟩:=ax h
   refine W.ca (G1:=[(1,_),(2,_),(3,_),(7,_),(8,.obj [ae cZ,ak dN ([]:List Alt),j gy.At]),(9,_)]) (.n q (.n q (.n q (.n q (.w q q (jg.obj (.f (.o (.f .nil)))) (.n q .nil)))))) ?_
   refine W.eg (s:=(([]:List Alt),0)) (λ(hr:List Alt × Int)=>[(1,.obj (da.cells a0)),(2,.obj [ae aA,.aI,.aI,ae aA]),(3,.obj [ae aD,ak cx b4,ak eM f_.1,ae x2]),(7,j f_.2),(8,.obj [ae cZ,ak dN hr.1,j gy.At]),(9,j hr.2)]) 6 (λ(fT:List Alt)=>[(1,.obj (da.cells a0)),(2,.obj [ae aA,.aI,.aI,ae aA]),(3,.obj [ae aD,ak cx b4,ak eM f_.1,ae x2]),(7,j f_.2),(8,.obj [ae cZ,ak dN fT,j gy.At])]) ao (λhr o h=>?_) ?_
   ·clear ao
    refine W.aX ?_
    obtain ⟨u1,aa,h⟩:=ax h
    refine W.rs [(1,.obj (da.cells a0)),(2,.obj [ae aA,.aI,.aI,ae aA]),(3,.obj [ae aD,ak cx b4,ak eM f_.1,ae x2]),(7,j f_.2),(8,.obj [ae cZ,ak dN hr.1,j gy.At]),(9,j hr.2),(124,a1 u1)] ?_ ?_
    ·refine bp q<|ai (O.a_ q (.obj q) kH q)<|ai (O.cU (y:=ag eM a0.dD) q (.ptr q) lr q q)<|ai (O.aC (.lit q)) ?_
     obtain ⟨j7,mE,aa⟩:=ax aa
     refine ai (O.cC (.aF q) (.lit q) lh mE)<|ai (O.ez (.bo q) nY)<|ai (O.dd (x:=ag dN j7.eT) (.bo q) p0 q)<|ai (O.hc (.aF q) pF)<|ai (O.lss (.lit q) (.lit q))<|ai (O.aC (.lit q)) ?_
     rcases cB aa with ⟨qW,aa⟩ | ⟨qW,aa⟩
     ·obtain rfl:=au aa
      exact aq.aV
     ·obtain rfl:=au aa
      exact aq.aV
    refine W.bu h q (λFA h=>?_) (λFA h=>?_)
    ·refine W.bF<|ah.aU ?_
     refine W.aX<|W.bf ?_
     refine W.aX ?_
     obtain ⟨yB,Gv,h⟩:=ax h
     obtain ⟨bQ,SJ,h⟩:=ax h
     obtain ⟨fH,SK,h⟩:=ax h
     obtain ⟨tf,Gw,h⟩:=ax h
     obtain ⟨ku,SL,h⟩:=ax h
     refine W.rd [[],[0],[],[0,1,2],[0,1,2,3],aN 0 5 [],[],aN 0 7 [],aN 0 8 [],aN 0 9 [],aN 0 10 [],[],[11],[],[11,12,13],[11,12,13,14],aN 11 5 [],[],aN 11 7 [],aN 11 8 [],aN 11 9 [],aN 0 21 [],[],aN 0 23 []] [(1,_),(2,_),(3,_),(7,_),(8,_),(9,_),(10,_)] ei (by kernel_rfl) (av 0 (O.a_ q (.obj q) kH q)<|av 1 (O.cU (y:=ag eM a0.dD) q (.ptr q) lr q q)<|av 2 (O.aC (.lit q))<|av 3 (O.cC (.aF q) (.lit q) lh Gv)<|av 4 (O.ez (.bo q) nY)<|av 5 (O.dd (x:=ag dN yB.eT) (.bo q) p0 q)<|av 6 (O.aC (.lit q))<|av 7 (O.cC (.aF q) (.lit q) pF SJ)<|av 8 (O.ez (.bo q) sE)<|av 9 (O.iq (cs':=[ae bQ.Prec.Name,a1 bQ.Prec.Lit,j bQ.Prec.cJ,j bQ.Prec.At]) (.bo q) kD q q)<|gR 10 (cr.go (.bT (.b2 q q) .nil) (EJ bQ.Prec _ SK) call43 q)<|av 11 (O.a_ q (.obj q) kH q)<|av 12 (O.cU (y:=ag eM a0.dD) q (.ptr q) lr q q)<|av 13 (O.aC (.lit q))<|av 14 (O.cC (.aF q) (.lit q) lh Gw)<|av 15 (O.ez (.bo q) nY)<|av 16 (O.dd (x:=ag dN tf.eT) (.bo q) p0 q)<|av 17 (O.aC (.lit q))<|av 18 (O.cC (.aF q) (.lit q) pF SL)<|av 19 (O.ez (.bo q) E2)<|av 20 (O.dd (x:=j ku.At) (.bo q) ct q)<|av 21 (O.dE (cs:=[.aI,ae fH.Name,a1 fH.Lit,j fH.cJ,j fH.At,j ku.At]) DN yE q q q)<|av 22 (O.fq (cs:=[.aI,ae aA,a1 false,j 0,j 0,j 0]) yE q q)<|bC.dx 23 (G2:=[(1,.obj (da.cells a0)),(2,.obj [ae aA,.aI,.aI,ae aA]),(3,.obj [ae aD,ak cx b4,ak eM f_.1,ae x2]),(7,j f_.2),(8,.obj [ae cZ,ak dN hr.1,j gy.At]),(9,j hr.2),(10,.obj [.aI,ae fH.Name,a1 fH.Lit,j fH.cJ,j fH.At,j ku.At])]) (cs2:=[.aI,ae fH.Name,a1 fH.Lit,j fH.cJ,j fH.At,j ku.At]) q (by kernel_rfl) (by kernel_rfl) q q q (.obj q) (.b2 q q) q UR q q q q (.n q q (.n q q (.n q q (.n q q (.n q q (.n q q (.b q .nil)))))))<|bC.fin q q q (g_ q q q q q q q)) ?_
     refine ah.aU<|W.aX ?_
     refine W.aT [1,2,3,7,8,9,10,11] ?_
     refine W.bf ?_
     obtain ⟨mQ,ao,h⟩:=ax h
     refine W.ca (G1:=[(1,_),(2,_),(3,_),(7,_),(8,_),(9,_),(10,.obj [ak ed ([]:List Part),ae fH.Name,a1 fH.Lit,j fH.cJ,j fH.At,j ku.At]),(11,_)]) (.n q (.n q (.n q (.n q (.n q (.n q (.w q q (jg.obj (.o (.f (.f (.f (.f (.f .nil))))))) (.n q .nil)))))))) ?_
     refine W.eg (s:=(([]:List Part),0)) (λ(nr:List Part × Int)=>[(1,.obj (da.cells a0)),(2,.obj [ae aA,.aI,.aI,ae aA]),(3,.obj [ae aD,ak cx b4,ak eM f_.1,ae x2]),(7,j f_.2),(8,.obj [ae cZ,ak dN hr.1,j gy.At]),(9,j hr.2),(10,.obj [ak ed nr.1,ae fH.Name,a1 fH.Lit,j fH.cJ,j fH.At,j ku.At]),(11,j nr.2)]) 8 (λ(mQ:List Part)=>[(1,.obj (da.cells a0)),(2,.obj [ae aA,.aI,.aI,ae aA]),(3,.obj [ae aD,ak cx b4,ak eM f_.1,ae x2]),(7,j f_.2),(8,.obj [ae cZ,ak dN hr.1,j gy.At]),(9,j hr.2),(10,.obj [ak ed mQ,ae fH.Name,a1 fH.Lit,j fH.cJ,j fH.At,j ku.At])]) ao (λnr o h=>?_) ?_
     ·clear ao
      refine W.aX ?_
      obtain ⟨y8,aa,h⟩:=ax h
      refine W.rs [(1,.obj (da.cells a0)),(2,.obj [ae aA,.aI,.aI,ae aA]),(3,.obj [ae aD,ak cx b4,ak eM f_.1,ae x2]),(7,j f_.2),(8,.obj [ae cZ,ak dN hr.1,j gy.At]),(9,j hr.2),(10,.obj [ak ed nr.1,ae fH.Name,a1 fH.Lit,j fH.cJ,j fH.At,j ku.At]),(11,j nr.2),(165,a1 y8)] ?_ ?_
      ·refine bp q<|ai (O.a_ q (.obj q) kH q)<|ai (O.cU (y:=ag eM a0.dD) q (.ptr q) lr q q)<|ai (O.aC (.lit q)) ?_
       obtain ⟨H8,SO,aa⟩:=ax aa
       refine ai (O.cC (.aF q) (.lit q) lh SO)<|ai (O.ez (.bo q) nY)<|ai (O.dd (x:=ag dN H8.eT) (.bo q) p0 q)<|ai (O.aC (.lit q)) ?_
       obtain ⟨H9,SP,aa⟩:=ax aa
       refine ai (O.cC (.aF q) (.lit q) pF SP)<|ai (O.ez (.bo q) pd)<|ai (O.dd (x:=ag ed H9.h9) (.bo q) sx q)<|ai (O.hc (.aF q) qu)<|ai (O.lss (.lit q) (.lit q))<|ai (O.aC (.lit q)) ?_
       rcases cB aa with ⟨Rn,aa⟩ | ⟨Rn,aa⟩
       ·obtain rfl:=au aa
        exact aq.aV
       ·obtain rfl:=au aa
        exact aq.aV
      refine W.bu h q (λvn h=>?_) (λvn h=>?_)
      ·refine W.bF<|ah.aU ?_
       refine W.aX<|W.bf ?_
       obtain ⟨H',SR,h⟩:=ax h
       obtain ⟨kv,oN,h⟩:=ax h
       obtain ⟨h0,Gy,h⟩:=ax h
       refine W.bV [1,2,3,7,8,9,10,11,12] (ai (O.a_ q (.obj q) kH q)<|ai (O.cU (y:=ag eM a0.dD) q (.ptr q) lr q q)<|bp q<|ai (O.cC (.aF q) (.lit q) lh SR)<|ai (O.ez (.bo q) nY)<|ai (O.dd (x:=ag dN H'.eT) (.bo q) p0 q)<|bp q<|ai (O.cC (.aF q) (.lit q) pF oN)<|ai (O.ez (.bo q) pd)<|ai (O.dd (x:=ag ed kv.h9) (.bo q) sx q)<|bp q<|ai (O.cC (.aF q) (.lit q) qu Gy)<|ai (O.iq (cs':=[ae h0.Sym.Name,a1 h0.Sym.Lit,j h0.Sym.cJ,j h0.Sym.At,ae h0.Code,j h0.At]) (.bo q) uT q q)<|ai (O.fq (cs:=[ae aA,a1 false,j 0,j 0,ae aA,j 0]) oZ q q)<|aq.dx (G2:=[(1,_),(2,_),(3,_),(7,_),(8,_),(9,_),(10,_),(11,_),(12,_)]) (cs2:=[ae h0.Sym.Name,a1 h0.Sym.Lit,j h0.Sym.cJ,j h0.Sym.At,ae h0.Code,j h0.At]) q (.obj q) (.b2 q q) q yz q q q q (.n q q (.n q q (.n q q (.n q q (.n q q (.n q q (.n q q (.n q q (.b q .nil)))))))))<|bK q) ?_
       obtain ⟨nu,SS,h⟩:=ax h
       obtain ⟨kR,SU,h⟩:=ax h
       obtain ⟨mR,Gz,h⟩:=ax h
       refine W.rd [[],[0],[],[2],[2,3],[],[5],aN 2 5 [],[],[8],aN 2 8 [],aN 2 9 [],aN 0 12 [],aN 0 13 [],aN 0 14 []] [(1,_),(2,_),(3,_),(7,_),(8,_),(9,_),(10,_),(11,_)] ei (by kernel_rfl) (av 0 (O.a_ q (.obj q) pd q)<|av 1 (O.cU (y:=.bl ed.z ⟨10,[0]⟩ nr.1.length) q (.ptr q) sx q q)<|av 2 (O.a_ q (.obj q) xq q)<|av 3 (O.dR (cs':=[ae h0.Sym.Name,a1 h0.Sym.Lit,j h0.Sym.cJ,j h0.Sym.At]) q (.ptr q) kD q q)<|gR 4 (cr.go (.bT (.b2 q q) .nil) (EJ h0.Sym _ SS) call43 q)<|av 5 (O.a_ q (.obj q) qP q)<|av 6 (O.cq q (.ptr q) eI q)<|gR 7 (cr.go (.bT (.lit q) (.bT (.k q) .nil)) (xg h0.Code 60 _ SU) call42 q)<|av 8 (O.a_ q (.obj q) zw q)<|av 9 (O.cq q (.ptr q) ct q)<|av 10 (O.dE (cs:=[ae nu.Name,a1 nu.Lit,j nu.cJ,j nu.At,ae kR,j h0.At]) uE oZ q q q)<|bC.eY 11 (x:=ag ed [(⟨nu,kR,h0.At⟩:Part)]) (O.dg (ys:=[.agg [ae nu.Name,a1 nu.Lit,j nu.cJ,j nu.At,ae kR,j h0.At]]) ed [(⟨nu,kR,h0.At⟩:Part)] qu q q q q q q wK q q) q q q q .none<|av 12 (O.ap (en:=ed) (r:=mR) (.bl q) q (.aF q) .i B7 q Gz)<|av 13 (O.a_ q (.obj q) pd q)<|bC.iZ 14 (G2:=[(1,.obj (da.cells a0)),(2,.obj [ae aA,.aI,.aI,ae aA]),(3,.obj [ae aD,ak cx b4,ak eM f_.1,ae x2]),(7,j f_.2),(8,.obj [ae cZ,ak dN hr.1,j gy.At]),(9,j hr.2),(10,.obj [ak ed (nr.1++[(⟨nu,kR,h0.At⟩:Part)]),ae fH.Name,a1 fH.Lit,j fH.cJ,j fH.At,j ku.At]),(11,j nr.2)]) (b9.kt (g1:=_) (en:=ed) (M:=[(⟨nu,kR,h0.At⟩:Part)]) (cs2:=[ak ed (nr.1++[(⟨nu,kR,h0.At⟩:Part)]),ae fH.Name,a1 fH.Lit,j fH.cJ,j fH.At,j ku.At]) q q (.ptr q) (.bR q) q q q .iH .gk q q DU q q q q (.n q q (.n q q (.n q q (.n q q (.n q q (.n q q (.b q (.n q q .nil))))))))) q q q q (by kernel_rfl) (by kernel_rfl)<|bC.fin q q q (jR q q q q q q q q)) ?_
       refine ah.bf ?_
       refine ah.aU<|W.bk [1,2,3,7,8,9,10,11] (bp q<|ai (O.add (.lit q) (.k q))<|aq.bk [1,2,3,7,8,9,10,167] q<|aq.aV) ?_
       obtain rfl:=au h
       exact ah.go (jR q q q q q q q q)
      ·refine W.c9 ?_
       refine ah.c7 ?_
       obtain rfl:=au h
       exact ah.aD (g_ q q q q q q q)
     refine ah.c' ?_
     refine ah.aU<|W.eF (G1:=[(1,_),(2,_),(3,_),(7,_),(8,_),(9,_),(10,.obj [ag ed mQ,ae fH.Name,a1 fH.Lit,j fH.cJ,j fH.At,j ku.At])]) [10] (.n q q (.n q q (.n q q (.n q q (.n q q (.n q q (.z q q (gr.obj (.z (.f (.f (.f (.f (.f .nil))))))) .nil))))))) ?_
     obtain ⟨M5,SV,h⟩:=ax h
     refine W.bk [1,2,3,7,8,9] (ai (O.a_ q (.obj q) nY q)<|ai (O.cU (y:=.bl dN.z ⟨8,[1]⟩ hr.1.length) q (.ptr q) p0 q q)<|ai (O.dR (cs':=[ag ed mQ,ae fH.Name,a1 fH.Lit,j fH.cJ,j fH.At,j ku.At]) q (.obj q) Cb q q)<|aq.eY (x:=ag dN [(⟨mQ,fH,ku.At⟩:Alt)]) (O.dg (ys:=[.agg [ag ed mQ,ae fH.Name,a1 fH.Lit,j fH.cJ,j fH.At,j ku.At]]) dN [(⟨mQ,fH,ku.At⟩:Alt)] pF q q q q q q D6 q q) q q .none<|ai (O.ap (en:=dN) (r:=M5) (.bl q) q (.aF q) .i El q SV)<|ai (O.a_ q (.obj q) nY q)<|aq.h_ (G2:=[(1,.obj (da.cells a0)),(2,.obj [ae aA,.aI,.aI,ae aA]),(3,.obj [ae aD,ak cx b4,ak eM f_.1,ae x2]),(7,j f_.2),(8,.obj [ae cZ,ak dN (hr.1++[(⟨mQ,fH,ku.At⟩:Alt)]),j gy.At]),(9,j hr.2)]) q (b9.kt (g1:=_) (en:=dN) (M:=[(⟨mQ,fH,ku.At⟩:Alt)]) (cs2:=[ae cZ,ak dN (hr.1++[(⟨mQ,fH,ku.At⟩:Alt)]),j gy.At]) q q (.ptr q) (.bR q) q q q .iH .gk q q HZ q q q q (.n q q (.n q q (.n q q (.n q q (.b q (.n q q .nil)))))))<|bK q) ?_
     refine ah.bf ?_
     refine ah.aU<|W.bk [1,2,3,7,8,9] (bp q<|ai (O.add (.lit q) (.k q))<|aq.bk [1,2,3,7,8,126] q<|aq.aV) ?_
     obtain rfl:=au h
     exact ah.go (fw q q q q q q)
    ·refine W.c9 ?_
     refine ah.c7 ?_
     obtain rfl:=au h
     exact ah.aD (dX q q q q q)
   refine ah.c' ?_
   refine ah.aU<|W.eF (G1:=[(1,_),(2,_),(3,_),(7,_),(8,.obj [ae cZ,ag dN fT,j gy.At])]) [8] (.n q q (.n q q (.n q q (.n q q (.z q q (gr.obj (.f (.z (.f .nil)))) .nil))))) ?_
   obtain ⟨M6,SX,h⟩:=ax h
   refine W.bk [1,2,3,7] (ai (O.a_ q (.obj q) kH q)<|ai (O.cU (y:=.bl eM.z ⟨3,[2]⟩ f_.1.length) q (.ptr q) lr q q)<|ai (O.dR (cs':=[ae cZ,ag dN fT,j gy.At]) q (.obj q) Ep q q)<|aq.eY (x:=ag eM [(⟨cZ,fT,gy.At⟩:fi)]) (O.dg (ys:=[.agg [ae cZ,ag dN fT,j gy.At]]) eM [(⟨cZ,fT,gy.At⟩:fi)] lh q q q q q q Il q q) q q .none<|ai (O.ap (en:=eM) (r:=M6) (.bl q) q (.aF q) .i IP q SX)<|ai (O.a_ q (.obj q) kH q)<|aq.h_ (G2:=[(1,.obj (da.cells a0)),(2,.obj [ae aA,.aI,.aI,ae aA]),(3,.obj [ae aD,ak cx b4,ak eM (f_.1++[(⟨cZ,fT,gy.At⟩:fi)]),ae x2]),(7,j f_.2)]) q (b9.kt (g1:=_) (en:=eM) (M:=[(⟨cZ,fT,gy.At⟩:fi)]) (cs2:=[ae aD,ak cx b4,ak eM (f_.1++[(⟨cZ,fT,gy.At⟩:fi)]),ae x2]) q q (.ptr q) (.bR q) q q q .iH .gk q q MN q q q q (.n q q (.n q q (.b q (.n q q .nil)))))<|bK q) ?_
   refine ah.bf ?_
   refine ah.aU<|W.bk [1,2,3,7] (bp q<|ai (O.add (.lit q) (.k q))<|aq.bk [1,2,3,97] q<|aq.aV) ?_
   obtain rfl:=au h
   exact ah.go (dM q q q q)
  ·refine W.c9 ?_
   refine ah.c7 ?_
   obtain rfl:=au h
   exact ah.aD (fC q q)
 refine ah.c' ?_
 refine ah.aU<|W.aX ?_
 refine W.eF (G1:=[(2,_),(3,.obj [ae aD,ag cx b4,ag eM gh,ae x2])]) [3] (.n q q (.z q q (gr.obj (.f (.z (.z (.f .nil))))) .nil)) ?_
 refine W.bk [2] (ai (O.dR (cs':=[ae aD,ag cx b4,ag eM gh,ae x2]) q (.obj q) qE q q)<|aq.dx (G2:=[(2,_)]) (cs2:=[ae aD,ag cx b4,ag eM gh,ae x2]) q (.obj q) (.b2 q q) q DQ q q q q (.b q .nil)<|bK q) ?_
 refine ah.aU<|W.rt ?_
 obtain rfl:=au h
 exact cw (.c (ys0:=[ae aD,ag cx b4,ag eM gh,ae x2]) q qE q q q (.f q (.f q (.f q (.f q .nil)))) .nil)
theorem Pe  (r:ByteArray) (h:Hu =some r):b_ Try.prog 65 [] [] (ae r):=by
 unfold Hu at h
 refine b_.go (N:=⟨1,[]⟩) Try.func65 q q q q (W.fin ?_)
 refine W.st [] ?_
 refine W.ec [] ?_
 refine W.aT [0] ?_
 refine W.rt ?_
 obtain rfl:=au h
 exact ah.fin (Fin.ro (.f q q .nil) q (pz (by kernel_rfl)) .nil q (.inr q))
theorem Cp (a0:Int) (r:Sym) (h:ux a0=some r):b_ Try.prog 47 [j a0] [none] (.agg (dc.cells r)):=by
 unfold ux at h
 refine b_.go (N:=⟨11,[]⟩) Try.func47 q q q q (W.fin ?_)
 refine W.st [(0,j a0)] ?_
 refine W.bV [0,2] (ai (O.fq (cs:=[ae aA,a1 false,j 0,j 0]) pK q q)<|bK q) ?_
 obtain ⟨aD,fF,h⟩:=ax h
 obtain ⟨x2,ho,h⟩:=ax h
 obtain ⟨a8,hJ,h⟩:=ax h
 obtain ⟨b4,n5,h⟩:=ax h
 refine W.bV [2] (eE (cr.go .nil (Pe  _ fF) call65 q)<|bp q<|ai (O.rem (.lit q) (.k q) ho)<|bp q<|ai (O.rem (.lit q) (.k q) hJ)<|ai (O.add (.lit q) (.k q))<|ai (O.yu (.lit q) (.lit q) (.lit q) j4 n5)<|ai (O.dE (cs:=[ae b4,a1 true,j 0,j 0]) uD pK q q q)<|aq.dx (G2:=[(2,_)]) (cs2:=[ae b4,a1 true,j 0,j 0]) q (.obj q) (.b2 q q) q wz q q q q (.b q .nil)<|bK q) ?_
 refine W.rt ?_
 obtain rfl:=au h
 exact cw (.c (ys0:=[ae b4,a1 true,j 0,j 0]) q kD q q q (.f q (.f q (.f q (.f q .nil)))) .nil)
theorem O7 (a0:(List Int)) (r:(List Decl)) (h:A2 a0=some r):b_ Try.prog 44 [ag aG a0] [none] (ag cx r):=by
 unfold A2 at h
 refine b_.go (N:=⟨59,[]⟩) Try.func44 q q q q (W.fin ?_)
 refine W.st [(0,ag aG a0)] ?_
 refine W.aT [0] ?_
 refine W.aT [0,3] ?_
 refine W.aX<|W.aT [0,3,4] ?_
 refine W.bf ?_
 obtain ⟨x2,ao,h⟩:=ax h
 refine W.ca (G1:=[(0,_),(3,ak k3 ([]:List Decl)),(4,_)]) (.n q (.w q q .lb (.n q .nil))) ?_
 refine W.eg (s:=(([]:List Decl),0)) (λ(s1:List Decl × Int)=>[(0,ag aG a0),(3,ak k3 s1.1),(4,j s1.2)]) 0 (λ(x2:List Decl)=>[(3,ak k3 x2)]) ao (λs1 o h=>?_) ?_
 ·clear ao
  refine W.aX ?_
  obtain ⟨kF,aa,h⟩:=ax h
  refine W.rs [(0,ag aG a0),(3,ak k3 s1.1),(4,j s1.2),(14,a1 kF)] ?_ ?_
  ·refine bp q<|ai (O.aC (.aF q))<|ai (O.hc (.aF q) eS)<|ai (O.lss (.lit q) (.lit q))<|ai (O.aC (.lit q)) ?_
   rcases cB aa with ⟨c0,aa⟩ | ⟨c0,aa⟩
   ·obtain rfl:=au aa
    exact aq.aV
   ·obtain rfl:=au aa
    exact aq.aV
  refine W.bu h q (λee h=>?_) (λee h=>?_)
  ·refine W.bF<|ah.aU ?_
   refine W.aX ?_
   obtain ⟨n_,aa,h⟩:=ax h
   refine W.bs [(0,ag aG a0),(3,ak k3 n_),(4,j s1.2)] ?_ ?_
   ·clear h; have h:=aa; clear aa
    refine W.bf ?_
    obtain ⟨b1,hK,h⟩:=ax h
    obtain ⟨cv,jx,h⟩:=ax h
    refine W.bV [0,3,4,5] (ai (O.aC (.aF q))<|bp q<|ai (O.cC (.aF q) (.lit q) eS hK)<|ai (O.dd (x:=j b1) (.bo q) ct q)<|eE (cr.go (.bT (.lit q) (.bT (.k q) .nil)) (Cn b1 8 _ jx) call14 q)<|aq.aV) ?_
    refine W.aX ?_
    obtain ⟨bM,iF,h⟩:=ax h
    refine W.bV [0,3,4,5,24] (bp q<|ai (O.rem (.lit q) (.k q) iF)<|aq.aV) ?_
    refine W.bu h q (λe_ h=>?_) (λe_ h=>?_)
    ·refine W.c9 ?_
     refine ah.c7 ?_
     refine ah.c' ?_
     obtain rfl:=au h
     exact ah.bs (dt q q q)
    ·refine W.bF<|ah.aU ?_
     refine W.aX<|W.aT [0,3,4,5,6] ?_
     obtain ⟨jK,aa,h⟩:=ax h
     refine W.rs [(0,ag aG a0),(3,ak k3 s1.1),(4,j s1.2),(5,j cv),(6,j (s1.1.length:Int)),(32,a1 jK)] ?_ ?_
     ·refine bp q<|ai (O.gtr (.lit q) (.k q))<|ai (O.aC (.lit q)) ?_
      rcases cB aa with ⟨dz,aa⟩ | ⟨dz,aa⟩
      ·obtain rfl:=au aa
       exact aq.aV
      ·obtain rfl:=au aa
       exact aq.aV
     refine W.bu h q (λeD h=>?_) (λeD h=>?_)
     ·refine W.aX ?_
      obtain ⟨cH,hI,h⟩:=ax h
      obtain ⟨cj,jY,h⟩:=ax h
      obtain ⟨bZ,gS,h⟩:=ax h
      refine W.rd [[],[],[1],[],[],[4],[3,4,5],[3,4,5,6],aN 3 5 [],[],[9],[9,10],aN 3 9 [],aN 0 13 [],aN 0 14 [],aN 0 15 []] [(0,_),(3,_),(4,_)] ei (by kernel_rfl) (av 0 (O.aC (.own q))<|av 1 (O.aC (.lit q))<|av 2 (O.sub (.lit q) (.k q))<|av 3 (O.aC (.own q))<|av 4 (O.aC (.lit q))<|av 5 (O.sub (.lit q) (.k q))<|av 6 (O.gY (en:=k3) q (.bl q) (.lit q) oe hI q)<|av 7 (O.ko (en:=k3) q (.ptr q) oC hI q q)<|av 8 (O.jz (en:=k3) (x':=.bl dc.z ⟨3,[(aO ((s1.1.length:Int) - 1)).toNat * k3.z+2]⟩ cH.eV.length) q (.ptr q) p1 hI q q)<|av 9 (O.aC (.lit q))<|gR 10 (cr.go (.bT (.lit q) .nil) (Cp s1.2 _ jY) call47 q)<|bC.eY 11 (x:=ag dc [cj]) (O.dg (ys:=[.agg (dc.cells cj)]) dc [cj] pG q q q q q q Ik q q) q q q q .none<|av 12 (O.ap (en:=dc) (r:=bZ) (.bl q) (tw (r:=3) (path:=[]) (o:=2) (en:=k3) q hI q) (.aF q) .i IS q gS)<|av 13 (O.gY (en:=k3) q (.bl q) (.lit q) oe hI q)<|av 14 (O.ko (en:=k3) q (.ptr q) oC hI q q)<|bC.iZ 15 (G2:=[(0,ag aG a0),(3,ak k3 (s1.1.set (aO ((s1.1.length:Int) - 1)).toNat (⟨cH.Kind,cH.Tag,cH.eV++[cj],cH.At⟩:Decl))),(4,j s1.2)]) (b9.Bz (en:=k3) (en2:=dc) (M:=[cj]) (y2:=(⟨cH.Kind,cH.Tag,cH.eV++[cj],cH.At⟩:Decl)) (x2:=ak k3 (s1.1.set (aO ((s1.1.length:Int) - 1)).toNat (⟨cH.Kind,cH.Tag,cH.eV++[cj],cH.At⟩:Decl))) (y0:=.own k3.z s1.1.length ((ch k3 s1.1).set ((aO ((s1.1.length:Int) - 1)).toNat * k3.z+2) .dead)) q q (.ptr q) (.bR q) q q hI q q .iH .gk q q MP q q q q q q (.n q q (.b q (.n q q .nil)))) q q q q (by kernel_rfl) (by kernel_rfl)<|bC.fin q q q (dt q q q)) ?_
      refine ah.aU<|W.c9 ?_
      refine ah.c7 ?_
      refine ah.c' ?_
      obtain rfl:=au h
      exact ah.bs (dt q q q)
     ·refine W.bF<|ah.aU ?_
      obtain ⟨dS,iG,h⟩:=ax h
      obtain ⟨fp,l5,h⟩:=ax h
      obtain ⟨dj,n2,h⟩:=ax h
      refine W.bk [0,3,4] (ai (O.aC (.own q))<|bp q<|ai (O.rem (.lit q) (.k q) iG)<|ai (O.add (.k q) (.lit q))<|bp q<|eE (cr.go (.bT (.lit q) .nil) (Cp s1.2 _ l5) call47 q)<|ai (O.uX (ys:=[.agg (dc.cells fp)]) (cs:=[ae fp.Name,a1 fp.Lit,j fp.cJ,j fp.At]) pG q q q q q Ik q q)<|ai (O.dE (cs:=[j (aO (1+dS)),ae aA,.bl 4 ⟨54,[]⟩ 1,j 0]) Mw D3 q q q)<|ai (O.uX (ys:=[.agg [j (aO (1+dS)),ae aA,.bl 4 ⟨54,[]⟩ 1,j 0]]) (cs:=[j (aO (1+dS)),ae aA,.bl 4 ⟨54,[]⟩ 1,j 0]) oe q q q q q Nc q q)<|ai (O.Em (en:=k3) (M:=[(⟨aO (1+dS),aA,[fp],0⟩:Decl)]) (r:=dj) (.bl q) q (.own q) q q q q IN q n2)<|aq.fN (G2:=[(0,ag aG a0),(4,j s1.2)]) q (b9.IT (M:=[(⟨aO (1+dS),aA,[fp],0⟩:Decl)]) q q (.bR q) q q q (.f (.f (.l q q (.f (.f (.f (.f .nil)))) (.f .nil)))) (.f (.f (.f (.f .nil)))) q q (fC q q) q q)<|bK q) ?_
      refine ah.bf ?_
      obtain rfl:=au h
      exact ah.bs (dt q q q)
   refine ah.aU<|W.bk [0,3,4] (bp q<|ai (O.add (.lit q) (.k q))<|aq.bk [0,3,16] q<|aq.aV) ?_
   obtain rfl:=au h
   exact ah.go (dt q q q)
  ·refine W.c9 ?_
   refine ah.c7 ?_
   obtain rfl:=au h
   exact ah.aD (.n q .nil)
 refine ah.c' ?_
 refine ah.aU<|W.bV [2] (ai (O.aC (.own q))<|aq.fN (G2:=[]) q (b9.ik q q (.bl q) q .nil q q)<|bK q) ?_
 refine W.eF (G1:=[(2,ag cx x2)]) [2] (.z q q .ha .nil) ?_
 refine W.rt ?_
 obtain rfl:=au h
 exact cw (.f q q .nil)
theorem Jx (a0:Int) (r:ByteArray) (h:ye a0=some r):b_ Try.prog 45 [j a0] [none] (ae r):=by
 unfold ye at h
 refine b_.go (N:=⟨8,[]⟩) Try.func45 q q q q (W.fin ?_)
 refine W.st [(0,j a0)] ?_
 refine W.aT [0] ?_
 refine W.bV [2] (bp q<|ai (O.add (.k q) (.lit q))<|ai (O.Ct (.lit q) GO GP)<|aq.eY (x:=ag o' [uJ (aO (97+a0))]) (O.dg (ys:=[mo (uJ (aO (97+a0)))]) o' [uJ (aO (97+a0))] HO q q q q q q Ng q q) q q .none<|ai (O.JJ (.aF q) I7)<|aq.aV) ?_
 refine W.rt ?_
 obtain rfl:=au h
 exact cw (.f q q .nil)
theorem O8 (a0:Int) (aw:Int) (r:Sym) (h:A3 a0 aw=some r):b_ Try.prog 46 [j a0,j aw] [none,none] (.agg (dc.cells r)):=by
 unfold A3 at h
 refine b_.go (N:=⟨23,[]⟩) Try.func46 q q q q (W.fin ?_)
 refine W.st [(0,j a0),(1,j aw)] ?_
 refine W.bV [0,1,4] (ai (O.fq (cs:=[ae aA,a1 false,j 0,j 0]) pK q q)<|bK q) ?_
 obtain ⟨aD,fF,h⟩:=ax h
 refine W.bV [1,4,5] (bp q<|eE (cr.go (.bT (.lit q) (.bT (.k q) .nil)) (Cn a0 14 _ fF) call14 q)<|aq.aV) ?_
 refine W.aX<|W.bf ?_
 refine W.aT [1,4,5,8] ?_
 refine W.bu h q (λcP h=>?_) (λcP h=>?_)
 ·obtain ⟨a8,hJ,h⟩:=ax h
  obtain ⟨b4,n5,h⟩:=ax h
  refine W.bV [4] (bp q<|bp q<|ai (O.rem (.lit q) (.lit q) hJ)<|eE (cr.go (.bT (.lit q) .nil) (Jx a8 _ n5) call45 q)<|ai (O.dE (cs:=[ae b4,a1 false,j 0,j 0]) uD pK q q q)<|aq.dx (G2:=[(4,_)]) (cs2:=[ae b4,a1 false,j 0,j 0]) q (.obj q) (.b2 q q) q wz q q q q (.b q .nil)<|bK q) ?_
  refine W.rt ?_
  refine ah.d_ ?_
  refine ah.c5 ?_
  obtain rfl:=au h
  exact cw (.c (ys0:=[ae b4,a1 false,j 0,j 0]) q kD q q q (.f q (.f q (.f q (.f q .nil)))) .nil)
 ·refine W.aT [4,5,16] ?_
  refine W.bu h q (λdH h=>?_) (λdH h=>?_)
  ·refine W.bV [4] (ai (O.dE (cs:=[ae ({ data:=#[101,114,114,111,114] }),a1 false,j 0,j 0]) uD pK q q q)<|aq.dx (G2:=[(4,_)]) (cs2:=[ae ({ data:=#[101,114,114,111,114] }),a1 false,j 0,j 0]) q (.obj q) (.b2 q q) q wz q q q q (.b q .nil)<|bK q) ?_
   refine W.rt ?_
   refine ah.d_ ?_
   refine ah.c5 ?_
   obtain rfl:=au h
   exact cw (.c (ys0:=[ae ({ data:=#[101,114,114,111,114] }),a1 false,j 0,j 0]) q kD q q q (.f q (.f q (.f q (.f q .nil)))) .nil)
  ·refine W.bF<|ah.bf ?_
   refine ah.aU ?_
   obtain ⟨bP,ga,h⟩:=ax h
   refine W.bV [4] (bp q<|ai (O.sub (.lit q) (.k q))<|eE (cr.go (.bT (.lit q) .nil) (Cp (aO (aD - 5)) _ ga) call47 q)<|aq.dx (G2:=[(4,_)]) (cs2:=[ae bP.Name,a1 bP.Lit,j bP.cJ,j bP.At]) q (.obj q) (.b2 q q) q wz q q q q (.b q .nil)<|bK q) ?_
   refine W.rt ?_
   obtain rfl:=au h
   exact cw (.c (ys0:=[ae bP.Name,a1 bP.Lit,j bP.cJ,j bP.At]) q kD q q q (.f q (.f q (.f q (.f q .nil)))) .nil)
theorem O2 (a0:rv) (r:Source) (h:AX a0=some r):b_ Try.prog 20 [.agg (hE.cells a0)] [none] (.agg (da.cells r)):=by
 unfold AX at h
 refine b_.go (N:=⟨217,[]⟩) Try.func20 q q q q (W.fin ?_)
 refine W.st [(0,.agg (hE.cells a0))] ?_
 refine W.bV [1,2] (ai (O.box (.b2 q q) q)<|ai (O.fq (cs:=[ae aA,.aI,.aI,ae aA]) wF q q)<|bK q) ?_
 obtain ⟨aD,fF,h⟩:=ax h
 refine W.bV [1,2,3] (ai (O.a_ q (.obj q) J2 q)<|ai (O.cq q (.ptr q) ct q)<|eE (cr.go (.bT (.lit q) (.bT (.k q) .nil)) (Cn a0.bw 4 _ fF) call14 q)<|aq.aV) ?_
 obtain ⟨x2,ho,h⟩:=ax h
 refine W.bV [1,2,3,4] (ai (O.a_ q (.obj q) J3 q)<|ai (O.cU (y:=ag aG a0.ot) q (.ptr q) hC q q)<|eE (cr.go (.bT (.aF q) .nil) (O7 a0.ot _ ho) call44 q)<|ai (O.dE (cs:=[ae aA,ag cx x2,.aI,ae aA]) HI wF q q q)<|ai (O.fq (cs:=[ae aA,.aI,.aI,ae aA]) wF q q)<|aq.dx (G2:=[(1,_),(2,_),(3,_),(4,_)]) (cs2:=[ae aA,ag cx x2,.aI,ae aA]) q (.obj q) (.b2 q q) q DQ q q q q (.n q q (.n q q (.n q q (.b q .nil))))<|bK q) ?_
 obtain ⟨a8,hJ,h⟩:=ax h
 refine W.bV [1,2,3,4,5] (bp q<|ai (O.mk (en:=bH) (z0:=false) oT (.lit q) (.lit q) Ie q q hJ Et q)<|aq.fN (G2:=[(1,.obj (hE.cells a0)),(2,.obj [ae aA,.aI,.aI,ae aA]),(3,j (aO (1+aD))),(4,.obj [ae aA,ag cx x2,.aI,ae aA])]) q (b9.ik q q (.own q) q (.n q q (.n q q (.n q q (.n q q .nil)))) q q)<|bK q) ?_
 refine W.aX<|W.aT [1,2,3,4,5,6] ?_
 refine W.bf ?_
 obtain ⟨cn,ao,h⟩:=ax h
 refine W.ca (G1:=[(1,_),(2,_),(3,_),(4,.obj [ae aA,ag cx x2,ak eW ([]:List fi),ae aA]),(5,_),(6,_)]) (.n q (.n q (.n q (.w q q (jg.obj (.f (.f (.o (.f .nil))))) (fC q q))))) ?_
 refine W.eg (s:=(([]:List fi),0)) (λ(bL:List fi × Int)=>[(1,.obj (hE.cells a0)),(2,.obj [ae aA,.aI,.aI,ae aA]),(3,j (aO (1+aD))),(4,.obj [ae aA,ag cx x2,ak eW bL.1,ae aA]),(5,ak bH a8),(6,j bL.2)]) 0 (λ(cn:List fi)=>[(1,.obj (hE.cells a0)),(2,.obj [ae aA,.aI,.aI,ae aA]),(3,j (aO (1+aD))),(4,.obj [ae aA,ag cx x2,ak eW cn,ae aA]),(5,ak bH a8)]) ao (λbL o h=>?_) ?_
 ·clear ao
  refine W.aX<|W.aT [1,2,3,4,5,6,26] ?_
  refine W.bu h q (λdn h=>?_) (λdn h=>?_)
  ·refine W.bF<|ah.aU ?_
   refine W.aX<|W.bf ?_
   obtain ⟨b1,hK,h⟩:=ax h
   obtain ⟨cv,jx,h⟩:=ax h
   refine W.rd [[],[0],[],[2],[2,3],[2,3,4],aN 0 6 [],aN 0 7 [],aN 0 8 []] [(1,_),(2,_),(3,_),(4,_),(5,_),(6,_)] ei (by kernel_rfl) (av 0 (O.a_ q (.obj q) kH q)<|av 1 (O.cU (y:=.bl eW.z ⟨4,[2]⟩ bL.1.length) q (.ptr q) lr q q)<|av 2 (O.aC (.lit q))<|gR 3 (cr.go (.bT (.lit q) .nil) (Jx bL.2 _ hK) call45 q)<|av 4 (O.dE (cs:=[ae b1,.aI,j 0]) HK yF q q q)<|av 5 (O.uX (ys:=[.agg [ae b1,.aI,j 0]]) (cs:=[ae b1,.aI,j 0]) lh q q q q q Il q q)<|av 6 (O.Em (en:=eW) (M:=[(⟨b1,([]:List Alt),0⟩:fi)]) (r:=cv) (.bl q) q (.own q) q q q q IP q jx)<|av 7 (O.a_ q (.obj q) kH q)<|bC.iZ 8 (G2:=[(1,.obj (hE.cells a0)),(2,.obj [ae aA,.aI,.aI,ae aA]),(3,j (aO (1+aD))),(4,.obj [ae aA,ag cx x2,ak eW (bL.1++[(⟨b1,([]:List Alt),0⟩:fi)]),ae aA]),(5,ak bH a8),(6,j bL.2)]) (b9.kt (g1:=_) (en:=eW) (M:=[(⟨b1,([]:List Alt),0⟩:fi)]) (cs2:=[ae aA,ag cx x2,ak eW (bL.1++[(⟨b1,([]:List Alt),0⟩:fi)]),ae aA]) q q (.ptr q) (.bR q) q q q (.f (.f (.f .nil))) (.f (.o (.f .nil))) q q MN q q q q (.n q q (.n q q (.n q q (.b q (.n q q (.n q q .nil))))))) q q q q (by kernel_rfl) (by kernel_rfl)<|bC.fin q q q (fw q q q q q q)) ?_
   refine ah.bf ?_
   refine ah.aU<|W.bk [1,2,3,4,5,6] (bp q<|ai (O.add (.lit q) (.k q))<|aq.bk [1,2,3,4,5,28] q<|aq.aV) ?_
   obtain rfl:=au h
   exact ah.go (fw q q q q q q)
  ·refine W.c9 ?_
   refine ah.c7 ?_
   obtain rfl:=au h
   exact ah.aD (dX q q q q q)
 refine ah.c' ?_
 refine ah.aU<|W.aX ?_
 refine W.aT [1,2,3,4,5,7] ?_
 refine W.bf ?_
 obtain ⟨bD,ao,h⟩:=ax h
 refine W.ca (G1:=[(1,_),(2,_),(3,_),(4,_),(5,_),(7,_)]) (fw q q q q q q) ?_
 refine W.eg (s:=(cn,a8,0)) (λ(dw:List fi × List Bool × Int)=>[(1,.obj (hE.cells a0)),(2,.obj [ae aA,.aI,.aI,ae aA]),(3,j (aO (1+aD))),(4,.obj [ae aA,ag cx x2,ak eW dw.1,ae aA]),(5,ak bH dw.2.1),(7,j dw.2.2)]) 2 (λ(bD:List fi × List Bool)=>[(1,.obj (hE.cells a0)),(2,.obj [ae aA,.aI,.aI,ae aA]),(3,j (aO (1+aD))),(4,.obj [ae aA,ag cx x2,ak eW bD.1,ae aA]),(5,ak bH bD.2)]) ao (λdw o h=>?_) ?_
 ·clear ao
  refine W.aX ?_
  obtain ⟨qG,aa,h⟩:=ax h
  refine W.rs [(1,.obj (hE.cells a0)),(2,.obj [ae aA,.aI,.aI,ae aA]),(3,j (aO (1+aD))),(4,.obj [ae aA,ag cx x2,ak eW dw.1,ae aA]),(5,ak bH dw.2.1),(7,j dw.2.2),(45,a1 qG)] ?_ ?_
  ·refine bp q<|ai (O.a_ q (.obj q) zr q)<|ai (O.cU (y:=ag (bb aG) a0.dD) q (.ptr q) pY q q)<|ai (O.hc (.aF q) kQ)<|ai (O.lss (.lit q) (.lit q))<|ai (O.aC (.lit q)) ?_
   rcases cB aa with ⟨hn,aa⟩ | ⟨hn,aa⟩
   ·obtain rfl:=au aa
    exact aq.aV
   ·obtain rfl:=au aa
    exact aq.aV
  refine W.bu h q (λpg h=>?_) (λpg h=>?_)
  ·refine W.bF<|ah.aU ?_
   refine W.aX ?_
   obtain ⟨l9,aa,h⟩:=ax h
   refine W.bs [(1,.obj (hE.cells a0)),(2,.obj [ae aA,.aI,.aI,ae aA]),(3,j (aO (1+aD))),(4,.obj [ae aA,ag cx x2,ak eW l9.1,ae aA]),(5,ak bH l9.2),(7,j dw.2.2)] ?_ ?_
   ·clear h; have h:=aa; clear aa
    refine W.bf<|W.aX ?_
    obtain ⟨bZ,gS,h⟩:=ax h
    refine W.aT [1,2,3,4,5,7,54] ?_
    refine W.bu h q (λht h=>?_) (λht h=>?_)
    ·refine W.c9 ?_
     refine ah.c7 ?_
     refine ah.c' ?_
     obtain rfl:=au h
     exact ah.bs (fw q q q q q q)
    ·refine W.bF<|ah.aU ?_
     obtain ⟨fp,l5,h⟩:=ax h
     obtain ⟨dj,n2,h⟩:=ax h
     obtain ⟨dk,nF,h⟩:=ax h
     refine W.bV [1,2,3,4,5,7,8] (ai (O.a_ q (.obj q) zr q)<|ai (O.cU (y:=ag (bb aG) a0.dD) q (.ptr q) pY q q)<|bp q<|ai (O.cC (.aF q) (.lit q) kQ l5)<|ai (O.dd (x:=ag aG fp) (.bo q) hC q)<|ai (O.cC (.aF q) (.k q) eS n2)<|ai (O.dd (x:=j dj) (.bo q) ct q)<|bp q<|eE (cr.go (.bT (.lit q) (.bT (.lit q) .nil)) (Cn dj (aO (1+aD)) _ nF) call14 q)<|aq.aV) ?_
     refine W.bV [1,2,3,4,5,7,8,9] (ai (O.fq (cs:=[.aI,ae aA,a1 false,j 0,j 0,j 0]) yE q q)<|bK q) ?_
     refine W.aT [1,2,3,4,5,7,8,9,10] ?_
     refine W.aX<|W.aT [1,2,3,4,5,7,8,9,10,11] ?_
     refine W.bf ?_
     obtain ⟨e2,ao,h⟩:=ax h
     refine W.ca (G1:=[(1,_),(2,_),(3,_),(4,_),(5,_),(7,_),(8,_),(9,.obj [ak ed ([]:List Part),ae aA,a1 false,j 0,j 0,j 0]),(10,_),(11,_)]) (.n q (.n q (.n q (.n q (.n q (.n q (.n q (.w q q (jg.obj (.o (.f (.f (.f (.f (.f .nil))))))) (fC q q))))))))) ?_
     refine W.eg (s:=(([]:List Part),true,1)) (λ(fS:List Part × Bool × Int)=>[(1,.obj (hE.cells a0)),(2,.obj [ae aA,.aI,.aI,ae aA]),(3,j (aO (1+aD))),(4,.obj [ae aA,ag cx x2,ak eW dw.1,ae aA]),(5,ak bH dw.2.1),(7,j dw.2.2),(8,j dk),(9,.obj [ak ed fS.1,ae aA,a1 false,j 0,j 0,j 0]),(10,a1 fS.2.1),(11,j fS.2.2)]) 4 (λ(e2:List Part × Bool)=>[(1,.obj (hE.cells a0)),(2,.obj [ae aA,.aI,.aI,ae aA]),(3,j (aO (1+aD))),(4,.obj [ae aA,ag cx x2,ak eW dw.1,ae aA]),(5,ak bH dw.2.1),(7,j dw.2.2),(8,j dk),(9,.obj [ak ed e2.1,ae aA,a1 false,j 0,j 0,j 0]),(10,a1 e2.2)]) ao (λfS o h=>?_) ?_
     ·clear ao
      refine W.aX ?_
      obtain ⟨Ch,aa,h⟩:=ax h
      refine W.rs [(1,.obj (hE.cells a0)),(2,.obj [ae aA,.aI,.aI,ae aA]),(3,j (aO (1+aD))),(4,.obj [ae aA,ag cx x2,ak eW dw.1,ae aA]),(5,ak bH dw.2.1),(7,j dw.2.2),(8,j dk),(9,.obj [ak ed fS.1,ae aA,a1 false,j 0,j 0,j 0]),(10,a1 fS.2.1),(11,j fS.2.2),(75,a1 Ch)] ?_ ?_
      ·refine bp q<|ai (O.a_ q (.obj q) zr q)<|ai (O.cU (y:=ag (bb aG) a0.dD) q (.ptr q) pY q q)<|ai (O.aC (.lit q)) ?_
       obtain ⟨e6,k',aa⟩:=ax aa
       refine ai (O.cC (.aF q) (.lit q) kQ k')<|ai (O.dd (x:=ag aG e6) (.bo q) hC q)<|ai (O.hc (.aF q) eS)<|ai (O.lss (.lit q) (.lit q))<|ai (O.aC (.lit q)) ?_
       rcases cB aa with ⟨gV,aa⟩ | ⟨gV,aa⟩
       ·obtain rfl:=au aa
        exact aq.aV
       ·obtain rfl:=au aa
        exact aq.aV
      refine W.bu h q (λi' h=>?_) (λi' h=>?_)
      ·refine W.bF<|ah.aU ?_
       refine W.aX ?_
       obtain ⟨s5,aa,h⟩:=ax h
       refine W.bs [(1,.obj (hE.cells a0)),(2,.obj [ae aA,.aI,.aI,ae aA]),(3,j (aO (1+aD))),(4,.obj [ae aA,ag cx x2,ak eW dw.1,ae aA]),(5,ak bH dw.2.1),(7,j dw.2.2),(8,j dk),(9,.obj [ak ed s5.1,ae aA,a1 false,j 0,j 0,j 0]),(10,a1 s5.2),(11,j fS.2.2)] ?_ ?_
       ·clear h; have h:=aa; clear aa
        refine W.bf ?_
        obtain ⟨iK,po,h⟩:=ax h
        obtain ⟨hs,l8,h⟩:=ax h
        obtain ⟨cZ,n3,h⟩:=ax h
        refine W.bV [1,2,3,4,5,7,8,9,10,11,12] (ai (O.a_ q (.obj q) zr q)<|ai (O.cU (y:=ag (bb aG) a0.dD) q (.ptr q) pY q q)<|bp q<|ai (O.cC (.aF q) (.lit q) kQ po)<|ai (O.dd (x:=ag aG iK) (.bo q) hC q)<|bp q<|ai (O.cC (.aF q) (.lit q) eS l8)<|ai (O.dd (x:=j hs) (.bo q) ct q)<|bp q<|eE (cr.go (.bT (.lit q) (.bT (.lit q) .nil)) (O8 hs (aO (1+aD)) _ n3) call46 q)<|ai (O.fq (cs:=[ae aA,a1 false,j 0,j 0]) pK q q)<|aq.dx (G2:=[(1,_),(2,_),(3,_),(4,_),(5,_),(7,_),(8,_),(9,_),(10,_),(11,_),(12,_)]) (cs2:=[ae cZ.Name,a1 cZ.Lit,j cZ.cJ,j cZ.At]) q (.obj q) (.b2 q q) q wz q q q q (.n q q (.n q q (.n q q (.n q q (.n q q (.n q q (.n q q (.n q q (.n q q (.n q q (.b q .nil)))))))))))<|bK q) ?_
        obtain ⟨qI,aa,h⟩:=ax h
        refine W.rs [(1,.obj (hE.cells a0)),(2,.obj [ae aA,.aI,.aI,ae aA]),(3,j (aO (1+aD))),(4,.obj [ae aA,ag cx x2,ak eW dw.1,ae aA]),(5,ak bH dw.2.1),(7,j dw.2.2),(8,j dk),(9,.obj [ak ed fS.1,ae aA,a1 false,j 0,j 0,j 0]),(10,a1 qI),(11,j fS.2.2),(12,.obj (dc.cells cZ))] ?_ ?_
        ·refine bp q<|ai (O.aC (.lit q)) ?_
         rcases cB aa with ⟨kK,aa⟩ | ⟨kK,aa⟩
         ·refine aW kK (O.a_ q (.obj q) tC q)<|aW kK (O.cq q (.ptr q) mW q)<|aW kK (O.aC (.lit q)) ?_
          rcases cB aa with ⟨jN,aa⟩ | ⟨jN,aa⟩
          ·obtain rfl:=au aa
           exact cF jN<|cF jN<|cF jN<|aW kK (O.eB (.lit q) jN (.k q))<|ai (O.eB (.lit q) kK (.lit q))<|aq.bk [1,2,3,4,5,7,8,9,11,12,97] q<|aq.aV
          ·obtain rfl:=au aa
           exact aW jN (O.a_ q (.obj q) kq q)<|aW jN (O.cq q (.ptr q) eI q)<|aW jN (O.oA (.lit q) (.k q))<|aW kK (O.dL (.lit q) jN (.lit q))<|ai (O.eB (.lit q) kK (.lit q))<|aq.bk [1,2,3,4,5,7,8,9,11,12,97] q<|aq.aV
         ·obtain rfl:=au aa
          exact cF kK<|cF kK<|cF kK<|hh<|hh<|hh<|cF kK<|ai (O.dL (.lit q) kK (.k q))<|aq.bk [1,2,3,4,5,7,8,9,11,12,97] q<|aq.aV
        obtain ⟨jS,sZ,h⟩:=ax h
        refine W.bV [1,2,3,4,5,7,8,9,10,11] (ai (O.a_ q (.obj q) pd q)<|ai (O.cU (y:=.bl ed.z ⟨9,[0]⟩ fS.1.length) q (.ptr q) sx q q)<|ai (O.dR (cs':=[ae cZ.Name,a1 cZ.Lit,j cZ.cJ,j cZ.At]) q (.obj q) kD q q)<|ai (O.dE (cs:=[ae cZ.Name,a1 cZ.Lit,j cZ.cJ,j cZ.At,ae aA,j 0]) uE oZ q q q)<|aq.eY (x:=ag ed [(⟨cZ,aA,0⟩:Part)]) (O.dg (ys:=[.agg [ae cZ.Name,a1 cZ.Lit,j cZ.cJ,j cZ.At,ae aA,j 0]]) ed [(⟨cZ,aA,0⟩:Part)] qu q q q q q q wK q q) q q .none<|ai (O.ap (en:=ed) (r:=jS) (.bl q) q (.aF q) .i B7 q sZ)<|ai (O.a_ q (.obj q) pd q)<|aq.h_ (G2:=[(1,.obj (hE.cells a0)),(2,.obj [ae aA,.aI,.aI,ae aA]),(3,j (aO (1+aD))),(4,.obj [ae aA,ag cx x2,ak eW dw.1,ae aA]),(5,ak bH dw.2.1),(7,j dw.2.2),(8,j dk),(9,.obj [ak ed (fS.1++[(⟨cZ,aA,0⟩:Part)]),ae aA,a1 false,j 0,j 0,j 0]),(10,a1 qI),(11,j fS.2.2)]) q (b9.kt (g1:=_) (en:=ed) (M:=[(⟨cZ,aA,0⟩:Part)]) (cs2:=[ak ed (fS.1++[(⟨cZ,aA,0⟩:Part)]),ae aA,a1 false,j 0,j 0,j 0]) q q (.ptr q) (.bR q) q q q .iH .gk q q DU q q q q (.n q q (.n q q (.n q q (.n q q (.n q q (.n q q (.n q q (.b q (.n q q (.n q q .nil)))))))))))<|bK q) ?_
        obtain ⟨Ci,aa,h⟩:=ax h
        refine W.rs [(1,.obj (hE.cells a0)),(2,.obj [ae aA,.aI,.aI,ae aA]),(3,j (aO (1+aD))),(4,.obj [ae aA,ag cx x2,ak eW dw.1,ae aA]),(5,ak bH dw.2.1),(7,j dw.2.2),(8,j dk),(9,.obj [ak ed (fS.1++[(⟨cZ,aA,0⟩:Part)]),ae aA,a1 false,j 0,j 0,j 0]),(10,a1 qI),(11,j fS.2.2),(122,a1 Ci)] ?_ ?_
        ·refine bp q<|ai (O.a_ q (.obj q) zs q)<|ai (O.cU (y:=ag aG a0.mm) q (.ptr q) hC q q)<|ai (O.hc (.aF q) eS)<|ai (O.lss (.lit q) (.lit q))<|ai (O.aC (.lit q)) ?_
         rcases cB aa with ⟨rQ,aa⟩ | ⟨rQ,aa⟩
         ·refine aW rQ (O.aC (.lit q))<|aW rQ (O.eql (.lit q) (.k q))<|ai (O.eB (.lit q) rQ (.lit q))<|ai (O.aC (.lit q)) ?_
          rcases cB aa with ⟨qW,aa⟩ | ⟨qW,aa⟩
          ·refine aW qW (O.a_ q (.obj q) zs q)<|aW qW (O.cU (y:=ag aG a0.mm) q (.ptr q) hC q q)<|aW qW (O.aC (.lit q)) ?_
           obtain ⟨iT,ui,aa⟩:=ax aa
           refine aW qW (O.cC (.aF q) (.lit q) eS ui)<|aW qW (O.dd (x:=j iT) (.bo q) ct q) ?_
           obtain ⟨BI,Gu,aa⟩:=ax aa
           obtain rfl:=au aa
           exact aW qW (O.rem (.lit q) (.k q) Gu)<|aq.aV
          ·obtain rfl:=au aa
           exact aq.aV
         ·obtain rfl:=au aa
          exact aq.aV
        obtain ⟨GX,aa,h⟩:=ax h
        refine W.bs [(1,.obj (hE.cells a0)),(2,.obj [ae aA,.aI,.aI,ae aA]),(3,j (aO (1+aD))),(4,.obj [ae aA,ag cx x2,ak eW dw.1,ae aA]),(5,ak bH dw.2.1),(7,j dw.2.2),(8,j dk),(9,.obj [ak ed GX,ae aA,a1 false,j 0,j 0,j 0]),(10,a1 qI),(11,j fS.2.2)] ?_ ?_
        ·clear h; have h:=aa; clear aa
         refine W.bu h q (λRj h=>?_) (λRj h=>?_)
         ·obtain ⟨tf,Gw,h⟩:=ax h
          refine W.bk [1,2,3,4,5,7,8,9,10,11] (ai (O.a_ q (.obj q) pd q)<|ai (O.cU (y:=.bl ed.z ⟨9,[0]⟩ (fS.1++[(⟨cZ,aA,0⟩:Part)]).length) q (.ptr q) sx q q)<|ai (O.dE (cs:=[ae aA,a1 false,j 0,j 0,ae ({ data:=#[123,36,36,32,61,32,36,49,125] }),j 0]) uE oZ q q q)<|aq.eY (x:=ag ed [(⟨(⟨aA,false,0,0⟩:Sym),{ data:=#[123,36,36,32,61,32,36,49,125] },0⟩:Part)]) (O.dg (ys:=[.agg [ae aA,a1 false,j 0,j 0,ae ({ data:=#[123,36,36,32,61,32,36,49,125] }),j 0]]) ed [(⟨(⟨aA,false,0,0⟩:Sym),{ data:=#[123,36,36,32,61,32,36,49,125] },0⟩:Part)] qu q q q q q q wK q q) q q .none<|ai (O.ap (en:=ed) (r:=tf) (.bl q) q (.aF q) .i B7 q Gw)<|ai (O.a_ q (.obj q) pd q)<|aq.h_ (G2:=[(1,.obj (hE.cells a0)),(2,.obj [ae aA,.aI,.aI,ae aA]),(3,j (aO (1+aD))),(4,.obj [ae aA,ag cx x2,ak eW dw.1,ae aA]),(5,ak bH dw.2.1),(7,j dw.2.2),(8,j dk),(9,.obj [ak ed ((fS.1++[(⟨cZ,aA,0⟩:Part)])++[(⟨(⟨aA,false,0,0⟩:Sym),{ data:=#[123,36,36,32,61,32,36,49,125] },0⟩:Part)]),ae aA,a1 false,j 0,j 0,j 0]),(10,a1 qI),(11,j fS.2.2)]) q (b9.kt (g1:=_) (en:=ed) (M:=[(⟨(⟨aA,false,0,0⟩:Sym),{ data:=#[123,36,36,32,61,32,36,49,125] },0⟩:Part)]) (cs2:=[ak ed ((fS.1++[(⟨cZ,aA,0⟩:Part)])++[(⟨(⟨aA,false,0,0⟩:Sym),{ data:=#[123,36,36,32,61,32,36,49,125] },0⟩:Part)]),ae aA,a1 false,j 0,j 0,j 0]) q q (.ptr q) (.bR q) q q q .iH .gk q q DU q q q q (.n q q (.n q q (.n q q (.n q q (.n q q (.n q q (.n q q (.b q (.n q q (.n q q .nil)))))))))))<|bK q) ?_
          obtain rfl:=au h
          exact ah.bs (r9 q q q q q q q q q q)
         ·refine W.bF ?_
          obtain rfl:=au h
          exact ah.bs (r9 q q q q q q q q q q)
        refine ah.bf ?_
        obtain rfl:=au h
        exact ah.bs (r9 q q q q q q q q q q)
       refine ah.aU<|W.bk [1,2,3,4,5,7,8,9,10,11] (bp q<|ai (O.add (.lit q) (.k q))<|aq.bk [1,2,3,4,5,7,8,9,10,77] q<|aq.aV) ?_
       obtain rfl:=au h
       exact ah.go (r9 q q q q q q q q q q)
      ·refine W.c9 ?_
       refine ah.c7 ?_
       obtain rfl:=au h
       exact ah.aD (iI q q q q q q q q q)
     refine ah.c' ?_
     refine ah.aU<|W.aX ?_
     obtain ⟨y7,aa,h⟩:=ax h
     refine W.rs [(1,.obj (hE.cells a0)),(2,.obj [ae aA,.aI,.aI,ae aA]),(3,j (aO (1+aD))),(4,.obj [ae aA,ag cx x2,ak eW dw.1,ae aA]),(5,ak bH dw.2.1),(7,j dw.2.2),(8,j dk),(9,.obj [ak ed e2.1,ae aA,a1 false,j 0,j 0,j 0]),(10,a1 e2.2),(142,a1 y7)] ?_ ?_
     ·refine bp q<|ai (O.a_ q (.obj q) zs q)<|ai (O.cU (y:=ag aG a0.mm) q (.ptr q) hC q q)<|ai (O.hc (.aF q) eS)<|ai (O.lss (.lit q) (.lit q))<|ai (O.aC (.lit q)) ?_
      rcases cB aa with ⟨vm,aa⟩ | ⟨vm,aa⟩
      ·refine aW vm (O.a_ q (.obj q) zs q)<|aW vm (O.cU (y:=ag aG a0.mm) q (.ptr q) hC q q)<|aW vm (O.aC (.lit q)) ?_
       obtain ⟨oX,SM,aa⟩:=ax aa
       refine aW vm (O.cC (.aF q) (.lit q) eS SM)<|aW vm (O.dd (x:=j oX) (.bo q) ct q) ?_
       obtain ⟨mQ,SN,aa⟩:=ax aa
       obtain rfl:=au aa
       exact aW vm (O.rem (.lit q) (.k q) SN)<|aq.aV
      ·obtain rfl:=au aa
       exact aq.aV
     obtain ⟨mH,aa,h⟩:=ax h
     refine W.bs [(1,.obj (hE.cells a0)),(2,.obj [ae aA,.aI,.aI,ae aA]),(3,j (aO (1+aD))),(4,.obj [ae aA,ag cx x2,ak eW dw.1,ae aA]),(5,ak bH dw.2.1),(7,j dw.2.2),(8,j dk),(9,.obj [ak ed mH,ae aA,a1 false,j 0,j 0,j 0]),(10,a1 e2.2)] ?_ ?_
     ·clear h; have h:=aa; clear aa
      refine W.bu h q (λRm h=>?_) (λRm h=>?_)
      ·obtain ⟨yC,Gx,h⟩:=ax h
       refine W.bk [1,2,3,4,5,7,8,9,10] (ai (O.a_ q (.obj q) pd q)<|ai (O.cU (y:=.bl ed.z ⟨9,[0]⟩ e2.1.length) q (.ptr q) sx q q)<|ai (O.dE (cs:=[ae aA,a1 false,j 0,j 0,ae ({ data:=#[123,102,40,36,36,41,125] }),j 0]) uE oZ q q q)<|aq.eY (x:=ag ed [(⟨(⟨aA,false,0,0⟩:Sym),{ data:=#[123,102,40,36,36,41,125] },0⟩:Part)]) (O.dg (ys:=[.agg [ae aA,a1 false,j 0,j 0,ae ({ data:=#[123,102,40,36,36,41,125] }),j 0]]) ed [(⟨(⟨aA,false,0,0⟩:Sym),{ data:=#[123,102,40,36,36,41,125] },0⟩:Part)] qu q q q q q q wK q q) q q .none<|ai (O.ap (en:=ed) (r:=yC) (.bl q) q (.aF q) .i B7 q Gx)<|ai (O.a_ q (.obj q) pd q)<|aq.h_ (G2:=[(1,.obj (hE.cells a0)),(2,.obj [ae aA,.aI,.aI,ae aA]),(3,j (aO (1+aD))),(4,.obj [ae aA,ag cx x2,ak eW dw.1,ae aA]),(5,ak bH dw.2.1),(7,j dw.2.2),(8,j dk),(9,.obj [ak ed (e2.1++[(⟨(⟨aA,false,0,0⟩:Sym),{ data:=#[123,102,40,36,36,41,125] },0⟩:Part)]),ae aA,a1 false,j 0,j 0,j 0]),(10,a1 e2.2)]) q (b9.kt (g1:=_) (en:=ed) (M:=[(⟨(⟨aA,false,0,0⟩:Sym),{ data:=#[123,102,40,36,36,41,125] },0⟩:Part)]) (cs2:=[ak ed (e2.1++[(⟨(⟨aA,false,0,0⟩:Sym),{ data:=#[123,102,40,36,36,41,125] },0⟩:Part)]),ae aA,a1 false,j 0,j 0,j 0]) q q (.ptr q) (.bR q) q q q .iH .gk q q DU q q q q (.n q q (.n q q (.n q q (.n q q (.n q q (.n q q (.n q q (.b q (.n q q .nil))))))))))<|bK q) ?_
       obtain rfl:=au h
       exact ah.bs (iI q q q q q q q q q)
      ·refine W.bF ?_
       obtain rfl:=au h
       exact ah.bs (iI q q q q q q q q q)
     refine ah.aU ?_
     obtain ⟨xd,aa,h⟩:=ax h
     refine W.rs [(1,.obj (hE.cells a0)),(2,.obj [ae aA,.aI,.aI,ae aA]),(3,j (aO (1+aD))),(4,.obj [ae aA,ag cx x2,ak eW dw.1,ae aA]),(5,ak bH xd),(7,j dw.2.2),(8,j dk),(9,.obj [ak ed mH,ae aA,a1 false,j 0,j 0,j 0])] ?_ ?_
     ·refine ai (O.aC (.own q))<|bp q<|ai (O.aC (.own q))<|ai (O.aC (.lit q)) ?_
      obtain ⟨kj,uj,aa⟩:=ax aa
      refine ai (O.gY (en:=bH) q (.bl q) (.lit q) oT uj q)<|ai (O.jz (en:=bH) (x':=a1 kj) q (.ptr q) mW uj q q)<|ai (O.aC (.lit q)) ?_
      rcases cB aa with ⟨vn,aa⟩ | ⟨vn,aa⟩
      ·obtain rfl:=au aa
       exact cF vn<|ai (O.eB (.lit q) vn (.k q))<|ai (O.gY (en:=bH) q (.bl q) (.lit q) oT uj q)<|aq.h_ (G2:=[(1,.obj (hE.cells a0)),(2,.obj [ae aA,.aI,.aI,ae aA]),(3,j (aO (1+aD))),(4,.obj [ae aA,ag cx x2,ak eW dw.1,ae aA]),(5,ak bH (dw.2.1.set dk.toNat true)),(7,j dw.2.2),(8,j dk),(9,.obj [ak ed mH,ae aA,a1 false,j 0,j 0,j 0])]) q (b9.pI (en:=bH) (y2:=true) (cs':=[a1 true]) (x2:=ak bH (dw.2.1.set dk.toNat true)) q q (.ptr q) (.lit q) q uj uH q q q q q q q (.n q q (.n q q (.n q q (.n q q (.b q (.n q q (.n q q (.n q q .nil)))))))))<|aq.aV
      ·obtain rfl:=au aa
       exact aW vn (O.aC (.lit q))<|ai (O.dL (.lit q) vn (.lit q))<|ai (O.gY (en:=bH) q (.bl q) (.lit q) oT uj q)<|aq.h_ (G2:=[(1,.obj (hE.cells a0)),(2,.obj [ae aA,.aI,.aI,ae aA]),(3,j (aO (1+aD))),(4,.obj [ae aA,ag cx x2,ak eW dw.1,ae aA]),(5,ak bH (dw.2.1.set dk.toNat e2.2)),(7,j dw.2.2),(8,j dk),(9,.obj [ak ed mH,ae aA,a1 false,j 0,j 0,j 0])]) q (b9.pI (en:=bH) (y2:=e2.2) (cs':=[a1 e2.2]) (x2:=ak bH (dw.2.1.set dk.toNat e2.2)) q q (.ptr q) (.lit q) q uj uH q q q q q q q (.n q q (.n q q (.n q q (.n q q (.b q (.n q q (.n q q (.n q q .nil)))))))))<|aq.aV
     refine W.eF (G1:=[(1,_),(2,_),(3,_),(4,_),(5,_),(7,_),(8,_),(9,.obj [ag ed mH,ae aA,a1 false,j 0,j 0,j 0])]) [9] (.n q q (.n q q (.n q q (.n q q (.n q q (.n q q (.n q q (.z q q (gr.obj (.z (.f (.f (.f (.f (.f .nil))))))) .nil)))))))) ?_
     obtain ⟨kv,oN,h⟩:=ax h
     obtain ⟨h0,Gy,h⟩:=ax h
     refine W.rd [[],[0],[],[],[3],[],[3,4,5],[3,4,5,6],aN 3 5 [],[],[9],aN 3 8 [],aN 0 12 [],aN 0 13 [],aN 0 14 []] [(1,_),(2,_),(3,_),(4,_),(5,_),(7,_)] ei (by kernel_rfl) (av 0 (O.a_ q (.obj q) kH q)<|av 1 (O.cU (y:=.bl eW.z ⟨4,[2]⟩ dw.1.length) q (.ptr q) lr q q)<|av 2 (O.aC (.lit q))<|av 3 (O.a_ q (.obj q) kH q)<|av 4 (O.cU (y:=.bl eW.z ⟨4,[2]⟩ dw.1.length) q (.ptr q) lr q q)<|av 5 (O.aC (.lit q))<|av 6 (O.gY (en:=eW) q (.bl q) (.lit q) lh oN q)<|av 7 (O.ko (en:=eW) q (.ptr q) nY oN q q)<|av 8 (O.jz (en:=eW) (x':=.bl dN.z ⟨4,[2,dk.toNat * eW.z+1]⟩ kv.eT.length) q (.ptr q) p0 oN q q)<|av 9 (O.dR (cs':=[ag ed mH,ae aA,a1 false,j 0,j 0,j 0]) q (.obj q) Cb q q)<|bC.eY 10 (x:=ag dN [(⟨mH,(⟨aA,false,0,0⟩:Sym),0⟩:Alt)]) (O.dg (ys:=[.agg [ag ed mH,ae aA,a1 false,j 0,j 0,j 0]]) dN [(⟨mH,(⟨aA,false,0,0⟩:Sym),0⟩:Alt)] pF q q q q q q D6 q q) q q q q .none<|av 11 (O.ap (en:=dN) (r:=h0) (.bl q) (tw (r:=4) (path:=[2]) (o:=1) (en:=eW) q oN q) (.aF q) .i El q Gy)<|av 12 (O.gY (en:=eW) q (.bl q) (.lit q) lh oN q)<|av 13 (O.ko (en:=eW) q (.ptr q) nY oN q q)<|bC.iZ 14 (G2:=[(1,.obj (hE.cells a0)),(2,.obj [ae aA,.aI,.aI,ae aA]),(3,j (aO (1+aD))),(4,.obj [ae aA,ag cx x2,ak eW (dw.1.set dk.toNat (⟨kv.Left,kv.eT++[(⟨mH,(⟨aA,false,0,0⟩:Sym),0⟩:Alt)],kv.At⟩:fi)),ae aA]),(5,ak bH xd),(7,j dw.2.2)]) (b9.Bz (en:=eW) (en2:=dN) (M:=[(⟨mH,(⟨aA,false,0,0⟩:Sym),0⟩:Alt)]) (y2:=(⟨kv.Left,kv.eT++[(⟨mH,(⟨aA,false,0,0⟩:Sym),0⟩:Alt)],kv.At⟩:fi)) (x2:=.obj [ae aA,ag cx x2,ak eW (dw.1.set dk.toNat (⟨kv.Left,kv.eT++[(⟨mH,(⟨aA,false,0,0⟩:Sym),0⟩:Alt)],kv.At⟩:fi)),ae aA]) (y0:=.obj [ae aA,ag cx x2,.own eW.z dw.1.length ((ch eW dw.1).set (dk.toNat * eW.z+1) .dead),ae aA]) q q (.ptr q) (.bR q) q q oN q q .iH .gk q q HZ q q q q q q (.n q q (.n q q (.n q q (.b q (.n q q (.n q q .nil))))))) q q q q (by kernel_rfl) (by kernel_rfl)<|bC.fin q q q (fw q q q q q q)) ?_
     refine ah.bf ?_
     obtain rfl:=au h
     exact ah.bs (fw q q q q q q)
   refine ah.aU<|W.bk [1,2,3,4,5,7] (bp q<|ai (O.add (.lit q) (.k q))<|aq.bk [1,2,3,4,5,47] q<|aq.aV) ?_
   obtain rfl:=au h
   exact ah.go (fw q q q q q q)
  ·refine W.c9 ?_
   refine ah.c7 ?_
   obtain rfl:=au h
   exact ah.aD (dX q q q q q)
 refine ah.c' ?_
 refine ah.aU<|W.aX ?_
 refine W.aT [1,2,3,4,5,13] ?_
 refine W.bf ?_
 obtain ⟨kR,ao,h⟩:=ax h
 refine W.ca (G1:=[(1,_),(2,_),(3,_),(4,_),(5,_),(13,_)]) (fw q q q q q q) ?_
 refine W.eg (s:=(bD.1,0)) (λ(ic:List fi × Int)=>[(1,.obj (hE.cells a0)),(2,.obj [ae aA,.aI,.aI,ae aA]),(3,j (aO (1+aD))),(4,.obj [ae aA,ag cx x2,ak eW ic.1,ae aA]),(5,ak bH bD.2),(13,j ic.2)]) 6 (λ(kR:List fi)=>[(2,.obj [ae aA,.aI,.aI,ae aA]),(4,.obj [ae aA,ag cx x2,ak eW kR,ae aA])]) ao (λic o h=>?_) ?_
 ·clear ao
  refine W.aX<|W.aT [1,2,3,4,5,13,175] ?_
  refine W.bu h q (λRp h=>?_) (λRp h=>?_)
  ·refine W.bF<|ah.aU ?_
   refine W.aX ?_
   obtain ⟨G0,aa,h⟩:=ax h
   refine W.bs [(1,.obj (hE.cells a0)),(2,.obj [ae aA,.aI,.aI,ae aA]),(3,j (aO (1+aD))),(4,.obj [ae aA,ag cx x2,ak eW G0,ae aA]),(5,ak bH bD.2),(13,j ic.2)] ?_ ?_
   ·clear h; have h:=aa; clear aa
    refine W.bf ?_
    obtain ⟨Ey,aa,h⟩:=ax h
    refine W.rs [(1,.obj (hE.cells a0)),(2,.obj [ae aA,.aI,.aI,ae aA]),(3,j (aO (1+aD))),(4,.obj [ae aA,ag cx x2,ak eW ic.1,ae aA]),(5,ak bH bD.2),(13,j ic.2),(197,a1 Ey)] ?_ ?_
    ·refine ai (O.a_ q (.obj q) kH q)<|ai (O.cU (y:=.bl eW.z ⟨4,[2]⟩ ic.1.length) q (.ptr q) lr q q)<|ai (O.aC (.lit q)) ?_
     obtain ⟨uK,Am,aa⟩:=ax aa
     refine ai (O.gY (en:=eW) q (.bl q) (.lit q) lh Am q)<|ai (O.ko (en:=eW) q (.ptr q) nY Am q q)<|ai (O.jz (en:=eW) (x':=.bl dN.z ⟨4,[2,ic.2.toNat * eW.z+1]⟩ uK.eT.length) q (.ptr q) p0 Am q q)<|ai (O.px (.bl q) pF)<|ai (O.eql (.lit q) (.k q))<|ai (O.aC (.lit q)) ?_
     rcases cB aa with ⟨sM,aa⟩ | ⟨sM,aa⟩
     ·obtain rfl:=au aa
      exact aq.aV
     ·refine aW sM (O.aC (.own q))<|aW sM (O.aC (.lit q)) ?_
      obtain ⟨Ia,Lv,aa⟩:=ax aa
      refine aW sM (O.gY (en:=bH) q (.bl q) (.lit q) oT Lv q)<|aW sM (O.jz (en:=bH) (x':=a1 Ia) q (.ptr q) mW Lv q q)<|aW sM (O.not (.lit q))<|aW sM (O.aC (.lit q)) ?_
      rcases cB aa with ⟨sN,aa⟩ | ⟨sN,aa⟩
      ·obtain rfl:=au aa
       exact aW sN (O.a_ q (.obj q) J4 q)<|aW sN (O.cq q (.ptr q) mW q)<|aW sN (O.not (.lit q))<|aW sM (O.eB (.lit q) sN (.lit q))<|aq.aV
      ·obtain rfl:=au aa
       exact cF sN<|cF sN<|cF sN<|aW sM (O.dL (.lit q) sN (.k q))<|aq.aV
    obtain ⟨G3,aa,h⟩:=ax h
    refine W.bs [(1,.obj (hE.cells a0)),(2,.obj [ae aA,.aI,.aI,ae aA]),(3,j (aO (1+aD))),(4,.obj [ae aA,ag cx x2,ak eW G3,ae aA]),(5,ak bH bD.2),(13,j ic.2)] ?_ ?_
    ·clear h; have h:=aa; clear aa
     refine W.bu h q (λRs h=>?_) (λRs h=>?_)
     ·obtain ⟨kx,vA,h⟩:=ax h
      obtain ⟨ky,SZ,h⟩:=ax h
      obtain ⟨BK,Lw,h⟩:=ax h
      refine W.rd [[],[0],[],[],[3],[],[3,4,5],[3,4,5,6],aN 3 5 [],[],[9],[9,10],[9,10,11],[9,10,11,12],aN 9 5 [],aN 3 12 [],aN 0 16 [],aN 0 17 [],aN 0 18 []] [(1,_),(2,_),(3,_),(4,_),(5,_),(13,_)] ei (by kernel_rfl) (av 0 (O.a_ q (.obj q) kH q)<|av 1 (O.cU (y:=.bl eW.z ⟨4,[2]⟩ ic.1.length) q (.ptr q) lr q q)<|av 2 (O.aC (.lit q))<|av 3 (O.a_ q (.obj q) kH q)<|av 4 (O.cU (y:=.bl eW.z ⟨4,[2]⟩ ic.1.length) q (.ptr q) lr q q)<|av 5 (O.aC (.lit q))<|av 6 (O.gY (en:=eW) q (.bl q) (.lit q) lh vA q)<|av 7 (O.ko (en:=eW) q (.ptr q) nY vA q q)<|av 8 (O.jz (en:=eW) (x':=.bl dN.z ⟨4,[2,ic.2.toNat * eW.z+1]⟩ kx.eT.length) q (.ptr q) p0 vA q q)<|av 9 (O.aC (.lit q))<|gR 10 (cr.go (.bT (.lit q) .nil) (Cp ic.2 _ SZ) call47 q)<|av 11 (O.dE (cs:=[ae ky.Name,a1 ky.Lit,j ky.cJ,j ky.At,ae aA,j 0]) uE oZ q q q)<|bC.eY 12 (x:=ag ed [(⟨ky,aA,0⟩:Part)]) (O.dg (ys:=[.agg [ae ky.Name,a1 ky.Lit,j ky.cJ,j ky.At,ae aA,j 0]]) ed [(⟨ky,aA,0⟩:Part)] qu q q q q q q wK q q) q q q q .none<|av 13 (O.dE (cs:=[ag ed [(⟨ky,aA,0⟩:Part)],ae aA,a1 false,j 0,j 0,j 0]) DN yE q q q)<|bC.eY 14 (x:=ag dN [(⟨[(⟨ky,aA,0⟩:Part)],(⟨aA,false,0,0⟩:Sym),0⟩:Alt)]) (O.dg (ys:=[.agg [ag ed [(⟨ky,aA,0⟩:Part)],ae aA,a1 false,j 0,j 0,j 0]]) dN [(⟨[(⟨ky,aA,0⟩:Part)],(⟨aA,false,0,0⟩:Sym),0⟩:Alt)] pF q q q q q q D6 q q) q q q q .none<|av 15 (O.ap (en:=dN) (r:=BK) (.bl q) (tw (r:=4) (path:=[2]) (o:=1) (en:=eW) q vA q) (.aF q) .i El q Lw)<|av 16 (O.gY (en:=eW) q (.bl q) (.lit q) lh vA q)<|av 17 (O.ko (en:=eW) q (.ptr q) nY vA q q)<|bC.iZ 18 (G2:=[(1,.obj (hE.cells a0)),(2,.obj [ae aA,.aI,.aI,ae aA]),(3,j (aO (1+aD))),(4,.obj [ae aA,ag cx x2,ak eW (ic.1.set ic.2.toNat (⟨kx.Left,kx.eT++[(⟨[(⟨ky,aA,0⟩:Part)],(⟨aA,false,0,0⟩:Sym),0⟩:Alt)],kx.At⟩:fi)),ae aA]),(5,ak bH bD.2),(13,j ic.2)]) (b9.Bz (en:=eW) (en2:=dN) (M:=[(⟨[(⟨ky,aA,0⟩:Part)],(⟨aA,false,0,0⟩:Sym),0⟩:Alt)]) (y2:=(⟨kx.Left,kx.eT++[(⟨[(⟨ky,aA,0⟩:Part)],(⟨aA,false,0,0⟩:Sym),0⟩:Alt)],kx.At⟩:fi)) (x2:=.obj [ae aA,ag cx x2,ak eW (ic.1.set ic.2.toNat (⟨kx.Left,kx.eT++[(⟨[(⟨ky,aA,0⟩:Part)],(⟨aA,false,0,0⟩:Sym),0⟩:Alt)],kx.At⟩:fi)),ae aA]) (y0:=.obj [ae aA,ag cx x2,.own eW.z ic.1.length ((ch eW ic.1).set (ic.2.toNat * eW.z+1) .dead),ae aA]) q q (.ptr q) (.bR q) q q vA q q .iH .gk q q HZ q q q q q q (.n q q (.n q q (.n q q (.b q (.n q q (.n q q .nil))))))) q q q q (by kernel_rfl) (by kernel_rfl)<|bC.fin q q q (fw q q q q q q)) ?_
      obtain rfl:=au h
      exact ah.bs (fw q q q q q q)
     ·refine W.bF ?_
      obtain rfl:=au h
      exact ah.bs (fw q q q q q q)
    refine ah.bf ?_
    obtain rfl:=au h
    exact ah.bs (fw q q q q q q)
   refine ah.aU<|W.bk [1,2,3,4,5,13] (bp q<|ai (O.add (.lit q) (.k q))<|aq.bk [1,2,3,4,5,177] q<|aq.aV) ?_
   obtain rfl:=au h
   exact ah.go (fw q q q q q q)
  ·refine W.c9 ?_
   refine ah.c7 ?_
   obtain rfl:=au h
   exact ah.aD (fC q q)
 refine ah.c' ?_
 refine ah.aU<|W.aX ?_
 refine W.eF (G1:=[(2,_),(4,.obj [ae aA,ag cx x2,ag eM kR,ae aA])]) [4] (.n q q (.z q q (gr.obj (.f (.f (.z (.f .nil))))) .nil)) ?_
 refine W.bk [2] (ai (O.dR (cs':=[ae aA,ag cx x2,ag eM kR,ae aA]) q (.obj q) qE q q)<|aq.dx (G2:=[(2,_)]) (cs2:=[ae aA,ag cx x2,ag eM kR,ae aA]) q (.obj q) (.b2 q q) q DQ q q q q (.b q .nil)<|bK q) ?_
 refine ah.aU<|W.rt ?_
 obtain rfl:=au h
 exact cw (.c (ys0:=[ae aA,ag cx x2,ag eM kR,ae aA]) q qE q q q (.f q (.f q (.f q (.f q .nil)))) .nil)
theorem Jz (a0:(List Int)) (r:Int) (h:uy a0=some r):b_ Try.prog 51 [ag aG a0] [none] (j r):=by
 unfold uy at h
 refine b_.go (N:=⟨54,[]⟩) Try.func51 q q q q (W.fin ?_)
 refine W.st [(0,ag aG a0)] ?_
 refine W.aT [0] ?_
 refine W.aT [0,3] ?_
 refine W.aX<|W.aT [0,3,4] ?_
 refine W.bf ?_
 obtain ⟨x2,ao,h⟩:=ax h
 refine W.ca (G1:=[(0,_),(3,ag aG ([]:List Int)),(4,_)]) (.n q (.w q q .vS (.n q .nil))) ?_
 refine W.eg (s:=(([]:List Int),0)) (λ(s1:List Int × Int)=>[(0,ag aG a0),(3,ag aG s1.1),(4,j s1.2)]) 0 (λ(x2:List Int)=>[(0,ag aG a0),(3,ag aG x2)]) ao (λs1 o h=>?_) ?_
 ·clear ao
  refine W.aX<|W.aT [0,3,4,13] ?_
  refine W.bu h q (λc0 h=>?_) (λc0 h=>?_)
  ·refine W.bF<|ah.aU ?_
   refine W.aX<|W.bf ?_
   obtain ⟨cn,kM,h⟩:=ax h
   obtain ⟨bP,ga,h⟩:=ax h
   refine W.bk [0,3,4] (ai (O.aC (.aF q))<|ai (O.aC (.aF q))<|bp q<|ai (O.cC (.aF q) (.lit q) eS kM)<|ai (O.dd (x:=j cn) (.bo q) ct q)<|eE (cr.go (.bT (.aF q) (.bT (.lit q) .nil)) (tB s1.1 cn _ ga) call67 q)<|aq.bk [0,4,21] q<|aq.aV) ?_
   refine ah.bf ?_
   refine ah.aU<|W.bk [0,3,4] (bp q<|ai (O.add (.lit q) (.k q))<|aq.bk [0,3,15] q<|aq.aV) ?_
   obtain rfl:=au h
   exact ah.go (dt q q q)
  ·refine W.c9 ?_
   refine ah.c7 ?_
   obtain rfl:=au h
   exact ah.aD (fC q q)
 refine ah.c' ?_
 refine ah.aU<|W.aT [0,3,5,6] ?_
 refine W.aX<|W.aT [0,3,5,6,7] ?_
 refine W.bf ?_
 obtain ⟨b1,ao,h⟩:=ax h
 refine W.ca (G1:=[(0,_),(3,_),(5,_),(6,_),(7,_)]) (dX q q q q q) ?_
 refine W.eg (s:=((-1),0,0)) (λ(ev:Int × Int × Int)=>[(0,ag aG a0),(3,ag aG x2),(5,j ev.1),(6,j ev.2.1),(7,j ev.2.2)]) 2 (λ(b1:Int)=>[(5,j b1)]) ao (λev o h=>?_) ?_
 ·clear ao
  refine W.aX<|W.aT [0,3,5,6,7,25] ?_
  refine W.bu h q (λeJ h=>?_) (λeJ h=>?_)
  ·refine W.bF<|ah.aU ?_
   refine W.aX ?_
   obtain ⟨gT,aa,h⟩:=ax h
   refine W.bs [(0,ag aG a0),(3,ag aG x2),(5,j gT.1),(6,j gT.2),(7,j ev.2.2)] ?_ ?_
   ·clear h; have h:=aa; clear aa
    refine W.bf<|W.aT [0,3,5,6,7,8] ?_
    refine W.aX<|W.aT [0,3,5,6,7,8,9] ?_
    refine W.bf ?_
    obtain ⟨eb,ao,h⟩:=ax h
    refine W.ca (G1:=[(0,_),(3,_),(5,_),(6,_),(7,_),(8,_),(9,_)]) (g_ q q q q q q q) ?_
    refine W.eg (s:=(0,0)) (λ(qo:Int × Int)=>[(0,ag aG a0),(3,ag aG x2),(5,j ev.1),(6,j ev.2.1),(7,j ev.2.2),(8,j qo.1),(9,j qo.2)]) 4 (λ(eb:Int)=>[(0,ag aG a0),(3,ag aG x2),(5,j ev.1),(6,j ev.2.1),(7,j ev.2.2),(8,j eb)]) ao (λqo o h=>?_) ?_
    ·clear ao
     refine W.aX<|W.aT [0,3,5,6,7,8,9,31] ?_
     refine W.bu h q (λpg h=>?_) (λpg h=>?_)
     ·refine W.bF<|ah.aU ?_
      refine W.aX ?_
      obtain ⟨l9,aa,h⟩:=ax h
      refine W.bs [(0,ag aG a0),(3,ag aG x2),(5,j ev.1),(6,j ev.2.1),(7,j ev.2.2),(8,j l9),(9,j qo.2)] ?_ ?_
      ·clear h; have h:=aa; clear aa
       refine W.bf<|W.aX ?_
       obtain ⟨bZ,gS,h⟩:=ax h
       obtain ⟨dS,iG,h⟩:=ax h
       refine W.rd [[],[],[0,1],[0,1,2],[],[],[4,5],[4,5,6],aN 0 8 []] [(0,_),(3,_),(5,_),(6,_),(7,_),(8,_),(9,_),(42,_)] ei (by kernel_rfl) (av 0 (O.aC (.aF q))<|av 1 (O.aC (.lit q))<|av 2 (O.cC (.aF q) (.lit q) eS gS)<|av 3 (O.dd (x:=j bZ) (.bo q) ct q)<|av 4 (O.aC (.aF q))<|av 5 (O.aC (.lit q))<|av 6 (O.cC (.aF q) (.lit q) eS iG)<|av 7 (O.dd (x:=j dS) (.bo q) ct q)<|av 8 (O.eql (.lit q) (.lit q))<|bC.fin q q q (jR q q q q q q q q)) ?_
       refine ah.aU ?_
       obtain ⟨fX,aa,h⟩:=ax h
       refine W.bs [(0,ag aG a0),(3,ag aG x2),(5,j ev.1),(6,j ev.2.1),(7,j ev.2.2),(8,j fX),(9,j qo.2)] ?_ ?_
       ·clear h; have h:=aa; clear aa
        refine W.bu h q (λka h=>?_) (λka h=>?_)
        ·refine W.bk [0,3,5,6,7,8,9] (bp q<|ai (O.add (.lit q) (.k q))<|aq.bk [0,3,5,6,7,9,44] q<|aq.aV) ?_
         obtain rfl:=au h
         exact ah.bs (g_ q q q q q q q)
        ·refine W.bF ?_
         obtain rfl:=au h
         exact ah.bs (g_ q q q q q q q)
       refine ah.bf ?_
       obtain rfl:=au h
       exact ah.bs (g_ q q q q q q q)
      refine ah.aU<|W.bk [0,3,5,6,7,8,9] (bp q<|ai (O.add (.lit q) (.k q))<|aq.bk [0,3,5,6,7,8,33] q<|aq.aV) ?_
      obtain rfl:=au h
      exact ah.go (g_ q q q q q q q)
     ·refine W.c9 ?_
      refine ah.c7 ?_
      obtain rfl:=au h
      exact ah.aD (fw q q q q q q)
    refine ah.c' ?_
    refine ah.aU<|W.aT [0,3,5,6,7,8,47] ?_
    obtain ⟨nj,aa,h⟩:=ax h
    refine W.bs [(0,ag aG a0),(3,ag aG x2),(5,j nj.1),(6,j nj.2),(7,j ev.2.2)] ?_ ?_
    ·clear h; have h:=aa; clear aa
     refine W.bu h q (λm_ h=>?_) (λm_ h=>?_)
     ·obtain ⟨e2,nf,h⟩:=ax h
      refine W.bk [0,3,5,6,7] (ai (O.aC (.aF q))<|bp q<|ai (O.cC (.aF q) (.lit q) eS nf)<|ai (O.dd (x:=j e2) (.bo q) ct q)<|bp q<|aq.bk [0,3,7,51,52] q<|aq.aV) ?_
      obtain rfl:=au h
      exact ah.bs (dX q q q q q)
     ·refine W.bF ?_
      obtain rfl:=au h
      exact ah.bs (dX q q q q q)
    refine ah.bf ?_
    obtain rfl:=au h
    exact ah.bs (dX q q q q q)
   refine ah.aU<|W.bk [0,3,5,6,7] (bp q<|ai (O.add (.lit q) (.k q))<|aq.bk [0,3,5,6,27] q<|aq.aV) ?_
   obtain rfl:=au h
   exact ah.go (dX q q q q q)
  ·refine W.c9 ?_
   refine ah.c7 ?_
   obtain rfl:=au h
   exact ah.aD (.n q .nil)
 refine ah.c' ?_
 refine ah.aU<|W.aT [2] ?_
 refine W.rt ?_
 obtain rfl:=au h
 exact cw (.f q q .nil)
end Go.Proofs
