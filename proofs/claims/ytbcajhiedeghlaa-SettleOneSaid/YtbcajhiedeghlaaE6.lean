/-
  What is proved here: parts of the proof that the last text states: rules for walks through code, and of this program's functions what they answer. No condition of their own.
-/
import Derived.KernelRfl
import Derived.ProofKit
import Derived.RowKit3
import Derived.Test.YtbcajhiedeghlaaRows
import Derived.Test.YtbcajhiedeghlaaE5
namespace Go.Proofs
open Go Go.Own
set_option maxRecDepth 100000
set_option linter.unusedVariables false
theorem OO (a0:bZ) (r:(List State) × Int) (h:An a0=some r):b_ Try.prog 69 [.agg (ch.cells a0)] [none] (.cw [aj cF r.1,j r.2]):=by
 unfold An at h
 refine b_.go (N:=⟨106,[]⟩) Try.func69 q q q q (W.fin ?_)
 refine W.st [(0,.agg (ch.cells a0))] ?_
 refine W.bM [1] (ah (O.box (.cg q q) q)<|ar.aW) ?_
 refine W.bM [1,4] (ah (O.eS (cs:=[j 0,j 0]) He Dq q q q)<|ah (O.oK (ys:=[.agg [j 0,j 0]]) (cs:=[j 0,j 0]) j1 q q q q q HK q q)<|ah (O.eS (cs:=[.bm 2 ⟨15,[]⟩ 1,.aJ]) L5 HG q q q)<|ah (O.oK (ys:=[.agg [.bm 2 ⟨15,[]⟩ 1,.aJ]]) (cs:=[.bm 2 ⟨15,[]⟩ 1,.aJ]) kV q q q q q MJ q q)<|ar.gI (G2:=[(1,.obj (ch.cells a0))]) q (cm.Bj (y':=ak gw [(⟨[(⟨0,0⟩:Item)],([]:List Move)⟩:State)]) q q (.own q) (.l q q (.l q q (.f (.f .nil)) (.f .nil)) .nil) (gu.own (.z (hv:=kh.G_ (en:=db) (L:=[(⟨0,0⟩:Item)]) (cs':=[j 0,j 0]) q q) (.o .nil))) (.n q .nil) q q)<|bR q) ?_
 obtain ⟨aE,fp,h⟩:=aB h
 refine W.bM [1,4,5] (ah (O.dT (cs':=[aj bo a0.a',aj a8 a0.bw,aj bE a0.aY,af a0.bz,af a0.bA]) q (.obj q) gg q q)<|dL (cu.go (.bX (.cg q q) .nil) (OV a0 _ fp) call79 q)<|ar.aW) ?_
 refine W.bb<|W.aZ [1,4,5,6] ?_
 refine W.bq ?_
 obtain ⟨aX,ao,h⟩:=aB h
 refine W.cj (G1:=[(1,_),(4,_),(5,_),(6,_)]) (dA q q q q) ?_
 refine W.jM (s:=([(⟨[(⟨0,0⟩:Item)],([]:List Move)⟩:State)],0)) (λ(s2:List State × Int)=>[(1,.obj (ch.cells a0)),(4,ak gw s2.1),(5,aj aL aE),(6,j s2.2)]) 0 (λ(bN:List State)=>[(4,ak gw bN)]) (λ(ck:List State × Int)=>[(2,aj cF ck.1),(3,j ck.2)]) ao (λs2 o h=>?_) (λbN J=>?_) (λck J=>?_)
 ·clear ao
  refine W.bb<|W.aZ [1,4,5,6,23] ?_
  refine W.bH h q (λdN h=>?_) (λdN h=>?_)
  ·refine W.bO<|ai.a_ ?_
   refine W.bb<|W.bq ?_
   refine W.bb ?_
   obtain ⟨bl,gb,h⟩:=aB h
   obtain ⟨bT,im,h⟩:=aB h
   refine W.rd [[],[],[],[1,2],[1,2,3],[1,2,3,4],aO 0 6 [],aO 0 7 []] [(1,_),(4,_),(5,_),(6,_),(7,_)] e1 (by kernel_rfl) (au 0 (O.dT (cs':=[aj bo a0.a',aj a8 a0.bw,aj bE a0.aY,af a0.bz,af a0.bA]) q (.obj q) gg q q)<|au 1 (O.aA (.own q))<|au 2 (O.aA (.lit q))<|au 3 (O.gS (en:=gw) q (.bm q) (.lit q) kV gb q)<|au 4 (O.j9 (en:=gw) q (.ptr q) uO gb q q)<|au 5 (O.iZ (en:=gw) (x':=aj db bl.Kernel) q (.ptr q) uG gb q q)<|iM 6 (cu.go (.bX (.cg q q) (.bX (.aD q) .nil)) (Eb a0 bl.Kernel _ im) call80 q)<|au 7 (O.dv (.aD q))<|bV.fin q q q (e' q q q q q)) ?_
   refine ai.a_<|W.aZ [1,4,5,6,7,8] ?_
   refine W.bb<|W.aZ [1,4,5,6,7,8,9] ?_
   refine W.bq ?_
   obtain ⟨bQ,ao,h⟩:=aB h
   refine W.cj (G1:=[(1,_),(4,_),(5,_),(6,_),(7,_),(8,aj aL ([]:List Int)),(9,_)]) (.n q (.n q (.n q (.n q (.n q (.w q q .xq (.n q .nil))))))) ?_
   refine W.e0 (s:=(([]:List Int),0)) (λ(hB:List Int × Int)=>[(1,.obj (ch.cells a0)),(4,ak gw s2.1),(5,aj aL aE),(6,j s2.2),(7,aj db bT),(8,aj aL hB.1),(9,j hB.2)]) 2 (λ(bQ:List Int)=>[(1,.obj (ch.cells a0)),(4,ak gw s2.1),(5,aj aL aE),(6,j s2.2),(8,aj aL bQ)]) ao (λhB o h=>?_) ?_
   ·clear ao
    refine W.bb<|W.aZ [1,4,5,6,7,8,9,36] ?_
    refine W.bH h q (λew h=>?_) (λew h=>?_)
    ·refine W.bO<|ai.a_ ?_
     refine W.bb ?_
     obtain ⟨iX,aa,h⟩:=aB h
     refine W.bC [(1,.obj (ch.cells a0)),(4,ak gw s2.1),(5,aj aL aE),(6,j s2.2),(7,aj db bT),(8,aj aL iX),(9,j hB.2)] ?_ ?_
     ·clear h; have h:=aa; clear aa
      refine W.bq<|W.bb ?_
      obtain ⟨d',kr,h⟩:=aB h
      obtain ⟨dt,iJ,h⟩:=aB h
      refine W.rd [[],[],[],[1,2],[1,2,3],aO 0 5 [],aO 0 6 []] [(1,_),(4,_),(5,_),(6,_),(7,_),(8,_),(9,_),(10,_)] e1 (by kernel_rfl) (au 0 (O.dT (cs':=[aj bo a0.a',aj a8 a0.bw,aj bE a0.aY,af a0.bz,af a0.bA]) q (.obj q) gg q q)<|au 1 (O.aA (.aD q))<|au 2 (O.aA (.lit q))<|au 3 (O.cE (.aD q) (.lit q) j1 kr)<|au 4 (O.jn (cs':=[j d'.Prod,j d'.dC]) (.bn q) pw q q)<|iM 5 (cu.go (.bX (.cg q q) (.bX (.cg q q) .nil)) (Ec a0 d' _ iJ) call81 q)<|au 6 (O.dv (.lit q))<|bV.fin q q q (mx q q q q q q q q)) ?_
      refine ai.a_<|W.aZ [1,4,5,6,7,8,9,10,46] ?_
      obtain ⟨mO,aa,h⟩:=aB h
      refine W.bC [(1,.obj (ch.cells a0)),(4,ak gw s2.1),(5,aj aL aE),(6,j s2.2),(7,aj db bT),(8,aj aL mO),(9,j hB.2)] ?_ ?_
      ·clear h; have h:=aa; clear aa
       refine W.bH h q (λuX h=>?_) (λuX h=>?_)
       ·obtain ⟨eJ,jL,h⟩:=aB h
        refine W.bp [1,4,5,6,7,8,9] (ah (O.aA (.aD q))<|br q<|dL (cu.go (.bX (.aD q) (.bX (.lit q) .nil)) (uE hB.1 dt _ jL) call67 q)<|ar.bp [1,4,5,6,7,9,49] q<|ar.aW) ?_
        obtain rfl:=ax h
        exact ai.bC (hg q q q q q q q)
       ·refine W.bO ?_
        obtain rfl:=ax h
        exact ai.bC (hg q q q q q q q)
      refine ai.bq ?_
      obtain rfl:=ax h
      exact ai.bC (hg q q q q q q q)
     refine ai.a_<|W.bp [1,4,5,6,7,8,9] (br q<|ah (O.add (.lit q) (.k q))<|ar.bp [1,4,5,6,7,8,38] q<|ar.aW) ?_
     obtain rfl:=ax h
     exact ai.go (hg q q q q q q q)
    ·refine W.dd ?_
     refine ai.dc ?_
     obtain rfl:=ax h
     exact ai.aE (e' q q q q q)
   refine ai.de ?_
   refine ai.a_<|W.aZ [1,4,5,6,8,11] ?_
   refine W.bq ?_
   obtain ⟨eB,ao,h⟩:=aB h
   refine W.cj (G1:=[(1,_),(4,_),(5,_),(6,_),(8,_),(11,_)]) (fC q q q q q q) ?_
   refine W.jM (s:=(s2.1,0)) (λ(d_:List State × Int)=>[(1,.obj (ch.cells a0)),(4,ak gw d_.1),(5,aj aL aE),(6,j s2.2),(8,aj aL bQ),(11,j d_.2)]) 4 (λ(dO:List State)=>[(1,.obj (ch.cells a0)),(4,ak gw dO),(5,aj aL aE),(6,j s2.2)]) (λ(gi:List State × Int)=>[(2,aj cF gi.1),(3,j gi.2)]) ao (λd_ o h=>?_) (λdO J=>?_) (λgi J=>?_)
   ·clear ao
    refine W.bb<|W.aZ [1,4,5,6,8,11,53] ?_
    refine W.bH h q (λix h=>?_) (λix h=>?_)
    ·refine W.bO<|ai.a_ ?_
     refine W.bb<|W.bq ?_
     refine W.bb ?_
     obtain ⟨gj,lP,h⟩:=aB h
     obtain ⟨e3,mI,h⟩:=aB h
     refine W.bM [1,4,5,6,8,11,62] (ah (O.aA (.aD q))<|ah (O.aA (.aD q))<|br q<|ah (O.cE (.aD q) (.lit q) eI lP)<|ah (O.c8 (x:=j gj) (.bn q) cz q)<|dL (cu.go (.bX (.aD q) (.bX (.lit q) .nil)) (I1 bQ gj _ mI) call70 q)<|ar.aW) ?_
     refine W.bH h q (λk5 h=>?_) (λk5 h=>?_)
     ·refine W.dd ?_
      refine ai.dc ?_
      refine ai.de ?_
      refine ai.a_<|W.bp [1,4,5,6,8,11] (br q<|ah (O.add (.lit q) (.k q))<|ar.bp [1,4,5,6,8,55] q<|ar.aW) ?_
      obtain rfl:=ax h
      exact ai.go (fC q q q q q q)
     ·refine W.bO<|ai.a_ ?_
      refine W.bb ?_
      obtain ⟨gr,m_,h⟩:=aB h
      obtain ⟨cV,u9,h⟩:=aB h
      obtain ⟨ev,k8,h⟩:=aB h
      refine W.rd [[],[],[],[1,2],[1,2,3],[1,2,3,4],[],[],[6,7],[6,7,8],aO 0 10 [],aO 0 11 []] [(1,_),(4,_),(5,_),(6,_),(8,_),(11,_),(12,_)] e1 (by kernel_rfl) (au 0 (O.dT (cs':=[aj bo a0.a',aj a8 a0.bw,aj bE a0.aY,af a0.bz,af a0.bA]) q (.obj q) gg q q)<|au 1 (O.aA (.own q))<|au 2 (O.aA (.lit q))<|au 3 (O.gS (en:=gw) q (.bm q) (.lit q) kV m_ q)<|au 4 (O.j9 (en:=gw) q (.ptr q) uO m_ q q)<|au 5 (O.iZ (en:=gw) (x':=aj db gr.Kernel) q (.ptr q) uG m_ q q)<|au 6 (O.aA (.aD q))<|au 7 (O.aA (.lit q))<|au 8 (O.cE (.aD q) (.lit q) eI u9)<|au 9 (O.c8 (x:=j cV) (.bn q) cz q)<|iM 10 (cu.go (.bX (.cg q q) (.bX (.aD q) (.bX (.lit q) .nil))) (OW a0 gr.Kernel cV _ k8) call82 q)<|au 11 (O.dv (.aD q))<|bV.fin q q q (hg q q q q q q q)) ?_
      refine ai.a_ ?_
      obtain ⟨ha,mJ,h⟩:=aB h
      refine W.bM [1,4,5,6,8,11,12,13] (ah (O.aA (.own q))<|ah (O.aA (.aD q))<|dL (cu.vw (ys:=[.bm gw.z ⟨4,[]⟩ d_.1.length,aj db ev]) q (.c (.row q) (.s .nil)) (OX d_.1 ev _ mJ) call83 q)<|ar.aW) ?_
      refine W.bb<|W.aZ [1,4,5,6,8,11,12,13,78] ?_
      refine W.bH h q (λlK h=>?_) (λlK h=>?_)
      ·refine W.bM [1,4,5,6,8,11,12,13] (ah (O.aA (.own q))<|ah (O.o2 (.bm q) kV)<|ar.bp [1,4,5,6,8,11,12,80] q<|ar.aW) ?_
       refine W.bb<|W.aZ [1,4,5,6,8,11,12,13,82] ?_
       refine W.bH h q (λlL h=>?_) (λlL h=>?_)
       ·refine W.aZ [2,3] ?_
        refine W.fE (G1:=[(2,aj cF ([]:List State)),(3,_)]) [2] (.z q q .js (.n q q .nil)) ?_
        refine W.rt ?_
        refine ai.c_ ?_
        refine ai.c_ ?_
        refine ai.ee ?_
        refine ai.c_ ?_
        obtain rfl:=ax h
        exact ai.gm (fe q q)
       ·refine W.bO<|ai.a_ ?_
        obtain ⟨mT,u_,h⟩:=aB h
        refine W.bp [1,4,5,6,8,11,13] (ah (O.aA (.own q))<|ah (O.aA (.aD q))<|ah (O.eS (cs:=[aj db ev,.aJ]) L5 HG q q q)<|ah (O.oK (ys:=[.agg [aj db ev,.aJ]]) (cs:=[aj db ev,.aJ]) kV q q q q q MJ q q)<|ah (O.wF (en:=gw) (M:=[(⟨ev,([]:List Move)⟩:State)]) (r:=mT) (.bm q) q (.own q) q q q q Ng q u_)<|ar.gI (G2:=[(1,.obj (ch.cells a0)),(5,aj aL aE),(6,j s2.2),(8,aj aL bQ),(11,j d_.2),(13,j (d_.1.length:Int))]) q (cm.Ii (M:=[(⟨ev,([]:List Move)⟩:State)]) q q (.b2 q) q q q (.f (.f .nil)) (.f (.o .nil)) q q (fC q q q q q q) q q)<|bR q) ?_
        refine ai.a_ ?_
        obtain ⟨gK,oX,h⟩:=aB h
        obtain ⟨gL,u',h⟩:=aB h
        obtain ⟨iD,qs,h⟩:=aB h
        refine W.rd [[],[],[],[],[2,3],[2,3,4],[2,3,4,5],[],[],[7,8],[7,8,9],[],aO 7 5 [],aO 7 6 [],aO 2 12 [],aO 0 15 [],aO 0 16 [],aO 0 17 []] [(1,_),(4,_),(5,_),(6,_),(8,_),(11,_)] e1 (by kernel_rfl) (au 0 (O.aA (.own q))<|au 1 (O.aA (.lit q))<|au 2 (O.aA (.own q))<|au 3 (O.aA (.lit q))<|au 4 (O.gS (en:=gw) q (.bm q) (.lit q) kV oX q)<|au 5 (O.j9 (en:=gw) q (.ptr q) r1 oX q q)<|au 6 (O.iZ (en:=gw) (x':=.bm ie.z ⟨4,[s2.2.toNat * gw.z+1]⟩ gK.di.length) q (.ptr q) uH oX q q)<|au 7 (O.aA (.aD q))<|au 8 (O.aA (.lit q))<|au 9 (O.cE (.aD q) (.lit q) eI u')<|au 10 (O.c8 (x:=j gL) (.bn q) cz q)<|au 11 (O.aA (.lit q))<|au 12 (O.eS (cs:=[j gL,j (d_.1.length:Int)]) L6 Dr q q q)<|bV.gq 13 (x:=aj ie [(⟨gL,(d_.1.length:Int)⟩:Move)]) (O.dF (ys:=[.agg [j gL,j (d_.1.length:Int)]]) ie [(⟨gL,(d_.1.length:Int)⟩:Move)] sF q q q q q q MK q q) q q q q .none<|au 14 (O.ap (en:=ie) (r:=iD) (.bm q) (qW (r:=4) (path:=[]) (o:=1) (en:=gw) q oX q) (.aD q) .i Ib q qs)<|au 15 (O.gS (en:=gw) q (.bm q) (.lit q) kV oX q)<|au 16 (O.j9 (en:=gw) q (.ptr q) r1 oX q q)<|bV.jI 17 (G2:=[(1,.obj (ch.cells a0)),(4,ak gw ((d_.1++[(⟨ev,([]:List Move)⟩:State)]).set s2.2.toNat (⟨gK.Kernel,gK.di++[(⟨gL,(d_.1.length:Int)⟩:Move)]⟩:State))),(5,aj aL aE),(6,j s2.2),(8,aj aL bQ),(11,j d_.2)]) (cm.AN (en:=gw) (en2:=ie) (M:=[(⟨gL,(d_.1.length:Int)⟩:Move)]) (y2:=(⟨gK.Kernel,gK.di++[(⟨gL,(d_.1.length:Int)⟩:Move)]⟩:State)) (x2:=ak gw ((d_.1++[(⟨ev,([]:List Move)⟩:State)]).set s2.2.toNat (⟨gK.Kernel,gK.di++[(⟨gL,(d_.1.length:Int)⟩:Move)]⟩:State))) (y0:=.own gw.z (d_.1++[(⟨ev,([]:List Move)⟩:State)]).length ((cf gw (d_.1++[(⟨ev,([]:List Move)⟩:State)])).set (s2.2.toNat * gw.z+1) .dead)) q q (.ptr q) (.b2 q) q q oX q q .lb .gZ q q Mi q q q q q q (.n q q (.b q (.n q q (.n q q (.n q q (.n q q .nil))))))) q q q q (by kernel_rfl) (by kernel_rfl)<|bV.fin q q q (fC q q q q q q)) ?_
        refine ai.bq ?_
        refine ai.a_<|W.bp [1,4,5,6,8,11] (br q<|ah (O.add (.lit q) (.k q))<|ar.bp [1,4,5,6,8,55] q<|ar.aW) ?_
        obtain rfl:=ax h
        exact ai.go (fC q q q q q q)
      ·refine W.bO<|ai.a_ ?_
       obtain ⟨j3,mh,h⟩:=aB h
       obtain ⟨c7,xg,h⟩:=aB h
       obtain ⟨hW,rl,h⟩:=aB h
       refine W.rd [[],[],[],[],[2,3],[2,3,4],[2,3,4,5],[],[],[7,8],[7,8,9],[],aO 7 5 [],aO 7 6 [],aO 2 12 [],aO 0 15 [],aO 0 16 [],aO 0 17 []] [(1,_),(4,_),(5,_),(6,_),(8,_),(11,_)] e1 (by kernel_rfl) (au 0 (O.aA (.own q))<|au 1 (O.aA (.lit q))<|au 2 (O.aA (.own q))<|au 3 (O.aA (.lit q))<|au 4 (O.gS (en:=gw) q (.bm q) (.lit q) kV mh q)<|au 5 (O.j9 (en:=gw) q (.ptr q) r1 mh q q)<|au 6 (O.iZ (en:=gw) (x':=.bm ie.z ⟨4,[s2.2.toNat * gw.z+1]⟩ j3.di.length) q (.ptr q) uH mh q q)<|au 7 (O.aA (.aD q))<|au 8 (O.aA (.lit q))<|au 9 (O.cE (.aD q) (.lit q) eI xg)<|au 10 (O.c8 (x:=j c7) (.bn q) cz q)<|au 11 (O.aA (.lit q))<|au 12 (O.eS (cs:=[j c7,j ha]) L6 Dr q q q)<|bV.gq 13 (x:=aj ie [(⟨c7,ha⟩:Move)]) (O.dF (ys:=[.agg [j c7,j ha]]) ie [(⟨c7,ha⟩:Move)] sF q q q q q q MK q q) q q q q .none<|au 14 (O.ap (en:=ie) (r:=hW) (.bm q) (qW (r:=4) (path:=[]) (o:=1) (en:=gw) q mh q) (.aD q) .i Ib q rl)<|au 15 (O.gS (en:=gw) q (.bm q) (.lit q) kV mh q)<|au 16 (O.j9 (en:=gw) q (.ptr q) r1 mh q q)<|bV.jI 17 (G2:=[(1,.obj (ch.cells a0)),(4,ak gw (d_.1.set s2.2.toNat (⟨j3.Kernel,j3.di++[(⟨c7,ha⟩:Move)]⟩:State))),(5,aj aL aE),(6,j s2.2),(8,aj aL bQ),(11,j d_.2)]) (cm.AN (en:=gw) (en2:=ie) (M:=[(⟨c7,ha⟩:Move)]) (y2:=(⟨j3.Kernel,j3.di++[(⟨c7,ha⟩:Move)]⟩:State)) (x2:=ak gw (d_.1.set s2.2.toNat (⟨j3.Kernel,j3.di++[(⟨c7,ha⟩:Move)]⟩:State))) (y0:=.own gw.z d_.1.length ((cf gw d_.1).set (s2.2.toNat * gw.z+1) .dead)) q q (.ptr q) (.b2 q) q q mh q q .lb .gZ q q Mi q q q q q q (.n q q (.b q (.n q q (.n q q (.n q q (.n q q .nil))))))) q q q q (by kernel_rfl) (by kernel_rfl)<|bV.fin q q q (fC q q q q q q)) ?_
       refine ai.bq ?_
       refine ai.a_<|W.bp [1,4,5,6,8,11] (br q<|ah (O.add (.lit q) (.k q))<|ar.bp [1,4,5,6,8,55] q<|ar.aW) ?_
       obtain rfl:=ax h
       exact ai.go (fC q q q q q q)
    ·refine W.dd ?_
     refine ai.dc ?_
     obtain rfl:=ax h
     exact ai.x2 (dA q q q q)
   ·subst J
    refine ai.de ?_
    refine ai.bq ?_
    refine ai.a_<|W.bp [1,4,5,6] (br q<|ah (O.add (.lit q) (.k q))<|ar.bp [1,4,5,25] q<|ar.aW) ?_
    obtain rfl:=ax h
    exact ai.go (dA q q q q)
   ·subst J
    refine ai.ee ?_
    refine ai.ee ?_
    refine ai.c_ ?_
    obtain rfl:=ax h
    exact ai.gm (fe q q)
  ·refine W.dd ?_
   refine ai.dc ?_
   obtain rfl:=ax h
   exact ai.x2 (.n q .nil)
 ·subst J
  refine ai.de ?_
  refine ai.a_<|W.bM [2,3] (ah (O.aA (.own q))<|ar.gI (G2:=[]) q (cm.kG q q (.bm q) q .nil q q)<|ar.aW) ?_
  refine W.fE (G1:=[(2,aj cF bN),(3,_)]) [2] (.z q q .js (.n q q .nil)) ?_
  refine W.rt ?_
  obtain rfl:=ax h
  exact cA (.f q q (.f q q .nil))
 ·subst J
  refine ai.ee ?_
  refine ai.c_ ?_
  obtain rfl:=ax h
  exact cA (.f q q (.f q q .nil))
theorem OE (a0:Source) (r:bZ × (List State) × Bool) (h:Ag a0=some r):b_ Try.prog 52 [.agg (dU.cells a0)] [none] (.cw [.agg (ch.cells r.1),aj cF r.2.1,ba r.2.2]):=by
 unfold Ag at h
 refine b_.go (N:=⟨26,[]⟩) Try.func52 q q q q (W.fin ?_)
 refine W.st [(0,.agg (dU.cells a0))] ?_
 refine W.bM [1,2] (ah (O.box (.cg q q) q)<|ah (O.fD (cs:=[.aJ,.aJ,.aJ,af aC,af aC]) pe q q)<|ar.aW) ?_
 obtain ⟨aE,fp,h⟩:=aB h
 refine W.bM [2,5,6] (ah (O.dT (cs':=[af a0.bz,aj cM a0.Decls,aj gN a0.ea,af a0.bA]) q (.obj q) qV q q)<|dL (cu.go (.bX (.cg q q) .nil) (ON a0 _ fp) call68 q)<|ah (O.aA (.cw q q))<|ah (O.ex (y:=.agg (ch.cells aE.1)) q q q)<|ah (O.ex (y:=ba aE.2) q q q)<|ah (O.fD (cs:=[.aJ,.aJ,.aJ,af aC,af aC]) pe q q)<|ar.dI (G2:=[(2,_),(5,_),(13,_)]) (cs2:=[aj bo aE.1.a',aj a8 aE.1.bw,aj bE aE.1.aY,af aE.1.bz,af aE.1.bA]) q (.obj q) (.cg q q) q nL q q q q (.n q q (.b q (.n q q .nil)))<|ar.aW) ?_
 refine W.bb<|W.aZ [2,5,15] ?_
 refine W.bH h q (λcX h=>?_) (λcX h=>?_)
 ·refine W.bM [2,3,4] (ah (O.dT (cs':=[aj bo aE.1.a',aj a8 aE.1.bw,aj bE aE.1.aY,af aE.1.bz,af aE.1.bA]) q (.obj q) gg q q)<|ar.dI (G2:=[(2,_)]) (cs2:=[aj bo aE.1.a',aj a8 aE.1.bw,aj bE aE.1.aY,af aE.1.bz,af aE.1.bA]) q (.obj q) (.cg q q) q nL q q q q (.b q .nil)<|ar.aW) ?_
  refine W.fE (G1:=[(2,_),(3,aj cF ([]:List State)),(4,_)]) [3] (.n q q (.z q q .js (.n q q .nil))) ?_
  refine W.rt ?_
  refine ai.c_ ?_
  obtain rfl:=ax h
  exact cA (.c (ys0:=[aj bo aE.1.a',aj a8 aE.1.bw,aj bE aE.1.aY,af aE.1.bz,af aE.1.bA]) q gg q q q (.f q (.f q (.f q (.f q (.f q .nil))))) (.f q q (.f q q .nil)))
 ·refine W.bO<|ai.a_ ?_
  obtain ⟨aX,hL,h⟩:=aB h
  refine W.bM [2,5,7,8] (ah (O.dT (cs':=[aj bo aE.1.a',aj a8 aE.1.bw,aj bE aE.1.aY,af aE.1.bz,af aE.1.bA]) q (.obj q) gg q q)<|dL (cu.go (.bX (.cg q q) .nil) (OO aE.1 _ hL) call69 q)<|ah (O.aA (.vX q q))<|ah (O.ex (y:=aj cF aX.1) q q q)<|ah (O.ex (y:=j aX.2) q q q)<|ar.aW) ?_
  refine W.bM [2,3,4] (ah (O.dT (cs':=[aj bo aE.1.a',aj a8 aE.1.bw,aj bE aE.1.aY,af aE.1.bz,af aE.1.bA]) q (.obj q) gg q q)<|ah (O.aA (.aD q))<|br q<|ah (O.eql (.lit q) (.k q))<|ar.dI (G2:=[(2,_),(23,_),(25,_)]) (cs2:=[aj bo aE.1.a',aj a8 aE.1.bw,aj bE aE.1.aY,af aE.1.bz,af aE.1.bA]) q (.obj q) (.cg q q) q nL q q q q (.b q (.n q q (.n q q .nil)))<|ar.aW) ?_
  refine W.rt ?_
  obtain rfl:=ax h
  exact cA (.c (ys0:=[aj bo aE.1.a',aj a8 aE.1.bw,aj bE aE.1.aY,af aE.1.bz,af aE.1.bA]) q gg q q q (.f q (.f q (.f q (.f q (.f q .nil))))) (.f q q (.f q q .nil)))
theorem BF (a0:(List State)) (av:Int) (a2:Int) (r:Int) (h:pP a0 av a2=some r):b_ Try.prog 59 [aj cF a0,j av,j a2] [none,none,none] (j r):=by
 unfold pP at h
 refine b_.go (N:=⟨48,[]⟩) Try.func59 q q q q (W.fin ?_)
 refine W.st [(0,aj cF a0),(1,j av),(2,j a2)] ?_
 refine W.aZ [0,1,2] ?_
 refine W.bb<|W.aZ [0,1,2,7] ?_
 refine W.bq ?_
 obtain ⟨x2,ao,h⟩:=aB h
 refine W.cj (G1:=[(0,_),(1,_),(2,_),(7,_)]) (dA q q q q) ?_
 refine W.jM (s:=0) (λ(s1:Int)=>[(0,aj cF a0),(1,j av),(2,j a2),(7,j s1)]) 0 (λ(aX:Unit)=>[]) (λ(bN:Int)=>[(6,j bN)]) ao (λs1 o h=>?_) (λaX J=>?_) (λbN J=>?_)
 ·clear ao
  refine W.bb ?_
  obtain ⟨oL,aa,h⟩:=aB h
  refine W.rs [(0,aj cF a0),(1,j av),(2,j a2),(7,j s1),(25,ba oL)] ?_ ?_
  ·refine br q<|ah (O.geq (.lit q) (.k q))<|ah (O.aA (.lit q)) ?_
   rcases cI aa with ⟨dK,aa⟩ | ⟨dK,aa⟩
   ·refine a1 dK (O.aA (.lit q))<|a1 dK (O.aA (.aD q))<|a1 dK (O.gz (.aD q) kV)<|a1 dK (O.lss (.lit q) (.lit q))<|ah (O.eu (.lit q) dK (.lit q))<|ah (O.aA (.lit q)) ?_
    rcases cI aa with ⟨dN,aa⟩ | ⟨dN,aa⟩
    ·refine a1 dN (O.aA (.lit q))<|a1 dN (O.aA (.aD q))<|a1 dN (O.aA (.lit q)) ?_
     obtain ⟨bl,gb,aa⟩:=aB aa
     obtain rfl:=ax aa
     exact ar.aW
    ·obtain rfl:=ax aa
     exact ar.aW
   ·obtain rfl:=ax aa
    exact ar.aW
  refine W.bH h q (λey h=>?_) (λey h=>?_)
  ·refine W.bO<|ai.a_ ?_
   refine W.bb<|W.bq ?_
   obtain ⟨bQ,jk,h⟩:=aB h
   obtain ⟨cp,il,h⟩:=aB h
   refine W.aZ [0,1,2,7,38] ?_
   refine W.bH h q (λew h=>?_) (λew h=>?_)
   ·obtain ⟨dR,jE,h⟩:=aB h
    obtain ⟨d',kr,h⟩:=aB h
    refine W.aZ [6] ?_
    refine W.rt ?_
    refine ai.ee ?_
    refine ai.c_ ?_
    obtain rfl:=ax h
    exact ai.gm (.n q .nil)
   ·refine W.bO<|ai.bq ?_
    refine ai.a_<|W.bp [0,1,2,7] (br q<|ah (O.add (.lit q) (.k q))<|ar.bp [0,1,2,27] q<|ar.aW) ?_
    obtain rfl:=ax h
    exact ai.go (dA q q q q)
  ·refine W.dd ?_
   refine ai.dc ?_
   obtain rfl:=ax h
   exact ai.x2 .nil
 ·subst J
  refine ai.de ?_
  refine ai.a_<|W.aZ [6] ?_
  refine W.rt ?_
  obtain rfl:=ax h
  exact cA (.f q q .nil)
 ·subst J
  refine ai.ee ?_
  refine ai.c_ ?_
  obtain rfl:=ax h
  exact cA (.f q q .nil)
theorem OM (a0:Cell) (r:Int) (h:xI a0=some r):b_ Try.prog 66 [.agg (eT.cells a0)] [none] (j r):=by
 unfold xI at h
 refine b_.go (N:=⟨17,[]⟩) Try.func66 q q q q (W.fin ?_)
 refine W.st [(0,.agg (eT.cells a0))] ?_
 refine W.bM [1] (ah (O.box (.cg q q) q)<|ar.aW) ?_
 refine W.aZ [1,3] ?_
 refine W.bb<|W.aZ [1,3,9] ?_
 obtain ⟨h0,aa,h⟩:=aB h
 refine W.bC [(1,.obj (eT.cells a0)),(3,j h0)] ?_ ?_
 ·clear h; have h:=aa; clear aa
  refine W.bH h q (λcX h=>?_) (λcX h=>?_)
  ·refine W.bp [1,3] (br q<|ah (O.add (.lit q) (.k q))<|ar.bp [1,11] q<|ar.aW) ?_
   obtain rfl:=ax h
   exact ai.bC (fe q q)
  ·refine W.bO ?_
   obtain rfl:=ax h
   exact ai.bC (fe q q)
 refine ai.a_<|W.bb ?_
 refine W.aZ [3,13] ?_
 obtain ⟨dm,aa,h⟩:=aB h
 refine W.bC [(3,j dm)] ?_ ?_
 ·clear h; have h:=aa; clear aa
  refine W.bH h q (λdf h=>?_) (λdf h=>?_)
  ·refine W.bp [3] (br q<|ah (O.add (.lit q) (.k q))<|ar.bp [15] q<|ar.aW) ?_
   obtain rfl:=ax h
   exact ai.bC (.n q .nil)
  ·refine W.bO ?_
   obtain rfl:=ax h
   exact ai.bC (.n q .nil)
 refine ai.a_<|W.aZ [2] ?_
 refine W.rt ?_
 obtain rfl:=ax h
 exact cA (.f q q .nil)
theorem OF (a0:bZ) (av:(List State)) (a2:(List jU)) (r:(List Cell)) (h:Ah a0 av a2=some r):b_ Try.prog 53 [.agg (ch.cells a0),aj cF av,aj hG a2] [none,none,none] (aj eT r):=by
 unfold Ah at h
 refine b_.go (N:=⟨108,[]⟩) Try.func53 q q q q (W.fin ?_)
 refine W.st [(0,.agg (ch.cells a0)),(1,aj cF av),(2,aj hG a2)] ?_
 refine W.bM [1,2,3] (ah (O.box (.cg q q) q)<|ar.aW) ?_
 refine W.aZ [1,2,3,7] ?_
 refine W.bb<|W.aZ [1,2,3,7,8] ?_
 refine W.bq ?_
 obtain ⟨x2,ao,h⟩:=aB h
 refine W.cj (G1:=[(1,_),(2,_),(3,_),(7,ak eT ([]:List Cell)),(8,_)]) (.n q (.n q (.n q (.w q q .o4 (.n q .nil))))) ?_
 refine W.e0 (s:=(([]:List Cell),0)) (λ(s1:List Cell × Int)=>[(1,aj cF av),(2,aj hG a2),(3,.obj (ch.cells a0)),(7,ak eT s1.1),(8,j s1.2)]) 0 (λ(x2:List Cell)=>[(7,ak eT x2)]) ao (λs1 o h=>?_) ?_
 ·clear ao
  refine W.bb<|W.aZ [1,2,3,7,8,17] ?_
  refine W.bH h q (λdf h=>?_) (λdf h=>?_)
  ·refine W.bO<|ai.a_ ?_
   refine W.bb<|W.bq ?_
   refine W.aZ [1,2,3,7,8,9] ?_
   refine W.bq ?_
   obtain ⟨bu,ao,h⟩:=aB h
   refine W.cj (G1:=[(1,_),(2,_),(3,_),(7,_),(8,_),(9,_)]) (fC q q q q q q) ?_
   refine W.e0 (s:=(s1.1,0)) (λ(cD:List Cell × Int)=>[(1,aj cF av),(2,aj hG a2),(3,.obj (ch.cells a0)),(7,ak eT cD.1),(8,j s1.2),(9,j cD.2)]) 2 (λ(bu:List Cell)=>[(1,aj cF av),(2,aj hG a2),(3,.obj (ch.cells a0)),(7,ak eT bu),(8,j s1.2)]) ao (λcD o h=>?_) ?_
   ·clear ao
    refine W.bb<|W.aZ [1,2,3,7,8,9,24] ?_
    refine W.bH h q (λcR h=>?_) (λcR h=>?_)
    ·refine W.bO<|ai.a_ ?_
     refine W.bb ?_
     obtain ⟨oZ,aa,h⟩:=aB h
     refine W.bC [(1,aj cF av),(2,aj hG a2),(3,.obj (ch.cells a0)),(7,ak eT oZ),(8,j s1.2),(9,j cD.2)] ?_ ?_
     ·clear h; have h:=aa; clear aa
      refine W.bq ?_
      obtain ⟨bQ,jk,h⟩:=aB h
      refine W.bM [1,2,3,7,8,9,10] (br q<|br q<|ah (O.aA (.aD q))<|br q<|br q<|dL (cu.go (.bX (.aD q) (.bX (.lit q) (.bX (.lit q) .nil))) (BF av s1.2 cD.2 _ jk) call59 q)<|ah (O.eS (cs:=[j s1.2,j cD.2,j bQ,ba false,.aJ]) TT Ds q q q)<|ah (O.fD (cs:=[j 0,j 0,j 0,ba false,.aJ]) Ds q q)<|ar.dI (G2:=[(1,_),(2,_),(3,_),(7,_),(8,_),(9,_),(10,_)]) (cs2:=[j s1.2,j cD.2,j bQ,ba false,.aJ]) q (.obj q) (.cg q q) q Hq q q q q (.n q q (.n q q (.n q q (.n q q (.n q q (.n q q (.b q .nil)))))))<|bR q) ?_
      refine W.bb<|W.aZ [1,2,3,7,8,9,10,11] ?_
      refine W.bq ?_
      obtain ⟨cO,ao,h⟩:=aB h
      refine W.cj (G1:=[(1,_),(2,_),(3,_),(7,_),(8,_),(9,_),(10,_),(11,_)]) (mx q q q q q q q q) ?_
      refine W.e0 (s:=(false,0)) (λ(j0:Bool × Int)=>[(1,aj cF av),(2,aj hG a2),(3,.obj (ch.cells a0)),(7,ak eT cD.1),(8,j s1.2),(9,j cD.2),(10,.obj [j s1.2,j cD.2,j bQ,ba j0.1,.aJ]),(11,j j0.2)]) 4 (λ(cO:Bool)=>[(1,aj cF av),(2,aj hG a2),(3,.obj (ch.cells a0)),(7,ak eT cD.1),(8,j s1.2),(9,j cD.2),(10,.obj [j s1.2,j cD.2,j bQ,ba cO,.aJ])]) ao (λj0 o h=>?_) ?_
      ·clear ao
       refine W.bb ?_
       obtain ⟨d',kr,h⟩:=aB h
       refine W.aZ [1,2,3,7,8,9,10,11,41] ?_
       refine W.bH h q (λqe h=>?_) (λqe h=>?_)
       ·refine W.bO<|ai.a_ ?_
        refine W.bb<|W.bq ?_
        obtain ⟨cn,lq,h⟩:=aB h
        obtain ⟨b4,h8,h⟩:=aB h
        refine W.bM [1,2,3,7,8,9,10,11,12] (ah (O.aA (.aD q))<|br q<|ah (O.cE (.aD q) (.lit q) kV lq)<|ah (O.eP (.bn q) uO)<|ah (O.c8 (x:=aj db cn.Kernel) (.bn q) uG q)<|br q<|ah (O.cE (.aD q) (.lit q) j1 h8)<|ah (O.jn (cs':=[j b4.Prod,j b4.dC]) (.bn q) pw q q)<|ah (O.fD (cs:=[j 0,j 0]) Dq q q)<|ar.dI (G2:=[(1,_),(2,_),(3,_),(7,_),(8,_),(9,_),(10,_),(11,_),(12,_)]) (cs2:=[j b4.Prod,j b4.dC]) q (.obj q) (.cg q q) q Uc q q q q (.n q q (.n q q (.n q q (.n q q (.n q q (.n q q (.n q q (.n q q (.b q .nil)))))))))<|bR q) ?_
        obtain ⟨s6,aa,h⟩:=aB h
        refine W.rx [(1,aj cF av),(2,aj hG a2),(3,.obj (ch.cells a0)),(7,ak eT cD.1),(8,j s1.2),(9,j cD.2),(10,.obj [j s1.2,j cD.2,j bQ,ba s6,.aJ]),(11,j j0.2)] ?_ ?_
        ·refine ah (O.bk q (.obj q) wX q)<|ah (O.cB q (.ptr q) nu q)<|ah (O.aA (.lit q)) ?_
         rcases cI aa with ⟨hJ,aa⟩ | ⟨hJ,aa⟩
         ·obtain rfl:=ax aa
          exact cH hJ<|cH hJ<|cH hJ<|hb<|hb<|hb<|cH hJ<|cH hJ<|hb<|hb<|hb<|cH hJ<|ah (O.eu (.lit q) hJ (.k q))<|ah (O.bk q (.obj q) wX q)<|ar.dI (G2:=[(1,_),(2,_),(3,_),(7,_),(8,_),(9,_),(10,_),(11,_)]) (cs2:=[j s1.2,j cD.2,j bQ,ba true,.aJ]) q (.ptr q) (.lit q) q ud q q q q (.n q q (.n q q (.n q q (.n q q (.n q q (.n q q (.b q (.n q q .nil))))))))<|ar.aW
         ·refine a1 hJ (O.aA (.lit q))<|a1 hJ (O.eql (.lit q) (.k q))<|a1 hJ (O.aA (.lit q)) ?_
          rcases cI aa with ⟨h6,aa⟩ | ⟨h6,aa⟩
          ·refine a1 h6 (O.bk q (.obj q) mX q)<|a1 h6 (O.cB q (.ptr q) cz q)<|a1 h6 (O.eql (.lit q) (.k q))<|a1 hJ (O.eu (.lit q) h6 (.lit q))<|a1 hJ (O.aA (.lit q)) ?_
           rcases cI aa with ⟨gF,aa⟩ | ⟨gF,aa⟩
           ·obtain rfl:=ax aa
            exact a1 gF (O.bk q (.obj q) q6 q)<|a1 gF (O.cB q (.ptr q) cz q)<|a1 gF (O.eql (.lit q) (.k q))<|a1 hJ (O.eu (.lit q) gF (.lit q))<|ah (O.cC (.lit q) hJ (.lit q))<|ah (O.bk q (.obj q) wX q)<|ar.dI (G2:=[(1,_),(2,_),(3,_),(7,_),(8,_),(9,_),(10,_),(11,_)]) (cs2:=[j s1.2,j cD.2,j bQ,ba (decide (b4.dC=1)),.aJ]) q (.ptr q) (.lit q) q ud q q q q (.n q q (.n q q (.n q q (.n q q (.n q q (.n q q (.b q (.n q q .nil))))))))<|ar.aW
           ·obtain rfl:=ax aa
            exact cH gF<|cH gF<|cH gF<|a1 hJ (O.cC (.lit q) gF (.k q))<|ah (O.cC (.lit q) hJ (.lit q))<|ah (O.bk q (.obj q) wX q)<|ar.dI (G2:=[(1,_),(2,_),(3,_),(7,_),(8,_),(9,_),(10,_),(11,_)]) (cs2:=[j s1.2,j cD.2,j bQ,ba false,.aJ]) q (.ptr q) (.lit q) q ud q q q q (.n q q (.n q q (.n q q (.n q q (.n q q (.n q q (.b q (.n q q .nil))))))))<|ar.aW
          ·obtain rfl:=ax aa
           exact cH h6<|cH h6<|cH h6<|a1 hJ (O.cC (.lit q) h6 (.k q))<|a1 hJ (O.aA (.lit q))<|cH q<|cH q<|cH q<|a1 hJ (O.cC (.lit q) q (.k q))<|ah (O.cC (.lit q) hJ (.lit q))<|ah (O.bk q (.obj q) wX q)<|ar.dI (G2:=[(1,_),(2,_),(3,_),(7,_),(8,_),(9,_),(10,_),(11,_)]) (cs2:=[j s1.2,j cD.2,j bQ,ba false,.aJ]) q (.ptr q) (.lit q) q ud q q q q (.n q q (.n q q (.n q q (.n q q (.n q q (.n q q (.b q (.n q q .nil))))))))<|ar.aW
        refine ai.bq ?_
        refine ai.a_<|W.bp [1,2,3,7,8,9,10,11] (br q<|ah (O.add (.lit q) (.k q))<|ar.bp [1,2,3,7,8,9,10,43] q<|ar.aW) ?_
        obtain rfl:=ax h
        exact ai.go (mx q q q q q q q q)
       ·refine W.dd ?_
        refine ai.dc ?_
        obtain rfl:=ax h
        exact ai.aE (hg q q q q q q q)
      refine ai.de ?_
      refine ai.a_<|W.bb ?_
      refine W.aZ [1,2,3,7,8,9,10,13] ?_
      refine W.bq ?_
      obtain ⟨eK,ao,h⟩:=aB h
      refine W.cj (G1:=[(1,_),(2,_),(3,_),(7,_),(8,_),(9,_),(10,.obj [j s1.2,j cD.2,j bQ,ba cO,aj aL ([]:List Int)]),(13,_)]) (.n q (.n q (.n q (.n q (.n q (.n q (.w q q (kZ.obj (.f (.f (.f (.f (.i .nil)))))) (.n q .nil)))))))) ?_
      refine W.e0 (s:=(([]:List Int),0)) (λ(fI:List Int × Int)=>[(1,aj cF av),(2,aj hG a2),(3,.obj (ch.cells a0)),(7,ak eT cD.1),(8,j s1.2),(9,j cD.2),(10,.obj [j s1.2,j cD.2,j bQ,ba cO,aj aL fI.1]),(13,j fI.2)]) 6 (λ(eK:List Int)=>[(1,aj cF av),(2,aj hG a2),(3,.obj (ch.cells a0)),(7,ak eT cD.1),(8,j s1.2),(9,j cD.2),(10,.obj [j s1.2,j cD.2,j bQ,ba cO,aj aL eK])]) ao (λfI o h=>?_) ?_
      ·clear ao
       refine W.bb<|W.aZ [1,2,3,7,8,9,10,13,72] ?_
       refine W.bH h q (λiS h=>?_) (λiS h=>?_)
       ·refine W.bO<|ai.a_ ?_
        refine W.bb ?_
        obtain ⟨ec,aa,h⟩:=aB h
        refine W.bC [(1,aj cF av),(2,aj hG a2),(3,.obj (ch.cells a0)),(7,ak eT cD.1),(8,j s1.2),(9,j cD.2),(10,.obj [j s1.2,j cD.2,j bQ,ba cO,aj aL ec]),(13,j fI.2)] ?_ ?_
        ·clear h; have h:=aa; clear aa
         refine W.bq ?_
         obtain ⟨rS,aa,h⟩:=aB h
         refine W.rs [(1,aj cF av),(2,aj hG a2),(3,.obj (ch.cells a0)),(7,ak eT cD.1),(8,j s1.2),(9,j cD.2),(10,.obj [j s1.2,j cD.2,j bQ,ba cO,aj aL fI.1]),(13,j fI.2),(90,ba rS)] ?_ ?_
         ·refine ah (O.aA (.aD q))<|ah (O.aA (.lit q)) ?_
          obtain ⟨gr,m_,aa⟩:=aB aa
          refine ah (O.cE (.aD q) (.lit q) AK m_)<|ah (O.eP (.bn q) Ji)<|ah (O.c8 (x:=j gr.State) (.bn q) cz q)<|br q<|ah (O.eql (.lit q) (.lit q))<|ah (O.aA (.lit q)) ?_
          rcases cI aa with ⟨er,aa⟩ | ⟨er,aa⟩
          ·refine a1 er (O.aA (.aD q))<|a1 er (O.aA (.lit q)) ?_
           obtain ⟨ev,k8,aa⟩:=aB aa
           refine a1 er (O.cE (.aD q) (.lit q) AK k8)<|a1 er (O.eP (.bn q) BP)<|a1 er (O.c8 (x:=aj aL ev.a') (.bn q) gX q)<|a1 er (O.aA (.lit q)) ?_
           obtain ⟨ha,mJ,aa⟩:=aB aa
           obtain rfl:=ax aa
           exact ar.c (cu.go (.bX (.aD q) (.bX (.lit q) .nil)) (I1 ev.a' cD.2 _ mJ) call70 q) q q (.jS q q er)<|ar.aW
          ·obtain rfl:=ax aa
           exact ar.aW
         obtain ⟨oe,aa,h⟩:=aB h
         refine W.bC [(1,aj cF av),(2,aj hG a2),(3,.obj (ch.cells a0)),(7,ak eT cD.1),(8,j s1.2),(9,j cD.2),(10,.obj [j s1.2,j cD.2,j bQ,ba cO,aj aL oe]),(13,j fI.2)] ?_ ?_
         ·clear h; have h:=aa; clear aa
          refine W.bH h q (λkp h=>?_) (λkp h=>?_)
          ·obtain ⟨gK,oX,h⟩:=aB h
           obtain ⟨gL,u',h⟩:=aB h
           refine W.rd [[],[0],[],[],[2,3],[2,3,4],[2,3,4,5],aO 0 7 [],aO 0 8 [],aO 0 9 []] [(1,_),(2,_),(3,_),(7,_),(8,_),(9,_),(10,_),(13,_)] e1 (by kernel_rfl) (au 0 (O.bk q (.obj q) uS q)<|au 1 (O.c9 (y:=aj aL fI.1) q (.ptr q) gX q q)<|au 2 (O.aA (.aD q))<|au 3 (O.aA (.lit q))<|au 4 (O.cE (.aD q) (.lit q) AK oX)<|au 5 (O.eP (.bn q) Jj)<|au 6 (O.c8 (x:=j gK.Prod) (.bn q) cz q)<|iM 7 (cu.go (.bX (.aD q) (.bX (.lit q) .nil)) (uE fI.1 gK.Prod _ u') call67 q)<|au 8 (O.bk q (.obj q) uS q)<|bV.dI 9 (G2:=[(1,aj cF av),(2,aj hG a2),(3,.obj (ch.cells a0)),(7,ak eT cD.1),(8,j s1.2),(9,j cD.2),(10,.obj [j s1.2,j cD.2,j bQ,ba cO,aj aL gL]),(13,j fI.2)]) (cs2:=[j s1.2,j cD.2,j bQ,ba cO,aj aL gL]) q (by kernel_rfl) (by kernel_rfl) q q q (.ptr q) (.aD q) q vU q q q q (.n q q (.n q q (.n q q (.n q q (.n q q (.n q q (.b q (.n q q .nil))))))))<|bV.fin q q q (mx q q q q q q q q)) ?_
           obtain rfl:=ax h
           exact ai.bC (mx q q q q q q q q)
          ·refine W.bO ?_
           obtain rfl:=ax h
           exact ai.bC (mx q q q q q q q q)
         refine ai.bq ?_
         obtain rfl:=ax h
         exact ai.bC (mx q q q q q q q q)
        refine ai.a_<|W.bp [1,2,3,7,8,9,10,13] (br q<|ah (O.add (.lit q) (.k q))<|ar.bp [1,2,3,7,8,9,10,74] q<|ar.aW) ?_
        obtain rfl:=ax h
        exact ai.go (mx q q q q q q q q)
       ·refine W.dd ?_
        refine ai.dc ?_
        obtain rfl:=ax h
        exact ai.aE (hg q q q q q q q)
      refine ai.de ?_
      refine ai.a_ ?_
      obtain ⟨iD,qs,h⟩:=aB h
      refine W.bM [1,2,3,7,8,9,10,102] (ah (O.dT (cs':=[j s1.2,j cD.2,j bQ,ba cO,aj aL eK]) q (.obj q) wG q q)<|dL (cu.go (.bX (.cg q q) .nil) (OM (⟨s1.2,cD.2,bQ,cO,eK⟩:Cell) _ qs) call66 q)<|ar.aW) ?_
      obtain ⟨Gg,aa,h⟩:=aB h
      refine W.bC [(1,aj cF av),(2,aj hG a2),(3,.obj (ch.cells a0)),(7,ak eT Gg),(8,j s1.2),(9,j cD.2)] ?_ ?_
      ·clear h; have h:=aa; clear aa
       refine W.bH h q (λjD h=>?_) (λjD h=>?_)
       ·obtain ⟨hW,rl,h⟩:=aB h
        refine W.bp [1,2,3,7,8,9] (ah (O.aA (.own q))<|ah (O.dT (cs':=[j s1.2,j cD.2,j bQ,ba cO,aj aL eK]) q (.obj q) wG q q)<|ar.gq (x:=aj eT [(⟨s1.2,cD.2,bQ,cO,eK⟩:Cell)]) (O.dF (ys:=[.agg [j s1.2,j cD.2,j bQ,ba cO,aj aL eK]]) eT [(⟨s1.2,cD.2,bQ,cO,eK⟩:Cell)] o' q q q q q q US q q) q q .none<|ah (O.ap (en:=eT) (r:=hW) (.bm q) q (.aD q) .i Nh q rl)<|ar.gI (G2:=[(1,aj cF av),(2,aj hG a2),(3,.obj (ch.cells a0)),(8,j s1.2),(9,j cD.2)]) q (cm.oG q q (.b2 q) q q q (.n q q (.n q q (.n q q (.n q q (.n q q .nil))))) q q)<|bR q) ?_
        obtain rfl:=ax h
        exact ai.bC (fC q q q q q q)
       ·refine W.bO ?_
        obtain rfl:=ax h
        exact ai.bC (fC q q q q q q)
      refine ai.bq ?_
      obtain rfl:=ax h
      exact ai.bC (fC q q q q q q)
     refine ai.a_<|W.bp [1,2,3,7,8,9] (br q<|ah (O.add (.lit q) (.k q))<|ar.bp [1,2,3,7,8,26] q<|ar.aW) ?_
     obtain rfl:=ax h
     exact ai.go (fC q q q q q q)
    ·refine W.dd ?_
     refine ai.dc ?_
     obtain rfl:=ax h
     exact ai.aE (e' q q q q q)
   refine ai.de ?_
   refine ai.bq ?_
   refine ai.a_<|W.bp [1,2,3,7,8] (br q<|ah (O.add (.lit q) (.k q))<|ar.bp [1,2,3,7,19] q<|ar.aW) ?_
   obtain rfl:=ax h
   exact ai.go (e' q q q q q)
  ·refine W.dd ?_
   refine ai.dc ?_
   obtain rfl:=ax h
   exact ai.aE (.n q .nil)
 refine ai.de ?_
 refine ai.a_<|W.bM [6] (ah (O.aA (.own q))<|ar.gI (G2:=[]) q (cm.kG q q (.bm q) q .nil q q)<|bR q) ?_
 refine W.fE (G1:=[(6,aj eT x2)]) [6] (.z q q .js .nil) ?_
 refine W.rt ?_
 obtain rfl:=ax h
 exact cA (.f q q .nil)
theorem I2 (a0:(List (List Int))) (av:(List (List Int))) (r:(List (List Int))) (h:xK a0 av=some r):b_ Try.prog 84 [ak (b5 aL) a0,aj (b5 aL) av] [none,none] (ak (b5 aL) r):=by
 unfold xK at h
 refine b_.go (N:=⟨74,[]⟩) Try.func84 q q q q (W.fin ?_)
 refine W.st [(0,ak (b5 aL) a0),(1,aj (b5 aL) av)] ?_
 refine W.aZ [0,1] ?_
 refine W.bb<|W.aZ [0,1,5] ?_
 refine W.bq ?_
 obtain ⟨x2,ao,h⟩:=aB h
 refine W.cj (G1:=[(0,_),(1,_),(5,_)]) (dB q q q) ?_
 refine W.e0 (s:=(a0,true)) (λ(s1:List (List Int) × Bool)=>[(0,ak (b5 aL) s1.1),(1,aj (b5 aL) av),(5,ba s1.2)]) 0 (λ(x2:List (List Int))=>[(0,ak (b5 aL) x2)]) ao (λs1 o h=>?_) ?_
 ·clear ao
  refine W.bb<|W.aZ [0,1,11] ?_
  refine W.bH h q (λdf h=>?_) (λdf h=>?_)
  ·refine W.bO<|ai.a_ ?_
   refine W.bq<|W.aZ [0,1,5] ?_
   refine W.aZ [0,1,5,6] ?_
   refine W.bq ?_
   obtain ⟨bu,ao,h⟩:=aB h
   refine W.cj (G1:=[(0,_),(1,_),(5,_),(6,_)]) (dA q q q q) ?_
   refine W.e0 (s:=(s1.1,false,0)) (λ(cD:List (List Int) × Bool × Int)=>[(0,ak (b5 aL) cD.1),(1,aj (b5 aL) av),(5,ba cD.2.1),(6,j cD.2.2)]) 2 (λ(bu:List (List Int) × Bool)=>[(0,ak (b5 aL) bu.1),(1,aj (b5 aL) av),(5,ba bu.2)]) ao (λcD o h=>?_) ?_
   ·clear ao
    refine W.bb<|W.aZ [0,1,5,6,15] ?_
    refine W.bH h q (λcR h=>?_) (λcR h=>?_)
    ·refine W.bO<|ai.a_ ?_
     refine W.bb<|W.bq ?_
     obtain ⟨ct,iV,h⟩:=aB h
     refine W.aZ [0,1,5,6,7] ?_
     obtain ⟨bQ,jk,h⟩:=aB h
     refine W.bM [0,1,5,6,7,8] (ah (O.aA (.own q))<|br q<|ah (O.gS (en:=(b5 aL)) q (.bm q) (.lit q) kU jk q)<|ah (O.iZ (en:=(b5 aL)) (x':=aj aL bQ) q (.ptr q) gX jk q q)<|ar.aW) ?_
     refine W.bb<|W.aZ [0,1,5,6,7,8,9] ?_
     refine W.bq ?_
     obtain ⟨cO,ao,h⟩:=aB h
     refine W.cj (G1:=[(0,_),(1,_),(5,_),(6,_),(7,_),(8,_),(9,_)]) (hg q q q q q q q) ?_
     refine W.e0 (s:=(cD.1,0)) (λ(j0:List (List Int) × Int)=>[(0,ak (b5 aL) j0.1),(1,aj (b5 aL) av),(5,ba cD.2.1),(6,j cD.2.2),(7,aj aL ct),(8,j (bQ.length:Int)),(9,j j0.2)]) 4 (λ(cO:List (List Int))=>[(0,ak (b5 aL) cO),(1,aj (b5 aL) av),(5,ba cD.2.1),(6,j cD.2.2),(8,j (bQ.length:Int))]) ao (λj0 o h=>?_) ?_
     ·clear ao
      refine W.bb<|W.aZ [0,1,5,6,7,8,9,30] ?_
      refine W.bH h q (λeE h=>?_) (λeE h=>?_)
      ·refine W.bO<|ai.a_ ?_
       refine W.bb<|W.bq ?_
       refine W.aZ [0,1,5,6,7,8,9,10] ?_
       refine W.bq ?_
       obtain ⟨cn,ao,h⟩:=aB h
       refine W.cj (G1:=[(0,_),(1,_),(5,_),(6,_),(7,_),(8,_),(9,_),(10,_)]) (mx q q q q q q q q) ?_
       refine W.e0 (s:=(j0.1,0)) (λ(iL:List (List Int) × Int)=>[(0,ak (b5 aL) iL.1),(1,aj (b5 aL) av),(5,ba cD.2.1),(6,j cD.2.2),(7,aj aL ct),(8,j (bQ.length:Int)),(9,j j0.2),(10,j iL.2)]) 6 (λ(cn:List (List Int))=>[(0,ak (b5 aL) cn),(1,aj (b5 aL) av),(5,ba cD.2.1),(6,j cD.2.2),(7,aj aL ct),(8,j (bQ.length:Int)),(9,j j0.2)]) ao (λiL o h=>?_) ?_
       ·clear ao
        refine W.bb ?_
        obtain ⟨eJ,jL,h⟩:=aB h
        obtain ⟨fL,qo,h⟩:=aB h
        refine W.bM [0,1,5,6,7,8,9,10,42] (br q<|ah (O.aA (.own q))<|ah (O.aA (.aD q))<|br q<|ah (O.cE (.aD q) (.lit q) eI jL)<|ah (O.c8 (x:=j eJ) (.bn q) cz q)<|ah (O.gS (en:=(b5 aL)) q (.bm q) (.lit q) kU qo q)<|ah (O.iZ (en:=(b5 aL)) (x':=aj aL fL) q (.ptr q) gX qo q q)<|ar.aW) ?_
        refine W.bH h q (λgF h=>?_) (λgF h=>?_)
        ·refine W.bO<|ai.a_ ?_
         refine W.bb<|W.bq ?_
         obtain ⟨dO,mg,h⟩:=aB h
         obtain ⟨gi,nD,h⟩:=aB h
         obtain ⟨eK,mH,h⟩:=aB h
         obtain ⟨gj,lP,h⟩:=aB h
         obtain ⟨e3,mI,h⟩:=aB h
         refine W.rd [[],[],[],[],[2,3],[2,3,4],[],[],[],[7,8],[7,8,9],aO 6 5 [],aO 6 6 [],[],aO 6 8 [],aO 6 9 [],aO 2 14 [],aO 0 17 [],aO 0 18 []] [(0,_),(1,_),(5,_),(6,_),(7,_),(8,_),(9,_),(10,_)] e1 (by kernel_rfl) (au 0 (O.aA (.own q))<|au 1 (O.aA (.lit q))<|au 2 (O.aA (.own q))<|au 3 (O.aA (.lit q))<|au 4 (O.gS (en:=(b5 aL)) q (.bm q) (.lit q) kU mg q)<|au 5 (O.iZ (en:=(b5 aL)) (x':=aj aL dO) q (.ptr q) gX mg q q)<|au 6 (O.aA (.own q))<|au 7 (O.aA (.aD q))<|au 8 (O.aA (.lit q))<|au 9 (O.cE (.aD q) (.lit q) eI nD)<|au 10 (O.c8 (x:=j gi) (.bn q) cz q)<|au 11 (O.gS (en:=(b5 aL)) q (.bm q) (.lit q) kU mH q)<|au 12 (O.iZ (en:=(b5 aL)) (x':=aj aL eK) q (.ptr q) gX mH q q)<|au 13 (O.aA (.lit q))<|au 14 (O.cE (.aD q) (.lit q) eI lP)<|au 15 (O.c8 (x:=j gj) (.bn q) cz q)<|iM 16 (cu.go (.bX (.aD q) (.bX (.lit q) .nil)) (uE dO gj _ mI) call67 q)<|au 17 (O.gS (en:=(b5 aL)) q (.bm q) (.lit q) kU mg q)<|bV.jI 18 (G2:=[(0,ak (b5 aL) (iL.1.set cD.2.2.toNat e3)),(1,aj (b5 aL) av),(5,ba cD.2.1),(6,j cD.2.2),(7,aj aL ct),(8,j (bQ.length:Int)),(9,j j0.2),(10,j iL.2)]) (cm.pb (en:=(b5 aL)) (y2:=e3) (cs':=[aj aL e3]) (x2:=ak (b5 aL) (iL.1.set cD.2.2.toNat e3)) q q (.ptr q) (.aD q) q mg vU q q q q q q q (.b q (.n q q (.n q q (.n q q (.n q q (.n q q (.n q q (.n q q .nil))))))))) q q q q (by kernel_rfl) (by kernel_rfl)<|bV.fin q q q (mx q q q q q q q q)) ?_
         refine ai.bq ?_
         refine ai.a_<|W.bp [0,1,5,6,7,8,9,10] (br q<|ah (O.add (.lit q) (.k q))<|ar.bp [0,1,5,6,7,8,9,44] q<|ar.aW) ?_
         obtain rfl:=ax h
         exact ai.go (mx q q q q q q q q)
        ·refine W.dd ?_
         refine ai.dc ?_
         obtain rfl:=ax h
         exact ai.aE (hg q q q q q q q)
       refine ai.de ?_
       refine ai.bq ?_
       refine ai.a_<|W.bp [0,1,5,6,7,8,9] (br q<|ah (O.add (.lit q) (.k q))<|ar.bp [0,1,5,6,7,8,32] q<|ar.aW) ?_
       obtain rfl:=ax h
       exact ai.go (hg q q q q q q q)
      ·refine W.dd ?_
       refine ai.dc ?_
       obtain rfl:=ax h
       exact ai.aE (e' q q q q q)
     refine ai.de ?_
     refine ai.a_ ?_
     obtain ⟨wM,aa,h⟩:=aB h
     refine W.rx [(0,ak (b5 aL) cO),(1,aj (b5 aL) av),(5,ba wM),(6,j cD.2.2)] ?_ ?_
     ·refine br q<|ah (O.aA (.lit q)) ?_
      rcases cI aa with ⟨k5,aa⟩ | ⟨k5,aa⟩
      ·obtain rfl:=ax aa
       exact cH k5<|cH k5<|cH k5<|cH k5<|cH k5<|cH k5<|cH k5<|ah (O.eu (.lit q) k5 (.k q))<|ar.bp [0,1,6,72] q<|ar.aW
      ·refine a1 k5 (O.aA (.own q))<|a1 k5 (O.aA (.lit q)) ?_
       obtain ⟨gr,m_,aa⟩:=aB aa
       obtain rfl:=ax aa
       exact a1 k5 (O.gS (en:=(b5 aL)) q (.bm q) (.lit q) kU m_ q)<|a1 k5 (O.iZ (en:=(b5 aL)) (x':=aj aL gr) q (.ptr q) gX m_ q q)<|a1 k5 (O.gz (.aD q) eI)<|a1 k5 (O.aA (.lit q))<|a1 k5 (O.neq (.lit q) (.lit q))<|ah (O.cC (.lit q) k5 (.lit q))<|ar.bp [0,1,6,72] q<|ar.aW
     refine ai.bq ?_
     refine ai.a_<|W.bp [0,1,5,6] (br q<|ah (O.add (.lit q) (.k q))<|ar.bp [0,1,5,17] q<|ar.aW) ?_
     obtain rfl:=ax h
     exact ai.go (dA q q q q)
    ·refine W.dd ?_
     refine ai.dc ?_
     obtain rfl:=ax h
     exact ai.aE (dB q q q)
   refine ai.de ?_
   refine ai.bq ?_
   obtain rfl:=ax h
   exact ai.go (dB q q q)
  ·refine W.dd ?_
   refine ai.dc ?_
   obtain rfl:=ax h
   exact ai.aE (.n q .nil)
 refine ai.de ?_
 refine ai.a_<|W.bM [4] (ah (O.aA (.own q))<|ar.gI (G2:=[]) q (cm.kG q q (.bm q) q .nil q q)<|bR q) ?_
 refine W.rt ?_
 obtain rfl:=ax h
 exact cA (.o q .nil)
theorem BG (a0:(List State)) (r:(List Trans)) (h:o7 a0=some r):b_ Try.prog 88 [aj cF a0] [none] (aj fO r):=by
 unfold o7 at h
 refine b_.go (N:=⟨47,[]⟩) Try.func88 q q q q (W.fin ?_)
 refine W.st [(0,aj cF a0)] ?_
 refine W.aZ [0] ?_
 refine W.aZ [0,3] ?_
 refine W.bb<|W.aZ [0,3,4] ?_
 refine W.bq ?_
 obtain ⟨x2,ao,h⟩:=aB h
 refine W.cj (G1:=[(0,_),(3,ak fO ([]:List Trans)),(4,_)]) (.n q (.w q q .o4 (.n q .nil))) ?_
 refine W.e0 (s:=(([]:List Trans),0)) (λ(s1:List Trans × Int)=>[(0,aj cF a0),(3,ak fO s1.1),(4,j s1.2)]) 0 (λ(x2:List Trans)=>[(3,ak fO x2)]) ao (λs1 o h=>?_) ?_
 ·clear ao
  refine W.bb<|W.aZ [0,3,4,9] ?_
  refine W.bH h q (λdf h=>?_) (λdf h=>?_)
  ·refine W.bO<|ai.a_ ?_
   refine W.bb<|W.bq ?_
   refine W.aZ [0,3,4,5] ?_
   refine W.bq ?_
   obtain ⟨bu,ao,h⟩:=aB h
   refine W.cj (G1:=[(0,_),(3,_),(4,_),(5,_)]) (dA q q q q) ?_
   refine W.e0 (s:=(s1.1,0)) (λ(cD:List Trans × Int)=>[(0,aj cF a0),(3,ak fO cD.1),(4,j s1.2),(5,j cD.2)]) 2 (λ(bu:List Trans)=>[(0,aj cF a0),(3,ak fO bu),(4,j s1.2)]) ao (λcD o h=>?_) ?_
   ·clear ao
    refine W.bb ?_
    obtain ⟨bT,im,h⟩:=aB h
    refine W.aZ [0,3,4,5,19] ?_
    refine W.bH h q (λey h=>?_) (λey h=>?_)
    ·refine W.bO<|ai.a_ ?_
     refine W.bb ?_
     obtain ⟨ml,aa,h⟩:=aB h
     refine W.bC [(0,aj cF a0),(3,ak fO ml),(4,j s1.2),(5,j cD.2)] ?_ ?_
     ·clear h; have h:=aa; clear aa
      refine W.bq ?_
      obtain ⟨cp,il,h⟩:=aB h
      obtain ⟨cO,kq,h⟩:=aB h
      refine W.aZ [0,3,4,5,31] ?_
      obtain ⟨iX,aa,h⟩:=aB h
      refine W.bC [(0,aj cF a0),(3,ak fO iX),(4,j s1.2),(5,j cD.2)] ?_ ?_
      ·clear h; have h:=aa; clear aa
       refine W.bH h q (λeE h=>?_) (λeE h=>?_)
       ·obtain ⟨dt,iJ,h⟩:=aB h
        obtain ⟨cn,lq,h⟩:=aB h
        obtain ⟨b4,h8,h⟩:=aB h
        refine W.bp [0,3,4,5] (ah (O.aA (.own q))<|br q<|ah (O.aA (.aD q))<|br q<|ah (O.cE (.aD q) (.lit q) kV iJ)<|ah (O.eP (.bn q) r1)<|ah (O.c8 (x:=aj ie dt.di) (.bn q) uH q)<|br q<|ah (O.cE (.aD q) (.lit q) sF lq)<|ah (O.eP (.bn q) BQ)<|ah (O.c8 (x:=j cn.Sym) (.bn q) cz q)<|ah (O.eS (cs:=[j s1.2,j cn.Sym]) TQ UK q q q)<|ar.gq (x:=aj fO [(⟨s1.2,cn.Sym⟩:Trans)]) (O.dF (ys:=[.agg [j s1.2,j cn.Sym]]) fO [(⟨s1.2,cn.Sym⟩:Trans)] pU q q q q q q UP q q) q q .none<|ah (O.ap (en:=fO) (r:=b4) (.bm q) q (.aD q) .i Na q h8)<|ar.gI (G2:=[(0,aj cF a0),(4,j s1.2),(5,j cD.2)]) q (cm.oG q q (.b2 q) q q q (.n q q (.n q q (.n q q .nil))) q q)<|bR q) ?_
        obtain rfl:=ax h
        exact ai.bC (dA q q q q)
       ·refine W.bO ?_
        obtain rfl:=ax h
        exact ai.bC (dA q q q q)
      refine ai.bq ?_
      obtain rfl:=ax h
      exact ai.bC (dA q q q q)
     refine ai.a_<|W.bp [0,3,4,5] (br q<|ah (O.add (.lit q) (.k q))<|ar.bp [0,3,4,21] q<|ar.aW) ?_
     obtain rfl:=ax h
     exact ai.go (dA q q q q)
    ·refine W.dd ?_
     refine ai.dc ?_
     obtain rfl:=ax h
     exact ai.aE (dB q q q)
   refine ai.de ?_
   refine ai.bq ?_
   refine ai.a_<|W.bp [0,3,4] (br q<|ah (O.add (.lit q) (.k q))<|ar.bp [0,3,11] q<|ar.aW) ?_
   obtain rfl:=ax h
   exact ai.go (dB q q q)
  ·refine W.dd ?_
   refine ai.dc ?_
   obtain rfl:=ax h
   exact ai.aE (.n q .nil)
 refine ai.de ?_
 refine ai.a_<|W.bM [2] (ah (O.aA (.own q))<|ar.gI (G2:=[]) q (cm.kG q q (.bm q) q .nil q q)<|bR q) ?_
 refine W.fE (G1:=[(2,aj fO x2)]) [2] (.z q q .js .nil) ?_
 refine W.rt ?_
 obtain rfl:=ax h
 exact cA (.f q q .nil)
theorem Oh (a0:(List Item)) (r:Bool) (h:zW a0=some r):b_ Try.prog 104 [aj db a0] [none] (ba r):=by
 unfold zW at h
 refine b_.go (N:=⟨24,[]⟩) Try.func104 q q q q (W.fin ?_)
 refine W.st [(0,aj db a0)] ?_
 refine W.aZ [0] ?_
 refine W.bb<|W.aZ [0,3] ?_
 refine W.bq ?_
 obtain ⟨x2,ao,h⟩:=aB h
 refine W.cj (G1:=[(0,_),(3,_)]) (fe q q) ?_
 refine W.jM (s:=0) (λ(s1:Int)=>[(0,aj db a0),(3,j s1)]) 0 (λ(aX:Unit)=>[]) (λ(bN:Bool)=>[(2,ba bN)]) ao (λs1 o h=>?_) (λaX J=>?_) (λbN J=>?_)
 ·clear ao
  refine W.bb<|W.aZ [0,3,7] ?_
  refine W.bH h q (λdK h=>?_) (λdK h=>?_)
  ·refine W.bO<|ai.a_ ?_
   refine W.bb<|W.bq ?_
   obtain ⟨rT,aa,h⟩:=aB h
   refine W.rs [(0,aj db a0),(3,j s1),(23,ba rT)] ?_ ?_
   ·refine ah (O.aA (.aD q))<|ah (O.aA (.lit q)) ?_
    obtain ⟨bu,fH,aa⟩:=aB aa
    refine ah (O.cE (.aD q) (.lit q) j1 fH)<|ah (O.eP (.bn q) mX)<|ah (O.c8 (x:=j bu.Prod) (.bn q) cz q)<|ah (O.eql (.lit q) (.k q))<|ah (O.aA (.lit q)) ?_
    rcases cI aa with ⟨cU,aa⟩ | ⟨cU,aa⟩
    ·refine a1 cU (O.aA (.aD q))<|a1 cU (O.aA (.lit q)) ?_
     obtain ⟨bT,im,aa⟩:=aB aa
     obtain rfl:=ax aa
     exact ar.aW
    ·obtain rfl:=ax aa
     exact ar.aW
   refine W.bH h q (λeG h=>?_) (λeG h=>?_)
   ·refine W.aZ [2] ?_
    refine W.rt ?_
    refine ai.ee ?_
    refine ai.c_ ?_
    obtain rfl:=ax h
    exact ai.gm (.n q .nil)
   ·refine W.bO<|ai.bq ?_
    refine ai.a_<|W.bp [0,3] (br q<|ah (O.add (.lit q) (.k q))<|ar.bp [0,9] q<|ar.aW) ?_
    obtain rfl:=ax h
    exact ai.go (fe q q)
  ·refine W.dd ?_
   refine ai.dc ?_
   obtain rfl:=ax h
   exact ai.x2 .nil
 ·subst J
  refine ai.de ?_
  refine ai.a_<|W.aZ [2] ?_
  refine W.rt ?_
  obtain rfl:=ax h
  exact cA (.f q q .nil)
 ·subst J
  refine ai.ee ?_
  refine ai.c_ ?_
  obtain rfl:=ax h
  exact cA (.f q q .nil)
theorem OY (a0:(List State)) (r:(List (List Int))) (h:Aw a0=some r):b_ Try.prog 85 [aj cF a0] [none] (ak (b5 aL) r):=by
 unfold Aw at h
 refine b_.go (N:=⟨74,[]⟩) Try.func85 q q q q (W.fin ?_)
 refine W.st [(0,aj cF a0)] ?_
 refine W.aZ [0] ?_
 obtain ⟨aE,fp,h⟩:=aB h
 refine W.bM [0,3] (ah (O.aA (.aD q))<|dL (cu.go (.bX (.aD q) .nil) (BG a0 _ fp) call88 q)<|ar.aW) ?_
 refine W.aZ [0,3,4] ?_
 refine W.bb<|W.aZ [0,3,4,5] ?_
 refine W.bq ?_
 obtain ⟨aX,ao,h⟩:=aB h
 refine W.cj (G1:=[(0,_),(3,_),(4,ak (b5 aL) ([]:List (List Int))),(5,_)]) (.n q (.n q (.w q q .o4 (.n q .nil)))) ?_
 refine W.e0 (s:=(([]:List (List Int)),0)) (λ(s2:List (List Int) × Int)=>[(0,aj cF a0),(3,aj fO aE),(4,ak (b5 aL) s2.1),(5,j s2.2)]) 0 (λ(aX:List (List Int))=>[(4,ak (b5 aL) aX)]) ao (λs2 o h=>?_) ?_
 ·clear ao
  refine W.bb<|W.aZ [0,3,4,5,14] ?_
  refine W.bH h q (λdK h=>?_) (λdK h=>?_)
  ·refine W.bO<|ai.a_ ?_
   refine W.bb<|W.bq ?_
   refine W.aZ [0,3,4,5,6] ?_
   refine W.bb ?_
   obtain ⟨bu,fH,h⟩:=aB h
   obtain ⟨bl,gb,h⟩:=aB h
   obtain ⟨bT,im,h⟩:=aB h
   refine W.rd [[],[],[],[1,2],[1,2,3],[1,2,3,4],[],[],[6,7],[6,7,8],[6,7,8,9],aO 0 11 [],aO 0 12 []] [(0,_),(3,_),(4,_),(5,_),(6,_),(7,_)] e1 (by kernel_rfl) (au 0 (O.aA (.aD q))<|au 1 (O.aA (.aD q))<|au 2 (O.aA (.lit q))<|au 3 (O.cE (.aD q) (.lit q) pU fH)<|au 4 (O.eP (.bn q) wU)<|au 5 (O.c8 (x:=j bu.State) (.bn q) cz q)<|au 6 (O.aA (.aD q))<|au 7 (O.aA (.lit q))<|au 8 (O.cE (.aD q) (.lit q) pU gb)<|au 9 (O.eP (.bn q) yA)<|au 10 (O.c8 (x:=j bl.eW) (.bn q) cz q)<|iM 11 (cu.go (.bX (.aD q) (.bX (.lit q) (.bX (.lit q) .nil))) (BF a0 bu.State bl.eW _ im) call59 q)<|au 12 (O.dv (.lit q))<|bV.fin q q q (fC q q q q q q)) ?_
   refine ai.a_<|W.bb ?_
   obtain ⟨ct,iV,h⟩:=aB h
   obtain ⟨bQ,jk,h⟩:=aB h
   refine W.bM [0,3,4,5,6,7,34] (ah (O.aA (.aD q))<|br q<|ah (O.cE (.aD q) (.lit q) kV iV)<|ah (O.eP (.bn q) uO)<|ah (O.c8 (x:=aj db ct.Kernel) (.bn q) uG q)<|dL (cu.go (.bX (.aD q) .nil) (Oh ct.Kernel _ jk) call104 q)<|bR q) ?_
   obtain ⟨gT,aa,h⟩:=aB h
   refine W.bC [(0,aj cF a0),(3,aj fO aE),(4,ak (b5 aL) s2.1),(5,j s2.2),(6,ak aL gT),(7,j bT)] ?_ ?_
   ·clear h; have h:=aa; clear aa
    refine W.bH h q (λew h=>?_) (λew h=>?_)
    ·obtain ⟨dR,jE,h⟩:=aB h
     refine W.bp [0,3,4,5,6,7] (ah (O.aA (.aJ q))<|ar.gq (x:=aj aL [0]) (O.dF (ys:=[j 0]) aL [0] eI q q q q q q nm q q) q q .none<|ah (O.Nk (en:=aL) (r:=dR) (.aJ q) (.aD q) .i pt q jE)<|ar.gI (G2:=[(0,aj cF a0),(3,aj fO aE),(4,ak (b5 aL) s2.1),(5,j s2.2),(7,j bT)]) q (cm.kG q q (.own q) q (.n q q (.n q q (.n q q (.n q q (.n q q .nil))))) q q)<|bR q) ?_
     obtain rfl:=ax h
     exact ai.bC (fC q q q q q q)
    ·refine W.bO ?_
     obtain rfl:=ax h
     exact ai.bC (.n q (.n q (.n q (.n q (.w q q .o4 (.n q .nil))))))
   refine ai.a_<|W.bb ?_
   refine W.aZ [0,3,4,5,6,7,8] ?_
   refine W.bq<|W.fE (G1:=[(0,_),(3,_),(4,_),(5,_),(6,aj aL gT),(7,_),(8,_)]) [6] (.n q q (.n q q (.n q q (.n q q (.z q q .js (.n q q (.n q q .nil))))))) ?_
   obtain ⟨dt,ao,h⟩:=aB h
   refine W.cj (G1:=[(0,_),(3,_),(4,_),(5,_),(6,_),(7,_),(8,_)]) (hg q q q q q q q) ?_
   refine W.e0 (s:=(gT,0)) (λ(h':List Int × Int)=>[(0,aj cF a0),(3,aj fO aE),(4,ak (b5 aL) s2.1),(5,j s2.2),(6,aj aL h'.1),(7,j bT),(8,j h'.2)]) 2 (λ(dt:List Int)=>[(0,aj cF a0),(3,aj fO aE),(4,ak (b5 aL) s2.1),(5,j s2.2),(6,aj aL dt)]) ao (λh' o h=>?_) ?_
   ·clear ao
    refine W.bb ?_
    obtain ⟨b4,h8,h⟩:=aB h
    refine W.aZ [0,3,4,5,6,7,8,45] ?_
    refine W.bH h q (λhJ h=>?_) (λhJ h=>?_)
    ·refine W.bO<|ai.a_ ?_
     refine W.bb ?_
     obtain ⟨e_,aa,h⟩:=aB h
     refine W.bC [(0,aj cF a0),(3,aj fO aE),(4,ak (b5 aL) s2.1),(5,j s2.2),(6,aj aL e_),(7,j bT),(8,j h'.2)] ?_ ?_
     ·clear h; have h:=aa; clear aa
      refine W.bq ?_
      obtain ⟨eB,qp,h⟩:=aB h
      obtain ⟨dO,mg,h⟩:=aB h
      refine W.aZ [0,3,4,5,6,7,8,57] ?_
      obtain ⟨nF,aa,h⟩:=aB h
      refine W.bC [(0,aj cF a0),(3,aj fO aE),(4,ak (b5 aL) s2.1),(5,j s2.2),(6,aj aL nF),(7,j bT),(8,j h'.2)] ?_ ?_
      ·clear h; have h:=aa; clear aa
       refine W.bH h q (λix h=>?_) (λix h=>?_)
       ·obtain ⟨gj,lP,h⟩:=aB h
        obtain ⟨e3,mI,h⟩:=aB h
        obtain ⟨ib,qq,h⟩:=aB h
        refine W.bp [0,3,4,5,6,7,8] (ah (O.aA (.aD q))<|ah (O.aA (.aD q))<|br q<|ah (O.cE (.aD q) (.lit q) kV lP)<|ah (O.eP (.bn q) r1)<|ah (O.c8 (x:=aj ie gj.di) (.bn q) uH q)<|br q<|ah (O.cE (.aD q) (.lit q) sF mI)<|ah (O.eP (.bn q) BQ)<|ah (O.c8 (x:=j e3.Sym) (.bn q) cz q)<|dL (cu.go (.bX (.aD q) (.bX (.lit q) .nil)) (uE h'.1 e3.Sym _ qq) call67 q)<|ar.bp [0,3,4,5,7,8,68] q<|ar.aW) ?_
        obtain rfl:=ax h
        exact ai.bC (hg q q q q q q q)
       ·refine W.bO ?_
        obtain rfl:=ax h
        exact ai.bC (hg q q q q q q q)
      refine ai.bq ?_
      obtain rfl:=ax h
      exact ai.bC (hg q q q q q q q)
     refine ai.a_<|W.bp [0,3,4,5,6,7,8] (br q<|ah (O.add (.lit q) (.k q))<|ar.bp [0,3,4,5,6,7,47] q<|ar.aW) ?_
     obtain rfl:=ax h
     exact ai.go (hg q q q q q q q)
    ·refine W.dd ?_
     refine ai.dc ?_
     obtain rfl:=ax h
     exact ai.aE (e' q q q q q)
   refine ai.de ?_
   refine ai.a_ ?_
   obtain ⟨gr,m_,h⟩:=aB h
   refine W.bp [0,3,4,5] (ah (O.aA (.own q))<|ah (O.aA (.aD q))<|ar.gq (x:=aj (b5 aL) [dt]) (O.dF (ys:=[aj aL dt]) (b5 aL) [dt] kU q q q q q q HM q q) q q .none<|ah (O.ap (en:=(b5 aL)) (r:=gr) (.bm q) q (.aD q) .i DH q m_)<|ar.gI (G2:=[(0,aj cF a0),(3,aj fO aE),(5,j s2.2)]) q (cm.oG q q (.b2 q) q q q (.n q q (.n q q (.n q q .nil))) q q)<|bR q) ?_
   refine ai.bq ?_
   refine ai.a_<|W.bp [0,3,4,5] (br q<|ah (O.add (.lit q) (.k q))<|ar.bp [0,3,4,16] q<|ar.aW) ?_
   obtain rfl:=ax h
   exact ai.go (dA q q q q)
  ·refine W.dd ?_
   refine ai.dc ?_
   obtain rfl:=ax h
   exact ai.aE (.n q .nil)
 refine ai.de ?_
 refine ai.a_<|W.bM [2] (ah (O.aA (.own q))<|ar.gI (G2:=[]) q (cm.kG q q (.bm q) q .nil q q)<|bR q) ?_
 refine W.rt ?_
 obtain rfl:=ax h
 exact cA (.o q .nil)
theorem IS (a0:(List Bool)) (av:(List Int)) (r:Bool) (h:xA a0 av=some r):b_ Try.prog 107 [aj bF a0,aj aL av] [none,none] (ba r):=by
 unfold xA at h
 refine b_.go (N:=⟨28,[]⟩) Try.func107 q q q q (W.fin ?_)
 refine W.st [(0,aj bF a0),(1,aj aL av)] ?_
 refine W.aZ [0,1] ?_
 refine W.bb<|W.aZ [0,1,5] ?_
 refine W.bq ?_
 obtain ⟨x2,ao,h⟩:=aB h
 refine W.cj (G1:=[(0,_),(1,_),(5,_)]) (dB q q q) ?_
 refine W.jM (s:=0) (λ(s1:Int)=>[(0,aj bF a0),(1,aj aL av),(5,j s1)]) 0 (λ(aX:Unit)=>[]) (λ(bN:Bool)=>[(4,ba bN)]) ao (λs1 o h=>?_) (λaX J=>?_) (λbN J=>?_)
 ·clear ao
  refine W.bb<|W.aZ [0,1,5,9] ?_
  refine W.bH h q (λdK h=>?_) (λdK h=>?_)
  ·refine W.bO<|ai.a_ ?_
   refine W.bb<|W.bq ?_
   obtain ⟨je,aa,h⟩:=aB h
   refine W.rs [(0,aj bF a0),(1,aj aL av),(5,j s1),(27,ba je)] ?_ ?_
   ·refine ah (O.aA (.aD q))<|ah (O.aA (.lit q)) ?_
    obtain ⟨bu,fH,aa⟩:=aB aa
    refine ah (O.cE (.aD q) (.lit q) eI fH)<|ah (O.c8 (x:=j bu) (.bn q) cz q)<|ah (O.lss (.lit q) (.k q))<|ah (O.aA (.lit q)) ?_
    rcases cI aa with ⟨cU,aa⟩ | ⟨cU,aa⟩
    ·obtain rfl:=ax aa
     exact ar.aW
    ·refine a1 cU (O.aA (.aD q))<|a1 cU (O.aA (.aD q))<|a1 cU (O.aA (.lit q)) ?_
     obtain ⟨bT,im,aa⟩:=aB aa
     refine a1 cU (O.cE (.aD q) (.lit q) eI im)<|a1 cU (O.c8 (x:=j bT) (.bn q) cz q)<|a1 cU (O.sub (.lit q) (.k q)) ?_
     obtain ⟨ct,iV,aa⟩:=aB aa
     obtain rfl:=ax aa
     exact ar.aW
   refine W.bH h q (λft h=>?_) (λft h=>?_)
   ·refine W.aZ [4] ?_
    refine W.rt ?_
    refine ai.ee ?_
    refine ai.c_ ?_
    obtain rfl:=ax h
    exact ai.gm (.n q .nil)
   ·refine W.bO<|ai.bq ?_
    refine ai.a_<|W.bp [0,1,5] (br q<|ah (O.add (.lit q) (.k q))<|ar.bp [0,1,11] q<|ar.aW) ?_
    obtain rfl:=ax h
    exact ai.go (dB q q q)
  ·refine W.dd ?_
   refine ai.dc ?_
   obtain rfl:=ax h
   exact ai.x2 .nil
 ·subst J
  refine ai.de ?_
  refine ai.a_<|W.aZ [4] ?_
  refine W.rt ?_
  obtain rfl:=ax h
  exact cA (.f q q .nil)
 ·subst J
  refine ai.ee ?_
  refine ai.c_ ?_
  obtain rfl:=ax h
  exact cA (.f q q .nil)
theorem IP (a0:bZ) (r:(List Bool)) (h:xy a0=some r):b_ Try.prog 105 [.agg (ch.cells a0)] [none] (aj bF r):=by
 unfold xy at h
 refine b_.go (N:=⟨41,[]⟩) Try.func105 q q q q (W.fin ?_)
 refine W.st [(0,.agg (ch.cells a0))] ?_
 refine W.bM [1] (ah (O.box (.cg q q) q)<|ar.aW) ?_
 obtain ⟨aE,fp,h⟩:=aB h
 refine W.bM [1,3] (ah (O.bk q (.obj q) r2 q)<|ah (O.c9 (y:=aj a8 a0.bw) q (.ptr q) rW q q)<|ah (O.gz (.aD q) ry)<|ah (O.mk (en:=bF) (z0:=false) oo (.lit q) (.lit q) HH q q fp DQ q)<|ar.gI (G2:=[(1,.obj (ch.cells a0))]) q (cm.kG q q (.own q) q (.n q q .nil) q q)<|bR q) ?_
 refine W.bb<|W.aZ [1,3,4] ?_
 refine W.bq ?_
 obtain ⟨aX,ao,h⟩:=aB h
 refine W.cj (G1:=[(1,_),(3,_),(4,_)]) (dB q q q) ?_
 refine W.e0 (s:=(aE,true)) (λ(s2:List Bool × Bool)=>[(1,.obj (ch.cells a0)),(3,ak bF s2.1),(4,ba s2.2)]) 0 (λ(aX:List Bool)=>[(3,ak bF aX)]) ao (λs2 o h=>?_) ?_
 ·clear ao
  refine W.bb<|W.aZ [1,3,11] ?_
  refine W.bH h q (λdK h=>?_) (λdK h=>?_)
  ·refine W.bO<|ai.a_ ?_
   refine W.bq<|W.aZ [1,3,4] ?_
   refine W.aZ [1,3,4,5] ?_
   refine W.bq ?_
   obtain ⟨bl,ao,h⟩:=aB h
   refine W.cj (G1:=[(1,_),(3,_),(4,_),(5,_)]) (dA q q q q) ?_
   refine W.e0 (s:=(s2.1,false,0)) (λ(cY:List Bool × Bool × Int)=>[(1,.obj (ch.cells a0)),(3,ak bF cY.1),(4,ba cY.2.1),(5,j cY.2.2)]) 2 (λ(bl:List Bool × Bool)=>[(1,.obj (ch.cells a0)),(3,ak bF bl.1),(4,ba bl.2)]) ao (λcY o h=>?_) ?_
   ·clear ao
    refine W.bb<|W.aZ [1,3,4,5,16] ?_
    refine W.bH h q (λey h=>?_) (λey h=>?_)
    ·refine W.bO<|ai.a_ ?_
     refine W.bb ?_
     obtain ⟨ml,aa,h⟩:=aB h
     refine W.bC [(1,.obj (ch.cells a0)),(3,ak bF ml.1),(4,ba ml.2),(5,j cY.2.2)] ?_ ?_
     ·clear h; have h:=aa; clear aa
      refine W.bq ?_
      obtain ⟨cp,il,h⟩:=aB h
      refine W.bM [1,3,4,5,6] (ah (O.bk q (.obj q) l5 q)<|ah (O.c9 (y:=aj bE a0.aY) q (.ptr q) nv q q)<|br q<|ah (O.cE (.aD q) (.lit q) nj il)<|ah (O.jn (cs':=[j cp.Left,aj aL cp.fo,j cp.Prec,af cp.Code,aj aL cp.sS,j cp.At]) (.bn q) Iq q q)<|ah (O.fD (cs:=[j 0,.aJ,j 0,af aC,.aJ,j 0]) A0 q q)<|ar.dI (G2:=[(1,_),(3,_),(4,_),(5,_),(6,_)]) (cs2:=[j cp.Left,aj aL cp.fo,j cp.Prec,af cp.Code,aj aL cp.sS,j cp.At]) q (.obj q) (.cg q q) q Mk q q q q (.n q q (.n q q (.n q q (.n q q (.b q .nil)))))<|bR q) ?_
      obtain ⟨s5,aa,h⟩:=aB h
      refine W.rs [(1,.obj (ch.cells a0)),(3,ak bF cY.1),(4,ba cY.2.1),(5,j cY.2.2),(6,.obj (bE.cells cp)),(35,ba s5)] ?_ ?_
      ·refine ah (O.aA (.own q))<|ah (O.bk q (.obj q) yy q)<|ah (O.cB q (.ptr q) cz q) ?_
       obtain ⟨cO,kq,aa⟩:=aB aa
       refine ah (O.gS (en:=bF) q (.bm q) (.lit q) oo kq q)<|ah (O.iZ (en:=bF) (x':=ba cO) q (.ptr q) nu kq q q)<|ah (O.not (.lit q))<|ah (O.aA (.lit q)) ?_
       rcases cI aa with ⟨jB,aa⟩ | ⟨jB,aa⟩
       ·refine a1 jB (O.aA (.own q))<|a1 jB (O.bk q (.obj q) mE q)<|a1 jB (O.c9 (y:=aj aL cp.fo) q (.ptr q) gX q q) ?_
        obtain ⟨d',kr,aa⟩:=aB aa
        obtain rfl:=ax aa
        exact ar.c (cu.vw (ys:=[.bm bF.z ⟨3,[]⟩ cY.1.length,aj aL cp.fo]) q (.c (.row q) (.s .nil)) (IS cY.1 cp.fo _ kr) call107 q) q q (.jS q q jB)<|ar.aW
       ·obtain rfl:=ax aa
        exact ar.aW
      obtain ⟨mO,aa,h⟩:=aB h
      refine W.bC [(1,.obj (ch.cells a0)),(3,ak bF mO.1),(4,ba mO.2),(5,j cY.2.2)] ?_ ?_
      ·clear h; have h:=aa; clear aa
       refine W.bH h q (λuX h=>?_) (λuX h=>?_)
       ·obtain ⟨eJ,jL,h⟩:=aB h
        refine W.bM [1,3,5] (ah (O.aA (.own q))<|ah (O.bk q (.obj q) yy q)<|ah (O.cB q (.ptr q) cz q)<|ah (O.gS (en:=bF) q (.bm q) (.lit q) oo jL q)<|ar.hs (G2:=[(1,.obj (ch.cells a0)),(3,ak bF (cY.1.set cp.Left.toNat true)),(5,j cY.2.2)]) q (cm.pb (en:=bF) (y2:=true) (cs':=[ba true]) (x2:=ak bF (cY.1.set cp.Left.toNat true)) q q (.ptr q) (.k q) q jL ud q q q q q q q (.n q q (.b q (.n q q .nil))))<|bR q) ?_
        refine W.H_ [1,3,4,5] ?_
        obtain rfl:=ax h
        exact ai.bC (dA q q q q)
       ·refine W.bO ?_
        obtain rfl:=ax h
        exact ai.bC (dA q q q q)
      refine ai.bq ?_
      obtain rfl:=ax h
      exact ai.bC (dA q q q q)
     refine ai.a_<|W.bp [1,3,4,5] (br q<|ah (O.add (.lit q) (.k q))<|ar.bp [1,3,4,18] q<|ar.aW) ?_
     obtain rfl:=ax h
     exact ai.go (dA q q q q)
    ·refine W.dd ?_
     refine ai.dc ?_
     obtain rfl:=ax h
     exact ai.aE (dB q q q)
   refine ai.de ?_
   refine ai.bq ?_
   obtain rfl:=ax h
   exact ai.go (dB q q q)
  ·refine W.dd ?_
   refine ai.dc ?_
   obtain rfl:=ax h
   exact ai.aE (.n q .nil)
 refine ai.de ?_
 refine ai.a_<|W.bM [2] (ah (O.aA (.own q))<|ar.gI (G2:=[]) q (cm.kG q q (.bm q) q .nil q q)<|bR q) ?_
 refine W.fE (G1:=[(2,aj bF aX)]) [2] (.z q q .js .nil) ?_
 refine W.rt ?_
 obtain rfl:=ax h
 exact cA (.f q q .nil)
theorem IQ (a0:(List Trans)) (av:Int) (a2:Int) (r:Int) (h:xz a0 av a2=some r):b_ Try.prog 106 [aj fO a0,j av,j a2] [none,none,none] (j r):=by
 unfold xz at h
 refine b_.go (N:=⟨31,[]⟩) Try.func106 q q q q (W.fin ?_)
 refine W.st [(0,aj fO a0),(1,j av),(2,j a2)] ?_
 refine W.aZ [0,1,2] ?_
 refine W.bb<|W.aZ [0,1,2,7] ?_
 refine W.bq ?_
 obtain ⟨x2,ao,h⟩:=aB h
 refine W.cj (G1:=[(0,_),(1,_),(2,_),(7,_)]) (dA q q q q) ?_
 refine W.jM (s:=0) (λ(s1:Int)=>[(0,aj fO a0),(1,j av),(2,j a2),(7,j s1)]) 0 (λ(aX:Unit)=>[]) (λ(bN:Int)=>[(6,j bN)]) ao (λs1 o h=>?_) (λaX J=>?_) (λbN J=>?_)
 ·clear ao
  refine W.bb<|W.aZ [0,1,2,7,11] ?_
  refine W.bH h q (λdK h=>?_) (λdK h=>?_)
  ·refine W.bO<|ai.a_ ?_
   refine W.bb<|W.bq ?_
   obtain ⟨rT,aa,h⟩:=aB h
   refine W.rs [(0,aj fO a0),(1,j av),(2,j a2),(7,j s1),(29,ba rT)] ?_ ?_
   ·refine ah (O.aA (.aD q))<|ah (O.aA (.lit q)) ?_
    obtain ⟨bu,fH,aa⟩:=aB aa
    refine ah (O.cE (.aD q) (.lit q) pU fH)<|ah (O.eP (.bn q) wU)<|ah (O.c8 (x:=j bu.State) (.bn q) cz q)<|br q<|ah (O.eql (.lit q) (.lit q))<|ah (O.aA (.lit q)) ?_
    rcases cI aa with ⟨cU,aa⟩ | ⟨cU,aa⟩
    ·refine a1 cU (O.aA (.aD q))<|a1 cU (O.aA (.lit q)) ?_
     obtain ⟨bT,im,aa⟩:=aB aa
     obtain rfl:=ax aa
     exact ar.aW
    ·obtain rfl:=ax aa
     exact ar.aW
   refine W.bH h q (λeG h=>?_) (λeG h=>?_)
   ·refine W.aZ [6] ?_
    refine W.rt ?_
    refine ai.ee ?_
    refine ai.c_ ?_
    obtain rfl:=ax h
    exact ai.gm (.n q .nil)
   ·refine W.bO<|ai.bq ?_
    refine ai.a_<|W.bp [0,1,2,7] (br q<|ah (O.add (.lit q) (.k q))<|ar.bp [0,1,2,13] q<|ar.aW) ?_
    obtain rfl:=ax h
    exact ai.go (dA q q q q)
  ·refine W.dd ?_
   refine ai.dc ?_
   obtain rfl:=ax h
   exact ai.x2 .nil
 ·subst J
  refine ai.de ?_
  refine ai.a_<|W.aZ [6] ?_
  refine W.rt ?_
  obtain rfl:=ax h
  exact cA (.f q q .nil)
 ·subst J
  refine ai.ee ?_
  refine ai.c_ ?_
  obtain rfl:=ax h
  exact cA (.f q q .nil)
theorem OZ (a0:bZ) (av:(List State)) (r:(List (List Int))) (h:Ax a0 av=some r):b_ Try.prog 86 [.agg (ch.cells a0),aj cF av] [none,none] (aj (b5 aL) r):=by
 unfold Ax at h
 refine b_.go (N:=⟨74,[]⟩) Try.func86 q q q q (W.fin ?_)
 refine W.st [(0,.agg (ch.cells a0)),(1,aj cF av)] ?_
 refine W.bM [1,2] (ah (O.box (.cg q q) q)<|ar.aW) ?_
 obtain ⟨aE,fp,h⟩:=aB h
 refine W.bM [1,2,5] (ah (O.aA (.aD q))<|dL (cu.go (.bX (.aD q) .nil) (BG av _ fp) call88 q)<|ar.aW) ?_
 obtain ⟨x2,ho,h⟩:=aB h
 refine W.bM [1,5,6] (ah (O.dT (cs':=[aj bo a0.a',aj a8 a0.bw,aj bE a0.aY,af a0.bz,af a0.bA]) q (.obj q) gg q q)<|dL (cu.go (.bX (.cg q q) .nil) (IP a0 _ ho) call105 q)<|ar.aW) ?_
 refine W.aZ [1,5,6,7] ?_
 refine W.bb<|W.aZ [1,5,6,7,8] ?_
 refine W.bq ?_
 obtain ⟨bN,ao,h⟩:=aB h
 refine W.cj (G1:=[(1,_),(5,_),(6,_),(7,ak (b5 aL) ([]:List (List Int))),(8,_)]) (.n q (.n q (.n q (.w q q .o4 (.n q .nil))))) ?_
 refine W.e0 (s:=(([]:List (List Int)),0)) (λ(dX:List (List Int) × Int)=>[(1,aj cF av),(5,aj fO aE),(6,aj bF x2),(7,ak (b5 aL) dX.1),(8,j dX.2)]) 0 (λ(bN:List (List Int))=>[(7,ak (b5 aL) bN)]) ao (λdX o h=>?_) ?_
 ·clear ao
  refine W.bb<|W.aZ [1,5,6,7,8,20] ?_
  refine W.bH h q (λdN h=>?_) (λdN h=>?_)
  ·refine W.bO<|ai.a_ ?_
   refine W.bb<|W.bq ?_
   refine W.aZ [1,5,6,7,8,9] ?_
   refine W.bb ?_
   obtain ⟨bl,gb,h⟩:=aB h
   obtain ⟨bT,im,h⟩:=aB h
   obtain ⟨ct,iV,h⟩:=aB h
   refine W.rd [[],[],[],[1,2],[1,2,3],[1,2,3,4],[],[],[6,7],[6,7,8],[6,7,8,9],aO 0 11 [],aO 0 12 []] [(1,_),(5,_),(6,_),(7,_),(8,_),(9,_),(10,_)] e1 (by kernel_rfl) (au 0 (O.aA (.aD q))<|au 1 (O.aA (.aD q))<|au 2 (O.aA (.lit q))<|au 3 (O.cE (.aD q) (.lit q) pU gb)<|au 4 (O.eP (.bn q) wU)<|au 5 (O.c8 (x:=j bl.State) (.bn q) cz q)<|au 6 (O.aA (.aD q))<|au 7 (O.aA (.lit q))<|au 8 (O.cE (.aD q) (.lit q) pU im)<|au 9 (O.eP (.bn q) yA)<|au 10 (O.c8 (x:=j bT.eW) (.bn q) cz q)<|iM 11 (cu.go (.bX (.aD q) (.bX (.lit q) (.bX (.lit q) .nil))) (BF av bl.State bT.eW _ iV) call59 q)<|au 12 (O.dv (.lit q))<|bV.fin q q q (hg q q q q q q q)) ?_
   refine ai.a_<|W.bb ?_
   refine W.aZ [1,5,6,7,8,9,10,11] ?_
   refine W.bq ?_
   obtain ⟨cp,ao,h⟩:=aB h
   refine W.cj (G1:=[(1,_),(5,_),(6,_),(7,_),(8,_),(9,aj aL ([]:List Int)),(10,_),(11,_)]) (.n q (.n q (.n q (.n q (.n q (.w q q .xq (fe q q))))))) ?_
   refine W.e0 (s:=(([]:List Int),0)) (λ(dg:List Int × Int)=>[(1,aj cF av),(5,aj fO aE),(6,aj bF x2),(7,ak (b5 aL) dX.1),(8,j dX.2),(9,aj aL dg.1),(10,j ct),(11,j dg.2)]) 2 (λ(cp:List Int)=>[(1,aj cF av),(5,aj fO aE),(6,aj bF x2),(7,ak (b5 aL) dX.1),(8,j dX.2),(9,aj aL cp)]) ao (λdg o h=>?_) ?_
   ·clear ao
    refine W.bb ?_
    obtain ⟨dR,jE,h⟩:=aB h
    refine W.aZ [1,5,6,7,8,9,10,11,42] ?_
    refine W.bH h q (λeE h=>?_) (λeE h=>?_)
    ·refine W.bO<|ai.a_ ?_
     refine W.bb ?_
     obtain ⟨mm,aa,h⟩:=aB h
     refine W.bC [(1,aj cF av),(5,aj fO aE),(6,aj bF x2),(7,ak (b5 aL) dX.1),(8,j dX.2),(9,aj aL mm),(10,j ct),(11,j dg.2)] ?_ ?_
     ·clear h; have h:=aa; clear aa
      refine W.bq ?_
      obtain ⟨cn,lq,h⟩:=aB h
      obtain ⟨b4,h8,h⟩:=aB h
      refine W.aZ [1,5,6,7,8,9,10,11,12] ?_
      obtain ⟨DX,aa,h⟩:=aB h
      refine W.rs [(1,aj cF av),(5,aj fO aE),(6,aj bF x2),(7,ak (b5 aL) dX.1),(8,j dX.2),(9,aj aL dg.1),(10,j ct),(11,j dg.2),(12,j b4.Sym),(62,ba DX)] ?_ ?_
      ·refine br q<|ah (O.geq (.lit q) (.k q))<|ah (O.aA (.lit q)) ?_
       rcases cI aa with ⟨hJ,aa⟩ | ⟨hJ,aa⟩
       ·refine a1 hJ (O.aA (.aD q))<|a1 hJ (O.aA (.lit q))<|a1 hJ (O.sub (.lit q) (.k q)) ?_
        obtain ⟨fL,qo,aa⟩:=aB aa
        obtain rfl:=ax aa
        exact ar.aW
       ·obtain rfl:=ax aa
        exact ar.aW
      obtain ⟨od,aa,h⟩:=aB h
      refine W.bC [(1,aj cF av),(5,aj fO aE),(6,aj bF x2),(7,ak (b5 aL) dX.1),(8,j dX.2),(9,aj aL od),(10,j ct),(11,j dg.2)] ?_ ?_
      ·clear h; have h:=aa; clear aa
       refine W.bH h q (λjC h=>?_) (λjC h=>?_)
       ·obtain ⟨eK,mH,h⟩:=aB h
        obtain ⟨gj,lP,h⟩:=aB h
        refine W.bp [1,5,6,7,8,9,10,11] (ah (O.aA (.aD q))<|ah (O.aA (.aD q))<|br q<|br q<|dL (cu.go (.bX (.aD q) (.bX (.lit q) (.bX (.lit q) .nil))) (IQ aE ct b4.Sym _ mH) call106 q)<|dL (cu.go (.bX (.aD q) (.bX (.lit q) .nil)) (uE dg.1 eK _ lP) call67 q)<|ar.bp [1,5,6,7,8,10,11,68] q<|ar.aW) ?_
        obtain rfl:=ax h
        exact ai.bC (mx q q q q q q q q)
       ·refine W.bO ?_
        obtain rfl:=ax h
        exact ai.bC (mx q q q q q q q q)
      refine ai.bq ?_
      obtain rfl:=ax h
      exact ai.bC (mx q q q q q q q q)
     refine ai.a_<|W.bp [1,5,6,7,8,9,10,11] (br q<|ah (O.add (.lit q) (.k q))<|ar.bp [1,5,6,7,8,9,10,44] q<|ar.aW) ?_
     obtain rfl:=ax h
     exact ai.go (mx q q q q q q q q)
    ·refine W.dd ?_
     refine ai.dc ?_
     obtain rfl:=ax h
     exact ai.aE (fC q q q q q q)
   refine ai.de ?_
   refine ai.a_ ?_
   obtain ⟨e3,mI,h⟩:=aB h
   refine W.bp [1,5,6,7,8] (ah (O.aA (.own q))<|ah (O.aA (.aD q))<|ar.gq (x:=aj (b5 aL) [cp]) (O.dF (ys:=[aj aL cp]) (b5 aL) [cp] kU q q q q q q HM q q) q q .none<|ah (O.ap (en:=(b5 aL)) (r:=e3) (.bm q) q (.aD q) .i DH q mI)<|ar.gI (G2:=[(1,aj cF av),(5,aj fO aE),(6,aj bF x2),(8,j dX.2)]) q (cm.oG q q (.b2 q) q q q (.n q q (.n q q (.n q q (.n q q .nil)))) q q)<|bR q) ?_
   refine ai.bq ?_
   refine ai.a_<|W.bp [1,5,6,7,8] (br q<|ah (O.add (.lit q) (.k q))<|ar.bp [1,5,6,7,22] q<|ar.aW) ?_
   obtain rfl:=ax h
   exact ai.go (e' q q q q q)
  ·refine W.dd ?_
   refine ai.dc ?_
   obtain rfl:=ax h
   exact ai.aE (.n q .nil)
 refine ai.de ?_
 refine ai.a_<|W.bM [4] (ah (O.aA (.own q))<|ar.gI (G2:=[]) q (cm.kG q q (.bm q) q .nil q q)<|bR q) ?_
 refine W.fE (G1:=[(4,aj (b5 aL) bN)]) [4] (.z q q .js .nil) ?_
 refine W.rt ?_
 obtain rfl:=ax h
 exact cA (.f q q .nil)
theorem I3 (a0:(List State)) (av:Int) (a2:(List Int)) (r:Int) (h:xL a0 av a2=some r):b_ Try.prog 89 [aj cF a0,j av,aj aL a2] [none,none,none] (j r):=by
 unfold xL at h
 refine b_.go (N:=⟨26,[]⟩) Try.func89 q q q q (W.fin ?_)
 refine W.st [(0,aj cF a0),(1,j av),(2,aj aL a2)] ?_
 refine W.aZ [0,1,2] ?_
 refine W.bb<|W.aZ [0,1,2,7] ?_
 refine W.bq ?_
 obtain ⟨x2,ao,h⟩:=aB h
 refine W.cj (G1:=[(0,_),(1,_),(2,_),(7,_)]) (dA q q q q) ?_
 refine W.e0 (s:=(av,0)) (λ(s1:Int × Int)=>[(0,aj cF a0),(1,j s1.1),(2,aj aL a2),(7,j s1.2)]) 0 (λ(x2:Int)=>[(1,j x2)]) ao (λs1 o h=>?_) ?_
 ·clear ao
  refine W.bb ?_
  obtain ⟨kk,aa,h⟩:=aB h
  refine W.rs [(0,aj cF a0),(1,j s1.1),(2,aj aL a2),(7,j s1.2),(15,ba kk)] ?_ ?_
  ·refine br q<|ah (O.aA (.aD q))<|ah (O.gz (.aD q) eI)<|ah (O.lss (.lit q) (.lit q))<|ah (O.aA (.lit q)) ?_
   rcases cI aa with ⟨df,aa⟩ | ⟨df,aa⟩
   ·obtain rfl:=ax aa
    exact ar.aW
   ·obtain rfl:=ax aa
    exact ar.aW
  refine W.bH h q (λdN h=>?_) (λdN h=>?_)
  ·refine W.bO<|ai.a_ ?_
   refine W.bb<|W.bq ?_
   obtain ⟨bl,gb,h⟩:=aB h
   obtain ⟨bT,im,h⟩:=aB h
   refine W.bp [0,1,2,7] (ah (O.aA (.aD q))<|br q<|ah (O.aA (.aD q))<|br q<|ah (O.cE (.aD q) (.lit q) eI gb)<|ah (O.c8 (x:=j bl) (.bn q) cz q)<|dL (cu.go (.bX (.aD q) (.bX (.lit q) (.bX (.lit q) .nil))) (BF a0 s1.1 bl _ im) call59 q)<|ar.bp [0,2,7,24] q<|ar.aW) ?_
   refine ai.bq ?_
   refine ai.a_<|W.bp [0,1,2,7] (br q<|ah (O.add (.lit q) (.k q))<|ar.bp [0,1,2,17] q<|ar.aW) ?_
   obtain rfl:=ax h
   exact ai.go (dA q q q q)
  ·refine W.dd ?_
   refine ai.dc ?_
   obtain rfl:=ax h
   exact ai.aE (.n q .nil)
 refine ai.de ?_
 refine ai.a_<|W.aZ [6] ?_
 refine W.rt ?_
 obtain rfl:=ax h
 exact cA (.f q q .nil)
theorem O0 (a0:bZ) (av:(List State)) (r:(List (List Int))) (h:Ay a0 av=some r):b_ Try.prog 87 [.agg (ch.cells a0),aj cF av] [none,none] (aj (b5 aL) r):=by
 unfold Ay at h
 refine b_.go (N:=⟨104,[]⟩) Try.func87 q q q q (W.fin ?_)
 refine W.st [(0,.agg (ch.cells a0)),(1,aj cF av)] ?_
 refine W.bM [1,2] (ah (O.box (.cg q q) q)<|ar.aW) ?_
 obtain ⟨aE,fp,h⟩:=aB h
 refine W.bM [1,2,5] (ah (O.aA (.aD q))<|dL (cu.go (.bX (.aD q) .nil) (BG av _ fp) call88 q)<|ar.aW) ?_
 obtain ⟨x2,ho,h⟩:=aB h
 refine W.bM [1,2,5,6] (ah (O.dT (cs':=[aj bo a0.a',aj a8 a0.bw,aj bE a0.aY,af a0.bz,af a0.bA]) q (.obj q) gg q q)<|dL (cu.go (.bX (.cg q q) .nil) (IP a0 _ ho) call105 q)<|ar.aW) ?_
 obtain ⟨aX,hL,h⟩:=aB h
 refine W.bM [1,2,5,6,7] (ah (O.aA (.aD q))<|ah (O.gz (.aD q) pU)<|ah (O.S8 (e:=aL) kU (.lit q) (.lit q) UM q q hL NH q)<|ar.gI (G2:=[(1,aj cF av),(2,.obj (ch.cells a0)),(5,aj fO aE),(6,aj bF x2)]) q (cm.kG q q (.own q) q (.n q q (.n q q (.n q q (.n q q .nil)))) q q)<|bR q) ?_
 refine W.bb<|W.aZ [1,2,5,6,7,8] ?_
 refine W.bq ?_
 obtain ⟨ck,ao,h⟩:=aB h
 refine W.cj (G1:=[(1,_),(2,_),(5,_),(6,_),(7,_),(8,_)]) (fC q q q q q q) ?_
 refine W.e0 (s:=(aX,0)) (λ(bK:List (List Int) × Int)=>[(1,aj cF av),(2,.obj (ch.cells a0)),(5,aj fO aE),(6,aj bF x2),(7,ak (b5 aL) bK.1),(8,j bK.2)]) 0 (λ(ck:List (List Int))=>[(7,ak (b5 aL) ck)]) ao (λbK o h=>?_) ?_
 ·clear ao
  refine W.bb<|W.aZ [1,2,5,6,7,8,24] ?_
  refine W.bH h q (λcU h=>?_) (λcU h=>?_)
  ·refine W.bO<|ai.a_ ?_
   refine W.bb<|W.bq ?_
   refine W.aZ [1,2,5,6,7,8,9] ?_
   refine W.bq ?_
   obtain ⟨ct,ao,h⟩:=aB h
   refine W.cj (G1:=[(1,_),(2,_),(5,_),(6,_),(7,_),(8,_),(9,_)]) (hg q q q q q q q) ?_
   refine W.e0 (s:=(bK.1,0)) (λ(cL:List (List Int) × Int)=>[(1,aj cF av),(2,.obj (ch.cells a0)),(5,aj fO aE),(6,aj bF x2),(7,ak (b5 aL) cL.1),(8,j bK.2),(9,j cL.2)]) 2 (λ(ct:List (List Int))=>[(1,aj cF av),(2,.obj (ch.cells a0)),(5,aj fO aE),(6,aj bF x2),(7,ak (b5 aL) ct),(8,j bK.2)]) ao (λcL o h=>?_) ?_
   ·clear ao
    refine W.bb<|W.aZ [1,2,5,6,7,8,9,31] ?_
    refine W.bH h q (λft h=>?_) (λft h=>?_)
    ·refine W.bO<|ai.a_ ?_
     refine W.bb ?_
     obtain ⟨fz,aa,h⟩:=aB h
     refine W.bC [(1,aj cF av),(2,.obj (ch.cells a0)),(5,aj fO aE),(6,aj bF x2),(7,ak (b5 aL) fz),(8,j bK.2),(9,j cL.2)] ?_ ?_
     ·clear h; have h:=aa; clear aa
      refine W.bq ?_
      obtain ⟨dR,jE,h⟩:=aB h
      refine W.aZ [1,2,5,6,7,8,9,10] ?_
      refine W.bb<|W.bb ?_
      obtain ⟨d',kr,h⟩:=aB h
      obtain ⟨dt,iJ,h⟩:=aB h
      refine W.rd [[],[0],[],[0,1,2],[0,1,2,3],aO 0 5 [],aO 0 6 [],[],[],[7,8],[7,8,9],[7,8,9,10],aO 0 12 []] [(1,_),(2,_),(5,_),(6,_),(7,_),(8,_),(9,_),(10,_),(52,_)] e1 (by kernel_rfl) (au 0 (O.bk q (.obj q) l5 q)<|au 1 (O.c9 (y:=aj bE a0.aY) q (.ptr q) nv q q)<|au 2 (O.aA (.lit q))<|au 3 (O.cE (.aD q) (.lit q) nj kr)<|au 4 (O.eP (.bn q) yy)<|au 5 (O.c8 (x:=j d'.Left) (.bn q) cz q)<|au 6 (O.add (.k q) (.lit q))<|au 7 (O.aA (.aD q))<|au 8 (O.aA (.lit q))<|au 9 (O.cE (.aD q) (.lit q) pU iJ)<|au 10 (O.eP (.bn q) yA)<|au 11 (O.c8 (x:=j dt.eW) (.bn q) cz q)<|au 12 (O.neq (.lit q) (.lit q))<|bV.fin q q q (ot q q q q q q q q q)) ?_
      refine ai.a_<|W.bH h q (λiw h=>?_) (λiw h=>?_)
      ·refine W.dd ?_
       refine ai.dc ?_
       refine ai.de ?_
       obtain rfl:=ax h
       exact ai.bC (hg q q q q q q q)
      ·refine W.bO<|ai.a_ ?_
       refine W.aZ [1,2,5,6,7,8,9,10,11] ?_
       refine W.bq ?_
       obtain ⟨eJ,ao,h⟩:=aB h
       refine W.cj (G1:=[(1,_),(2,_),(5,_),(6,_),(7,_),(8,_),(9,_),(10,_),(11,_)]) (ot q q q q q q q q q) ?_
       refine W.e0 (s:=(cL.1,0)) (λ(iA:List (List Int) × Int)=>[(1,aj cF av),(2,.obj (ch.cells a0)),(5,aj fO aE),(6,aj bF x2),(7,ak (b5 aL) iA.1),(8,j bK.2),(9,j cL.2),(10,aj aL dR.fo),(11,j iA.2)]) 4 (λ(eJ:List (List Int))=>[(1,aj cF av),(2,.obj (ch.cells a0)),(5,aj fO aE),(6,aj bF x2),(7,ak (b5 aL) eJ),(8,j bK.2),(9,j cL.2)]) ao (λiA o h=>?_) ?_
       ·clear ao
        refine W.bb<|W.aZ [1,2,5,6,7,8,9,10,11,56] ?_
        refine W.bH h q (λgF h=>?_) (λgF h=>?_)
        ·refine W.bO<|ai.a_ ?_
         refine W.bb ?_
         obtain ⟨od,aa,h⟩:=aB h
         refine W.bC [(1,aj cF av),(2,.obj (ch.cells a0)),(5,aj fO aE),(6,aj bF x2),(7,ak (b5 aL) od),(8,j bK.2),(9,j cL.2),(10,aj aL dR.fo),(11,j iA.2)] ?_ ?_
         ·clear h; have h:=aa; clear aa
          refine W.bq<|W.bb ?_
          obtain ⟨Bw,aa,h⟩:=aB h
          refine W.rs [(1,aj cF av),(2,.obj (ch.cells a0)),(5,aj fO aE),(6,aj bF x2),(7,ak (b5 aL) iA.1),(8,j bK.2),(9,j cL.2),(10,aj aL dR.fo),(11,j iA.2),(72,ba Bw)] ?_ ?_
          ·refine ah (O.aA (.aD q))<|ah (O.aA (.lit q)) ?_
           obtain ⟨gi,nD,aa⟩:=aB aa
           refine ah (O.cE (.aD q) (.lit q) eI nD)<|ah (O.c8 (x:=j gi) (.bn q) cz q)<|ah (O.lss (.lit q) (.k q))<|ah (O.aA (.lit q)) ?_
           rcases cI aa with ⟨ix,aa⟩ | ⟨ix,aa⟩
           ·obtain rfl:=ax aa
            exact ar.aW
           ·refine a1 ix (O.aA (.aD q))<|a1 ix (O.aA (.aD q))<|a1 ix (O.aA (.lit q))<|a1 ix (O.add (.lit q) (.k q)) ?_
            obtain ⟨gj,lP,aa⟩:=aB aa
            refine a1 ix (O.Hk (.aD q) (.lit q) eI lP) ?_
            obtain ⟨e3,mI,aa⟩:=aB aa
            obtain rfl:=ax aa
            exact ar.c (cu.go (.bX (.aD q) (.bX (.aD q) .nil)) (IS x2 gj _ mI) call107 q) q q (.jS q q ix)<|ar.aW
          refine W.bH h q (λE5 h=>?_) (λE5 h=>?_)
          ·refine W.dd ?_
           refine ai.dc ?_
           refine ai.de ?_
           obtain rfl:=ax h
           exact ai.bC (ot q q q q q q q q q)
          ·refine W.bO<|ai.a_ ?_
           refine W.bb ?_
           obtain ⟨cV,u9,h⟩:=aB h
           obtain ⟨ev,k8,h⟩:=aB h
           obtain ⟨ha,mJ,h⟩:=aB h
           refine W.rd [[],[],[],[1,2],[1,2,3],[1,2,3,4],[],[],[6,7],aO 0 9 [],aO 0 10 []] [(1,_),(2,_),(5,_),(6,_),(7,_),(8,_),(9,_),(10,_),(11,_),(12,_)] e1 (by kernel_rfl) (au 0 (O.aA (.aD q))<|au 1 (O.aA (.aD q))<|au 2 (O.aA (.lit q))<|au 3 (O.cE (.aD q) (.lit q) pU u9)<|au 4 (O.eP (.bn q) wU)<|au 5 (O.c8 (x:=j cV.State) (.bn q) cz q)<|au 6 (O.aA (.aD q))<|au 7 (O.aA (.lit q))<|au 8 (O.Hj (.aD q) (.lit q) eI k8)<|iM 9 (cu.go (.bX (.aD q) (.bX (.lit q) (.bX (.aD q) .nil))) (I3 av cV.State ev _ mJ) call89 q)<|au 10 (O.dv (.lit q))<|bV.fin q q q (pc q q q q q q q q q q)) ?_
           refine ai.a_<|W.aZ [1,2,5,6,7,8,9,10,11,12,84] ?_
           obtain ⟨vk,aa,h⟩:=aB h
           refine W.bC [(1,aj cF av),(2,.obj (ch.cells a0)),(5,aj fO aE),(6,aj bF x2),(7,ak (b5 aL) vk),(8,j bK.2),(9,j cL.2),(10,aj aL dR.fo),(11,j iA.2)] ?_ ?_
           ·clear h; have h:=aa; clear aa
            refine W.bH h q (λlL h=>?_) (λlL h=>?_)
            ·obtain ⟨mT,u_,h⟩:=aB h
             obtain ⟨gK,oX,h⟩:=aB h
             refine W.bM [1,2,5,6,7,8,9,10,11,13] (ah (O.aA (.aD q))<|br q<|ah (O.aA (.aD q))<|br q<|ah (O.cE (.aD q) (.lit q) eI u_)<|ah (O.c8 (x:=j mT) (.bn q) cz q)<|dL (cu.go (.bX (.aD q) (.bX (.lit q) (.bX (.lit q) .nil))) (IQ aE ha mT _ oX) call106 q)<|ar.aW) ?_
             refine W.aZ [1,2,5,6,7,8,9,10,11,13,93] ?_
             obtain ⟨Gf,aa,h⟩:=aB h
             refine W.bC [(1,aj cF av),(2,.obj (ch.cells a0)),(5,aj fO aE),(6,aj bF x2),(7,ak (b5 aL) Gf),(8,j bK.2),(9,j cL.2),(10,aj aL dR.fo),(11,j iA.2)] ?_ ?_
             ·clear h; have h:=aa; clear aa
              refine W.bH h q (λQP h=>?_) (λQP h=>?_)
              ·obtain ⟨j3,mh,h⟩:=aB h
               obtain ⟨c7,xg,h⟩:=aB h
               refine W.bp [1,2,5,6,7,8,9,10,11] (ah (O.aA (.own q))<|br q<|ah (O.aA (.own q))<|br q<|ah (O.gS (en:=(b5 aL)) q (.bm q) (.lit q) kU mh q)<|ah (O.iZ (en:=(b5 aL)) (x':=aj aL j3) q (.ptr q) gX mh q q)<|br q<|dL (cu.go (.bX (.aD q) (.bX (.lit q) .nil)) (uE j3 bK.2 _ xg) call67 q)<|ah (O.gS (en:=(b5 aL)) q (.bm q) (.lit q) kU mh q)<|ar.hs (G2:=[(1,aj cF av),(2,.obj (ch.cells a0)),(5,aj fO aE),(6,aj bF x2),(7,ak (b5 aL) (iA.1.set gK.toNat c7)),(8,j bK.2),(9,j cL.2),(10,aj aL dR.fo),(11,j iA.2)]) q (cm.pb (en:=(b5 aL)) (y2:=c7) (cs':=[aj aL c7]) (x2:=ak (b5 aL) (iA.1.set gK.toNat c7)) q q (.ptr q) (.aD q) q mh vU q q q q q q q (.n q q (.n q q (.n q q (.n q q (.b q (.n q q (.n q q (.n q q (.n q q .nil))))))))))<|bR q) ?_
               obtain rfl:=ax h
               exact ai.bC (ot q q q q q q q q q)
              ·refine W.bO ?_
               obtain rfl:=ax h
               exact ai.bC (ot q q q q q q q q q)
             obtain rfl:=ax h
             exact ai.bC (ot q q q q q q q q q)
            ·refine W.bO ?_
             obtain rfl:=ax h
             exact ai.bC (ot q q q q q q q q q)
           refine ai.bq ?_
           obtain rfl:=ax h
           exact ai.bC (ot q q q q q q q q q)
         refine ai.a_<|W.bp [1,2,5,6,7,8,9,10,11] (br q<|ah (O.add (.lit q) (.k q))<|ar.bp [1,2,5,6,7,8,9,10,58] q<|ar.aW) ?_
         obtain rfl:=ax h
         exact ai.go (ot q q q q q q q q q)
        ·refine W.dd ?_
         refine ai.dc ?_
         obtain rfl:=ax h
         exact ai.aE (hg q q q q q q q)
       refine ai.de ?_
       refine ai.bq ?_
       obtain rfl:=ax h
       exact ai.bC (hg q q q q q q q)
     refine ai.a_<|W.bp [1,2,5,6,7,8,9] (br q<|ah (O.add (.lit q) (.k q))<|ar.bp [1,2,5,6,7,8,33] q<|ar.aW) ?_
     obtain rfl:=ax h
     exact ai.go (hg q q q q q q q)
    ·refine W.dd ?_
     refine ai.dc ?_
     obtain rfl:=ax h
     exact ai.aE (fC q q q q q q)
   refine ai.de ?_
   refine ai.bq ?_
   refine ai.a_<|W.bp [1,2,5,6,7,8] (br q<|ah (O.add (.lit q) (.k q))<|ar.bp [1,2,5,6,7,26] q<|ar.aW) ?_
   obtain rfl:=ax h
   exact ai.go (fC q q q q q q)
  ·refine W.dd ?_
   refine ai.dc ?_
   obtain rfl:=ax h
   exact ai.aE (.n q .nil)
 refine ai.de ?_
 refine ai.a_<|W.bM [4] (ah (O.aA (.own q))<|ar.gI (G2:=[]) q (cm.kG q q (.bm q) q .nil q q)<|bR q) ?_
 refine W.fE (G1:=[(4,aj (b5 aL) ck)]) [4] (.z q q .js .nil) ?_
 refine W.rt ?_
 obtain rfl:=ax h
 exact cA (.f q q .nil)
theorem OP (a0:bZ) (av:(List State)) (r:(List (List Int))) (h:Ao a0 av=some r):b_ Try.prog 71 [.agg (ch.cells a0),aj cF av] [none,none] (aj (b5 aL) r):=by
 unfold Ao at h
 refine b_.go (N:=⟨15,[]⟩) Try.func71 q q q q (W.fin ?_)
 refine W.st [(0,.agg (ch.cells a0)),(1,aj cF av)] ?_
 refine W.bM [1,2] (ah (O.box (.cg q q) q)<|ar.aW) ?_
 refine W.bb ?_
 obtain ⟨aE,fp,h⟩:=aB h
 obtain ⟨x2,ho,h⟩:=aB h
 obtain ⟨aX,hL,h⟩:=aB h
 obtain ⟨bN,mL,h⟩:=aB h
 obtain ⟨ck,kQ,h⟩:=aB h
 refine W.TC [0,1,2,3,4,6,7,5,8,9,10] [[],[0],[],[],[0,1,2,3],[],[],aO 0 5 [],aO 0 8 [],aO 0 9 [],aO 0 10 []] [(4,_)] e1 (by kernel_rfl) (by kernel_rfl) (au 0 (O.aA (.aD q))<|iM 1 (cu.go (.bX (.aD q) .nil) (OY av _ fp) call85 q)<|au 2 (O.dT (cs':=[aj bo a0.a',aj a8 a0.bw,aj bE a0.aY,af a0.bz,af a0.bA]) q (.obj q) gg q q)<|au 3 (O.aA (.aD q))<|iM 4 (cu.go (.bX (.cg q q) (.bX (.aD q) .nil)) (OZ a0 av _ ho) call86 q)<|au 5 (O.dT (cs':=[aj bo a0.a',aj a8 a0.bw,aj bE a0.aY,af a0.bz,af a0.bA]) q (.obj q) gg q q)<|au 6 (O.aA (.aD q))<|bV.eS 7 (G2:=[(10,ak (b5 aL) aX),(1,aj cF av),(2,.obj (ch.cells a0))]) (U:=[(6,12,some (aj cF av)),(5,11,some (.agg [aj bo a0.a',aj a8 a0.bw,aj bE a0.aY,af a0.bz,af a0.bA]))]) (l1.v (cm.nZ (cm.call q q (hQ.kA (en:=(b5 aL)) (L:=aE) (G2:=[(1,aj cF av),(2,.obj (ch.cells a0))]) (ys:=[aj (b5 aL) x2]) q q q q (I2 aE x2 _ hL) call84 (fe q q) q q)))) q q (by kernel_rfl) q q q (.c (.inr (.inr (.inr (.inr (.inl ⟨_,_,_,q,cP.bI⟩))))) q q q q q (gv.wanted .none) (O.aA (.aD q)) (.c (.inr (.inr (.inr (.inr (.inr ⟨_,q,uq.pl,Oa⟩))))) q q q q q (gv.wanted .none) (O.dT (cs':=[aj bo a0.a',aj a8 a0.bw,aj bE a0.aY,af a0.bz,af a0.bA]) q (.obj q) gg q q) .nil)) (by kernel_rfl)<|iM 8 (cu.go (.bX (.cg q q) (.bX (.aD q) .nil)) (O0 a0 av _ mL) call87 q)<|bV.jI 9 (G2:=[(14,ak (b5 aL) ck)]) (cm.call q q (hQ.kA (en:=(b5 aL)) (L:=aX) (G2:=[]) (ys:=[aj (b5 aL) bN]) q q q q (I2 aX bN _ kQ) call84 .nil q q)) q q q q (by kernel_rfl) (by kernel_rfl)<|bV.bv 10 (G2:=[]) (cm.kG q q (.own q) q .nil q q) q q q q (by kernel_rfl) (by kernel_rfl)<|bV.fin q q q (.n q .nil)) ?_
 refine ai.a_<|W.fE (G1:=[(4,aj (b5 aL) ck)]) [4] (.z q q .js .nil) ?_
 refine W.rt ?_
 obtain rfl:=ax h
 exact cA (.f q q .nil)
theorem OQ (a0:bZ) (av:(List Item)) (r:(List Int)) (h:Ap a0 av=some r):b_ Try.prog 72 [.agg (ch.cells a0),aj db av] [none,none] (aj aL r):=by
 unfold Ap at h
 refine b_.go (N:=⟨51,[]⟩) Try.func72 q q q q (W.fin ?_)
 refine W.st [(0,.agg (ch.cells a0)),(1,aj db av)] ?_
 refine W.bM [1,2] (ah (O.box (.cg q q) q)<|ar.aW) ?_
 refine W.aZ [1,2,5] ?_
 obtain ⟨aE,fp,h⟩:=aB h
 refine W.bM [2,5,6] (ah (O.dT (cs':=[aj bo a0.a',aj a8 a0.bw,aj bE a0.aY,af a0.bz,af a0.bA]) q (.obj q) gg q q)<|ah (O.aA (.aD q))<|dL (cu.go (.bX (.cg q q) (.bX (.aD q) .nil)) (Eb a0 av _ fp) call80 q)<|ar.aW) ?_
 refine W.bb<|W.aZ [2,5,6,7] ?_
 refine W.bq ?_
 obtain ⟨aX,ao,h⟩:=aB h
 refine W.cj (G1:=[(2,_),(5,ak aL ([]:List Int)),(6,_),(7,_)]) (.n q (.w q q .o4 (fe q q))) ?_
 refine W.e0 (s:=(([]:List Int),0)) (λ(s2:List Int × Int)=>[(2,.obj (ch.cells a0)),(5,ak aL s2.1),(6,aj db aE),(7,j s2.2)]) 0 (λ(aX:List Int)=>[(5,ak aL aX)]) ao (λs2 o h=>?_) ?_
 ·clear ao
  refine W.bb<|W.aZ [2,5,6,7,14] ?_
  refine W.bH h q (λdK h=>?_) (λdK h=>?_)
  ·refine W.bO<|ai.a_ ?_
   refine W.bb ?_
   obtain ⟨iY,aa,h⟩:=aB h
   refine W.bC [(2,.obj (ch.cells a0)),(5,ak aL iY),(6,aj db aE),(7,j s2.2)] ?_ ?_
   ·clear h; have h:=aa; clear aa
    refine W.bq<|W.bb ?_
    obtain ⟨uA,aa,h⟩:=aB h
    refine W.rd [[],[],[0,1],[0,1,2],[0,1,2,3],aO 0 5 [],aO 0 6 [],aO 0 7 [],aO 0 7 [],aO 0 9 [],aO 0 10 [],aO 0 11 [],aO 0 7 [],aO 0 7 [12],aO 0 7 [],aO 0 7 [],aO 0 7 [14,15],aO 0 7 [14,15,16],aO 0 7 [14,15,16,17],aO 0 7 (aO 12 7 []),aO 0 7 (aO 12 8 []),aO 0 7 (aO 12 9 []),aO 0 7 (aO 12 10 []),aO 0 23 [],aO 0 24 []] [(2,.obj (ch.cells a0)),(5,ak aL s2.1),(6,aj db aE),(7,j s2.2),(41,ba uA)] e1 (by kernel_rfl) ?_ ?_
    ·refine au 0 (O.aA (.aD q))<|au 1 (O.aA (.lit q)) ?_
     obtain ⟨bl,gb,aa⟩:=aB aa
     refine au 2 (O.cE (.aD q) (.lit q) j1 gb)<|au 3 (O.eP (.bn q) mX)<|au 4 (O.c8 (x:=j bl.Prod) (.bn q) cz q)<|au 5 (O.gtr (.lit q) (.k q))<|au 6 (O.aA (.lit q)) ?_
     rcases cI aa with ⟨cR,aa⟩ | ⟨cR,aa⟩
     ·refine bx 7 cR (O.aA (.aD q))<|bx 8 cR (O.aA (.lit q)) ?_
      obtain ⟨ct,iV,aa⟩:=aB aa
      refine bx 9 cR (O.cE (.aD q) (.lit q) j1 iV)<|bx 10 cR (O.eP (.bn q) q6)<|bx 11 cR (O.c8 (x:=j ct.dC) (.bn q) cz q)<|bx 12 cR (O.bk q (.obj q) l5 q)<|bx 13 cR (O.c9 (y:=aj bE a0.aY) q (.ptr q) nv q q)<|bx 14 cR (O.aA (.aD q))<|bx 15 cR (O.aA (.lit q)) ?_
      obtain ⟨bQ,jk,aa⟩:=aB aa
      refine bx 16 cR (O.cE (.aD q) (.lit q) j1 jk)<|bx 17 cR (O.eP (.bn q) mX)<|bx 18 cR (O.c8 (x:=j bQ.Prod) (.bn q) cz q) ?_
      obtain ⟨cp,il,aa⟩:=aB aa
      obtain rfl:=ax aa
      exact bx 19 cR (O.cE (.aD q) (.lit q) nj il)<|bx 20 cR (O.eP (.bn q) mE)<|bx 21 cR (O.c8 (x:=aj aL cp.fo) (.bn q) gX q)<|bx 22 cR (O.gz (.aD q) eI)<|bx 23 cR (O.eql (.lit q) (.lit q))<|au 24 (O.eu (.lit q) cR (.lit q))<|bV.fin q q q (e' q q q q q)
     ·obtain rfl:=ax aa
      exact aH 7 cR<|aH 8 cR<|aH 9 cR<|aH 10 cR<|aH 11 cR<|aH 12 cR<|aH 13 cR<|aH 14 cR<|aH 15 cR<|aH 16 cR<|aH 17 cR<|aH 18 cR<|aH 19 cR<|aH 20 cR<|aH 21 cR<|aH 22 cR<|aH 23 cR<|au 24 (O.cC (.lit q) cR (.k q))<|bV.fin q q q (e' q q q q q)
    refine ai.a_ ?_
    obtain ⟨iX,aa,h⟩:=aB h
    refine W.bC [(2,.obj (ch.cells a0)),(5,ak aL iX),(6,aj db aE),(7,j s2.2)] ?_ ?_
    ·clear h; have h:=aa; clear aa
     refine W.bH h q (λeE h=>?_) (λeE h=>?_)
     ·obtain ⟨dt,iJ,h⟩:=aB h
      obtain ⟨cn,lq,h⟩:=aB h
      refine W.bp [2,5,6,7] (ah (O.aA (.own q))<|ah (O.aA (.aD q))<|br q<|ah (O.cE (.aD q) (.lit q) j1 iJ)<|ah (O.eP (.bn q) mX)<|ah (O.c8 (x:=j dt.Prod) (.bn q) cz q)<|ar.gq (x:=aj aL [dt.Prod]) (O.dF (ys:=[j dt.Prod]) aL [dt.Prod] eI q q q q q q nm q q) q q .none<|ah (O.ap (en:=aL) (r:=cn) (.bm q) q (.aD q) .i pt q lq)<|ar.gI (G2:=[(2,.obj (ch.cells a0)),(6,aj db aE),(7,j s2.2)]) q (cm.oG q q (.b2 q) q q q (.n q q (.n q q (.n q q .nil))) q q)<|bR q) ?_
      obtain rfl:=ax h
      exact ai.bC (dA q q q q)
     ·refine W.bO ?_
      obtain rfl:=ax h
      exact ai.bC (dA q q q q)
    refine ai.bq ?_
    obtain rfl:=ax h
    exact ai.bC (dA q q q q)
   refine ai.a_<|W.bp [2,5,6,7] (br q<|ah (O.add (.lit q) (.k q))<|ar.bp [2,5,6,16] q<|ar.aW) ?_
   obtain rfl:=ax h
   exact ai.go (dA q q q q)
  ·refine W.dd ?_
   refine ai.dc ?_
   obtain rfl:=ax h
   exact ai.aE (.n q .nil)
 refine ai.de ?_
 refine ai.a_<|W.bM [4] (ah (O.aA (.own q))<|ar.gI (G2:=[]) q (cm.kG q q (.bm q) q .nil q q)<|bR q) ?_
 refine W.fE (G1:=[(4,aj aL aX)]) [4] (.z q q .js .nil) ?_
 refine W.rt ?_
 obtain rfl:=ax h
 exact cA (.f q q .nil)
theorem OR (a0:bZ) (av:(List State)) (a2:Int) (a3:Int) (r:(List Int)) (h:Aq a0 av a2 a3=some r):b_ Try.prog 73 [.agg (ch.cells a0),aj cF av,j a2,j a3] [none,none,none,none] (aj aL r):=by
 unfold Aq at h
 refine b_.go (N:=⟨74,[]⟩) Try.func73 q q q q (W.fin ?_)
 refine W.st [(0,.agg (ch.cells a0)),(1,aj cF av),(2,j a2),(3,j a3)] ?_
 refine W.bM [1,2,3,4] (ah (O.box (.cg q q) q)<|ar.aW) ?_
 refine W.bb ?_
 obtain ⟨c4,aa,h⟩:=aB h
 refine W.rs [(1,aj cF av),(2,j a2),(3,j a3),(4,.obj (ch.cells a0)),(30,ba c4)] ?_ ?_
 ·refine br q<|ah (O.lss (.lit q) (.k q))<|ah (O.aA (.lit q)) ?_
  rcases cI aa with ⟨ds,aa⟩ | ⟨ds,aa⟩
  ·obtain rfl:=ax aa
   exact ar.aW
  ·refine a1 ds (O.aA (.lit q))<|a1 ds (O.aA (.aD q))<|a1 ds (O.gz (.aD q) kV)<|a1 ds (O.geq (.lit q) (.lit q))<|ah (O.cC (.lit q) ds (.lit q))<|ah (O.aA (.lit q)) ?_
   rcases cI aa with ⟨cX,aa⟩ | ⟨cX,aa⟩
   ·obtain rfl:=ax aa
    exact ar.aW
   ·refine a1 cX (O.aA (.lit q))<|a1 cX (O.lss (.lit q) (.k q))<|ah (O.cC (.lit q) cX (.lit q))<|ah (O.aA (.lit q)) ?_
    rcases cI aa with ⟨fb,aa⟩ | ⟨fb,aa⟩
    ·obtain rfl:=ax aa
     exact ar.aW
    ·obtain rfl:=ax aa
     exact ar.aW
 refine W.bH h q (λdK h=>?_) (λdK h=>?_)
 ·refine W.aZ [8] ?_
  refine W.fE (G1:=[(8,aj aL ([]:List Int))]) [8] (.z q q .js .nil) ?_
  refine W.rt ?_
  refine ai.c_ ?_
  obtain rfl:=ax h
  exact cA (.f q q .nil)
 ·refine W.bO<|ai.a_ ?_
  obtain ⟨bu,fH,h⟩:=aB h
  refine W.bM [1,2,3,4,9] (ah (O.aA (.aD q))<|dL (cu.go (.bX (.aD q) .nil) (BG av _ fH) call88 q)<|ar.aW) ?_
  refine W.aZ [1,2,3,4,9,10] ?_
  refine W.bb<|W.aZ [1,2,3,4,9,10,11] ?_
  refine W.bq ?_
  obtain ⟨bT,ao,h⟩:=aB h
  refine W.cj (G1:=[(1,_),(2,_),(3,_),(4,_),(9,_),(10,ak aL ([]:List Int)),(11,_)]) (.n q (.n q (.n q (.n q (.n q (.w q q .o4 (.n q .nil))))))) ?_
  refine W.e0 (s:=(([]:List Int),0)) (λ(eU:List Int × Int)=>[(1,aj cF av),(2,j a2),(3,j a3),(4,.obj (ch.cells a0)),(9,aj fO bu),(10,ak aL eU.1),(11,j eU.2)]) 0 (λ(bT:List Int)=>[(10,ak aL bT)]) ao (λeU o h=>?_) ?_
  ·clear ao
   refine W.bb<|W.aZ [1,2,3,4,9,10,11,36] ?_
   refine W.bH h q (λeG h=>?_) (λeG h=>?_)
   ·refine W.bO<|ai.a_ ?_
    refine W.bb ?_
    obtain ⟨gT,aa,h⟩:=aB h
    refine W.bC [(1,aj cF av),(2,j a2),(3,j a3),(4,.obj (ch.cells a0)),(9,aj fO bu),(10,ak aL gT),(11,j eU.2)] ?_ ?_
    ·clear h; have h:=aa; clear aa
     refine W.bq<|W.bb ?_
     obtain ⟨p5,aa,h⟩:=aB h
     refine W.rd [[],[],[0,1],[0,1,2],[0,1,2,3],[],[5],[],[5,6,7],[5,6,7,8],aO 5 5 [],aO 5 6 [],aO 0 12 [],aO 0 13 [],aO 0 14 [],aO 0 14 [],aO 0 14 [],aO 0 14 [15,16],aO 0 14 [15,16,17],aO 0 14 [15,16,17,18],aO 0 14 [],aO 0 14 [20],aO 0 14 [],aO 0 14 [20,21,22],aO 0 14 [20,21,22,23],aO 0 14 (aO 20 5 []),aO 0 26 [],aO 0 14 [],aO 0 28 [],aO 0 29 []] [(1,aj cF av),(2,j a2),(3,j a3),(4,.obj (ch.cells a0)),(9,aj fO bu),(10,ak aL eU.1),(11,j eU.2),(68,ba p5)] e1 (by kernel_rfl) ?_ ?_
     ·refine au 0 (O.aA (.aD q))<|au 1 (O.aA (.lit q)) ?_
      obtain ⟨cO,kq,aa⟩:=aB aa
      refine au 2 (O.cE (.aD q) (.lit q) pU kq)<|au 3 (O.eP (.bn q) yA)<|au 4 (O.c8 (x:=j cO.eW) (.bn q) cz q)<|au 5 (O.bk q (.obj q) l5 q)<|au 6 (O.c9 (y:=aj bE a0.aY) q (.ptr q) nv q q)<|au 7 (O.aA (.lit q)) ?_
      obtain ⟨dR,jE,aa⟩:=aB aa
      refine au 8 (O.cE (.aD q) (.lit q) nj jE)<|au 9 (O.eP (.bn q) yy)<|au 10 (O.c8 (x:=j dR.Left) (.bn q) cz q)<|au 11 (O.add (.k q) (.lit q))<|au 12 (O.eql (.lit q) (.lit q))<|au 13 (O.aA (.lit q)) ?_
      rcases cI aa with ⟨eE,aa⟩ | ⟨eE,aa⟩
      ·refine bx 14 eE (O.aA (.aD q))<|bx 15 eE (O.aA (.aD q))<|bx 16 eE (O.aA (.lit q)) ?_
       obtain ⟨dt,iJ,aa⟩:=aB aa
       refine bx 17 eE (O.cE (.aD q) (.lit q) pU iJ)<|bx 18 eE (O.eP (.bn q) wU)<|bx 19 eE (O.c8 (x:=j dt.State) (.bn q) cz q)<|bx 20 eE (O.bk q (.obj q) l5 q)<|bx 21 eE (O.c9 (y:=aj bE a0.aY) q (.ptr q) nv q q)<|bx 22 eE (O.aA (.lit q)) ?_
       obtain ⟨cn,lq,aa⟩:=aB aa
       refine bx 23 eE (O.cE (.aD q) (.lit q) nj lq)<|bx 24 eE (O.eP (.bn q) mE)<|bx 25 eE (O.c8 (x:=aj aL cn.fo) (.bn q) gX q) ?_
       obtain ⟨b4,h8,aa⟩:=aB aa
       obtain rfl:=ax aa
       exact bV.c 26 (cu.go (.bX (.aD q) (.bX (.lit q) (.bX (.aD q) .nil))) (I3 av dt.State cn.fo _ h8) call89 q) q q q q (.jS q q eE)<|bx 27 eE (O.aA (.lit q))<|bx 28 eE (O.eql (.lit q) (.lit q))<|au 29 (O.eu (.lit q) eE (.lit q))<|bV.fin q q q (mx q q q q q q q q)
      ·obtain rfl:=ax aa
       exact aH 14 eE<|aH 15 eE<|aH 16 eE<|aH 17 eE<|aH 18 eE<|aH 19 eE<|aH 20 eE<|aH 21 eE<|aH 22 eE<|aH 23 eE<|aH 24 eE<|aH 25 eE<|aH 26 eE<|aH 27 eE<|aH 28 eE<|au 29 (O.cC (.lit q) eE (.k q))<|bV.fin q q q (mx q q q q q q q q)
     refine ai.a_ ?_
     obtain ⟨e_,aa,h⟩:=aB h
     refine W.bC [(1,aj cF av),(2,j a2),(3,j a3),(4,.obj (ch.cells a0)),(9,aj fO bu),(10,ak aL e_),(11,j eU.2)] ?_ ?_
     ·clear h; have h:=aa; clear aa
      refine W.bH h q (λgF h=>?_) (λgF h=>?_)
      ·obtain ⟨dO,mg,h⟩:=aB h
       refine W.bp [1,2,3,4,9,10,11] (ah (O.aA (.own q))<|br q<|ar.gq (x:=aj aL [eU.2]) (O.dF (ys:=[j eU.2]) aL [eU.2] eI q q q q q q nm q q) q q .none<|ah (O.ap (en:=aL) (r:=dO) (.bm q) q (.aD q) .i pt q mg)<|ar.gI (G2:=[(1,aj cF av),(2,j a2),(3,j a3),(4,.obj (ch.cells a0)),(9,aj fO bu),(11,j eU.2)]) q (cm.oG q q (.b2 q) q q q (.n q q (.n q q (.n q q (.n q q (.n q q (.n q q .nil)))))) q q)<|bR q) ?_
       obtain rfl:=ax h
       exact ai.bC (hg q q q q q q q)
      ·refine W.bO ?_
       obtain rfl:=ax h
       exact ai.bC (hg q q q q q q q)
     refine ai.bq ?_
     obtain rfl:=ax h
     exact ai.bC (hg q q q q q q q)
    refine ai.a_<|W.bp [1,2,3,4,9,10,11] (br q<|ah (O.add (.lit q) (.k q))<|ar.bp [1,2,3,4,9,10,38] q<|ar.aW) ?_
    obtain rfl:=ax h
    exact ai.go (hg q q q q q q q)
   ·refine W.dd ?_
    refine ai.dc ?_
    obtain rfl:=ax h
    exact ai.aE (.n q .nil)
  refine ai.de ?_
  refine ai.a_<|W.bM [8] (ah (O.aA (.own q))<|ar.gI (G2:=[]) q (cm.kG q q (.bm q) q .nil q q)<|bR q) ?_
  refine W.fE (G1:=[(8,aj aL bT)]) [8] (.z q q .js .nil) ?_
  refine W.rt ?_
  obtain rfl:=ax h
  exact cA (.f q q .nil)
theorem OG (a0:bZ) (av:(List State)) (r:(List jU)) (h:Ai a0 av=some r):b_ Try.prog 54 [.agg (ch.cells a0),aj cF av] [none,none] (aj hG r):=by
 unfold Ai at h
 refine b_.go (N:=⟨87,[]⟩) Try.func54 q q q q (W.fin ?_)
 refine W.st [(0,.agg (ch.cells a0)),(1,aj cF av)] ?_
 refine W.bM [1,2] (ah (O.box (.cg q q) q)<|ar.aW) ?_
 obtain ⟨aE,fp,h⟩:=aB h
 refine W.bM [1,2,5] (ah (O.dT (cs':=[aj bo a0.a',aj a8 a0.bw,aj bE a0.aY,af a0.bz,af a0.bA]) q (.obj q) gg q q)<|ah (O.aA (.aD q))<|dL (cu.go (.bX (.cg q q) (.bX (.aD q) .nil)) (OP a0 av _ fp) call71 q)<|ar.aW) ?_
 refine W.aZ [1,2,5,6] ?_
 refine W.bb<|W.aZ [1,2,5,6,7] ?_
 refine W.bq ?_
 obtain ⟨aX,ao,h⟩:=aB h
 refine W.cj (G1:=[(1,_),(2,_),(5,_),(6,ak hG ([]:List jU)),(7,_)]) (.n q (.n q (.n q (.w q q .o4 (.n q .nil))))) ?_
 refine W.e0 (s:=(([]:List jU),0)) (λ(s2:List jU × Int)=>[(1,aj cF av),(2,.obj (ch.cells a0)),(5,aj (b5 aL) aE),(6,ak hG s2.1),(7,j s2.2)]) 0 (λ(aX:List jU)=>[(6,ak hG aX)]) ao (λs2 o h=>?_) ?_
 ·clear ao
  refine W.bb<|W.aZ [1,2,5,6,7,20] ?_
  refine W.bH h q (λdK h=>?_) (λdK h=>?_)
  ·refine W.bO<|ai.a_ ?_
   refine W.bb<|W.bq ?_
   refine W.bb ?_
   obtain ⟨bu,fH,h⟩:=aB h
   obtain ⟨bl,gb,h⟩:=aB h
   refine W.rd [[],[],[],[1,2],[1,2,3],[1,2,3,4],aO 0 6 [],aO 0 7 []] [(1,_),(2,_),(5,_),(6,_),(7,_),(8,_)] e1 (by kernel_rfl) (au 0 (O.dT (cs':=[aj bo a0.a',aj a8 a0.bw,aj bE a0.aY,af a0.bz,af a0.bA]) q (.obj q) gg q q)<|au 1 (O.aA (.aD q))<|au 2 (O.aA (.lit q))<|au 3 (O.cE (.aD q) (.lit q) kV fH)<|au 4 (O.eP (.bn q) uO)<|au 5 (O.c8 (x:=aj db bu.Kernel) (.bn q) uG q)<|iM 6 (cu.go (.bX (.cg q q) (.bX (.aD q) .nil)) (OQ a0 bu.Kernel _ gb) call72 q)<|au 7 (O.dv (.aD q))<|bV.fin q q q (fC q q q q q q)) ?_
   refine ai.a_<|W.aZ [1,2,5,6,7,8,9] ?_
   refine W.bq ?_
   obtain ⟨ct,ao,h⟩:=aB h
   refine W.cj (G1:=[(1,_),(2,_),(5,_),(6,_),(7,_),(8,_),(9,_)]) (hg q q q q q q q) ?_
   refine W.e0 (s:=(s2.1,0)) (λ(cL:List jU × Int)=>[(1,aj cF av),(2,.obj (ch.cells a0)),(5,aj (b5 aL) aE),(6,ak hG cL.1),(7,j s2.2),(8,aj aL bl),(9,j cL.2)]) 2 (λ(ct:List jU)=>[(1,aj cF av),(2,.obj (ch.cells a0)),(5,aj (b5 aL) aE),(6,ak hG ct),(7,j s2.2)]) ao (λcL o h=>?_) ?_
   ·clear ao
    refine W.bb<|W.aZ [1,2,5,6,7,8,9,33] ?_
    refine W.bH h q (λft h=>?_) (λft h=>?_)
    ·refine W.bO<|ai.a_ ?_
     refine W.bb<|W.bq ?_
     obtain ⟨cO,kq,h⟩:=aB h
     refine W.bM [1,2,5,6,7,8,9,10] (br q<|ah (O.aA (.aD q))<|br q<|ah (O.cE (.aD q) (.lit q) eI kq)<|ah (O.c8 (x:=j cO) (.bn q) cz q)<|ah (O.eS (cs:=[j s2.2,j cO,.aJ]) TP MH q q q)<|ah (O.fD (cs:=[j 0,j 0,.aJ]) MH q q)<|ar.dI (G2:=[(1,_),(2,_),(5,_),(6,_),(7,_),(8,_),(9,_),(10,_)]) (cs2:=[j s2.2,j cO,.aJ]) q (.obj q) (.cg q q) q Ud q q q q (.n q q (.n q q (.n q q (.n q q (.n q q (.n q q (.n q q (.b q .nil))))))))<|bR q) ?_
     refine W.bb ?_
     obtain ⟨dR,jE,h⟩:=aB h
     obtain ⟨d',kr,h⟩:=aB h
     refine W.rd [[],[],[],[],[],[3,4],[3,4,5],aO 0 7 [],aO 0 8 []] [(1,_),(2,_),(5,_),(6,_),(7,_),(8,_),(9,_),(10,_),(11,_)] e1 (by kernel_rfl) (au 0 (O.dT (cs':=[aj bo a0.a',aj a8 a0.bw,aj bE a0.aY,af a0.bz,af a0.bA]) q (.obj q) gg q q)<|au 1 (O.aA (.aD q))<|au 2 (O.aA (.lit q))<|au 3 (O.aA (.aD q))<|au 4 (O.aA (.lit q))<|au 5 (O.cE (.aD q) (.lit q) eI jE)<|au 6 (O.c8 (x:=j dR) (.bn q) cz q)<|iM 7 (cu.go (.bX (.cg q q) (.bX (.aD q) (.bX (.lit q) (.bX (.lit q) .nil)))) (OR a0 av s2.2 dR _ kr) call73 q)<|au 8 (O.dv (.aD q))<|bV.fin q q q (ot q q q q q q q q q)) ?_
     refine ai.a_<|W.bb ?_
     refine W.aZ [1,2,5,6,7,8,9,10,11,12] ?_
     refine W.bq ?_
     obtain ⟨cn,ao,h⟩:=aB h
     refine W.cj (G1:=[(1,_),(2,_),(5,_),(6,_),(7,_),(8,_),(9,_),(10,.obj [j s2.2,j cO,aj aL ([]:List Int)]),(11,_),(12,_)]) (.n q (.n q (.n q (.n q (.n q (.n q (.n q (.w q q (kZ.obj (.f (.f (.i .nil)))) (fe q q))))))))) ?_
     refine W.e0 (s:=(([]:List Int),0)) (λ(iL:List Int × Int)=>[(1,aj cF av),(2,.obj (ch.cells a0)),(5,aj (b5 aL) aE),(6,ak hG cL.1),(7,j s2.2),(8,aj aL bl),(9,j cL.2),(10,.obj [j s2.2,j cO,aj aL iL.1]),(11,aj aL d'),(12,j iL.2)]) 4 (λ(cn:List Int)=>[(1,aj cF av),(2,.obj (ch.cells a0)),(5,aj (b5 aL) aE),(6,ak hG cL.1),(7,j s2.2),(8,aj aL bl),(9,j cL.2),(10,.obj [j s2.2,j cO,aj aL cn])]) ao (λiL o h=>?_) ?_
     ·clear ao
      refine W.bb<|W.aZ [1,2,5,6,7,8,9,10,11,12,53] ?_
      refine W.bH h q (λhJ h=>?_) (λhJ h=>?_)
      ·refine W.bO<|ai.a_ ?_
       refine W.bb<|W.bq ?_
       refine W.aZ [1,2,5,6,7,8,9,10,11,12,13] ?_
       refine W.bq ?_
       obtain ⟨eB,ao,h⟩:=aB h
       refine W.cj (G1:=[(1,_),(2,_),(5,_),(6,_),(7,_),(8,_),(9,_),(10,_),(11,_),(12,_),(13,_)]) (Hv q q q q q q q q q q q) ?_
       refine W.e0 (s:=(iL.1,0)) (λ(d_:List Int × Int)=>[(1,aj cF av),(2,.obj (ch.cells a0)),(5,aj (b5 aL) aE),(6,ak hG cL.1),(7,j s2.2),(8,aj aL bl),(9,j cL.2),(10,.obj [j s2.2,j cO,aj aL d_.1]),(11,aj aL d'),(12,j iL.2),(13,j d_.2)]) 6 (λ(eB:List Int)=>[(1,aj cF av),(2,.obj (ch.cells a0)),(5,aj (b5 aL) aE),(6,ak hG cL.1),(7,j s2.2),(8,aj aL bl),(9,j cL.2),(10,.obj [j s2.2,j cO,aj aL eB]),(11,aj aL d'),(12,j iL.2)]) ao (λd_ o h=>?_) ?_
       ·clear ao
        refine W.bb ?_
        obtain ⟨gi,nD,h⟩:=aB h
        obtain ⟨eK,mH,h⟩:=aB h
        refine W.aZ [1,2,5,6,7,8,9,10,11,12,13,65] ?_
        refine W.bH h q (λgP h=>?_) (λgP h=>?_)
        ·refine W.bO<|ai.a_ ?_
         refine W.bb<|W.bq ?_
         obtain ⟨e3,mI,h⟩:=aB h
         obtain ⟨ib,qq,h⟩:=aB h
         obtain ⟨gr,m_,h⟩:=aB h
         obtain ⟨cV,u9,h⟩:=aB h
         refine W.rd [[],[0],[],[],[],[3,4],[3,4,5],aO 2 5 [],aO 2 6 [],[],aO 2 8 [],aO 2 9 [],aO 0 12 [],aO 0 13 [],aO 0 14 []] [(1,_),(2,_),(5,_),(6,_),(7,_),(8,_),(9,_),(10,_),(11,_),(12,_),(13,_)] e1 (by kernel_rfl) (au 0 (O.bk q (.obj q) BP q)<|au 1 (O.c9 (y:=aj aL d_.1) q (.ptr q) gX q q)<|au 2 (O.aA (.aD q))<|au 3 (O.aA (.aD q))<|au 4 (O.aA (.lit q))<|au 5 (O.cE (.aD q) (.lit q) eI mI)<|au 6 (O.c8 (x:=j e3) (.bn q) cz q)<|au 7 (O.cE (.aD q) (.lit q) kU qq)<|au 8 (O.c8 (x:=aj aL ib) (.bn q) gX q)<|au 9 (O.aA (.lit q))<|au 10 (O.cE (.aD q) (.lit q) eI m_)<|au 11 (O.c8 (x:=j gr) (.bn q) cz q)<|iM 12 (cu.go (.bX (.aD q) (.bX (.lit q) .nil)) (uE d_.1 gr _ u9) call67 q)<|au 13 (O.bk q (.obj q) BP q)<|bV.dI 14 (G2:=[(1,aj cF av),(2,.obj (ch.cells a0)),(5,aj (b5 aL) aE),(6,ak hG cL.1),(7,j s2.2),(8,aj aL bl),(9,j cL.2),(10,.obj [j s2.2,j cO,aj aL cV]),(11,aj aL d'),(12,j iL.2),(13,j d_.2)]) (cs2:=[j s2.2,j cO,aj aL cV]) q (by kernel_rfl) (by kernel_rfl) q q q (.ptr q) (.aD q) q vU q q q q (.n q q (.n q q (.n q q (.n q q (.n q q (.n q q (.n q q (.b q (.n q q (.n q q (.n q q .nil)))))))))))<|bV.fin q q q (Hv q q q q q q q q q q q)) ?_
         refine ai.bq ?_
         refine ai.a_<|W.bp [1,2,5,6,7,8,9,10,11,12,13] (br q<|ah (O.add (.lit q) (.k q))<|ar.bp [1,2,5,6,7,8,9,10,11,12,67] q<|ar.aW) ?_
         obtain rfl:=ax h
         exact ai.go (Hv q q q q q q q q q q q)
        ·refine W.dd ?_
         refine ai.dc ?_
         obtain rfl:=ax h
         exact ai.aE (pc q q q q q q q q q q)
       refine ai.de ?_
       refine ai.bq ?_
       refine ai.a_<|W.bp [1,2,5,6,7,8,9,10,11,12] (br q<|ah (O.add (.lit q) (.k q))<|ar.bp [1,2,5,6,7,8,9,10,11,55] q<|ar.aW) ?_
       obtain rfl:=ax h
       exact ai.go (pc q q q q q q q q q q)
      ·refine W.dd ?_
       refine ai.dc ?_
       obtain rfl:=ax h
       exact ai.aE (mx q q q q q q q q)
     refine ai.de ?_
     refine ai.a_ ?_
     obtain ⟨ev,k8,h⟩:=aB h
     refine W.bp [1,2,5,6,7,8,9] (ah (O.aA (.own q))<|ah (O.dT (cs':=[j s2.2,j cO,aj aL cn]) q (.obj q) Nv q q)<|ar.gq (x:=aj hG [(⟨s2.2,cO,cn⟩:jU)]) (O.dF (ys:=[.agg [j s2.2,j cO,aj aL cn]]) hG [(⟨s2.2,cO,cn⟩:jU)] AK q q q q q q UO q q) q q .none<|ah (O.ap (en:=hG) (r:=ev) (.bm q) q (.aD q) .i M' q k8)<|ar.gI (G2:=[(1,aj cF av),(2,.obj (ch.cells a0)),(5,aj (b5 aL) aE),(7,j s2.2),(8,aj aL bl),(9,j cL.2)]) q (cm.oG q q (.b2 q) q q q (.n q q (.n q q (.n q q (.n q q (.n q q (.n q q .nil)))))) q q)<|bR q) ?_
     refine ai.bq ?_
     refine ai.a_<|W.bp [1,2,5,6,7,8,9] (br q<|ah (O.add (.lit q) (.k q))<|ar.bp [1,2,5,6,7,8,35] q<|ar.aW) ?_
     obtain rfl:=ax h
     exact ai.go (hg q q q q q q q)
    ·refine W.dd ?_
     refine ai.dc ?_
     obtain rfl:=ax h
     exact ai.aE (e' q q q q q)
   refine ai.de ?_
   refine ai.bq ?_
   refine ai.a_<|W.bp [1,2,5,6,7] (br q<|ah (O.add (.lit q) (.k q))<|ar.bp [1,2,5,6,22] q<|ar.aW) ?_
   obtain rfl:=ax h
   exact ai.go (e' q q q q q)
  ·refine W.dd ?_
   refine ai.dc ?_
   obtain rfl:=ax h
   exact ai.aE (.n q .nil)
 refine ai.de ?_
 refine ai.a_<|W.bM [4] (ah (O.aA (.own q))<|ar.gI (G2:=[]) q (cm.kG q q (.bm q) q .nil q q)<|bR q) ?_
 refine W.fE (G1:=[(4,aj hG aX)]) [4] (.z q q .js .nil) ?_
 refine W.rt ?_
 obtain rfl:=ax h
 exact cA (.f q q .nil)
theorem D' (a0:Source) (r:bZ × (List State) × (List Cell) × Bool) (h:tR a0=some r):b_ Try.prog 30 [.agg (dU.cells a0)] [none] (.cw [.agg (ch.cells r.1),aj cF r.2.1,aj eT r.2.2.1,ba r.2.2.2]):=by
 unfold tR at h
 refine b_.go (N:=⟨26,[]⟩) Try.func30 q q q q (W.fin ?_)
 refine W.st [(0,.agg (dU.cells a0))] ?_
 refine W.bM [1,2] (ah (O.box (.cg q q) q)<|ah (O.fD (cs:=[.aJ,.aJ,.aJ,af aC,af aC]) pe q q)<|ar.aW) ?_
 obtain ⟨aE,fp,h⟩:=aB h
 refine W.bM [2,6,7,8] (ah (O.dT (cs':=[af a0.bz,aj cM a0.Decls,aj gN a0.ea,af a0.bA]) q (.obj q) qV q q)<|dL (cu.go (.bX (.cg q q) .nil) (OE a0 _ fp) call52 q)<|ah (O.aA (.cw q q))<|ah (O.ex (y:=.agg (ch.cells aE.1)) q q q)<|ah (O.ex (y:=aj cF aE.2.1) q q q)<|ah (O.ex (y:=ba aE.2.2) q q q)<|ah (O.fD (cs:=[.aJ,.aJ,.aJ,af aC,af aC]) pe q q)<|ar.dI (G2:=[(2,_),(6,_),(13,_),(14,_)]) (cs2:=[aj bo aE.1.a',aj a8 aE.1.bw,aj bE aE.1.aY,af aE.1.bz,af aE.1.bA]) q (.obj q) (.cg q q) q nL q q q q (.n q q (.b q (.n q q (.n q q .nil))))<|ar.aW) ?_
 refine W.bb<|W.aZ [2,6,7,16] ?_
 refine W.bH h q (λcX h=>?_) (λcX h=>?_)
 ·refine W.bM [2,3,4,5] (ah (O.dT (cs':=[aj bo aE.1.a',aj a8 aE.1.bw,aj bE aE.1.aY,af aE.1.bz,af aE.1.bA]) q (.obj q) gg q q)<|ar.dI (G2:=[(2,_)]) (cs2:=[aj bo aE.1.a',aj a8 aE.1.bw,aj bE aE.1.aY,af aE.1.bz,af aE.1.bA]) q (.obj q) (.cg q q) q nL q q q q (.b q .nil)<|ar.aW) ?_
  refine W.fE (G1:=[(2,_),(3,aj cF ([]:List State)),(4,aj eT ([]:List Cell)),(5,_)]) [3,4] (.n q q (.z q q .js (.z q q .js (.n q q .nil)))) ?_
  refine W.rt ?_
  refine ai.c_ ?_
  obtain rfl:=ax h
  exact cA (.c (ys0:=[aj bo aE.1.a',aj a8 aE.1.bw,aj bE aE.1.aY,af aE.1.bz,af aE.1.bA]) q gg q q q (.f q (.f q (.f q (.f q (.f q .nil))))) (.f q q (.f q q (.f q q .nil))))
 ·refine W.bO<|ai.a_ ?_
  refine W.bb ?_
  obtain ⟨aX,hL,h⟩:=aB h
  obtain ⟨bN,mL,h⟩:=aB h
  refine W.rd [[],[],[],[],[],[],[4,5],aO 2 5 [],(0::aO 2 6 []),aO 0 9 [],aO 0 10 [],aO 0 11 []] [(2,_),(3,_),(4,_),(5,_)] e1 (by kernel_rfl) (au 0 (O.dT (cs':=[aj bo aE.1.a',aj a8 aE.1.bw,aj bE aE.1.aY,af aE.1.bz,af aE.1.bA]) q (.obj q) gg q q)<|au 1 (O.aA (.aD q))<|au 2 (O.dT (cs':=[aj bo aE.1.a',aj a8 aE.1.bw,aj bE aE.1.aY,af aE.1.bz,af aE.1.bA]) q (.obj q) gg q q)<|au 3 (O.aA (.aD q))<|au 4 (O.dT (cs':=[aj bo aE.1.a',aj a8 aE.1.bw,aj bE aE.1.aY,af aE.1.bz,af aE.1.bA]) q (.obj q) gg q q)<|au 5 (O.aA (.aD q))<|iM 6 (cu.go (.bX (.cg q q) (.bX (.aD q) .nil)) (OG aE.1 aE.2.1 _ hL) call54 q)<|iM 7 (cu.go (.bX (.cg q q) (.bX (.aD q) (.bX (.aD q) .nil))) (OF aE.1 aE.2.1 aX _ mL) call53 q)<|bV.eS 8 (G2:=[(2,.obj (ch.cells aE.1)),(7,aj cF aE.2.1),(25,aj eT bN)]) (U:=[(1,19,some (aj cF aE.2.1))]) (l1.v (cm.nZ (cm.dI (G2:=[(2,.obj (ch.cells aE.1)),(7,aj cF aE.2.1),(25,aj eT bN)]) (cs2:=[aj bo aE.1.a',aj a8 aE.1.bw,aj bE aE.1.aY,af aE.1.bz,af aE.1.bA]) q q q (.obj q) (.cg q q) q nL q q q q (.b q (.n q q (.n q q .nil)))))) q q (by kernel_rfl) q q q (.c (.inr (.inr (.inr (.inr (.inl ⟨_,_,_,q,cP.bI⟩))))) q q q q q (gv.wanted .none) (O.aA (.aD q)) .nil) (by kernel_rfl)<|au 9 (O.dv (.aD q))<|au 10 (O.dv (.aD q))<|au 11 (O.dv (.k q))<|bV.fin q q q (dA q q q q)) ?_
  refine ai.a_<|W.rt ?_
  obtain rfl:=ax h
  exact cA (.c (ys0:=[aj bo aE.1.a',aj a8 aE.1.bw,aj bE aE.1.aY,af aE.1.bz,af aE.1.bA]) q gg q q q (.f q (.f q (.f q (.f q (.f q .nil))))) (.f q q (.f q q (.f q q .nil))))
theorem yp (a0:Int) (av:Int) (r:Int) (h:sv a0 av=some r):b_ Try.prog 14 [j a0,j av] [none,none] (j r):=by
 unfold sv at h
 refine b_.go (N:=⟨15,[]⟩) Try.func14 q q q q (W.fin ?_)
 refine W.st [(0,j a0),(1,j av)] ?_
 refine W.aZ [0,1] ?_
 obtain ⟨aE,fp,h⟩:=aB h
 refine W.bM [1,5] (br q<|br q<|ah (O.rem (.lit q) (.lit q) fp)<|ar.aW) ?_
 refine W.bb<|W.aZ [1,5,10] ?_
 obtain ⟨Gc,aa,h⟩:=aB h
 refine W.bC [(5,j Gc)] ?_ ?_
 ·clear h; have h:=aa; clear aa
  refine W.bH h q (λfb h=>?_) (λfb h=>?_)
  ·refine W.bp [5] (br q<|br q<|ah (O.add (.lit q) (.lit q))<|ar.bp [13] q<|ar.aW) ?_
   obtain rfl:=ax h
   exact ai.bC (.n q .nil)
  ·refine W.bO ?_
   obtain rfl:=ax h
   exact ai.bC (.n q .nil)
 refine ai.a_<|W.aZ [4] ?_
 refine W.rt ?_
 obtain rfl:=ax h
 exact cA (.f q q .nil)
theorem OL  (r:ByteArray) (h:GV =some r):b_ Try.prog 65 [] [] (af r):=by
 unfold GV at h
 refine b_.go (N:=⟨1,[]⟩) Try.func65 q q q q (W.fin ?_)
 refine W.st [] ?_
 refine W.dv [] ?_
 refine W.aZ [0] ?_
 refine W.rt ?_
 obtain rfl:=ax h
 exact ai.fin (Fin.ro (.f q q .nil) q (oi (by kernel_rfl)) .nil q (.inr q))
theorem BE (a0:Int) (r:Sym) (h:tS a0=some r):b_ Try.prog 47 [j a0] [none] (.agg (dq.cells r)):=by
 unfold tS at h
 refine b_.go (N:=⟨11,[]⟩) Try.func47 q q q q (W.fin ?_)
 refine W.st [(0,j a0)] ?_
 refine W.bM [0,2] (ah (O.fD (cs:=[af aC,ba false,j 0,j 0]) pY q q)<|bR q) ?_
 obtain ⟨aE,fp,h⟩:=aB h
 obtain ⟨x2,ho,h⟩:=aB h
 obtain ⟨aX,hL,h⟩:=aB h
 obtain ⟨bN,mL,h⟩:=aB h
 refine W.bM [2] (dL (cu.go .nil (OL  _ fp) call65 q)<|br q<|ah (O.rem (.lit q) (.k q) ho)<|br q<|ah (O.rem (.lit q) (.k q) hL)<|ah (O.add (.lit q) (.k q))<|ah (O.xT (.lit q) (.lit q) (.lit q) j2 mL)<|ah (O.eS (cs:=[af bN,ba true,j 0,j 0]) vR pY q q q)<|ar.dI (G2:=[(2,_)]) (cs2:=[af bN,ba true,j 0,j 0]) q (.obj q) (.cg q q) q vV q q q q (.b q .nil)<|bR q) ?_
 refine W.rt ?_
 obtain rfl:=ax h
 exact cA (.c (ys0:=[af bN,ba true,j 0,j 0]) q k1 q q q (.f q (.f q (.f q (.f q .nil)))) .nil)
theorem OC (a0:(List Int)) (r:(List Decl)) (h:Ad a0=some r):b_ Try.prog 44 [aj aL a0] [none] (aj cM r):=by
 unfold Ad at h
 refine b_.go (N:=⟨59,[]⟩) Try.func44 q q q q (W.fin ?_)
 refine W.st [(0,aj aL a0)] ?_
 refine W.aZ [0] ?_
 refine W.aZ [0,3] ?_
 refine W.bb<|W.aZ [0,3,4] ?_
 refine W.bq ?_
 obtain ⟨x2,ao,h⟩:=aB h
 refine W.cj (G1:=[(0,_),(3,ak kJ ([]:List Decl)),(4,_)]) (.n q (.w q q .o4 (.n q .nil))) ?_
 refine W.e0 (s:=(([]:List Decl),0)) (λ(s1:List Decl × Int)=>[(0,aj aL a0),(3,ak kJ s1.1),(4,j s1.2)]) 0 (λ(x2:List Decl)=>[(3,ak kJ x2)]) ao (λs1 o h=>?_) ?_
 ·clear ao
  refine W.bb ?_
  obtain ⟨kk,aa,h⟩:=aB h
  refine W.rs [(0,aj aL a0),(3,ak kJ s1.1),(4,j s1.2),(14,ba kk)] ?_ ?_
  ·refine br q<|ah (O.aA (.aD q))<|ah (O.gz (.aD q) eI)<|ah (O.lss (.lit q) (.lit q))<|ah (O.aA (.lit q)) ?_
   rcases cI aa with ⟨df,aa⟩ | ⟨df,aa⟩
   ·obtain rfl:=ax aa
    exact ar.aW
   ·obtain rfl:=ax aa
    exact ar.aW
  refine W.bH h q (λdN h=>?_) (λdN h=>?_)
  ·refine W.bO<|ai.a_ ?_
   refine W.bb ?_
   obtain ⟨lQ,aa,h⟩:=aB h
   refine W.bC [(0,aj aL a0),(3,ak kJ lQ),(4,j s1.2)] ?_ ?_
   ·clear h; have h:=aa; clear aa
    refine W.bq ?_
    obtain ⟨bT,im,h⟩:=aB h
    obtain ⟨ct,iV,h⟩:=aB h
    refine W.bM [0,3,4,5] (ah (O.aA (.aD q))<|br q<|ah (O.cE (.aD q) (.lit q) eI im)<|ah (O.c8 (x:=j bT) (.bn q) cz q)<|dL (cu.go (.bX (.lit q) (.bX (.k q) .nil)) (yp bT 8 _ iV) call14 q)<|ar.aW) ?_
    refine W.bb ?_
    obtain ⟨bQ,jk,h⟩:=aB h
    refine W.bM [0,3,4,5,24] (br q<|ah (O.rem (.lit q) (.k q) jk)<|ar.aW) ?_
    refine W.bH h q (λft h=>?_) (λft h=>?_)
    ·refine W.dd ?_
     refine ai.dc ?_
     refine ai.de ?_
     obtain rfl:=ax h
     exact ai.bC (dB q q q)
    ·refine W.bO<|ai.a_ ?_
     refine W.bb<|W.aZ [0,3,4,5,6] ?_
     obtain ⟨mC,aa,h⟩:=aB h
     refine W.rs [(0,aj aL a0),(3,ak kJ s1.1),(4,j s1.2),(5,j ct),(6,j (s1.1.length:Int)),(32,ba mC)] ?_ ?_
     ·refine br q<|ah (O.gtr (.lit q) (.k q))<|ah (O.aA (.lit q)) ?_
      rcases cI aa with ⟨ew,aa⟩ | ⟨ew,aa⟩
      ·obtain rfl:=ax aa
       exact ar.aW
      ·obtain rfl:=ax aa
       exact ar.aW
     refine W.bH h q (λeE h=>?_) (λeE h=>?_)
     ·refine W.bb ?_
      obtain ⟨dt,iJ,h⟩:=aB h
      obtain ⟨cn,lq,h⟩:=aB h
      obtain ⟨b4,h8,h⟩:=aB h
      refine W.rd [[],[],[1],[],[],[4],[3,4,5],[3,4,5,6],aO 3 5 [],[],[9],[9,10],aO 3 9 [],aO 0 13 [],aO 0 14 [],aO 0 15 []] [(0,_),(3,_),(4,_)] e1 (by kernel_rfl) (au 0 (O.aA (.own q))<|au 1 (O.aA (.lit q))<|au 2 (O.sub (.lit q) (.k q))<|au 3 (O.aA (.own q))<|au 4 (O.aA (.lit q))<|au 5 (O.sub (.lit q) (.k q))<|au 6 (O.gS (en:=kJ) q (.bm q) (.lit q) sG iJ q)<|au 7 (O.j9 (en:=kJ) q (.ptr q) q5 iJ q q)<|au 8 (O.iZ (en:=kJ) (x':=.bm dq.z ⟨3,[(aM ((s1.1.length:Int) - 1)).toNat * kJ.z+2]⟩ dt.fc.length) q (.ptr q) rX iJ q q)<|au 9 (O.aA (.lit q))<|iM 10 (cu.go (.bX (.lit q) .nil) (BE s1.2 _ lq) call47 q)<|bV.gq 11 (x:=aj dq [cn]) (O.dF (ys:=[.agg (dq.cells cn)]) dq [cn] qF q q q q q q HO q q) q q q q .none<|au 12 (O.ap (en:=dq) (r:=b4) (.bm q) (qW (r:=3) (path:=[]) (o:=2) (en:=kJ) q iJ q) (.aD q) .i Ni q h8)<|au 13 (O.gS (en:=kJ) q (.bm q) (.lit q) sG iJ q)<|au 14 (O.j9 (en:=kJ) q (.ptr q) q5 iJ q q)<|bV.jI 15 (G2:=[(0,aj aL a0),(3,ak kJ (s1.1.set (aM ((s1.1.length:Int) - 1)).toNat (⟨dt.Kind,dt.Tag,dt.fc++[cn],dt.At⟩:Decl))),(4,j s1.2)]) (cm.AN (en:=kJ) (en2:=dq) (M:=[cn]) (y2:=(⟨dt.Kind,dt.Tag,dt.fc++[cn],dt.At⟩:Decl)) (x2:=ak kJ (s1.1.set (aM ((s1.1.length:Int) - 1)).toNat (⟨dt.Kind,dt.Tag,dt.fc++[cn],dt.At⟩:Decl))) (y0:=.own kJ.z s1.1.length ((cf kJ s1.1).set ((aM ((s1.1.length:Int) - 1)).toNat * kJ.z+2) .dead)) q q (.ptr q) (.b2 q) q q iJ q q .lb .gZ q q Uk q q q q q q (.n q q (.b q (.n q q .nil)))) q q q q (by kernel_rfl) (by kernel_rfl)<|bV.fin q q q (dB q q q)) ?_
      refine ai.a_<|W.dd ?_
      refine ai.dc ?_
      refine ai.de ?_
      obtain rfl:=ax h
      exact ai.bC (dB q q q)
     ·refine W.bO<|ai.a_ ?_
      obtain ⟨eJ,jL,h⟩:=aB h
      obtain ⟨fL,qo,h⟩:=aB h
      obtain ⟨eB,qp,h⟩:=aB h
      refine W.bp [0,3,4] (ah (O.aA (.own q))<|br q<|ah (O.rem (.lit q) (.k q) jL)<|ah (O.add (.k q) (.lit q))<|br q<|dL (cu.go (.bX (.lit q) .nil) (BE s1.2 _ qo) call47 q)<|ah (O.oK (ys:=[.agg (dq.cells fL)]) (cs:=[af fL.Name,ba fL.Lit,j fL.c0,j fL.At]) qF q q q q q HO q q)<|ah (O.eS (cs:=[j (aM (1+eJ)),af aC,.bm 4 ⟨54,[]⟩ 1,j 0]) L4 HF q q q)<|ah (O.oK (ys:=[.agg [j (aM (1+eJ)),af aC,.bm 4 ⟨54,[]⟩ 1,j 0]]) (cs:=[j (aM (1+eJ)),af aC,.bm 4 ⟨54,[]⟩ 1,j 0]) sG q q q q q MI q q)<|ah (O.wF (en:=kJ) (M:=[(⟨aM (1+eJ),aC,[fL],0⟩:Decl)]) (r:=eB) (.bm q) q (.own q) q q q q Ie q qp)<|ar.gI (G2:=[(0,aj aL a0),(4,j s1.2)]) q (cm.Ii (M:=[(⟨aM (1+eJ),aC,[fL],0⟩:Decl)]) q q (.b2 q) q q q (.f (.f (.l q q (.f (.f (.f (.f .nil)))) (.f .nil)))) (.f (.f (.f (.f .nil)))) q q (fe q q) q q)<|bR q) ?_
      refine ai.bq ?_
      obtain rfl:=ax h
      exact ai.bC (dB q q q)
   refine ai.a_<|W.bp [0,3,4] (br q<|ah (O.add (.lit q) (.k q))<|ar.bp [0,3,16] q<|ar.aW) ?_
   obtain rfl:=ax h
   exact ai.go (dB q q q)
  ·refine W.dd ?_
   refine ai.dc ?_
   obtain rfl:=ax h
   exact ai.aE (.n q .nil)
 refine ai.de ?_
 refine ai.a_<|W.bM [2] (ah (O.aA (.own q))<|ar.gI (G2:=[]) q (cm.kG q q (.bm q) q .nil q q)<|bR q) ?_
 refine W.fE (G1:=[(2,aj cM x2)]) [2] (.z q q .js .nil) ?_
 refine W.rt ?_
 obtain rfl:=ax h
 exact cA (.f q q .nil)
theorem IY (a0:Int) (r:ByteArray) (h:xF a0=some r):b_ Try.prog 45 [j a0] [none] (af r):=by
 unfold xF at h
 refine b_.go (N:=⟨8,[]⟩) Try.func45 q q q q (W.fin ?_)
 refine W.st [(0,j a0)] ?_
 refine W.aZ [0] ?_
 refine W.bM [2] (br q<|ah (O.add (.k q) (.lit q))<|ah (O.s9 (.lit q) vi CA)<|ar.gq (x:=aj nw [g_ (aM (97+a0))]) (O.dF (ys:=[lE (g_ (aM (97+a0)))]) nw [g_ (aM (97+a0))] Da q q q q q q HN q q) q q .none<|ah (O.Eg (.aD q) DS)<|ar.aW) ?_
 refine W.rt ?_
 obtain rfl:=ax h
 exact cA (.f q q .nil)
theorem OD (a0:Int) (av:Int) (r:Sym) (h:Ae a0 av=some r):b_ Try.prog 46 [j a0,j av] [none,none] (.agg (dq.cells r)):=by
 unfold Ae at h
 refine b_.go (N:=⟨23,[]⟩) Try.func46 q q q q (W.fin ?_)
 refine W.st [(0,j a0),(1,j av)] ?_
 refine W.bM [0,1,4] (ah (O.fD (cs:=[af aC,ba false,j 0,j 0]) pY q q)<|bR q) ?_
 obtain ⟨aE,fp,h⟩:=aB h
 refine W.bM [1,4,5] (br q<|dL (cu.go (.bX (.lit q) (.bX (.k q) .nil)) (yp a0 14 _ fp) call14 q)<|ar.aW) ?_
 refine W.bb<|W.bq ?_
 refine W.aZ [1,4,5,8] ?_
 refine W.bH h q (λcX h=>?_) (λcX h=>?_)
 ·obtain ⟨aX,hL,h⟩:=aB h
  obtain ⟨bN,mL,h⟩:=aB h
  refine W.bM [4] (br q<|br q<|ah (O.rem (.lit q) (.lit q) hL)<|dL (cu.go (.bX (.lit q) .nil) (IY aX _ mL) call45 q)<|ah (O.eS (cs:=[af bN,ba false,j 0,j 0]) vR pY q q q)<|ar.dI (G2:=[(4,_)]) (cs2:=[af bN,ba false,j 0,j 0]) q (.obj q) (.cg q q) q vV q q q q (.b q .nil)<|bR q) ?_
  refine W.rt ?_
  refine ai.ee ?_
  refine ai.c_ ?_
  obtain rfl:=ax h
  exact cA (.c (ys0:=[af bN,ba false,j 0,j 0]) q k1 q q q (.f q (.f q (.f q (.f q .nil)))) .nil)
 ·refine W.aZ [4,5,16] ?_
  refine W.bH h q (λdK h=>?_) (λdK h=>?_)
  ·refine W.bM [4] (ah (O.eS (cs:=[af ({ data:=#[101,114,114,111,114] }),ba false,j 0,j 0]) vR pY q q q)<|ar.dI (G2:=[(4,_)]) (cs2:=[af ({ data:=#[101,114,114,111,114] }),ba false,j 0,j 0]) q (.obj q) (.cg q q) q vV q q q q (.b q .nil)<|bR q) ?_
   refine W.rt ?_
   refine ai.ee ?_
   refine ai.c_ ?_
   obtain rfl:=ax h
   exact cA (.c (ys0:=[af ({ data:=#[101,114,114,111,114] }),ba false,j 0,j 0]) q k1 q q q (.f q (.f q (.f q (.f q .nil)))) .nil)
  ·refine W.bO<|ai.bq ?_
   refine ai.a_ ?_
   obtain ⟨bu,fH,h⟩:=aB h
   refine W.bM [4] (br q<|ah (O.sub (.lit q) (.k q))<|dL (cu.go (.bX (.lit q) .nil) (BE (aM (aE - 5)) _ fH) call47 q)<|ar.dI (G2:=[(4,_)]) (cs2:=[af bu.Name,ba bu.Lit,j bu.c0,j bu.At]) q (.obj q) (.cg q q) q vV q q q q (.b q .nil)<|bR q) ?_
   refine W.rt ?_
   obtain rfl:=ax h
   exact cA (.c (ys0:=[af bu.Name,ba bu.Lit,j bu.c0,j bu.At]) q k1 q q q (.f q (.f q (.f q (.f q .nil)))) .nil)
theorem Ov (a0:qL) (r:Source) (h:z' a0=some r):b_ Try.prog 20 [.agg (ht.cells a0)] [none] (.agg (dU.cells r)):=by
 unfold z' at h
 refine b_.go (N:=⟨217,[]⟩) Try.func20 q q q q (W.fin ?_)
 refine W.st [(0,.agg (ht.cells a0))] ?_
 refine W.bM [1,2] (ah (O.box (.cg q q) q)<|ah (O.fD (cs:=[af aC,.aJ,.aJ,af aC]) xY q q)<|bR q) ?_
 obtain ⟨aE,fp,h⟩:=aB h
 refine W.bM [1,2,3] (ah (O.bk q (.obj q) Jq q)<|ah (O.cB q (.ptr q) cz q)<|dL (cu.go (.bX (.lit q) (.bX (.k q) .nil)) (yp a0.bw 4 _ fp) call14 q)<|ar.aW) ?_
 obtain ⟨x2,ho,h⟩:=aB h
 refine W.bM [1,2,3,4] (ah (O.bk q (.obj q) Jr q)<|ah (O.c9 (y:=aj aL a0.nS) q (.ptr q) gX q q)<|dL (cu.go (.bX (.aD q) .nil) (OC a0.nS _ ho) call44 q)<|ah (O.eS (cs:=[af aC,aj cM x2,.aJ,af aC]) TS xY q q q)<|ah (O.fD (cs:=[af aC,.aJ,.aJ,af aC]) xY q q)<|ar.dI (G2:=[(1,_),(2,_),(3,_),(4,_)]) (cs2:=[af aC,aj cM x2,.aJ,af aC]) q (.obj q) (.cg q q) q Df q q q q (.n q q (.n q q (.n q q (.b q .nil))))<|bR q) ?_
 obtain ⟨aX,hL,h⟩:=aB h
 refine W.bM [1,2,3,4,5] (br q<|ah (O.mk (en:=bF) (z0:=false) oo (.lit q) (.lit q) HH q q hL DQ q)<|ar.gI (G2:=[(1,.obj (ht.cells a0)),(2,.obj [af aC,.aJ,.aJ,af aC]),(3,j (aM (1+aE))),(4,.obj [af aC,aj cM x2,.aJ,af aC])]) q (cm.kG q q (.own q) q (.n q q (.n q q (.n q q (.n q q .nil)))) q q)<|bR q) ?_
 refine W.bb<|W.aZ [1,2,3,4,5,6] ?_
 refine W.bq ?_
 obtain ⟨ck,ao,h⟩:=aB h
 refine W.cj (G1:=[(1,_),(2,_),(3,_),(4,.obj [af aC,aj cM x2,ak eO ([]:List fV),af aC]),(5,_),(6,_)]) (.n q (.n q (.n q (.w q q (kZ.obj (.f (.f (.o (.f .nil))))) (fe q q))))) ?_
 refine W.e0 (s:=(([]:List fV),0)) (λ(bK:List fV × Int)=>[(1,.obj (ht.cells a0)),(2,.obj [af aC,.aJ,.aJ,af aC]),(3,j (aM (1+aE))),(4,.obj [af aC,aj cM x2,ak eO bK.1,af aC]),(5,ak bF aX),(6,j bK.2)]) 0 (λ(ck:List fV)=>[(1,.obj (ht.cells a0)),(2,.obj [af aC,.aJ,.aJ,af aC]),(3,j (aM (1+aE))),(4,.obj [af aC,aj cM x2,ak eO ck,af aC]),(5,ak bF aX)]) ao (λbK o h=>?_) ?_
 ·clear ao
  refine W.bb<|W.aZ [1,2,3,4,5,6,26] ?_
  refine W.bH h q (λcU h=>?_) (λcU h=>?_)
  ·refine W.bO<|ai.a_ ?_
   refine W.bb<|W.bq ?_
   obtain ⟨bT,im,h⟩:=aB h
   obtain ⟨ct,iV,h⟩:=aB h
   refine W.rd [[],[0],[],[2],[2,3],[2,3,4],aO 0 6 [],aO 0 7 [],aO 0 8 []] [(1,_),(2,_),(3,_),(4,_),(5,_),(6,_)] e1 (by kernel_rfl) (au 0 (O.bk q (.obj q) n1 q)<|au 1 (O.c9 (y:=.bm eO.z ⟨4,[2]⟩ bK.1.length) q (.ptr q) py q q)<|au 2 (O.aA (.lit q))<|iM 3 (cu.go (.bX (.lit q) .nil) (IY bK.2 _ im) call45 q)<|au 4 (O.eS (cs:=[af bT,.aJ,j 0]) L8 A3 q q q)<|au 5 (O.oK (ys:=[.agg [af bT,.aJ,j 0]]) (cs:=[af bT,.aJ,j 0]) o_ q q q q q MN q q)<|au 6 (O.wF (en:=eO) (M:=[(⟨bT,([]:List Alt),0⟩:fV)]) (r:=ct) (.bm q) q (.own q) q q q q Nc q iV)<|au 7 (O.bk q (.obj q) n1 q)<|bV.jI 8 (G2:=[(1,.obj (ht.cells a0)),(2,.obj [af aC,.aJ,.aJ,af aC]),(3,j (aM (1+aE))),(4,.obj [af aC,aj cM x2,ak eO (bK.1++[(⟨bT,([]:List Alt),0⟩:fV)]),af aC]),(5,ak bF aX),(6,j bK.2)]) (cm.lW (g1:=_) (en:=eO) (M:=[(⟨bT,([]:List Alt),0⟩:fV)]) (cs2:=[af aC,aj cM x2,ak eO (bK.1++[(⟨bT,([]:List Alt),0⟩:fV)]),af aC]) q q (.ptr q) (.b2 q) q q q (.f (.f (.f .nil))) (.f (.o (.f .nil))) q q Mm q q q q (.n q q (.n q q (.n q q (.b q (.n q q (.n q q .nil))))))) q q q q (by kernel_rfl) (by kernel_rfl)<|bV.fin q q q (fC q q q q q q)) ?_
   refine ai.bq ?_
   refine ai.a_<|W.bp [1,2,3,4,5,6] (br q<|ah (O.add (.lit q) (.k q))<|ar.bp [1,2,3,4,5,28] q<|ar.aW) ?_
   obtain rfl:=ax h
   exact ai.go (fC q q q q q q)
  ·refine W.dd ?_
   refine ai.dc ?_
   obtain rfl:=ax h
   exact ai.aE (e' q q q q q)
 refine ai.de ?_
 refine ai.a_<|W.bb ?_
 refine W.aZ [1,2,3,4,5,7] ?_
 refine W.bq ?_
 obtain ⟨cp,ao,h⟩:=aB h
 refine W.cj (G1:=[(1,_),(2,_),(3,_),(4,_),(5,_),(7,_)]) (fC q q q q q q) ?_
 refine W.e0 (s:=(ck,aX,0)) (λ(dg:List fV × List Bool × Int)=>[(1,.obj (ht.cells a0)),(2,.obj [af aC,.aJ,.aJ,af aC]),(3,j (aM (1+aE))),(4,.obj [af aC,aj cM x2,ak eO dg.1,af aC]),(5,ak bF dg.2.1),(7,j dg.2.2)]) 2 (λ(cp:List fV × List Bool)=>[(1,.obj (ht.cells a0)),(2,.obj [af aC,.aJ,.aJ,af aC]),(3,j (aM (1+aE))),(4,.obj [af aC,aj cM x2,ak eO cp.1,af aC]),(5,ak bF cp.2)]) ao (λdg o h=>?_) ?_
 ·clear ao
  refine W.bb ?_
  obtain ⟨rR,aa,h⟩:=aB h
  refine W.rs [(1,.obj (ht.cells a0)),(2,.obj [af aC,.aJ,.aJ,af aC]),(3,j (aM (1+aE))),(4,.obj [af aC,aj cM x2,ak eO dg.1,af aC]),(5,ak bF dg.2.1),(7,j dg.2.2),(45,ba rR)] ?_ ?_
  ·refine br q<|ah (O.bk q (.obj q) yG q)<|ah (O.c9 (y:=aj (b5 aL) a0.ea) q (.ptr q) q1 q q)<|ah (O.gz (.aD q) kU)<|ah (O.lss (.lit q) (.lit q))<|ah (O.aA (.lit q)) ?_
   rcases cI aa with ⟨jB,aa⟩ | ⟨jB,aa⟩
   ·obtain rfl:=ax aa
    exact ar.aW
   ·obtain rfl:=ax aa
    exact ar.aW
  refine W.bH h q (λqe h=>?_) (λqe h=>?_)
  ·refine W.bO<|ai.a_ ?_
   refine W.bb ?_
   obtain ⟨mO,aa,h⟩:=aB h
   refine W.bC [(1,.obj (ht.cells a0)),(2,.obj [af aC,.aJ,.aJ,af aC]),(3,j (aM (1+aE))),(4,.obj [af aC,aj cM x2,ak eO mO.1,af aC]),(5,ak bF mO.2),(7,j dg.2.2)] ?_ ?_
   ·clear h; have h:=aa; clear aa
    refine W.bq<|W.bb ?_
    obtain ⟨b4,h8,h⟩:=aB h
    refine W.aZ [1,2,3,4,5,7,54] ?_
    refine W.bH h q (λhJ h=>?_) (λhJ h=>?_)
    ·refine W.dd ?_
     refine ai.dc ?_
     refine ai.de ?_
     obtain rfl:=ax h
     exact ai.bC (fC q q q q q q)
    ·refine W.bO<|ai.a_ ?_
     obtain ⟨fL,qo,h⟩:=aB h
     obtain ⟨eB,qp,h⟩:=aB h
     obtain ⟨dO,mg,h⟩:=aB h
     refine W.bM [1,2,3,4,5,7,8] (ah (O.bk q (.obj q) yG q)<|ah (O.c9 (y:=aj (b5 aL) a0.ea) q (.ptr q) q1 q q)<|br q<|ah (O.cE (.aD q) (.lit q) kU qo)<|ah (O.c8 (x:=aj aL fL) (.bn q) gX q)<|ah (O.cE (.aD q) (.k q) eI qp)<|ah (O.c8 (x:=j eB) (.bn q) cz q)<|br q<|dL (cu.go (.bX (.lit q) (.bX (.lit q) .nil)) (yp eB (aM (1+aE)) _ mg) call14 q)<|ar.aW) ?_
     refine W.bM [1,2,3,4,5,7,8,9] (ah (O.fD (cs:=[.aJ,af aC,ba false,j 0,j 0,j 0]) Dt q q)<|bR q) ?_
     refine W.aZ [1,2,3,4,5,7,8,9,10] ?_
     refine W.bb<|W.aZ [1,2,3,4,5,7,8,9,10,11] ?_
     refine W.bq ?_
     obtain ⟨eK,ao,h⟩:=aB h
     refine W.cj (G1:=[(1,_),(2,_),(3,_),(4,_),(5,_),(7,_),(8,_),(9,.obj [ak fj ([]:List Part),af aC,ba false,j 0,j 0,j 0]),(10,_),(11,_)]) (.n q (.n q (.n q (.n q (.n q (.n q (.n q (.w q q (kZ.obj (.o (.f (.f (.f (.f (.f .nil))))))) (fe q q))))))))) ?_
     refine W.e0 (s:=(([]:List Part),true,1)) (λ(fI:List Part × Bool × Int)=>[(1,.obj (ht.cells a0)),(2,.obj [af aC,.aJ,.aJ,af aC]),(3,j (aM (1+aE))),(4,.obj [af aC,aj cM x2,ak eO dg.1,af aC]),(5,ak bF dg.2.1),(7,j dg.2.2),(8,j dO),(9,.obj [ak fj fI.1,af aC,ba false,j 0,j 0,j 0]),(10,ba fI.2.1),(11,j fI.2.2)]) 4 (λ(eK:List Part × Bool)=>[(1,.obj (ht.cells a0)),(2,.obj [af aC,.aJ,.aJ,af aC]),(3,j (aM (1+aE))),(4,.obj [af aC,aj cM x2,ak eO dg.1,af aC]),(5,ak bF dg.2.1),(7,j dg.2.2),(8,j dO),(9,.obj [ak fj eK.1,af aC,ba false,j 0,j 0,j 0]),(10,ba eK.2)]) ao (λfI o h=>?_) ?_
     ·clear ao
      refine W.bb ?_
      obtain ⟨Bx,aa,h⟩:=aB h
      refine W.rs [(1,.obj (ht.cells a0)),(2,.obj [af aC,.aJ,.aJ,af aC]),(3,j (aM (1+aE))),(4,.obj [af aC,aj cM x2,ak eO dg.1,af aC]),(5,ak bF dg.2.1),(7,j dg.2.2),(8,j dO),(9,.obj [ak fj fI.1,af aC,ba false,j 0,j 0,j 0]),(10,ba fI.2.1),(11,j fI.2.2),(75,ba Bx)] ?_ ?_
      ·refine br q<|ah (O.bk q (.obj q) yG q)<|ah (O.c9 (y:=aj (b5 aL) a0.ea) q (.ptr q) q1 q q)<|ah (O.aA (.lit q)) ?_
       obtain ⟨e3,mI,aa⟩:=aB aa
       refine ah (O.cE (.aD q) (.lit q) kU mI)<|ah (O.c8 (x:=aj aL e3) (.bn q) gX q)<|ah (O.gz (.aD q) eI)<|ah (O.lss (.lit q) (.lit q))<|ah (O.aA (.lit q)) ?_
       rcases cI aa with ⟨k5,aa⟩ | ⟨k5,aa⟩
       ·obtain rfl:=ax aa
        exact ar.aW
       ·obtain rfl:=ax aa
        exact ar.aW
      refine W.bH h q (λer h=>?_) (λer h=>?_)
      ·refine W.bO<|ai.a_ ?_
       refine W.bb ?_
       obtain ⟨vj,aa,h⟩:=aB h
       refine W.bC [(1,.obj (ht.cells a0)),(2,.obj [af aC,.aJ,.aJ,af aC]),(3,j (aM (1+aE))),(4,.obj [af aC,aj cM x2,ak eO dg.1,af aC]),(5,ak bF dg.2.1),(7,j dg.2.2),(8,j dO),(9,.obj [ak fj vj.1,af aC,ba false,j 0,j 0,j 0]),(10,ba vj.2),(11,j fI.2.2)] ?_ ?_
       ·clear h; have h:=aa; clear aa
        refine W.bq ?_
        obtain ⟨ha,mJ,h⟩:=aB h
        obtain ⟨i_,mK,h⟩:=aB h
        obtain ⟨dH,sl,h⟩:=aB h
        refine W.bM [1,2,3,4,5,7,8,9,10,11,12] (ah (O.bk q (.obj q) yG q)<|ah (O.c9 (y:=aj (b5 aL) a0.ea) q (.ptr q) q1 q q)<|br q<|ah (O.cE (.aD q) (.lit q) kU mJ)<|ah (O.c8 (x:=aj aL ha) (.bn q) gX q)<|br q<|ah (O.cE (.aD q) (.lit q) eI mK)<|ah (O.c8 (x:=j i_) (.bn q) cz q)<|br q<|dL (cu.go (.bX (.lit q) (.bX (.lit q) .nil)) (OD i_ (aM (1+aE)) _ sl) call46 q)<|ah (O.fD (cs:=[af aC,ba false,j 0,j 0]) pY q q)<|ar.dI (G2:=[(1,_),(2,_),(3,_),(4,_),(5,_),(7,_),(8,_),(9,_),(10,_),(11,_),(12,_)]) (cs2:=[af dH.Name,ba dH.Lit,j dH.c0,j dH.At]) q (.obj q) (.cg q q) q vV q q q q (.n q q (.n q q (.n q q (.n q q (.n q q (.n q q (.n q q (.n q q (.n q q (.n q q (.b q .nil)))))))))))<|bR q) ?_
        obtain ⟨p6,aa,h⟩:=aB h
        refine W.rs [(1,.obj (ht.cells a0)),(2,.obj [af aC,.aJ,.aJ,af aC]),(3,j (aM (1+aE))),(4,.obj [af aC,aj cM x2,ak eO dg.1,af aC]),(5,ak bF dg.2.1),(7,j dg.2.2),(8,j dO),(9,.obj [ak fj fI.1,af aC,ba false,j 0,j 0,j 0]),(10,ba p6),(11,j fI.2.2),(12,.obj (dq.cells dH))] ?_ ?_
        ·refine br q<|ah (O.aA (.lit q)) ?_
         rcases cI aa with ⟨kp,aa⟩ | ⟨kp,aa⟩
         ·refine a1 kp (O.bk q (.obj q) uT q)<|a1 kp (O.cB q (.ptr q) nu q)<|a1 kp (O.aA (.lit q)) ?_
          rcases cI aa with ⟨fK,aa⟩ | ⟨fK,aa⟩
          ·obtain rfl:=ax aa
           exact cH fK<|cH fK<|cH fK<|a1 kp (O.eu (.lit q) fK (.k q))<|ah (O.eu (.lit q) kp (.lit q))<|ar.bp [1,2,3,4,5,7,8,9,11,12,97] q<|ar.aW
          ·obtain rfl:=ax aa
           exact a1 fK (O.bk q (.obj q) km q)<|a1 fK (O.cB q (.ptr q) eZ q)<|a1 fK (O.n0 (.lit q) (.k q))<|a1 kp (O.cC (.lit q) fK (.lit q))<|ah (O.eu (.lit q) kp (.lit q))<|ar.bp [1,2,3,4,5,7,8,9,11,12,97] q<|ar.aW
         ·obtain rfl:=ax aa
          exact cH kp<|cH kp<|cH kp<|hb<|hb<|hb<|cH kp<|ah (O.cC (.lit q) kp (.k q))<|ar.bp [1,2,3,4,5,7,8,9,11,12,97] q<|ar.aW
        obtain ⟨iD,qs,h⟩:=aB h
        refine W.bM [1,2,3,4,5,7,8,9,10,11] (ah (O.bk q (.obj q) r3 q)<|ah (O.c9 (y:=.bm fj.z ⟨9,[0]⟩ fI.1.length) q (.ptr q) wR q q)<|ah (O.dT (cs':=[af dH.Name,ba dH.Lit,j dH.c0,j dH.At]) q (.obj q) k1 q q)<|ah (O.eS (cs:=[af dH.Name,ba dH.Lit,j dH.c0,j dH.At,af aC,j 0]) vS rD q q q)<|ar.gq (x:=aj fj [(⟨dH,aC,0⟩:Part)]) (O.dF (ys:=[.agg [af dH.Name,ba dH.Lit,j dH.c0,j dH.At,af aC,j 0]]) fj [(⟨dH,aC,0⟩:Part)] sJ q q q q q q xZ q q) q q .none<|ah (O.ap (en:=fj) (r:=iD) (.bm q) q (.aD q) .i DJ q qs)<|ah (O.bk q (.obj q) r3 q)<|ar.hs (G2:=[(1,.obj (ht.cells a0)),(2,.obj [af aC,.aJ,.aJ,af aC]),(3,j (aM (1+aE))),(4,.obj [af aC,aj cM x2,ak eO dg.1,af aC]),(5,ak bF dg.2.1),(7,j dg.2.2),(8,j dO),(9,.obj [ak fj (fI.1++[(⟨dH,aC,0⟩:Part)]),af aC,ba false,j 0,j 0,j 0]),(10,ba p6),(11,j fI.2.2)]) q (cm.lW (g1:=_) (en:=fj) (M:=[(⟨dH,aC,0⟩:Part)]) (cs2:=[ak fj (fI.1++[(⟨dH,aC,0⟩:Part)]),af aC,ba false,j 0,j 0,j 0]) q q (.ptr q) (.b2 q) q q q .lb .gZ q q Hs q q q q (.n q q (.n q q (.n q q (.n q q (.n q q (.n q q (.n q q (.b q (.n q q (.n q q .nil)))))))))))<|bR q) ?_
        obtain ⟨s7,aa,h⟩:=aB h
        refine W.rs [(1,.obj (ht.cells a0)),(2,.obj [af aC,.aJ,.aJ,af aC]),(3,j (aM (1+aE))),(4,.obj [af aC,aj cM x2,ak eO dg.1,af aC]),(5,ak bF dg.2.1),(7,j dg.2.2),(8,j dO),(9,.obj [ak fj (fI.1++[(⟨dH,aC,0⟩:Part)]),af aC,ba false,j 0,j 0,j 0]),(10,ba p6),(11,j fI.2.2),(122,ba s7)] ?_ ?_
        ·refine br q<|ah (O.bk q (.obj q) yH q)<|ah (O.c9 (y:=aj aL a0.l2) q (.ptr q) gX q q)<|ah (O.gz (.aD q) eI)<|ah (O.lss (.lit q) (.lit q))<|ah (O.aA (.lit q)) ?_
         rcases cI aa with ⟨ra,aa⟩ | ⟨ra,aa⟩
         ·refine a1 ra (O.aA (.lit q))<|a1 ra (O.eql (.lit q) (.k q))<|ah (O.eu (.lit q) ra (.lit q))<|ah (O.aA (.lit q)) ?_
          rcases cI aa with ⟨jD,aa⟩ | ⟨jD,aa⟩
          ·refine a1 jD (O.bk q (.obj q) yH q)<|a1 jD (O.c9 (y:=aj aL a0.l2) q (.ptr q) gX q q)<|a1 jD (O.aA (.lit q)) ?_
           obtain ⟨hW,rl,aa⟩:=aB aa
           refine a1 jD (O.cE (.aD q) (.lit q) eI rl)<|a1 jD (O.c8 (x:=j hW) (.bn q) cz q) ?_
           obtain ⟨sP,zu,aa⟩:=aB aa
           obtain rfl:=ax aa
           exact a1 jD (O.rem (.lit q) (.k q) zu)<|ar.aW
          ·obtain rfl:=ax aa
           exact ar.aW
         ·obtain rfl:=ax aa
          exact ar.aW
        obtain ⟨Gj,aa,h⟩:=aB h
        refine W.bC [(1,.obj (ht.cells a0)),(2,.obj [af aC,.aJ,.aJ,af aC]),(3,j (aM (1+aE))),(4,.obj [af aC,aj cM x2,ak eO dg.1,af aC]),(5,ak bF dg.2.1),(7,j dg.2.2),(8,j dO),(9,.obj [ak fj Gj,af aC,ba false,j 0,j 0,j 0]),(10,ba p6),(11,j fI.2.2)] ?_ ?_
        ·clear h; have h:=aa; clear aa
         refine W.bH h q (λQT h=>?_) (λQT h=>?_)
         ·obtain ⟨AW,Sf,h⟩:=aB h
          refine W.bp [1,2,3,4,5,7,8,9,10,11] (ah (O.bk q (.obj q) r3 q)<|ah (O.c9 (y:=.bm fj.z ⟨9,[0]⟩ (fI.1++[(⟨dH,aC,0⟩:Part)]).length) q (.ptr q) wR q q)<|ah (O.eS (cs:=[af aC,ba false,j 0,j 0,af ({ data:=#[123,36,36,32,61,32,36,49,125] }),j 0]) vS rD q q q)<|ar.gq (x:=aj fj [(⟨(⟨aC,false,0,0⟩:Sym),{ data:=#[123,36,36,32,61,32,36,49,125] },0⟩:Part)]) (O.dF (ys:=[.agg [af aC,ba false,j 0,j 0,af ({ data:=#[123,36,36,32,61,32,36,49,125] }),j 0]]) fj [(⟨(⟨aC,false,0,0⟩:Sym),{ data:=#[123,36,36,32,61,32,36,49,125] },0⟩:Part)] sJ q q q q q q xZ q q) q q .none<|ah (O.ap (en:=fj) (r:=AW) (.bm q) q (.aD q) .i DJ q Sf)<|ah (O.bk q (.obj q) r3 q)<|ar.hs (G2:=[(1,.obj (ht.cells a0)),(2,.obj [af aC,.aJ,.aJ,af aC]),(3,j (aM (1+aE))),(4,.obj [af aC,aj cM x2,ak eO dg.1,af aC]),(5,ak bF dg.2.1),(7,j dg.2.2),(8,j dO),(9,.obj [ak fj ((fI.1++[(⟨dH,aC,0⟩:Part)])++[(⟨(⟨aC,false,0,0⟩:Sym),{ data:=#[123,36,36,32,61,32,36,49,125] },0⟩:Part)]),af aC,ba false,j 0,j 0,j 0]),(10,ba p6),(11,j fI.2.2)]) q (cm.lW (g1:=_) (en:=fj) (M:=[(⟨(⟨aC,false,0,0⟩:Sym),{ data:=#[123,36,36,32,61,32,36,49,125] },0⟩:Part)]) (cs2:=[ak fj ((fI.1++[(⟨dH,aC,0⟩:Part)])++[(⟨(⟨aC,false,0,0⟩:Sym),{ data:=#[123,36,36,32,61,32,36,49,125] },0⟩:Part)]),af aC,ba false,j 0,j 0,j 0]) q q (.ptr q) (.b2 q) q q q .lb .gZ q q Hs q q q q (.n q q (.n q q (.n q q (.n q q (.n q q (.n q q (.n q q (.b q (.n q q (.n q q .nil)))))))))))<|bR q) ?_
          obtain rfl:=ax h
          exact ai.bC (pc q q q q q q q q q q)
         ·refine W.bO ?_
          obtain rfl:=ax h
          exact ai.bC (pc q q q q q q q q q q)
        refine ai.bq ?_
        obtain rfl:=ax h
        exact ai.bC (pc q q q q q q q q q q)
       refine ai.a_<|W.bp [1,2,3,4,5,7,8,9,10,11] (br q<|ah (O.add (.lit q) (.k q))<|ar.bp [1,2,3,4,5,7,8,9,10,77] q<|ar.aW) ?_
       obtain rfl:=ax h
       exact ai.go (pc q q q q q q q q q q)
      ·refine W.dd ?_
       refine ai.dc ?_
       obtain rfl:=ax h
       exact ai.aE (ot q q q q q q q q q)
     refine ai.de ?_
     refine ai.a_<|W.bb ?_
     obtain ⟨yn,aa,h⟩:=aB h
     refine W.rs [(1,.obj (ht.cells a0)),(2,.obj [af aC,.aJ,.aJ,af aC]),(3,j (aM (1+aE))),(4,.obj [af aC,aj cM x2,ak eO dg.1,af aC]),(5,ak bF dg.2.1),(7,j dg.2.2),(8,j dO),(9,.obj [ak fj eK.1,af aC,ba false,j 0,j 0,j 0]),(10,ba eK.2),(142,ba yn)] ?_ ?_
     ·refine br q<|ah (O.bk q (.obj q) yH q)<|ah (O.c9 (y:=aj aL a0.l2) q (.ptr q) gX q q)<|ah (O.gz (.aD q) eI)<|ah (O.lss (.lit q) (.lit q))<|ah (O.aA (.lit q)) ?_
      rcases cI aa with ⟨uY,aa⟩ | ⟨uY,aa⟩
      ·refine a1 uY (O.bk q (.obj q) yH q)<|a1 uY (O.c9 (y:=aj aL a0.l2) q (.ptr q) gX q q)<|a1 uY (O.aA (.lit q)) ?_
       obtain ⟨ow,Sg,aa⟩:=aB aa
       refine a1 uY (O.cE (.aD q) (.lit q) eI Sg)<|a1 uY (O.c8 (x:=j ow) (.bn q) cz q) ?_
       obtain ⟨MD,Sh,aa⟩:=aB aa
       obtain rfl:=ax aa
       exact a1 uY (O.rem (.lit q) (.k q) Sh)<|ar.aW
      ·obtain rfl:=ax aa
       exact ar.aW
     obtain ⟨mn,aa,h⟩:=aB h
     refine W.bC [(1,.obj (ht.cells a0)),(2,.obj [af aC,.aJ,.aJ,af aC]),(3,j (aM (1+aE))),(4,.obj [af aC,aj cM x2,ak eO dg.1,af aC]),(5,ak bF dg.2.1),(7,j dg.2.2),(8,j dO),(9,.obj [ak fj mn,af aC,ba false,j 0,j 0,j 0]),(10,ba eK.2)] ?_ ?_
     ·clear h; have h:=aa; clear aa
      refine W.bH h q (λQW h=>?_) (λQW h=>?_)
      ·obtain ⟨xW,F1,h⟩:=aB h
       refine W.bp [1,2,3,4,5,7,8,9,10] (ah (O.bk q (.obj q) r3 q)<|ah (O.c9 (y:=.bm fj.z ⟨9,[0]⟩ eK.1.length) q (.ptr q) wR q q)<|ah (O.eS (cs:=[af aC,ba false,j 0,j 0,af ({ data:=#[123,102,40,36,36,41,125] }),j 0]) vS rD q q q)<|ar.gq (x:=aj fj [(⟨(⟨aC,false,0,0⟩:Sym),{ data:=#[123,102,40,36,36,41,125] },0⟩:Part)]) (O.dF (ys:=[.agg [af aC,ba false,j 0,j 0,af ({ data:=#[123,102,40,36,36,41,125] }),j 0]]) fj [(⟨(⟨aC,false,0,0⟩:Sym),{ data:=#[123,102,40,36,36,41,125] },0⟩:Part)] sJ q q q q q q xZ q q) q q .none<|ah (O.ap (en:=fj) (r:=xW) (.bm q) q (.aD q) .i DJ q F1)<|ah (O.bk q (.obj q) r3 q)<|ar.hs (G2:=[(1,.obj (ht.cells a0)),(2,.obj [af aC,.aJ,.aJ,af aC]),(3,j (aM (1+aE))),(4,.obj [af aC,aj cM x2,ak eO dg.1,af aC]),(5,ak bF dg.2.1),(7,j dg.2.2),(8,j dO),(9,.obj [ak fj (eK.1++[(⟨(⟨aC,false,0,0⟩:Sym),{ data:=#[123,102,40,36,36,41,125] },0⟩:Part)]),af aC,ba false,j 0,j 0,j 0]),(10,ba eK.2)]) q (cm.lW (g1:=_) (en:=fj) (M:=[(⟨(⟨aC,false,0,0⟩:Sym),{ data:=#[123,102,40,36,36,41,125] },0⟩:Part)]) (cs2:=[ak fj (eK.1++[(⟨(⟨aC,false,0,0⟩:Sym),{ data:=#[123,102,40,36,36,41,125] },0⟩:Part)]),af aC,ba false,j 0,j 0,j 0]) q q (.ptr q) (.b2 q) q q q .lb .gZ q q Hs q q q q (.n q q (.n q q (.n q q (.n q q (.n q q (.n q q (.n q q (.b q (.n q q .nil))))))))))<|bR q) ?_
       obtain rfl:=ax h
       exact ai.bC (ot q q q q q q q q q)
      ·refine W.bO ?_
       obtain rfl:=ax h
       exact ai.bC (ot q q q q q q q q q)
     refine ai.a_ ?_
     obtain ⟨wN,aa,h⟩:=aB h
     refine W.rs [(1,.obj (ht.cells a0)),(2,.obj [af aC,.aJ,.aJ,af aC]),(3,j (aM (1+aE))),(4,.obj [af aC,aj cM x2,ak eO dg.1,af aC]),(5,ak bF wN),(7,j dg.2.2),(8,j dO),(9,.obj [ak fj mn,af aC,ba false,j 0,j 0,j 0])] ?_ ?_
     ·refine ah (O.aA (.own q))<|br q<|ah (O.aA (.own q))<|ah (O.aA (.lit q)) ?_
      obtain ⟨j4,tI,aa⟩:=aB aa
      refine ah (O.gS (en:=bF) q (.bm q) (.lit q) oo tI q)<|ah (O.iZ (en:=bF) (x':=ba j4) q (.ptr q) nu tI q q)<|ah (O.aA (.lit q)) ?_
      rcases cI aa with ⟨y4,aa⟩ | ⟨y4,aa⟩
      ·obtain rfl:=ax aa
       exact cH y4<|ah (O.eu (.lit q) y4 (.k q))<|ah (O.gS (en:=bF) q (.bm q) (.lit q) oo tI q)<|ar.hs (G2:=[(1,.obj (ht.cells a0)),(2,.obj [af aC,.aJ,.aJ,af aC]),(3,j (aM (1+aE))),(4,.obj [af aC,aj cM x2,ak eO dg.1,af aC]),(5,ak bF (dg.2.1.set dO.toNat true)),(7,j dg.2.2),(8,j dO),(9,.obj [ak fj mn,af aC,ba false,j 0,j 0,j 0])]) q (cm.pb (en:=bF) (y2:=true) (cs':=[ba true]) (x2:=ak bF (dg.2.1.set dO.toNat true)) q q (.ptr q) (.lit q) q tI ud q q q q q q q (.n q q (.n q q (.n q q (.n q q (.b q (.n q q (.n q q (.n q q .nil)))))))))<|ar.aW
      ·obtain rfl:=ax aa
       exact a1 y4 (O.aA (.lit q))<|ah (O.cC (.lit q) y4 (.lit q))<|ah (O.gS (en:=bF) q (.bm q) (.lit q) oo tI q)<|ar.hs (G2:=[(1,.obj (ht.cells a0)),(2,.obj [af aC,.aJ,.aJ,af aC]),(3,j (aM (1+aE))),(4,.obj [af aC,aj cM x2,ak eO dg.1,af aC]),(5,ak bF (dg.2.1.set dO.toNat eK.2)),(7,j dg.2.2),(8,j dO),(9,.obj [ak fj mn,af aC,ba false,j 0,j 0,j 0])]) q (cm.pb (en:=bF) (y2:=eK.2) (cs':=[ba eK.2]) (x2:=ak bF (dg.2.1.set dO.toNat eK.2)) q q (.ptr q) (.lit q) q tI ud q q q q q q q (.n q q (.n q q (.n q q (.n q q (.b q (.n q q (.n q q (.n q q .nil)))))))))<|ar.aW
     refine W.fE (G1:=[(1,_),(2,_),(3,_),(4,_),(5,_),(7,_),(8,_),(9,.obj [aj fj mn,af aC,ba false,j 0,j 0,j 0])]) [9] (.n q q (.n q q (.n q q (.n q q (.n q q (.n q q (.n q q (.z q q (gu.obj (.z (.f (.f (.f (.f (.f .nil))))))) .nil)))))))) ?_
     obtain ⟨ly,pL,h⟩:=aB h
     obtain ⟨ME,Sj,h⟩:=aB h
     refine W.rd [[],[0],[],[],[3],[],[3,4,5],[3,4,5,6],aO 3 5 [],[],[9],aO 3 8 [],aO 0 12 [],aO 0 13 [],aO 0 14 []] [(1,_),(2,_),(3,_),(4,_),(5,_),(7,_)] e1 (by kernel_rfl) (au 0 (O.bk q (.obj q) n1 q)<|au 1 (O.c9 (y:=.bm eO.z ⟨4,[2]⟩ dg.1.length) q (.ptr q) py q q)<|au 2 (O.aA (.lit q))<|au 3 (O.bk q (.obj q) n1 q)<|au 4 (O.c9 (y:=.bm eO.z ⟨4,[2]⟩ dg.1.length) q (.ptr q) py q q)<|au 5 (O.aA (.lit q))<|au 6 (O.gS (en:=eO) q (.bm q) (.lit q) o_ pL q)<|au 7 (O.j9 (en:=eO) q (.ptr q) q9 pL q q)<|au 8 (O.iZ (en:=eO) (x':=.bm dY.z ⟨4,[2,dO.toNat * eO.z+1]⟩ ly.fM.length) q (.ptr q) uI pL q q)<|au 9 (O.dT (cs':=[aj fj mn,af aC,ba false,j 0,j 0,j 0]) q (.obj q) DM q q)<|bV.gq 10 (x:=aj dY [(⟨mn,(⟨aC,false,0,0⟩:Sym),0⟩:Alt)]) (O.dF (ys:=[.agg [aj fj mn,af aC,ba false,j 0,j 0,j 0]]) dY [(⟨mn,(⟨aC,false,0,0⟩:Sym),0⟩:Alt)] uc q q q q q q Dv q q) q q q q .none<|au 11 (O.ap (en:=dY) (r:=ME) (.bm q) (qW (r:=4) (path:=[2]) (o:=1) (en:=eO) q pL q) (.aD q) .i DK q Sj)<|au 12 (O.gS (en:=eO) q (.bm q) (.lit q) o_ pL q)<|au 13 (O.j9 (en:=eO) q (.ptr q) q9 pL q q)<|bV.jI 14 (G2:=[(1,.obj (ht.cells a0)),(2,.obj [af aC,.aJ,.aJ,af aC]),(3,j (aM (1+aE))),(4,.obj [af aC,aj cM x2,ak eO (dg.1.set dO.toNat (⟨ly.Left,ly.fM++[(⟨mn,(⟨aC,false,0,0⟩:Sym),0⟩:Alt)],ly.At⟩:fV)),af aC]),(5,ak bF wN),(7,j dg.2.2)]) (cm.AN (en:=eO) (en2:=dY) (M:=[(⟨mn,(⟨aC,false,0,0⟩:Sym),0⟩:Alt)]) (y2:=(⟨ly.Left,ly.fM++[(⟨mn,(⟨aC,false,0,0⟩:Sym),0⟩:Alt)],ly.At⟩:fV)) (x2:=.obj [af aC,aj cM x2,ak eO (dg.1.set dO.toNat (⟨ly.Left,ly.fM++[(⟨mn,(⟨aC,false,0,0⟩:Sym),0⟩:Alt)],ly.At⟩:fV)),af aC]) (y0:=.obj [af aC,aj cM x2,.own eO.z dg.1.length ((cf eO dg.1).set (dO.toNat * eO.z+1) .dead),af aC]) q q (.ptr q) (.b2 q) q q pL q q .lb .gZ q q Ht q q q q q q (.n q q (.n q q (.n q q (.b q (.n q q (.n q q .nil))))))) q q q q (by kernel_rfl) (by kernel_rfl)<|bV.fin q q q (fC q q q q q q)) ?_
     refine ai.bq ?_
     obtain rfl:=ax h
     exact ai.bC (fC q q q q q q)
   refine ai.a_<|W.bp [1,2,3,4,5,7] (br q<|ah (O.add (.lit q) (.k q))<|ar.bp [1,2,3,4,5,47] q<|ar.aW) ?_
   obtain rfl:=ax h
   exact ai.go (fC q q q q q q)
  ·refine W.dd ?_
   refine ai.dc ?_
   obtain rfl:=ax h
   exact ai.aE (e' q q q q q)
 refine ai.de ?_
 refine ai.a_<|W.bb ?_
 refine W.aZ [1,2,3,4,5,13] ?_
 refine W.bq ?_
 obtain ⟨rC,ao,h⟩:=aB h
 refine W.cj (G1:=[(1,_),(2,_),(3,_),(4,_),(5,_),(13,_)]) (fC q q q q q q) ?_
 refine W.e0 (s:=(cp.1,0)) (λ(h2:List fV × Int)=>[(1,.obj (ht.cells a0)),(2,.obj [af aC,.aJ,.aJ,af aC]),(3,j (aM (1+aE))),(4,.obj [af aC,aj cM x2,ak eO h2.1,af aC]),(5,ak bF cp.2),(13,j h2.2)]) 6 (λ(rC:List fV)=>[(2,.obj [af aC,.aJ,.aJ,af aC]),(4,.obj [af aC,aj cM x2,ak eO rC,af aC])]) ao (λh2 o h=>?_) ?_
 ·clear ao
  refine W.bb<|W.aZ [1,2,3,4,5,13,175] ?_
  refine W.bH h q (λQY h=>?_) (λQY h=>?_)
  ·refine W.bO<|ai.a_ ?_
   refine W.bb ?_
   obtain ⟨Gm,aa,h⟩:=aB h
   refine W.bC [(1,.obj (ht.cells a0)),(2,.obj [af aC,.aJ,.aJ,af aC]),(3,j (aM (1+aE))),(4,.obj [af aC,aj cM x2,ak eO Gm,af aC]),(5,ak bF cp.2),(13,j h2.2)] ?_ ?_
   ·clear h; have h:=aa; clear aa
    refine W.bq ?_
    obtain ⟨D0,aa,h⟩:=aB h
    refine W.rs [(1,.obj (ht.cells a0)),(2,.obj [af aC,.aJ,.aJ,af aC]),(3,j (aM (1+aE))),(4,.obj [af aC,aj cM x2,ak eO h2.1,af aC]),(5,ak bF cp.2),(13,j h2.2),(197,ba D0)] ?_ ?_
    ·refine ah (O.bk q (.obj q) n1 q)<|ah (O.c9 (y:=.bm eO.z ⟨4,[2]⟩ h2.1.length) q (.ptr q) py q q)<|ah (O.aA (.lit q)) ?_
     obtain ⟨uf,zv,aa⟩:=aB aa
     refine ah (O.gS (en:=eO) q (.bm q) (.lit q) o_ zv q)<|ah (O.j9 (en:=eO) q (.ptr q) q9 zv q q)<|ah (O.iZ (en:=eO) (x':=.bm dY.z ⟨4,[2,h2.2.toNat * eO.z+1]⟩ uf.fM.length) q (.ptr q) uI zv q q)<|ah (O.o2 (.bm q) uc)<|ah (O.eql (.lit q) (.k q))<|ah (O.aA (.lit q)) ?_
     rcases cI aa with ⟨r',aa⟩ | ⟨r',aa⟩
     ·obtain rfl:=ax aa
      exact ar.aW
     ·refine a1 r' (O.aA (.own q))<|a1 r' (O.aA (.lit q)) ?_
      obtain ⟨HC,K0,aa⟩:=aB aa
      refine a1 r' (O.gS (en:=bF) q (.bm q) (.lit q) oo K0 q)<|a1 r' (O.iZ (en:=bF) (x':=ba HC) q (.ptr q) nu K0 q q)<|a1 r' (O.not (.lit q))<|a1 r' (O.aA (.lit q)) ?_
      rcases cI aa with ⟨sa,aa⟩ | ⟨sa,aa⟩
      ·obtain rfl:=ax aa
       exact a1 sa (O.bk q (.obj q) Js q)<|a1 sa (O.cB q (.ptr q) nu q)<|a1 sa (O.not (.lit q))<|a1 r' (O.eu (.lit q) sa (.lit q))<|ar.aW
      ·obtain rfl:=ax aa
       exact cH sa<|cH sa<|cH sa<|a1 r' (O.cC (.lit q) sa (.k q))<|ar.aW
    obtain ⟨Gn,aa,h⟩:=aB h
    refine W.bC [(1,.obj (ht.cells a0)),(2,.obj [af aC,.aJ,.aJ,af aC]),(3,j (aM (1+aE))),(4,.obj [af aC,aj cM x2,ak eO Gn,af aC]),(5,ak bF cp.2),(13,j h2.2)] ?_ ?_
    ·clear h; have h:=aa; clear aa
     refine W.bH h q (λQ1 h=>?_) (λQ1 h=>?_)
     ·obtain ⟨kc,vc,h⟩:=aB h
      obtain ⟨kd,Sm,h⟩:=aB h
      obtain ⟨AY,K1,h⟩:=aB h
      refine W.rd [[],[0],[],[],[3],[],[3,4,5],[3,4,5,6],aO 3 5 [],[],[9],[9,10],[9,10,11],[9,10,11,12],aO 9 5 [],aO 3 12 [],aO 0 16 [],aO 0 17 [],aO 0 18 []] [(1,_),(2,_),(3,_),(4,_),(5,_),(13,_)] e1 (by kernel_rfl) (au 0 (O.bk q (.obj q) n1 q)<|au 1 (O.c9 (y:=.bm eO.z ⟨4,[2]⟩ h2.1.length) q (.ptr q) py q q)<|au 2 (O.aA (.lit q))<|au 3 (O.bk q (.obj q) n1 q)<|au 4 (O.c9 (y:=.bm eO.z ⟨4,[2]⟩ h2.1.length) q (.ptr q) py q q)<|au 5 (O.aA (.lit q))<|au 6 (O.gS (en:=eO) q (.bm q) (.lit q) o_ vc q)<|au 7 (O.j9 (en:=eO) q (.ptr q) q9 vc q q)<|au 8 (O.iZ (en:=eO) (x':=.bm dY.z ⟨4,[2,h2.2.toNat * eO.z+1]⟩ kc.fM.length) q (.ptr q) uI vc q q)<|au 9 (O.aA (.lit q))<|iM 10 (cu.go (.bX (.lit q) .nil) (BE h2.2 _ Sm) call47 q)<|au 11 (O.eS (cs:=[af kd.Name,ba kd.Lit,j kd.c0,j kd.At,af aC,j 0]) vS rD q q q)<|bV.gq 12 (x:=aj fj [(⟨kd,aC,0⟩:Part)]) (O.dF (ys:=[.agg [af kd.Name,ba kd.Lit,j kd.c0,j kd.At,af aC,j 0]]) fj [(⟨kd,aC,0⟩:Part)] sJ q q q q q q xZ q q) q q q q .none<|au 13 (O.eS (cs:=[aj fj [(⟨kd,aC,0⟩:Part)],af aC,ba false,j 0,j 0,j 0]) Hh Dt q q q)<|bV.gq 14 (x:=aj dY [(⟨[(⟨kd,aC,0⟩:Part)],(⟨aC,false,0,0⟩:Sym),0⟩:Alt)]) (O.dF (ys:=[.agg [aj fj [(⟨kd,aC,0⟩:Part)],af aC,ba false,j 0,j 0,j 0]]) dY [(⟨[(⟨kd,aC,0⟩:Part)],(⟨aC,false,0,0⟩:Sym),0⟩:Alt)] uc q q q q q q Dv q q) q q q q .none<|au 15 (O.ap (en:=dY) (r:=AY) (.bm q) (qW (r:=4) (path:=[2]) (o:=1) (en:=eO) q vc q) (.aD q) .i DK q K1)<|au 16 (O.gS (en:=eO) q (.bm q) (.lit q) o_ vc q)<|au 17 (O.j9 (en:=eO) q (.ptr q) q9 vc q q)<|bV.jI 18 (G2:=[(1,.obj (ht.cells a0)),(2,.obj [af aC,.aJ,.aJ,af aC]),(3,j (aM (1+aE))),(4,.obj [af aC,aj cM x2,ak eO (h2.1.set h2.2.toNat (⟨kc.Left,kc.fM++[(⟨[(⟨kd,aC,0⟩:Part)],(⟨aC,false,0,0⟩:Sym),0⟩:Alt)],kc.At⟩:fV)),af aC]),(5,ak bF cp.2),(13,j h2.2)]) (cm.AN (en:=eO) (en2:=dY) (M:=[(⟨[(⟨kd,aC,0⟩:Part)],(⟨aC,false,0,0⟩:Sym),0⟩:Alt)]) (y2:=(⟨kc.Left,kc.fM++[(⟨[(⟨kd,aC,0⟩:Part)],(⟨aC,false,0,0⟩:Sym),0⟩:Alt)],kc.At⟩:fV)) (x2:=.obj [af aC,aj cM x2,ak eO (h2.1.set h2.2.toNat (⟨kc.Left,kc.fM++[(⟨[(⟨kd,aC,0⟩:Part)],(⟨aC,false,0,0⟩:Sym),0⟩:Alt)],kc.At⟩:fV)),af aC]) (y0:=.obj [af aC,aj cM x2,.own eO.z h2.1.length ((cf eO h2.1).set (h2.2.toNat * eO.z+1) .dead),af aC]) q q (.ptr q) (.b2 q) q q vc q q .lb .gZ q q Ht q q q q q q (.n q q (.n q q (.n q q (.b q (.n q q (.n q q .nil))))))) q q q q (by kernel_rfl) (by kernel_rfl)<|bV.fin q q q (fC q q q q q q)) ?_
      obtain rfl:=ax h
      exact ai.bC (fC q q q q q q)
     ·refine W.bO ?_
      obtain rfl:=ax h
      exact ai.bC (fC q q q q q q)
    refine ai.bq ?_
    obtain rfl:=ax h
    exact ai.bC (fC q q q q q q)
   refine ai.a_<|W.bp [1,2,3,4,5,13] (br q<|ah (O.add (.lit q) (.k q))<|ar.bp [1,2,3,4,5,177] q<|ar.aW) ?_
   obtain rfl:=ax h
   exact ai.go (fC q q q q q q)
  ·refine W.dd ?_
   refine ai.dc ?_
   obtain rfl:=ax h
   exact ai.aE (fe q q)
 refine ai.de ?_
 refine ai.a_<|W.bb ?_
 refine W.fE (G1:=[(2,_),(4,.obj [af aC,aj cM x2,aj gN rC,af aC])]) [4] (.n q q (.z q q (gu.obj (.f (.f (.z (.f .nil))))) .nil)) ?_
 refine W.bp [2] (ah (O.dT (cs':=[af aC,aj cM x2,aj gN rC,af aC]) q (.obj q) qV q q)<|ar.dI (G2:=[(2,_)]) (cs2:=[af aC,aj cM x2,aj gN rC,af aC]) q (.obj q) (.cg q q) q Df q q q q (.b q .nil)<|bR q) ?_
 refine ai.a_<|W.rt ?_
 obtain rfl:=ax h
 exact cA (.c (ys0:=[af aC,aj cM x2,aj gN rC,af aC]) q qV q q q (.f q (.f q (.f q (.f q .nil)))) .nil)
theorem Oi (a0:Int) (av:Int) (r:Int × Int) (h:GO a0 av=some r):b_ Try.prog 109 [.lit (.int .u64 a0),.lit (.int .u64 av)] [none,none] (.cw [.lit (.int .u64 r.1),.lit (.int .u64 r.2)]):=by
 unfold GO at h
 refine b_.go (N:=⟨51,[]⟩) Try.func109 q q q q (W.fin ?_)
 refine W.st [(0,.lit (.int .u64 a0)),(1,.lit (.int .u64 av))] ?_
 refine W.aZ [0,1] ?_
 refine W.bM [0,1,6] (br q<|ah (O.and' (.lit q) (.k q))<|ar.aW) ?_
 refine W.bM [0,1,6,7] (br q<|ah (O.shr (.lit q) (.k q) q)<|ar.aW) ?_
 refine W.bM [0,1,6,7,8] (br q<|ah (O.and' (.lit q) (.k q))<|ar.aW) ?_
 refine W.bM [0,1,6,7,8,9] (br q<|ah (O.shr (.lit q) (.k q) q)<|ar.aW) ?_
 refine W.bM [0,1,6,7,8,9,10] (br q<|br q<|ah (O.mul (.lit q) (.lit q))<|ar.aW) ?_
 refine W.bM [0,1,6,7,9,11] (br q<|br q<|ah (O.mul (.lit q) (.lit q))<|br q<|ah (O.shr (.lit q) (.k q) q)<|ar.aW) ?_
 refine W.bM [0,1,6,7,9,11,12] (br q<|ah (O.and' (.lit q) (.k q))<|ar.aW) ?_
 refine W.bM [0,1,6,7,9,12,13] (br q<|ah (O.shr (.lit q) (.k q) q)<|ar.aW) ?_
 refine W.bM [0,1,7,9,12,13] (br q<|br q<|br q<|ah (O.mul (.lit q) (.lit q))<|ah (O.add (.lit q) (.lit q))<|ar.bp [0,1,7,9,13,39] q<|ar.aW) ?_
 refine W.bM [0,1,4] (br q<|br q<|ah (O.mul (.lit q) (.lit q))<|br q<|ah (O.add (.lit q) (.lit q))<|br q<|ah (O.shr (.lit q) (.k q) q)<|ar.aW) ?_
 refine W.bM [4,5] (br q<|br q<|ah (O.mul (.lit q) (.lit q))<|ar.aW) ?_
 refine W.rt ?_
 obtain rfl:=ax h
 exact cA (.f q q (.f q q .nil))
theorem O1 (a0:Int) (av:Int) (r:Int × Int) (h:GY a0 av=some r):b_ Try.prog 90 [.lit (.int .u64 a0),.lit (.int .u64 av)] [none,none] (.cw [.lit (.int .u64 r.1),.lit (.int .u64 r.2)]):=by
 unfold GY at h
 refine b_.go (N:=⟨30,[]⟩) Try.func90 q q q q (W.fin ?_)
 refine W.st [(0,.lit (.int .u64 a0)),(1,.lit (.int .u64 av))] ?_
 refine W.aZ [0,1] ?_
 refine W.bb<|W.N_ ?_
 refine W.bO<|ai.a_ ?_
 obtain ⟨aE,fp,h⟩:=aB h
 refine W.bM [8,9] (br q<|br q<|dL (cu.go (.bX (.lit q) (.bX (.lit q) .nil)) (Oi a0 av _ fp) call109 q)<|ah (O.aA (.vX q q))<|ah (O.ex (y:=.lit (.int .u64 aE.1)) q q q)<|ah (O.ex (y:=.lit (.int .u64 aE.2)) q q q)<|ar.aW) ?_
 refine W.aZ [4,5] ?_
 refine W.rt ?_
 obtain rfl:=ax h
 exact cA (.f q q (.f q q .nil))
theorem OS (a0:(List Int)) (av:Int) (r:(List Int)) (h:CY a0 av=some r):b_ Try.prog 74 [aj aL a0,j av] [none,none] (ak aL r):=by
 unfold CY at h
 refine b_.go (N:=⟨48,[]⟩) Try.func74 q q q q (W.fin ?_)
 refine W.st [(0,aj aL a0),(1,j av)] ?_
 refine W.aZ [0,1] ?_
 refine W.bb<|W.aZ [0,1,10] ?_
 refine W.bH h q (λds h=>?_) (λds h=>?_)
 ·cases h
 ·refine W.bO<|ai.a_ ?_
  obtain ⟨x2,ho,h⟩:=aB h
  refine W.bM [0,5,6] (ah (O.aA (.aD q))<|ah (O.gz (.aD q) eI)<|ah (O.s9 (.lit q) vi Gb)<|br q<|ah (O.s9 (.lit q) vi Gb)<|dL (cu.go (.bX (.lit q) (.bX (.lit q) .nil)) (O1 (IntKind.u64.wrap (a0.length:Int)) (IntKind.u64.wrap av) _ ho) call90 q)<|ah (O.aA (.vX q q))<|ah (O.ex (y:=.lit (.int .u64 x2.1)) q q q)<|ah (O.ex (y:=.lit (.int .u64 x2.2)) q q q)<|ar.aW) ?_
  refine W.bb ?_
  obtain ⟨c4,aa,h⟩:=aB h
  refine W.rs [(0,aj aL a0),(6,.lit (.int .u64 x2.2)),(26,ba c4)] ?_ ?_
  ·refine br q<|ah (O.gtr (.lit q) (.k q))<|ah (O.aA (.lit q)) ?_
   rcases cI aa with ⟨fb,aa⟩ | ⟨fb,aa⟩
   ·obtain rfl:=ax aa
    exact ar.aW
   ·obtain rfl:=ax aa
    exact ar.aW
  refine W.bH h q (λdK h=>?_) (λdK h=>?_)
  ·cases h
  ·refine W.bO<|ai.a_ ?_
   obtain ⟨bu,fH,h⟩:=aB h
   refine W.bM [0,7] (br q<|ah (O.s9 (.lit q) Gb vi)<|ah (O.mk (en:=aL) (z0:=0) eI (.lit q) (.lit q) UN q q fH NI q)<|ar.gI (G2:=[(0,aj aL a0)]) q (cm.kG q q (.own q) q (.n q q .nil) q q)<|bR q) ?_
   obtain ⟨bl,gb,h⟩:=aB h
   refine W.bM [7,8] (ah (O.aA (.own q))<|ah (O.aA (.aD q))<|ar.hs (G2:=(33,j ((min a0.length bu.length:Nat):Int))::[(7,ak aL bl)]) q (cm.b6 (en:=aL) (L:=bu) (S:=a0) (L':=bl) (lo:=0) (nd:=bu.length) (r:=7) (G2:=[(7,ak aL bl)]) q q (Rd.bL (.bm q)) (.inr ⟨q,q⟩) (Rd.bL (.aD q)) DC.aD q q eI gb q (.b q .nil) q q)<|ar.aW) ?_
   refine W.bb<|W.bq ?_
   obtain ⟨ct,ao,h⟩:=aB h
   refine W.cj (G1:=[(7,_),(8,_)]) (fe q q) ?_
   refine W.e0 (s:=(bl,((min a0.length bu.length:Nat):Int))) (λ(cL:List Int × Int)=>[(7,ak aL cL.1),(8,j cL.2)]) 0 (λ(ct:List Int)=>[(7,ak aL ct)]) ao (λcL o h=>?_) ?_
   ·clear ao
    refine W.bb<|W.aZ [7,8,37] ?_
    refine W.bH h q (λft h=>?_) (λft h=>?_)
    ·refine W.bO<|ai.a_ ?_
     refine W.bq<|W.cj (G1:=[(7,_),(8,_)]) (fe q q) ?_
     obtain ⟨cO,kq,h⟩:=aB h
     obtain ⟨dR,jE,h⟩:=aB h
     obtain ⟨d',kr,h⟩:=aB h
     refine W.rd [[],[],[],[1,2],[],[],[4,5],aO 1 6 [],aO 0 8 [],aO 0 9 []] [(7,_),(8,_)] e1 (by kernel_rfl) (au 0 (O.aA (.lit q))<|au 1 (O.aA (.own q))<|au 2 (O.aA (.lit q))<|au 3 (O.Hl (en:=aL) (L:=cL.1) (.bm q) (.lit q) q eI kq)<|au 4 (O.aA (.own q))<|au 5 (O.aA (.lit q))<|au 6 (O.T0 (en:=aL) (L:=cL.1) (.bm q) (.lit q) q eI jE)<|bV.eS 7 (G2:=(45,j ((min (cL.1.take cL.2.toNat).length (cL.1.length - cL.2.toNat):Nat):Int))::[(7,ak aL d'),(8,j cL.2)]) (U:=[(0,38,some (j cL.2))]) (l1.v (cm.nZ (cm.b6 (en:=aL) (L:=cL.1) (S:=(cL.1.take cL.2.toNat)) (L':=d') (lo:=cL.2.toNat) (nd:=(cL.1.length - cL.2.toNat)) (r:=7) (G2:=[(7,ak aL d'),(8,j cL.2)]) q q (Rd.bL (.sub q)) (.inl q) (Rd.bL (.bm q)) (DC.bm (en:=aL) (L:=cL.1) q (SP jE)) q q eI kr q (.b q (.n q q .nil)) q q))) q q (by kernel_rfl) q q q (.c (.inr (.inl ⟨_,q⟩)) q q q q q (gv.wanted .none) (O.aA (.lit q)) .nil) (by kernel_rfl)<|au 8 (O.add (.lit q) (.lit q))<|bV.bv 9 (G2:=[(7,ak aL d')]) (cm.Bj (y':=j (aM (cL.2+((min (cL.1.take cL.2.toNat).length (cL.1.length - cL.2.toNat):Nat):Int)))) q q (.lit q) (.f .nil) .refl (.n q .nil) q q) q q q q (by kernel_rfl) (by kernel_rfl)<|bV.fin q q q (fe q q)) ?_
     refine ai.bq ?_
     obtain rfl:=ax h
     exact ai.go (fe q q)
    ·refine W.dd ?_
     refine ai.dc ?_
     obtain rfl:=ax h
     exact ai.aE (.n q .nil)
   refine ai.de ?_
   refine ai.a_<|W.bM [4] (ah (O.aA (.own q))<|ar.gI (G2:=[]) q (cm.kG q q (.bm q) q .nil q q)<|bR q) ?_
   refine W.rt ?_
   obtain rfl:=ax h
   exact cA (.o q .nil)
theorem OH (a0:bZ) (av:(List State)) (r:jG) (h:Aj a0 av=some r):b_ Try.prog 55 [.agg (ch.cells a0),aj cF av] [none,none] (.agg [ak (fa dM) r.eV,ak (b5 aL) r.dG]):=by
 unfold Aj at h
 refine b_.go (N:=⟨57,[]⟩) Try.func55 q q q q (W.fin ?_)
 refine W.st [(0,.agg (ch.cells a0)),(1,aj cF av)] ?_
 refine W.bM [1,2,4] (ah (O.box (.cg q q) q)<|ah (O.fD (cs:=[.aJ,.aJ]) v_ q q)<|bR q) ?_
 refine W.bM [1,2,4,5] (ah (O.fD (cs:=[.aJ,.aJ]) v_ q q)<|bR q) ?_
 refine W.bb<|W.bM [2,4,5,11,12,13] (ah (O.aA (.aD q))<|ah (O.gz (.aD q) kV)<|ah (O.aA (.k q))<|bR q) ?_
 refine W.bq ?_
 obtain ⟨x2,ao,h⟩:=aB h
 refine W.cj (G1:=[(2,_),(4,_),(5,.obj [ak (fa dM) ([]:List (List Act)),ak (b5 aL) ([]:List (List Int))]),(11,_),(12,_),(13,_)]) (.n q (.n q (.w q q (kZ.obj (.o (.o .nil))) (dB q q q)))) ?_
 refine W.e0 (s:=(([]:List (List Act)),([]:List (List Int)),0)) (λ(s1:List (List Act) × List (List Int) × Int)=>[(2,.obj (ch.cells a0)),(4,.obj [.aJ,.aJ]),(5,.obj [ak (fa dM) s1.1,ak (b5 aL) s1.2.1]),(11,aj cF av),(12,j (av.length:Int)),(13,j s1.2.2)]) 0 (λ(x2:List (List Act) × List (List Int))=>[(4,.obj [.aJ,.aJ]),(5,.obj [ak (fa dM) x2.1,ak (b5 aL) x2.2])]) ao (λs1 o h=>?_) ?_
 ·clear ao
  refine W.aZ [2,4,5,11,12,13,14] ?_
  refine W.bb<|W.bH h q (λdf h=>?_) (λdf h=>?_)
  ·refine W.bO<|ai.a_ ?_
   refine W.bb<|W.bq ?_
   obtain ⟨ck,kQ,h⟩:=aB h
   refine W.bM [2,4,5,7,11,12,13] (ah (O.cE (.aD q) (.lit q) kV kQ)<|ah (O.jn (cs':=[aj db ck.Kernel,aj ie ck.di]) (.bn q) Nu q q)<|ah (O.fD (cs:=[.aJ,.aJ]) HG q q)<|ar.dI (G2:=[(2,_),(4,_),(5,_),(7,_),(11,_),(12,_),(13,_)]) (cs2:=[aj db ck.Kernel,aj ie ck.di]) q (.obj q) (.cg q q) q Ub q q q q (.n q q (.n q q (.n q q (.b q (.n q q (.n q q (.n q q .nil)))))))<|bR q) ?_
   obtain ⟨bu,fH,h⟩:=aB h
   refine W.bM [2,4,5,7,8,11,12,13] (ar.gq (x:=aj aL [(-1)]) (O.dF (ys:=[j (-1)]) aL [(-1)] eI q q q q q q nm q q) q q .none<|ah (O.bk q (.obj q) r2 q)<|ah (O.c9 (y:=aj a8 a0.bw) q (.ptr q) rW q q)<|ah (O.gz (.aD q) ry)<|dL (cu.go (.bX (.aD q) (.bX (.lit q) .nil)) (OS [(-1)] (a0.bw.length:Int) _ fH) call74 q)<|ar.gI (G2:=[(2,.obj (ch.cells a0)),(4,.obj [.aJ,.aJ]),(5,.obj [ak (fa dM) s1.1,ak (b5 aL) s1.2.1]),(7,.obj [aj db ck.Kernel,aj ie ck.di]),(11,aj cF av),(12,j (av.length:Int)),(13,j s1.2.2)]) q (cm.kG q q (.own q) q (.n q q (.n q q (.n q q (.n q q (.n q q (.n q q (.n q q .nil))))))) q q)<|bR q) ?_
   refine W.bb<|W.bM [2,4,5,8,11,12,13,23,24,25] (ah (O.bk q (.obj q) r1 q)<|ah (O.c9 (y:=aj ie ck.di) q (.ptr q) uH q q)<|ah (O.gz (.aD q) sF)<|ah (O.aA (.k q))<|bR q) ?_
   refine W.bq ?_
   obtain ⟨bT,ao,h⟩:=aB h
   refine W.cj (G1:=[(2,_),(4,_),(5,_),(8,_),(11,_),(12,_),(13,_),(23,_),(24,_),(25,_)]) (pc q q q q q q q q q q) ?_
   refine W.e0 (s:=(bu,0)) (λ(eU:List Int × Int)=>[(2,.obj (ch.cells a0)),(4,.obj [.aJ,.aJ]),(5,.obj [ak (fa dM) s1.1,ak (b5 aL) s1.2.1]),(8,ak aL eU.1),(11,aj cF av),(12,j (av.length:Int)),(13,j s1.2.2),(23,aj ie ck.di),(24,j (ck.di.length:Int)),(25,j eU.2)]) 2 (λ(bT:List Int)=>[(2,.obj (ch.cells a0)),(4,.obj [.aJ,.aJ]),(5,.obj [ak (fa dM) s1.1,ak (b5 aL) s1.2.1]),(8,ak aL bT),(11,aj cF av),(12,j (av.length:Int)),(13,j s1.2.2)]) ao (λeU o h=>?_) ?_
   ·clear ao
    refine W.aZ [2,4,5,8,11,12,13,23,24,25,26] ?_
    refine W.bb<|W.bH h q (λeG h=>?_) (λeG h=>?_)
    ·refine W.bO<|ai.a_ ?_
     refine W.bb ?_
     obtain ⟨gT,aa,h⟩:=aB h
     refine W.bC [(2,.obj (ch.cells a0)),(4,.obj [.aJ,.aJ]),(5,.obj [ak (fa dM) s1.1,ak (b5 aL) s1.2.1]),(8,ak aL gT),(11,aj cF av),(12,j (av.length:Int)),(13,j s1.2.2),(23,aj ie ck.di),(24,j (ck.di.length:Int)),(25,j eU.2)] ?_ ?_
     ·clear h; have h:=aa; clear aa
      refine W.bq ?_
      obtain ⟨cO,kq,h⟩:=aB h
      refine W.bM [2,4,5,8,10,11,12,13,23,24,25] (ah (O.cE (.aD q) (.lit q) sF kq)<|ah (O.jn (cs':=[j cO.Sym,j cO.hh]) (.bn q) Ip q q)<|ah (O.fD (cs:=[j 0,j 0]) Dr q q)<|ar.dI (G2:=[(2,_),(4,_),(5,_),(8,_),(10,_),(11,_),(12,_),(13,_),(23,_),(24,_),(25,_)]) (cs2:=[j cO.Sym,j cO.hh]) q (.obj q) (.cg q q) q Mj q q q q (.n q q (.n q q (.n q q (.n q q (.b q (.n q q (.n q q (.n q q (.n q q (.n q q (.n q q .nil)))))))))))<|bR q) ?_
      refine W.aZ [2,4,5,8,10,11,12,13,23,24,25,31] ?_
      obtain ⟨iX,aa,h⟩:=aB h
      refine W.bC [(2,.obj (ch.cells a0)),(4,.obj [.aJ,.aJ]),(5,.obj [ak (fa dM) s1.1,ak (b5 aL) s1.2.1]),(8,ak aL iX),(11,aj cF av),(12,j (av.length:Int)),(13,j s1.2.2),(23,aj ie ck.di),(24,j (ck.di.length:Int)),(25,j eU.2)] ?_ ?_
      ·clear h; have h:=aa; clear aa
       refine W.bH h q (λeE h=>?_) (λeE h=>?_)
       ·obtain ⟨dt,iJ,h⟩:=aB h
        refine W.bp [2,4,5,8,11,12,13,23,24,25] (ah (O.aA (.own q))<|ah (O.bk q (.obj q) BQ q)<|ah (O.cB q (.ptr q) cz q)<|ah (O.sub (.lit q) (.k q))<|ah (O.bk q (.obj q) Jk q)<|ah (O.cB q (.ptr q) cz q)<|ah (O.gS (en:=aL) q (.bm q) (.lit q) eI iJ q)<|ar.hs (G2:=[(2,.obj (ch.cells a0)),(4,.obj [.aJ,.aJ]),(5,.obj [ak (fa dM) s1.1,ak (b5 aL) s1.2.1]),(8,ak aL (eU.1.set (aM (cO.Sym - 1000)).toNat cO.hh)),(11,aj cF av),(12,j (av.length:Int)),(13,j s1.2.2),(23,aj ie ck.di),(24,j (ck.di.length:Int)),(25,j eU.2)]) q (cm.pb (en:=aL) (y2:=cO.hh) (cs':=[j cO.hh]) (x2:=ak aL (eU.1.set (aM (cO.Sym - 1000)).toNat cO.hh)) q q (.ptr q) (.lit q) q iJ nk q q q q q q q (.n q q (.n q q (.n q q (.b q (.n q q (.n q q (.n q q (.n q q (.n q q (.n q q .nil)))))))))))<|bR q) ?_
        obtain rfl:=ax h
        exact ai.bC (pc q q q q q q q q q q)
       ·refine W.bO ?_
        obtain rfl:=ax h
        exact ai.bC (pc q q q q q q q q q q)
      refine ai.bq ?_
      obtain rfl:=ax h
      exact ai.bC (pc q q q q q q q q q q)
     refine ai.a_<|W.bp [2,4,5,8,11,12,13,23,24,25] (ah (O.add (.lit q) (.k q))<|ar.bp [2,4,5,8,11,12,13,23,24,39] q<|ar.aW) ?_
     obtain rfl:=ax h
     exact ai.go (pc q q q q q q q q q q)
    ·refine W.dd ?_
     refine ai.dc ?_
     obtain rfl:=ax h
     exact ai.aE (hg q q q q q q q)
   refine ai.de ?_
   refine ai.a_ ?_
   obtain ⟨cn,lq,h⟩:=aB h
   refine W.bM [2,4,5,11,12,13] (ah (O.bk q (.obj q) uP q)<|ah (O.c9 (y:=.bm (b5 aL).z ⟨5,[1]⟩ s1.2.1.length) q (.ptr q) q1 q q)<|ah (O.aA (.own q))<|ah (O.oK (ys:=[.bm aL.z ⟨8,[]⟩ bT.length]) (cs:=[.bm aL.z ⟨8,[]⟩ bT.length]) kU q q q q q HM q q)<|ah (O.wF (en:=(b5 aL)) (M:=[bT]) (r:=cn) (.bm q) q (.own q) q q q q DH q lq)<|ah (O.bk q (.obj q) uP q)<|ar.hs (G2:=[(2,.obj (ch.cells a0)),(4,.obj [.aJ,.aJ]),(5,.obj [ak (fa dM) s1.1,ak (b5 aL) (s1.2.1++[bT])]),(11,aj cF av),(12,j (av.length:Int)),(13,j s1.2.2)]) q (cm.lW (g1:=_) (en:=(b5 aL)) (M:=[bT]) (cs2:=[ak (fa dM) s1.1,ak (b5 aL) (s1.2.1++[bT])]) q q (.ptr q) (.b2 q) q q q (.r q .nil) (.z .nil) q q Ug q q q q (.n q q (.n q q (.b q (.n q q (.n q q (.n q q .nil)))))))<|bR q) ?_
   obtain ⟨b4,h8,h⟩:=aB h
   obtain ⟨eJ,jL,h⟩:=aB h
   refine W.rd [[],[0],[],[2],[2,3],[2,3,4],[2,3,4,5],aO 0 7 [],aO 0 8 [],aO 0 9 []] [(2,_),(4,_),(5,_),(11,_),(12,_),(13,_)] e1 (by kernel_rfl) (au 0 (O.bk q (.obj q) pA q)<|au 1 (O.c9 (y:=.bm (fa dM).z ⟨5,[0]⟩ s1.1.length) q (.ptr q) p9 q q)<|au 2 (O.bk q (.obj q) pz q)<|au 3 (O.c9 (y:=aj bo a0.a') q (.ptr q) q2 q q)<|au 4 (O.gz (.aD q) qD)<|au 5 (O.mk (en:=dM) (z0:=(⟨0,0⟩:Act)) sH (.lit q) (.lit q) nQ q q h8 NG q)<|au 6 (O.oK (ys:=[.bm dM.z ⟨51,[]⟩ b4.length]) (cs:=[.bm dM.z ⟨51,[]⟩ b4.length]) qE q q q q q UR q q)<|au 7 (O.wF (en:=(fa dM)) (M:=[b4]) (r:=eJ) (.bm q) q (.own q) q q q q Nf q jL)<|au 8 (O.bk q (.obj q) pA q)<|bV.jI 9 (G2:=[(2,.obj (ch.cells a0)),(4,.obj [.aJ,.aJ]),(5,.obj [ak (fa dM) (s1.1++[b4]),ak (b5 aL) (s1.2.1++[bT])]),(11,aj cF av),(12,j (av.length:Int)),(13,j s1.2.2)]) (cm.lW (g1:=_) (en:=(fa dM)) (M:=[b4]) (cs2:=[ak (fa dM) (s1.1++[b4]),ak (b5 aL) (s1.2.1++[bT])]) q q (.ptr q) (.b2 q) q q q (.r q .nil) (.f .nil) q q Uh q q q q (.n q q (.n q q (.b q (.n q q (.n q q (.n q q .nil))))))) q q q q (by kernel_rfl) (by kernel_rfl)<|bV.fin q q q (fC q q q q q q)) ?_
   refine ai.bq ?_
   refine ai.a_<|W.bp [2,4,5,11,12,13] (ah (O.add (.lit q) (.k q))<|ar.bp [2,4,5,11,12,55] q<|ar.aW) ?_
   obtain rfl:=ax h
   exact ai.go (fC q q q q q q)
  ·refine W.dd ?_
   refine ai.dc ?_
   obtain rfl:=ax h
   exact ai.aE (fe q q)
 refine ai.de ?_
 refine ai.a_<|W.bM [4] (ah (O.dT (cs':=[.bm (fa dM).z ⟨5,[0]⟩ x2.1.length,.bm (b5 aL).z ⟨5,[1]⟩ x2.2.length]) q (.obj q) Bn q q)<|ar.hs (G2:=[(4,.obj [ak (fa dM) x2.1,ak (b5 aL) x2.2])]) q (cm.sK (y':=.agg [ak (fa dM) x2.1,ak (b5 aL) x2.2]) (cs2:=[ak (fa dM) x2.1,ak (b5 aL) x2.2]) q q (.obj q) (.cg q q) (.rM (.r q (.r q .nil)) .nil) (gu.agg (.f (.f .nil))) q xV q q q q q (.b q .nil))<|bR q) ?_
 refine W.rt ?_
 obtain rfl:=ax h
 exact cA (.c (ys0:=[.bm (fa dM).z ⟨4,[0]⟩ x2.1.length,.bm (b5 aL).z ⟨4,[1]⟩ x2.2.length]) q Bn q q q (.o q (.o q .nil)) .nil)
theorem I0 (a0:bZ) (av:Int) (r:Int × Int) (h:xH a0 av=some r):b_ Try.prog 63 [.agg (ch.cells a0),j av] [none,none] (.cw [j r.1,j r.2]):=by
 unfold xH at h
 refine b_.go (N:=⟨27,[]⟩) Try.func63 q q q q (W.fin ?_)
 refine W.st [(0,.agg (ch.cells a0)),(1,j av)] ?_
 refine W.bM [1,2] (ah (O.box (.cg q q) q)<|ar.aW) ?_
 refine W.bb ?_
 obtain ⟨c2,aa,h⟩:=aB h
 refine W.rs [(1,j av),(2,.obj (ch.cells a0)),(14,ba c2)] ?_ ?_
 ·refine br q<|ah (O.lss (.lit q) (.k q))<|ah (O.aA (.lit q)) ?_
  rcases cI aa with ⟨ds,aa⟩ | ⟨ds,aa⟩
  ·obtain rfl:=ax aa
   exact ar.aW
  ·obtain rfl:=ax aa
   exact ar.aW
 refine W.bH h q (λfb h=>?_) (λfb h=>?_)
 ·refine W.aZ [4,5] ?_
  refine W.rt ?_
  refine ai.c_ ?_
  obtain rfl:=ax h
  exact cA (.f q q (.f q q .nil))
 ·refine W.bO<|ai.a_ ?_
  refine W.bb ?_
  obtain ⟨bN,mL,h⟩:=aB h
  obtain ⟨ck,kQ,h⟩:=aB h
  refine W.rd [[],[0],[],[0,1,2],[0,1,2,3],aO 0 5 [],[],[6],[],[6,7,8],[6,7,8,9],aO 6 5 [],aO 0 6 [],aO 0 13 []] [(4,_),(5,_)] e1 (by kernel_rfl) (au 0 (O.bk q (.obj q) pz q)<|au 1 (O.c9 (y:=aj bo a0.a') q (.ptr q) q2 q q)<|au 2 (O.aA (.lit q))<|au 3 (O.cE (.aD q) (.lit q) qD mL)<|au 4 (O.eP (.bn q) BT)<|au 5 (O.c8 (x:=j bN.Level) (.bn q) cz q)<|au 6 (O.bk q (.obj q) pz q)<|au 7 (O.c9 (y:=aj bo a0.a') q (.ptr q) q2 q q)<|au 8 (O.aA (.lit q))<|au 9 (O.cE (.aD q) (.lit q) qD kQ)<|au 10 (O.eP (.bn q) Eu)<|au 11 (O.c8 (x:=j ck.fi) (.bn q) cz q)<|au 12 (O.dv (.lit q))<|au 13 (O.dv (.lit q))<|bV.fin q q q (fe q q)) ?_
  refine ai.a_<|W.rt ?_
  obtain rfl:=ax h
  exact cA (.f q q (.f q q .nil))
theorem OJ (a0:bZ) (av:Int) (r:Int × Int) (h:Al a0 av=some r):b_ Try.prog 62 [.agg (ch.cells a0),j av] [none,none] (.cw [j r.1,j r.2]):=by
 unfold Al at h
 refine b_.go (N:=⟨25,[]⟩) Try.func62 q q q q (W.fin ?_)
 refine W.st [(0,.agg (ch.cells a0)),(1,j av)] ?_
 refine W.bM [1,2] (ah (O.box (.cg q q) q)<|ar.aW) ?_
 refine W.bb ?_
 obtain ⟨c2,aa,h⟩:=aB h
 refine W.rs [(1,j av),(2,.obj (ch.cells a0)),(14,ba c2)] ?_ ?_
 ·refine br q<|ah (O.lss (.lit q) (.k q))<|ah (O.aA (.lit q)) ?_
  rcases cI aa with ⟨ds,aa⟩ | ⟨ds,aa⟩
  ·obtain rfl:=ax aa
   exact ar.aW
  ·obtain rfl:=ax aa
   exact ar.aW
 refine W.bH h q (λfb h=>?_) (λfb h=>?_)
 ·refine W.aZ [4,5] ?_
  refine W.rt ?_
  refine ai.c_ ?_
  obtain rfl:=ax h
  exact cA (.f q q (.f q q .nil))
 ·refine W.bO<|ai.a_ ?_
  refine W.bb ?_
  obtain ⟨bN,mL,h⟩:=aB h
  obtain ⟨ck,kQ,h⟩:=aB h
  refine W.rd [[],[],[1],[],[1,2,3],[1,2,3,4],aO 1 5 [],aO 0 7 [],aO 0 8 [],aO 0 8 [],aO 0 10 [],aO 0 11 []] [(4,_),(5,_)] e1 (by kernel_rfl) (au 0 (O.dT (cs':=[aj bo a0.a',aj a8 a0.bw,aj bE a0.aY,af a0.bz,af a0.bA]) q (.obj q) gg q q)<|au 1 (O.bk q (.obj q) l5 q)<|au 2 (O.c9 (y:=aj bE a0.aY) q (.ptr q) nv q q)<|au 3 (O.aA (.lit q))<|au 4 (O.cE (.aD q) (.lit q) nj mL)<|au 5 (O.eP (.bn q) yz)<|au 6 (O.c8 (x:=j bN.Prec) (.bn q) cz q)<|iM 7 (cu.go (.bX (.cg q q) (.bX (.lit q) .nil)) (I0 a0 bN.Prec _ kQ) call63 q)<|au 8 (O.ex (y:=j ck.1) q q q)<|au 9 (O.ex (y:=j ck.2) q q q)<|au 10 (O.dv (.lit q))<|au 11 (O.dv (.lit q))<|bV.fin q q q (fe q q)) ?_
  refine ai.a_<|W.rt ?_
  obtain rfl:=ax h
  exact cA (.f q q (.f q q .nil))
theorem Oz (a0:bZ) (av:Int) (a2:Int) (r:Int) (h:Ab a0 av a2=some r):b_ Try.prog 38 [.agg (ch.cells a0),j av,j a2] [none,none,none] (j r):=by
 unfold Ab at h
 refine b_.go (N:=⟨51,[]⟩) Try.func38 q q q q (W.fin ?_)
 refine W.st [(0,.agg (ch.cells a0)),(1,j av),(2,j a2)] ?_
 refine W.bM [1,2,3] (ah (O.box (.cg q q) q)<|ar.aW) ?_
 obtain ⟨aE,fp,h⟩:=aB h
 refine W.bM [2,3,7] (ah (O.dT (cs':=[aj bo a0.a',aj a8 a0.bw,aj bE a0.aY,af a0.bz,af a0.bA]) q (.obj q) gg q q)<|br q<|dL (cu.go (.bX (.cg q q) (.bX (.lit q) .nil)) (OJ a0 av _ fp) call62 q)<|ah (O.aA (.vX q q))<|ah (O.ex (y:=j aE.1) q q q)<|ah (O.ex (y:=j aE.2) q q q)<|ar.aW) ?_
 obtain ⟨x2,ho,h⟩:=aB h
 refine W.bM [7,9,10] (ah (O.dT (cs':=[aj bo a0.a',aj a8 a0.bw,aj bE a0.aY,af a0.bz,af a0.bA]) q (.obj q) gg q q)<|br q<|dL (cu.go (.bX (.cg q q) (.bX (.lit q) .nil)) (I0 a0 a2 _ ho) call63 q)<|ah (O.aA (.vX q q))<|ah (O.ex (y:=j x2.1) q q q)<|ah (O.ex (y:=j x2.2) q q q)<|ar.aW) ?_
 refine W.bb<|W.bq ?_
 obtain ⟨c4,aa,h⟩:=aB h
 refine W.rs [(7,j aE.1),(9,j x2.1),(10,j x2.2),(23,ba c4)] ?_ ?_
 ·refine br q<|ah (O.eql (.lit q) (.k q))<|ah (O.aA (.lit q)) ?_
  rcases cI aa with ⟨fb,aa⟩ | ⟨fb,aa⟩
  ·obtain rfl:=ax aa
   exact ar.aW
  ·obtain rfl:=ax aa
   exact ar.aW
 refine W.bH h q (λdK h=>?_) (λdK h=>?_)
 ·refine W.aZ [6] ?_
  refine W.rt ?_
  refine ai.ee ?_
  refine ai.c_ ?_
  obtain rfl:=ax h
  exact cA (.f q q .nil)
 ·obtain ⟨oL,aa,h⟩:=aB h
  refine W.rs [(7,j aE.1),(9,j x2.1),(10,j x2.2),(30,ba oL)] ?_ ?_
  ·refine br q<|br q<|ah (O.gtr (.lit q) (.lit q))<|ah (O.aA (.lit q)) ?_
   rcases cI aa with ⟨dN,aa⟩ | ⟨dN,aa⟩
   ·obtain rfl:=ax aa
    exact ar.aW
   ·refine a1 dN (O.aA (.lit q))<|a1 dN (O.aA (.lit q))<|a1 dN (O.eql (.lit q) (.lit q))<|a1 dN (O.aA (.lit q)) ?_
    rcases cI aa with ⟨cU,aa⟩ | ⟨cU,aa⟩
    ·obtain rfl:=ax aa
     exact a1 cU (O.aA (.lit q))<|a1 cU (O.eql (.lit q) (.k q))<|a1 dN (O.eu (.lit q) cU (.lit q))<|ar.aW
    ·obtain rfl:=ax aa
     exact cH cU<|cH cU<|a1 dN (O.cC (.lit q) cU (.k q))<|ar.aW
  refine W.bH h q (λey h=>?_) (λey h=>?_)
  ·refine W.aZ [6] ?_
   refine W.rt ?_
   refine ai.ee ?_
   refine ai.c_ ?_
   obtain rfl:=ax h
   exact cA (.f q q .nil)
  ·obtain ⟨DU,aa,h⟩:=aB h
   refine W.rs [(43,ba DU)] ?_ ?_
   ·refine br q<|br q<|ah (O.lss (.lit q) (.lit q))<|ah (O.aA (.lit q)) ?_
    rcases cI aa with ⟨eG,aa⟩ | ⟨eG,aa⟩
    ·obtain rfl:=ax aa
     exact ar.aW
    ·obtain rfl:=ax aa
     exact ar.aW
   refine W.bH h q (λew h=>?_) (λew h=>?_)
   ·refine W.aZ [6] ?_
    refine W.rt ?_
    refine ai.ee ?_
    refine ai.c_ ?_
    obtain rfl:=ax h
    exact cA (.f q q .nil)
   ·refine W.bO<|ai.bq ?_
    refine ai.a_<|W.aZ [6] ?_
    refine W.rt ?_
    obtain rfl:=ax h
    exact cA (.f q q .nil)
theorem IZ (a0:(List Int)) (r:Int) (h:vG a0=some r):b_ Try.prog 57 [aj aL a0] [none] (j r):=by
 unfold vG at h
 refine b_.go (N:=⟨25,[]⟩) Try.func57 q q q q (W.fin ?_)
 refine W.st [(0,aj aL a0)] ?_
 refine W.aZ [0] ?_
 refine W.bb<|W.aZ [0,7] ?_
 refine W.bH h q (λds h=>?_) (λds h=>?_)
 ·cases h
 ·refine W.bO<|ai.a_ ?_
  obtain ⟨x2,ho,h⟩:=aB h
  refine W.aZ [0,3] ?_
  refine W.bb<|W.aZ [0,3,4] ?_
  refine W.bq ?_
  obtain ⟨bN,ao,h⟩:=aB h
  refine W.cj (G1:=[(0,_),(3,_),(4,_)]) (dB q q q) ?_
  refine W.e0 (s:=(x2,1)) (λ(dX:Int × Int)=>[(0,aj aL a0),(3,j dX.1),(4,j dX.2)]) 0 (λ(bN:Int)=>[(3,j bN)]) ao (λdX o h=>?_) ?_
  ·clear ao
   refine W.bb<|W.aZ [0,3,4,15] ?_
   refine W.bH h q (λdN h=>?_) (λdN h=>?_)
   ·refine W.bO<|ai.a_ ?_
    refine W.bb<|W.bq ?_
    obtain ⟨bl,gb,h⟩:=aB h
    refine W.bp [0,3,4] (br q<|ah (O.aA (.aD q))<|br q<|ah (O.cE (.aD q) (.lit q) eI gb)<|ah (O.c8 (x:=j bl) (.bn q) cz q)<|ah (O.S6 (.lit q) (.lit q))<|ar.bp [0,4,23] q<|ar.aW) ?_
    refine ai.bq ?_
    refine ai.a_<|W.bp [0,3,4] (br q<|ah (O.add (.lit q) (.k q))<|ar.bp [0,3,17] q<|ar.aW) ?_
    obtain rfl:=ax h
    exact ai.go (dB q q q)
   ·refine W.dd ?_
    refine ai.dc ?_
    obtain rfl:=ax h
    exact ai.aE (.n q .nil)
  refine ai.de ?_
  refine ai.a_<|W.aZ [2] ?_
  refine W.rt ?_
  obtain rfl:=ax h
  exact cA (.f q q .nil)
theorem OI (a0:bZ) (av:Cell) (r:Act × Bool) (h:Ak a0 av=some r):b_ Try.prog 56 [.agg (ch.cells a0),.agg (eT.cells av)] [none,none] (.cw [.agg [j r.1.Kind,j r.1.N],ba r.2]):=by
 unfold Ak at h
 refine b_.go (N:=⟨51,[]⟩) Try.func56 q q q q (W.fin ?_)
 refine W.st [(0,.agg (ch.cells a0)),(1,.agg (eT.cells av))] ?_
 refine W.bM [2,3,4] (ah (O.box (.cg q q) q)<|ah (O.box (.cg q q) q)<|ah (O.fD (cs:=[j 0,j 0]) nQ q q)<|ar.aW) ?_
 refine W.bb<|W.aZ [2,3,4,11] ?_
 refine W.bH h q (λds h=>?_) (λds h=>?_)
 ·refine W.bb<|W.aZ [3,4,13] ?_
  refine W.bH h q (λcX h=>?_) (λcX h=>?_)
  ·refine W.bM [4,5] (ah (O.eS (cs:=[j 3,j 0]) rv nQ q q q)<|ar.dI (G2:=[(4,_)]) (cs2:=[j 3,j 0]) q (.obj q) (.cg q q) q oq q q q q (.b q .nil)<|ar.aW) ?_
   refine W.rt ?_
   refine ai.c_ ?_
   refine ai.c_ ?_
   obtain rfl:=ax h
   exact cA (.c (ys0:=[j 3,j 0]) q oI q q q (.f q (.f q .nil)) (.f q q .nil))
  ·refine W.bO<|ai.a_ ?_
   refine W.bM [4,5] (ah (O.bk q (.obj q) yI q)<|ah (O.cB q (.ptr q) cz q)<|ah (O.eS (cs:=[j 1,j av.ff]) rv nQ q q q)<|ar.dI (G2:=[(4,_)]) (cs2:=[j 1,j av.ff]) q (.obj q) (.cg q q) q oq q q q q (.b q .nil)<|ar.aW) ?_
   refine W.rt ?_
   refine ai.c_ ?_
   obtain rfl:=ax h
   exact cA (.c (ys0:=[j 1,j av.ff]) q oI q q q (.f q (.f q .nil)) (.f q q .nil))
 ·refine W.bO<|ai.a_ ?_
  obtain ⟨aX,hL,h⟩:=aB h
  refine W.bM [2,3,4,6] (ah (O.bk q (.obj q) uS q)<|ah (O.c9 (y:=aj aL av.aY) q (.ptr q) gX q q)<|dL (cu.go (.bX (.aD q) .nil) (IZ av.aY _ hL) call57 q)<|ar.aW) ?_
  refine W.bM [2,3,4,6,7] (br q<|ah (O.eS (cs:=[j 2,j aX]) rv nQ q q q)<|ah (O.fD (cs:=[j 0,j 0]) nQ q q)<|ar.dI (G2:=[(2,_),(3,_),(4,_),(6,_),(7,_)]) (cs2:=[j 2,j aX]) q (.obj q) (.cg q q) q oq q q q q (.n q q (.n q q (.n q q (.n q q (.b q .nil)))))<|bR q) ?_
  refine W.bb<|W.bq ?_
  refine W.aZ [2,3,4,6,7,23] ?_
  refine W.bH h q (λdf h=>?_) (λdf h=>?_)
  ·refine W.bM [4,5] (ah (O.eS (cs:=[j 3,j 0]) rv nQ q q q)<|ar.dI (G2:=[(4,_)]) (cs2:=[j 3,j 0]) q (.obj q) (.cg q q) q oq q q q q (.b q .nil)<|ar.aW) ?_
   refine W.rt ?_
   refine ai.ee ?_
   refine ai.c_ ?_
   obtain rfl:=ax h
   exact cA (.c (ys0:=[j 3,j 0]) q oI q q q (.f q (.f q .nil)) (.f q q .nil))
  ·refine W.aZ [2,3,4,6,7,27] ?_
   refine W.bH h q (λdK h=>?_) (λdK h=>?_)
   ·refine W.bM [4,5] (ah (O.dT (cs':=[j 2,j aX]) q (.obj q) oI q q)<|ar.dI (G2:=[(4,_)]) (cs2:=[j 2,j aX]) q (.obj q) (.cg q q) q oq q q q q (.b q .nil)<|ar.aW) ?_
    refine W.rt ?_
    refine ai.ee ?_
    refine ai.c_ ?_
    obtain rfl:=ax h
    exact cA (.c (ys0:=[j 2,j aX]) q oI q q q (.f q (.f q .nil)) (.f q q .nil))
   ·refine W.bO<|ai.bq ?_
    refine ai.a_<|W.bb ?_
    obtain ⟨bu,fH,h⟩:=aB h
    refine W.bM [3,4,7,36] (ah (O.dT (cs':=[aj bo a0.a',aj a8 a0.bw,aj bE a0.aY,af a0.bz,af a0.bA]) q (.obj q) gg q q)<|br q<|ah (O.bk q (.obj q) uR q)<|ah (O.cB q (.ptr q) cz q)<|dL (cu.go (.bX (.cg q q) (.bX (.lit q) (.bX (.lit q) .nil))) (Oz a0 aX av.bJ _ fH) call38 q)<|bR q) ?_
    refine W.bq<|W.aZ [3,4,7,36,37] ?_
    refine W.bH h q (λcU h=>?_) (λcU h=>?_)
    ·refine W.bM [4,5] (ah (O.dT (cs':=[j 2,j aX]) q (.obj q) oI q q)<|ar.dI (G2:=[(4,_)]) (cs2:=[j 2,j aX]) q (.obj q) (.cg q q) q oq q q q q (.b q .nil)<|ar.aW) ?_
     refine W.rt ?_
     refine ai.ee ?_
     refine ai.c_ ?_
     obtain rfl:=ax h
     exact cA (.c (ys0:=[j 2,j aX]) q oI q q q (.f q (.f q .nil)) (.f q q .nil))
    ·refine W.aZ [3,4,36,40] ?_
     refine W.bH h q (λcR h=>?_) (λcR h=>?_)
     ·refine W.bM [4,5] (ah (O.eS (cs:=[j 4,j 0]) rv nQ q q q)<|ar.dI (G2:=[(4,_)]) (cs2:=[j 4,j 0]) q (.obj q) (.cg q q) q oq q q q q (.b q .nil)<|ar.aW) ?_
      refine W.rt ?_
      refine ai.ee ?_
      refine ai.c_ ?_
      obtain rfl:=ax h
      exact cA (.c (ys0:=[j 4,j 0]) q oI q q q (.f q (.f q .nil)) (.f q q .nil))
     ·refine W.aZ [3,4,43] ?_
      refine W.bH h q (λey h=>?_) (λey h=>?_)
      ·refine W.bM [4,5] (ah (O.bk q (.obj q) yI q)<|ah (O.cB q (.ptr q) cz q)<|ah (O.eS (cs:=[j 1,j av.ff]) rv nQ q q q)<|ar.dI (G2:=[(4,_)]) (cs2:=[j 1,j av.ff]) q (.obj q) (.cg q q) q oq q q q q (.b q .nil)<|ar.aW) ?_
       refine W.rt ?_
       refine ai.ee ?_
       refine ai.c_ ?_
       obtain rfl:=ax h
       exact cA (.c (ys0:=[j 1,j av.ff]) q oI q q q (.f q (.f q .nil)) (.f q q .nil))
      ·refine W.bO<|ai.bq ?_
       refine ai.a_<|W.bM [4,5] (ah (O.bk q (.obj q) yI q)<|ah (O.cB q (.ptr q) cz q)<|ah (O.eS (cs:=[j 1,j av.ff]) rv nQ q q q)<|ar.dI (G2:=[(4,_)]) (cs2:=[j 1,j av.ff]) q (.obj q) (.cg q q) q oq q q q q (.b q .nil)<|ar.aW) ?_
       refine W.rt ?_
       obtain rfl:=ax h
       exact cA (.c (ys0:=[j 1,j av.ff]) q oI q q q (.f q (.f q .nil)) (.f q q .nil))
theorem Ea (a0:bZ) (av:(List State)) (a2:(List Cell)) (r:jG × (List eF)) (h:vF a0 av a2=some r):b_ Try.prog 31 [.agg (ch.cells a0),aj cF av,aj eT a2] [none,none,none] (.cw [.agg [aj (b5 dM) r.1.eV,aj (b5 aL) r.1.dG],aj gC r.2]):=by
 unfold vF at h
 refine b_.go (N:=⟨83,[]⟩) Try.func31 q q q q (W.fin ?_)
 refine W.st [(0,.agg (ch.cells a0)),(1,aj cF av),(2,aj eT a2)] ?_
 refine W.bM [1,2,3,6] (ah (O.box (.cg q q) q)<|ah (O.fD (cs:=[.aJ,.aJ]) v_ q q)<|ar.aW) ?_
 obtain ⟨aE,fp,h⟩:=aB h
 refine W.bM [2,3,6,8] (ah (O.dT (cs':=[aj bo a0.a',aj a8 a0.bw,aj bE a0.aY,af a0.bz,af a0.bA]) q (.obj q) gg q q)<|ah (O.aA (.aD q))<|dL (cu.go (.bX (.cg q q) (.bX (.aD q) .nil)) (OH a0 av _ fp) call55 q)<|ah (O.fD (cs:=[.aJ,.aJ]) v_ q q)<|ar.hs (G2:=[(2,aj eT a2),(3,.obj (ch.cells a0)),(6,.obj [.aJ,.aJ]),(8,.obj [ak (fa dM) aE.eV,ak (b5 aL) aE.dG])]) q (cm.sK (y':=.agg [ak (fa dM) aE.eV,ak (b5 aL) aE.dG]) (cs2:=[ak (fa dM) aE.eV,ak (b5 aL) aE.dG]) q q (.obj q) (.agg q q) (.rM (.r q (.r q .nil)) .nil) (gu.agg (.f (.f .nil))) q xV q q q q q (.n q q (.n q q (.n q q (.b q .nil)))))<|bR q) ?_
 refine W.aZ [2,3,6,8,9] ?_
 refine W.bb<|W.bM [3,6,8,9,20,21,22] (ah (O.aA (.aD q))<|ah (O.gz (.aD q) o')<|ah (O.aA (.k q))<|bR q) ?_
 refine W.bq ?_
 obtain ⟨aX,ao,h⟩:=aB h
 refine W.cj (G1:=[(3,_),(6,_),(8,_),(9,ak gC ([]:List eF)),(20,_),(21,_),(22,_)]) (.n q (.n q (.n q (.w q q .o4 (dB q q q))))) ?_
 refine W.e0 (s:=(aE.eV,([]:List eF),0)) (λ(s2:List (List Act) × List eF × Int)=>[(3,.obj (ch.cells a0)),(6,.obj [.aJ,.aJ]),(8,.obj [ak (fa dM) s2.1,ak (b5 aL) aE.dG]),(9,ak gC s2.2.1),(20,aj eT a2),(21,j (a2.length:Int)),(22,j s2.2.2)]) 0 (λ(aX:List (List Act) × List eF)=>[(6,.obj [.aJ,.aJ]),(8,.obj [ak (fa dM) aX.1,ak (b5 aL) aE.dG]),(9,ak gC aX.2)]) ao (λs2 o h=>?_) ?_
 ·clear ao
  refine W.aZ [3,6,8,9,20,21,22,23] ?_
  refine W.bb<|W.bH h q (λdK h=>?_) (λdK h=>?_)
  ·refine W.bO<|ai.a_ ?_
   refine W.bb ?_
   obtain ⟨iY,aa,h⟩:=aB h
   refine W.bC [(3,.obj (ch.cells a0)),(6,.obj [.aJ,.aJ]),(8,.obj [ak (fa dM) iY.1,ak (b5 aL) aE.dG]),(9,ak gC iY.2),(20,aj eT a2),(21,j (a2.length:Int)),(22,j s2.2.2)] ?_ ?_
   ·clear h; have h:=aa; clear aa
    refine W.bq ?_
    obtain ⟨bl,gb,h⟩:=aB h
    refine W.bM [3,6,8,9,11,20,21,22] (ah (O.cE (.aD q) (.lit q) o' gb)<|ah (O.jn (cs':=[j bl.State,j bl.bJ,j bl.ff,ba bl.hD,aj aL bl.aY]) (.bn q) wG q q)<|ah (O.fD (cs:=[j 0,j 0,j 0,ba false,.aJ]) Ds q q)<|ar.dI (G2:=[(3,_),(6,_),(8,_),(9,_),(11,_),(20,_),(21,_),(22,_)]) (cs2:=[j bl.State,j bl.bJ,j bl.ff,ba bl.hD,aj aL bl.aY]) q (.obj q) (.cg q q) q Hq q q q q (.n q q (.n q q (.n q q (.n q q (.b q (.n q q (.n q q (.n q q .nil))))))))<|bR q) ?_
    obtain ⟨bT,im,h⟩:=aB h
    refine W.bM [3,6,8,9,11,12,13,20,21,22] (ah (O.dT (cs':=[aj bo a0.a',aj a8 a0.bw,aj bE a0.aY,af a0.bz,af a0.bA]) q (.obj q) gg q q)<|ah (O.dT (cs':=[j bl.State,j bl.bJ,j bl.ff,ba bl.hD,aj aL bl.aY]) q (.obj q) wG q q)<|dL (cu.go (.bX (.cg q q) (.bX (.cg q q) .nil)) (OI a0 bl _ im) call56 q)<|ah (O.aA (.cw q q))<|ah (O.ex (y:=.agg [j bT.1.Kind,j bT.1.N]) q q q)<|ah (O.ex (y:=ba bT.2) q q q)<|ah (O.fD (cs:=[j 0,j 0]) nQ q q)<|ar.dI (G2:=[(3,_),(6,_),(8,_),(9,_),(11,_),(12,_),(20,_),(21,_),(22,_),(31,_)]) (cs2:=[j bT.1.Kind,j bT.1.N]) q (.obj q) (.cg q q) q oq q q q q (.n q q (.n q q (.n q q (.n q q (.n q q (.b q (.n q q (.n q q (.n q q (.n q q .nil))))))))))<|ar.aW) ?_
    refine W.bb ?_
    obtain ⟨ct,iV,h⟩:=aB h
    obtain ⟨bQ,jk,h⟩:=aB h
    refine W.rd [[],[0],[],[2],[0,1,2,3],aO 0 5 [],[],[6],[],aO 0 9 [],aO 0 10 []] [(3,_),(6,_),(8,_),(9,_),(11,_),(13,_),(20,_),(21,_),(22,_)] e1 (by kernel_rfl) (au 0 (O.bk q (.obj q) pA q)<|au 1 (O.c9 (y:=.bm (fa dM).z ⟨8,[0]⟩ s2.1.length) q (.ptr q) p9 q q)<|au 2 (O.bk q (.obj q) uQ q)<|au 3 (O.cB q (.ptr q) cz q)<|au 4 (O.gS (en:=(fa dM)) q (.bm q) (.lit q) qE iV q)<|au 5 (O.iZ (en:=(fa dM)) (x':=.bm dM.z ⟨8,[0,bl.State.toNat * (fa dM).z+0]⟩ ct.length) q (.ptr q) s8 iV q q)<|au 6 (O.bk q (.obj q) uR q)<|au 7 (O.cB q (.ptr q) cz q)<|au 8 (O.dT (cs':=[j bT.1.Kind,j bT.1.N]) q (.obj q) oI q q)<|au 9 (O.gS (en:=dM) (qW (r:=8) (path:=[0]) (o:=0) (en:=(fa dM)) q iV q) (.bm q) (.lit q) sH jk q)<|bV.jI 10 (G2:=[(3,.obj (ch.cells a0)),(6,.obj [.aJ,.aJ]),(8,.obj [ak (fa dM) (s2.1.set bl.State.toNat (ct.set bl.bJ.toNat bT.1)),ak (b5 aL) aE.dG]),(9,ak gC s2.2.1),(11,.obj (eT.cells bl)),(13,ba bT.2),(20,aj eT a2),(21,j (a2.length:Int)),(22,j s2.2.2)]) (cm.T5 (en:=dM) (LL:=s2.1) (L:=ct) (r:=8) (path:=[0]) (i:=bl.State) (m:=bl.bJ) (o:=0) (y2:=bT.1) (cs':=[j bT.1.Kind,j bT.1.N]) (x2:=.obj [ak (fa dM) (s2.1.set bl.State.toNat (ct.set bl.bJ.toNat bT.1)),ak (b5 aL) aE.dG]) q q (.ptr q) (.cg q q) q iV jk oq q q q q q q q (.n q q (.n q q (.b q (.n q q (.n q q (.n q q (.n q q (.n q q (.n q q .nil)))))))))) q q q q (by kernel_rfl) (by kernel_rfl)<|bV.fin q q q (ot q q q q q q q q q)) ?_
    refine ai.a_<|W.bb ?_
    refine W.aZ [3,6,8,9,11,13,20,21,22,45] ?_
    refine W.bH h q (λft h=>?_) (λft h=>?_)
    ·refine W.dd ?_
     refine ai.dc ?_
     refine ai.de ?_
     obtain rfl:=ax h
     exact ai.bC (hg q q q q q q q)
    ·refine W.bO<|ai.a_ ?_
     obtain ⟨cO,kq,h⟩:=aB h
     refine W.bM [3,6,8,9,11,13,14,20,21,22] (ah (O.bk q (.obj q) uS q)<|ah (O.c9 (y:=aj aL bl.aY) q (.ptr q) gX q q)<|dL (cu.go (.bX (.aD q) .nil) (IZ bl.aY _ kq) call57 q)<|ar.aW) ?_
     refine W.bb<|W.bM [3,6,8,9,11,13,14,20,21,22,50,51,52] (ah (O.bk q (.obj q) uS q)<|ah (O.c9 (y:=aj aL bl.aY) q (.ptr q) gX q q)<|ah (O.gz (.aD q) eI)<|ah (O.aA (.k q))<|bR q) ?_
     refine W.bq ?_
     obtain ⟨d',ao,h⟩:=aB h
     refine W.cj (G1:=[(3,_),(6,_),(8,_),(9,_),(11,_),(13,_),(14,_),(20,_),(21,_),(22,_),(50,_),(51,_),(52,_)]) (.n q (.n q (.n q (.n q (.n q (.n q (.n q (.n q (.n q (.n q (.n q (.n q (.n q .nil))))))))))))) ?_
     refine W.e0 (s:=(s2.2.1,0)) (λ(gn:List eF × Int)=>[(3,.obj (ch.cells a0)),(6,.obj [.aJ,.aJ]),(8,.obj [ak (fa dM) (s2.1.set bl.State.toNat (ct.set bl.bJ.toNat bT.1)),ak (b5 aL) aE.dG]),(9,ak gC gn.1),(11,.obj (eT.cells bl)),(13,ba bT.2),(14,j cO),(20,aj eT a2),(21,j (a2.length:Int)),(22,j s2.2.2),(50,aj aL bl.aY),(51,j (bl.aY.length:Int)),(52,j gn.2)]) 2 (λ(d':List eF)=>[(3,.obj (ch.cells a0)),(6,.obj [.aJ,.aJ]),(8,.obj [ak (fa dM) (s2.1.set bl.State.toNat (ct.set bl.bJ.toNat bT.1)),ak (b5 aL) aE.dG]),(9,ak gC d'),(11,.obj (eT.cells bl)),(13,ba bT.2),(14,j cO),(20,aj eT a2),(21,j (a2.length:Int)),(22,j s2.2.2)]) ao (λgn o h=>?_) ?_
     ·clear ao
      refine W.aZ [3,6,8,9,11,13,14,20,21,22,50,51,52,53] ?_
      refine W.bb<|W.bH h q (λiw h=>?_) (λiw h=>?_)
      ·refine W.bO<|ai.a_ ?_
       refine W.bb ?_
       obtain ⟨so,aa,h⟩:=aB h
       refine W.bC [(3,.obj (ch.cells a0)),(6,.obj [.aJ,.aJ]),(8,.obj [ak (fa dM) (s2.1.set bl.State.toNat (ct.set bl.bJ.toNat bT.1)),ak (b5 aL) aE.dG]),(9,ak gC so),(11,.obj (eT.cells bl)),(13,ba bT.2),(14,j cO),(20,aj eT a2),(21,j (a2.length:Int)),(22,j s2.2.2),(50,aj aL bl.aY),(51,j (bl.aY.length:Int)),(52,j gn.2)] ?_ ?_
       ·clear h; have h:=aa; clear aa
        refine W.bq ?_
        obtain ⟨eJ,jL,h⟩:=aB h
        refine W.aZ [3,6,8,9,11,13,14,16,20,21,22,50,51,52] ?_
        refine W.aZ [3,6,8,9,11,13,14,16,20,21,22,50,51,52,58] ?_
        obtain ⟨e_,aa,h⟩:=aB h
        refine W.bC [(3,.obj (ch.cells a0)),(6,.obj [.aJ,.aJ]),(8,.obj [ak (fa dM) (s2.1.set bl.State.toNat (ct.set bl.bJ.toNat bT.1)),ak (b5 aL) aE.dG]),(9,ak gC e_),(11,.obj (eT.cells bl)),(13,ba bT.2),(14,j cO),(20,aj eT a2),(21,j (a2.length:Int)),(22,j s2.2.2),(50,aj aL bl.aY),(51,j (bl.aY.length:Int)),(52,j gn.2)] ?_ ?_
        ·clear h; have h:=aa; clear aa
         refine W.bH h q (λgF h=>?_) (λgF h=>?_)
         ·obtain ⟨dO,mg,h⟩:=aB h
          refine W.bp [3,6,8,9,11,13,14,20,21,22,50,51,52] (ah (O.aA (.own q))<|ah (O.bk q (.obj q) uQ q)<|ah (O.cB q (.ptr q) cz q)<|ah (O.bk q (.obj q) uR q)<|ah (O.cB q (.ptr q) cz q)<|br q<|br q<|ah (O.eS (cs:=[j bl.State,j bl.bJ,j cO,j eJ]) L7 HI q q q)<|ar.gq (x:=aj gC [(⟨bl.State,bl.bJ,cO,eJ⟩:eF)]) (O.dF (ys:=[.agg [j bl.State,j bl.bJ,j cO,j eJ]]) gC [(⟨bl.State,bl.bJ,cO,eJ⟩:eF)] sI q q q q q q MM q q) q q .none<|ah (O.ap (en:=gC) (r:=dO) (.bm q) q (.aD q) .i Ih q mg)<|ar.gI (G2:=[(3,.obj (ch.cells a0)),(6,.obj [.aJ,.aJ]),(8,.obj [ak (fa dM) (s2.1.set bl.State.toNat (ct.set bl.bJ.toNat bT.1)),ak (b5 aL) aE.dG]),(11,.obj (eT.cells bl)),(13,ba bT.2),(14,j cO),(20,aj eT a2),(21,j (a2.length:Int)),(22,j s2.2.2),(50,aj aL bl.aY),(51,j (bl.aY.length:Int)),(52,j gn.2)]) q (cm.oG q q (.b2 q) q q q (.n q q (.n q q (.n q q (.n q q (.n q q (.n q q (.n q q (.n q q (.n q q (.n q q (.n q q (.n q q .nil)))))))))))) q q)<|bR q) ?_
          obtain rfl:=ax h
          exact ai.bC (.n q (.n q (.n q (.n q (.n q (.n q (.n q (.n q (.n q (.n q (.n q (.n q (.n q .nil)))))))))))))
         ·refine W.bO ?_
          obtain rfl:=ax h
          exact ai.bC (.n q (.n q (.n q (.n q (.n q (.n q (.n q (.n q (.n q (.n q (.n q (.n q (.n q .nil)))))))))))))
        refine ai.bq ?_
        obtain rfl:=ax h
        exact ai.bC (.n q (.n q (.n q (.n q (.n q (.n q (.n q (.n q (.n q (.n q (.n q (.n q (.n q .nil)))))))))))))
       refine ai.a_<|W.bp [3,6,8,9,11,13,14,20,21,22,50,51,52] (ah (O.add (.lit q) (.k q))<|ar.bp [3,6,8,9,11,13,14,20,21,22,50,51,69] q<|ar.aW) ?_
       obtain rfl:=ax h
       exact ai.go (.n q (.n q (.n q (.n q (.n q (.n q (.n q (.n q (.n q (.n q (.n q (.n q (.n q .nil)))))))))))))
      ·refine W.dd ?_
       refine ai.dc ?_
       obtain rfl:=ax h
       exact ai.aE (pc q q q q q q q q q q)
     refine ai.de ?_
     refine ai.a_<|W.aZ [3,6,8,9,11,14,20,21,22,70] ?_
     obtain ⟨nF,aa,h⟩:=aB h
     refine W.bC [(3,.obj (ch.cells a0)),(6,.obj [.aJ,.aJ]),(8,.obj [ak (fa dM) (s2.1.set bl.State.toNat (ct.set bl.bJ.toNat bT.1)),ak (b5 aL) aE.dG]),(9,ak gC nF),(20,aj eT a2),(21,j (a2.length:Int)),(22,j s2.2.2)] ?_ ?_
     ·clear h; have h:=aa; clear aa
      refine W.bH h q (λix h=>?_) (λix h=>?_)
      ·obtain ⟨gj,lP,h⟩:=aB h
       refine W.bp [3,6,8,9,20,21,22] (ah (O.aA (.own q))<|ah (O.bk q (.obj q) uQ q)<|ah (O.cB q (.ptr q) cz q)<|ah (O.bk q (.obj q) uR q)<|ah (O.cB q (.ptr q) cz q)<|br q<|ah (O.eS (cs:=[j bl.State,j bl.bJ,j (-1),j cO]) L7 HI q q q)<|ar.gq (x:=aj gC [(⟨bl.State,bl.bJ,(-1),cO⟩:eF)]) (O.dF (ys:=[.agg [j bl.State,j bl.bJ,j (-1),j cO]]) gC [(⟨bl.State,bl.bJ,(-1),cO⟩:eF)] sI q q q q q q MM q q) q q .none<|ah (O.ap (en:=gC) (r:=gj) (.bm q) q (.aD q) .i Ih q lP)<|ar.gI (G2:=[(3,.obj (ch.cells a0)),(6,.obj [.aJ,.aJ]),(8,.obj [ak (fa dM) (s2.1.set bl.State.toNat (ct.set bl.bJ.toNat bT.1)),ak (b5 aL) aE.dG]),(20,aj eT a2),(21,j (a2.length:Int)),(22,j s2.2.2)]) q (cm.oG q q (.b2 q) q q q (.n q q (.n q q (.n q q (.n q q (.n q q (.n q q .nil)))))) q q)<|bR q) ?_
       obtain rfl:=ax h
       exact ai.bC (hg q q q q q q q)
      ·refine W.bO ?_
       obtain rfl:=ax h
       exact ai.bC (hg q q q q q q q)
     refine ai.bq ?_
     obtain rfl:=ax h
     exact ai.bC (hg q q q q q q q)
   refine ai.a_<|W.bp [3,6,8,9,20,21,22] (ah (O.add (.lit q) (.k q))<|ar.bp [3,6,8,9,20,21,80] q<|ar.aW) ?_
   obtain rfl:=ax h
   exact ai.go (hg q q q q q q q)
  ·refine W.dd ?_
   refine ai.dc ?_
   obtain rfl:=ax h
   exact ai.aE (dB q q q)
 refine ai.de ?_
 refine ai.a_<|W.bM [6,7] (ah (O.dT (cs':=[.bm (fa dM).z ⟨8,[0]⟩ aX.1.length,.bm (b5 aL).z ⟨8,[1]⟩ aE.dG.length]) q (.obj q) Bn q q)<|ah (O.aA (.own q))<|ar.hs (G2:=[(6,.obj [ak (fa dM) aX.1,ak (b5 aL) aE.dG]),(9,ak gC aX.2),(82,.bm gC.z ⟨9,[]⟩ aX.2.length)]) q (cm.sK (y':=.agg [ak (fa dM) aX.1,ak (b5 aL) aE.dG]) (cs2:=[ak (fa dM) aX.1,ak (b5 aL) aE.dG]) q q (.obj q) (.cg q q) (.rM (.r q (.r q .nil)) .nil) (gu.agg (.f (.f .nil))) q xV q q q q q (.b q (.n q q (.w (en:=gC) q q q q .nil))))<|ar.gI (G2:=[(6,.obj [ak (fa dM) aX.1,ak (b5 aL) aE.dG])]) q (cm.kG q q (.bm q) q (.n q q .nil) q q)<|bR q) ?_
 refine W.fE (G1:=[(6,.obj [aj (b5 dM) aX.1,aj (b5 aL) aE.dG]),(7,aj gC aX.2)]) [6,7] (.z q q (gu.obj (.z (.z .nil))) (.z q q .js .nil)) ?_
 refine W.rt ?_
 obtain rfl:=ax h
 exact cA (.c (ys0:=[aj (b5 dM) aX.1,aj (b5 aL) aE.dG]) q Bn q q q (.f q (.f q .nil)) (.f q q .nil))
theorem Ox (a0:(List eF)) (r:Int × Int) (h:xE a0=some r):b_ Try.prog 33 [aj gC a0] [none] (.cw [j r.1,j r.2]):=by
 unfold xE at h
 refine b_.go (N:=⟨24,[]⟩) Try.func33 q q q q (W.fin ?_)
 refine W.st [(0,aj gC a0)] ?_
 refine W.aZ [0] ?_
 refine W.aZ [0,4] ?_
 refine W.bb<|W.bM [0,4,7,8,9] (ah (O.aA (.aD q))<|ah (O.gz (.aD q) sI)<|ah (O.aA (.k q))<|bR q) ?_
 refine W.bq ?_
 obtain ⟨x2,ao,h⟩:=aB h
 refine W.cj (G1:=[(0,_),(4,_),(7,_),(8,_),(9,_)]) (e' q q q q q) ?_
 refine W.e0 (s:=(0,0)) (λ(s1:Int × Int)=>[(0,aj gC a0),(4,j s1.1),(7,aj gC a0),(8,j (a0.length:Int)),(9,j s1.2)]) 0 (λ(x2:Int)=>[(0,aj gC a0),(4,j x2)]) ao (λs1 o h=>?_) ?_
 ·clear ao
  refine W.aZ [0,4,7,8,9,10] ?_
  refine W.bb<|W.bH h q (λdf h=>?_) (λdf h=>?_)
  ·refine W.bO<|ai.a_ ?_
   refine W.bb ?_
   obtain ⟨lr,aa,h⟩:=aB h
   refine W.bC [(0,aj gC a0),(4,j lr),(7,aj gC a0),(8,j (a0.length:Int)),(9,j s1.2)] ?_ ?_
   ·clear h; have h:=aa; clear aa
    refine W.bq ?_
    obtain ⟨bu,fH,h⟩:=aB h
    refine W.bM [0,4,6,7,8,9] (ah (O.cE (.aD q) (.lit q) sI fH)<|ah (O.jn (cs':=[j bu.State,j bu.bJ,j bu.gd,j bu.Drop]) (.bn q) Nz q q)<|ah (O.fD (cs:=[j 0,j 0,j 0,j 0]) HI q q)<|ar.dI (G2:=[(0,_),(4,_),(6,_),(7,_),(8,_),(9,_)]) (cs2:=[j bu.State,j bu.bJ,j bu.gd,j bu.Drop]) q (.obj q) (.cg q q) q Uj q q q q (.n q q (.n q q (.b q (.n q q (.n q q (.n q q .nil))))))<|bR q) ?_
    refine W.aZ [0,4,7,8,9,15] ?_
    obtain ⟨lQ,aa,h⟩:=aB h
    refine W.bC [(0,aj gC a0),(4,j lQ),(7,aj gC a0),(8,j (a0.length:Int)),(9,j s1.2)] ?_ ?_
    ·clear h; have h:=aa; clear aa
     refine W.bH h q (λcR h=>?_) (λcR h=>?_)
     ·refine W.bp [0,4,7,8,9] (br q<|ah (O.add (.lit q) (.k q))<|ar.bp [0,7,8,9,17] q<|ar.aW) ?_
      obtain rfl:=ax h
      exact ai.bC (e' q q q q q)
     ·refine W.bO ?_
      obtain rfl:=ax h
      exact ai.bC (e' q q q q q)
    refine ai.bq ?_
    obtain rfl:=ax h
    exact ai.bC (e' q q q q q)
   refine ai.a_<|W.bp [0,4,7,8,9] (ah (O.add (.lit q) (.k q))<|ar.bp [0,4,7,8,18] q<|ar.aW) ?_
   obtain rfl:=ax h
   exact ai.go (e' q q q q q)
  ·refine W.dd ?_
   refine ai.dc ?_
   obtain rfl:=ax h
   exact ai.aE (fe q q)
 refine ai.de ?_
 refine ai.a_<|W.aZ [2,3] ?_
 refine W.rt ?_
 obtain rfl:=ax h
 exact cA (.f q q (.f q q .nil))
theorem OB (a0:(List Int)) (r:Source) (h:GR a0=some r):b_ Try.prog 40 [aj aL a0] [none] (.agg (dU.cells r)):=by
 unfold GR at h
 refine b_.go (N:=⟨61,[]⟩) Try.func40 q q q q (W.fin ?_)
 refine W.st [(0,aj aL a0)] ?_
 refine W.bM [0,2] (ah (O.fD (cs:=[af aC,.aJ,.aJ,af aC]) xY q q)<|bR q) ?_
 refine W.bM [0,2,3] (ah (O.eS (cs:=[af ({ data:=#[101] }),ba false,j 0,j 0]) vR pY q q q)<|ah (O.eS (cs:=[af ({ data:=#[101] }),ba false,j 0,j 0,af aC,j 0]) vS rD q q q)<|ah (O.fD (cs:=[af aC,ba false,j 0,j 0,af aC,j 0]) rD q q)<|ar.dI (G2:=[(0,_),(2,_),(3,_)]) (cs2:=[af ({ data:=#[101] }),ba false,j 0,j 0,af aC,j 0]) q (.obj q) (.cg q q) q Hr q q q q (.n q q (.n q q (.b q .nil)))<|bR q) ?_
 refine W.bM [0,2,3,4] (ah (O.eS (cs:=[af ({ data:=#[120] }),ba true,j 0,j 0]) vR pY q q q)<|ah (O.eS (cs:=[af ({ data:=#[120] }),ba true,j 0,j 0,af aC,j 0]) vS rD q q q)<|ah (O.oK (ys:=[.agg [af ({ data:=#[120] }),ba true,j 0,j 0,af aC,j 0]]) (cs:=[af ({ data:=#[120] }),ba true,j 0,j 0,af aC,j 0]) sJ q q q q q xZ q q)<|ah (O.eS (cs:=[.bm 6 ⟨12,[]⟩ 1,af aC,ba false,j 0,j 0,j 0]) Hh Dt q q q)<|ah (O.oK (ys:=[.agg [.bm 6 ⟨12,[]⟩ 1,af aC,ba false,j 0,j 0,j 0]]) (cs:=[.bm 6 ⟨12,[]⟩ 1,af aC,ba false,j 0,j 0,j 0]) uc q q q q q Dv q q)<|ah (O.eS (cs:=[af ({ data:=#[101] }),.bm 6 ⟨14,[]⟩ 1,j 0]) L8 A3 q q q)<|ah (O.fD (cs:=[af aC,.aJ,j 0]) A3 q q)<|ar.hs (G2:=[(0,aj aL a0),(2,.obj [af aC,.aJ,.aJ,af aC]),(3,.obj [af ({ data:=#[101] }),ba false,j 0,j 0,af aC,j 0]),(4,.obj [af ({ data:=#[101] }),ak dY [(⟨[(⟨(⟨{ data:=#[120] },true,0,0⟩:Sym),aC,0⟩:Part)],(⟨aC,false,0,0⟩:Sym),0⟩:Alt)],j 0])]) q (cm.sK (y':=.agg [af ({ data:=#[101] }),ak dY [(⟨[(⟨(⟨{ data:=#[120] },true,0,0⟩:Sym),aC,0⟩:Part)],(⟨aC,false,0,0⟩:Sym),0⟩:Alt)],j 0]) (cs2:=[af ({ data:=#[101] }),ak dY [(⟨[(⟨(⟨{ data:=#[120] },true,0,0⟩:Sym),aC,0⟩:Part)],(⟨aC,false,0,0⟩:Sym),0⟩:Alt)],j 0]) q q (.obj q) (.cg q q) (.rM (.f (.l q q (.l q q (.f (.f (.f (.f (.f (.f .nil)))))) (.f (.f (.f (.f (.f .nil)))))) (.f .nil))) .nil) (gu.agg (.f (.g (gu.own (.z (hv:=kh.G_ (en:=fj) (L:=[(⟨(⟨{ data:=#[120] },true,0,0⟩:Sym),aC,0⟩:Part)]) (cs':=[af ({ data:=#[120] }),ba true,j 0,j 0,af aC,j 0]) q q) (.f (.f (.f (.f (.f .nil))))))) (.f .nil)))) q Hu q q q q q (.n q q (.n q q (.n q q (.b q .nil)))))<|bR q) ?_
 refine W.bM [0,2,3,4,5] (ah (O.fD (cs:=[af aC,.aJ,.aJ,af aC]) xY q q)<|bR q) ?_
 refine W.bb<|W.aZ [0,2,3,4,5,6] ?_
 refine W.bq ?_
 obtain ⟨x2,ao,h⟩:=aB h
 refine W.cj (G1:=[(0,_),(2,_),(3,_),(4,_),(5,.obj [af aC,ak cM ([]:List Decl),.aJ,af aC]),(6,_)]) (.n q (.n q (.n q (.n q (.w q q (kZ.obj (.f (.o (.f (.f .nil))))) (.n q .nil)))))) ?_
 refine W.e0 (s:=([(⟨[(⟨(⟨{ data:=#[120] },true,0,0⟩:Sym),aC,0⟩:Part)],(⟨aC,false,0,0⟩:Sym),0⟩:Alt)],([]:List Decl),0)) (λ(s1:List Alt × List Decl × Int)=>[(0,aj aL a0),(2,.obj [af aC,.aJ,.aJ,af aC]),(3,.obj [af ({ data:=#[101] }),ba false,j 0,j 0,af aC,j 0]),(4,.obj [af ({ data:=#[101] }),ak dY s1.1,j 0]),(5,.obj [af aC,ak cM s1.2.1,.aJ,af aC]),(6,j s1.2.2)]) 0 (λ(x2:List Alt × List Decl)=>[(2,.obj [af aC,.aJ,.aJ,af aC]),(4,.obj [af ({ data:=#[101] }),ak dY x2.1,j 0]),(5,.obj [af aC,ak cM x2.2,.aJ,af aC])]) ao (λs1 o h=>?_) ?_
 ·clear ao
  refine W.bb ?_
  obtain ⟨kk,aa,h⟩:=aB h
  refine W.rs [(0,aj aL a0),(2,.obj [af aC,.aJ,.aJ,af aC]),(3,.obj [af ({ data:=#[101] }),ba false,j 0,j 0,af aC,j 0]),(4,.obj [af ({ data:=#[101] }),ak dY s1.1,j 0]),(5,.obj [af aC,ak cM s1.2.1,.aJ,af aC]),(6,j s1.2.2),(23,ba kk)] ?_ ?_
  ·refine br q<|ah (O.aA (.aD q))<|ah (O.gz (.aD q) eI)<|ah (O.lss (.lit q) (.lit q))<|ah (O.aA (.lit q)) ?_
   rcases cI aa with ⟨df,aa⟩ | ⟨df,aa⟩
   ·obtain rfl:=ax aa
    exact ar.aW
   ·obtain rfl:=ax aa
    exact ar.aW
  refine W.bH h q (λdN h=>?_) (λdN h=>?_)
  ·refine W.bO<|ai.a_ ?_
   refine W.bb<|W.bq ?_
   refine W.bM [0,2,3,4,5,6,7] (br q<|ah (O.add (.k q) (.lit q))<|ah (O.s9 (.lit q) vi CA)<|ar.gq (x:=aj nw [g_ (aM (65+s1.2.2))]) (O.dF (ys:=[lE (g_ (aM (65+s1.2.2)))]) nw [g_ (aM (65+s1.2.2))] Da q q q q q q HN q q) q q .none<|ah (O.Eg (.aD q) DS)<|ah (O.eS (cs:=[af (strOfNums [g_ (aM (65+s1.2.2))]),ba true,j 0,j 0]) vR pY q q q)<|ah (O.fD (cs:=[af aC,ba false,j 0,j 0]) pY q q)<|ar.dI (G2:=[(0,_),(2,_),(3,_),(4,_),(5,_),(6,_),(7,_)]) (cs2:=[af (strOfNums [g_ (aM (65+s1.2.2))]),ba true,j 0,j 0]) q (.obj q) (.cg q q) q vV q q q q (.n q q (.n q q (.n q q (.n q q (.n q q (.n q q (.b q .nil)))))))<|bR q) ?_
   refine W.bb ?_
   obtain ⟨bl,gb,h⟩:=aB h
   obtain ⟨bT,im,h⟩:=aB h
   obtain ⟨ct,iV,h⟩:=aB h
   refine W.rd [[],[0],[],[],[2,3],[2,3,4],[2,3,4,5],aO 2 5 [],[],[8],aO 2 8 [],aO 2 9 [],aO 0 12 [],aO 0 13 [],aO 0 14 []] [(0,_),(2,_),(3,_),(4,_),(5,_),(6,_),(7,_)] e1 (by kernel_rfl) (au 0 (O.bk q (.obj q) s' q)<|au 1 (O.c9 (y:=.bm cM.z ⟨5,[1]⟩ s1.2.1.length) q (.ptr q) wQ q q)<|au 2 (O.aA (.aD q))<|au 3 (O.aA (.lit q))<|au 4 (O.cE (.aD q) (.lit q) eI gb)<|au 5 (O.c8 (x:=j bl) (.bn q) cz q)<|iM 6 (cu.go (.bX (.lit q) (.bX (.k q) .nil)) (yp bl 3 _ im) call14 q)<|au 7 (O.add (.k q) (.lit q))<|au 8 (O.dT (cs':=[af (strOfNums [g_ (aM (65+s1.2.2))]),ba true,j 0,j 0]) q (.obj q) k1 q q)<|bV.gq 9 (x:=aj dq [(⟨strOfNums [g_ (aM (65+s1.2.2))],true,0,0⟩:Sym)]) (O.dF (ys:=[.agg [af (strOfNums [g_ (aM (65+s1.2.2))]),ba true,j 0,j 0]]) dq [(⟨strOfNums [g_ (aM (65+s1.2.2))],true,0,0⟩:Sym)] qF q q q q q q HO q q) q q q q .none<|au 10 (O.eS (cs:=[j (aM (2+bT)),af aC,aj dq [(⟨strOfNums [g_ (aM (65+s1.2.2))],true,0,0⟩:Sym)],j 0]) L4 HF q q q)<|bV.gq 11 (x:=aj cM [(⟨aM (2+bT),aC,[(⟨strOfNums [g_ (aM (65+s1.2.2))],true,0,0⟩:Sym)],0⟩:Decl)]) (O.dF (ys:=[.agg [j (aM (2+bT)),af aC,aj dq [(⟨strOfNums [g_ (aM (65+s1.2.2))],true,0,0⟩:Sym)],j 0]]) cM [(⟨aM (2+bT),aC,[(⟨strOfNums [g_ (aM (65+s1.2.2))],true,0,0⟩:Sym)],0⟩:Decl)] sG q q q q q q MI q q) q q q q .none<|au 12 (O.ap (en:=cM) (r:=ct) (.bm q) q (.aD q) .i Ie q iV)<|au 13 (O.bk q (.obj q) s' q)<|bV.jI 14 (G2:=[(0,aj aL a0),(2,.obj [af aC,.aJ,.aJ,af aC]),(3,.obj [af ({ data:=#[101] }),ba false,j 0,j 0,af aC,j 0]),(4,.obj [af ({ data:=#[101] }),ak dY s1.1,j 0]),(5,.obj [af aC,ak cM (s1.2.1++[(⟨aM (2+bT),aC,[(⟨strOfNums [g_ (aM (65+s1.2.2))],true,0,0⟩:Sym)],0⟩:Decl)]),.aJ,af aC]),(6,j s1.2.2),(7,.obj [af (strOfNums [g_ (aM (65+s1.2.2))]),ba true,j 0,j 0])]) (cm.lW (g1:=_) (en:=cM) (M:=[(⟨aM (2+bT),aC,[(⟨strOfNums [g_ (aM (65+s1.2.2))],true,0,0⟩:Sym)],0⟩:Decl)]) (cs2:=[af aC,ak cM (s1.2.1++[(⟨aM (2+bT),aC,[(⟨strOfNums [g_ (aM (65+s1.2.2))],true,0,0⟩:Sym)],0⟩:Decl)]),.aJ,af aC]) q q (.ptr q) (.b2 q) q q q .lb .gZ q q Ml q q q q (.n q q (.n q q (.n q q (.n q q (.b q (.n q q (.n q q .nil)))))))) q q q q (by kernel_rfl) (by kernel_rfl)<|bV.fin q q q (hg q q q q q q q)) ?_
   refine ai.a_ ?_
   obtain ⟨bQ,jk,h⟩:=aB h
   refine W.bp [0,2,3,4,5,6] (ah (O.bk q (.obj q) q9 q)<|ah (O.c9 (y:=.bm dY.z ⟨4,[1]⟩ s1.1.length) q (.ptr q) uI q q)<|ah (O.dT (cs':=[af ({ data:=#[101] }),ba false,j 0,j 0,af aC,j 0]) q (.obj q) Bo q q)<|ah (O.dT (cs':=[af (strOfNums [g_ (aM (65+s1.2.2))]),ba true,j 0,j 0]) q (.obj q) k1 q q)<|ah (O.eS (cs:=[af (strOfNums [g_ (aM (65+s1.2.2))]),ba true,j 0,j 0,af aC,j 0]) vS rD q q q)<|ah (O.dT (cs':=[af ({ data:=#[101] }),ba false,j 0,j 0,af aC,j 0]) q (.obj q) Bo q q)<|ah (O.oK (ys:=[.agg [af ({ data:=#[101] }),ba false,j 0,j 0,af aC,j 0],.agg [af (strOfNums [g_ (aM (65+s1.2.2))]),ba true,j 0,j 0,af aC,j 0],.agg [af ({ data:=#[101] }),ba false,j 0,j 0,af aC,j 0]]) (cs:=[af ({ data:=#[101] }),ba false,j 0,j 0,af aC,j 0,af (strOfNums [g_ (aM (65+s1.2.2))]),ba true,j 0,j 0,af aC,j 0,af ({ data:=#[101] }),ba false,j 0,j 0,af aC,j 0]) sJ q q q q q xZ q q)<|ah (O.eS (cs:=[.bm 6 ⟨52,[]⟩ 3,af aC,ba false,j 0,j 0,j 0]) Hh Dt q q q)<|ah (O.oK (ys:=[.agg [.bm 6 ⟨52,[]⟩ 3,af aC,ba false,j 0,j 0,j 0]]) (cs:=[.bm 6 ⟨52,[]⟩ 3,af aC,ba false,j 0,j 0,j 0]) uc q q q q q Dv q q)<|ah (O.wF (en:=dY) (M:=[(⟨[(⟨(⟨{ data:=#[101] },false,0,0⟩:Sym),aC,0⟩:Part),(⟨(⟨strOfNums [g_ (aM (65+s1.2.2))],true,0,0⟩:Sym),aC,0⟩:Part),(⟨(⟨{ data:=#[101] },false,0,0⟩:Sym),aC,0⟩:Part)],(⟨aC,false,0,0⟩:Sym),0⟩:Alt)]) (r:=bQ) (.bm q) q (.own q) q q q q DK q jk)<|ah (O.bk q (.obj q) q9 q)<|ar.hs (G2:=[(0,aj aL a0),(2,.obj [af aC,.aJ,.aJ,af aC]),(3,.obj [af ({ data:=#[101] }),ba false,j 0,j 0,af aC,j 0]),(4,.obj [af ({ data:=#[101] }),ak dY (s1.1++[(⟨[(⟨(⟨{ data:=#[101] },false,0,0⟩:Sym),aC,0⟩:Part),(⟨(⟨strOfNums [g_ (aM (65+s1.2.2))],true,0,0⟩:Sym),aC,0⟩:Part),(⟨(⟨{ data:=#[101] },false,0,0⟩:Sym),aC,0⟩:Part)],(⟨aC,false,0,0⟩:Sym),0⟩:Alt)]),j 0]),(5,.obj [af aC,ak cM (s1.2.1++[(⟨aM (2+bT),aC,[(⟨strOfNums [g_ (aM (65+s1.2.2))],true,0,0⟩:Sym)],0⟩:Decl)]),.aJ,af aC]),(6,j s1.2.2)]) q (cm.lW (g1:=_) (en:=dY) (M:=[(⟨[(⟨(⟨{ data:=#[101] },false,0,0⟩:Sym),aC,0⟩:Part),(⟨(⟨strOfNums [g_ (aM (65+s1.2.2))],true,0,0⟩:Sym),aC,0⟩:Part),(⟨(⟨{ data:=#[101] },false,0,0⟩:Sym),aC,0⟩:Part)],(⟨aC,false,0,0⟩:Sym),0⟩:Alt)]) (cs2:=[af ({ data:=#[101] }),ak dY (s1.1++[(⟨[(⟨(⟨{ data:=#[101] },false,0,0⟩:Sym),aC,0⟩:Part),(⟨(⟨strOfNums [g_ (aM (65+s1.2.2))],true,0,0⟩:Sym),aC,0⟩:Part),(⟨(⟨{ data:=#[101] },false,0,0⟩:Sym),aC,0⟩:Part)],(⟨aC,false,0,0⟩:Sym),0⟩:Alt)]),j 0]) q q (.ptr q) (.b2 q) q q q (.l q q (.f (.f (.f (.f (.f (.f (.f (.f (.f (.f (.f (.f (.f (.f (.f (.f (.f (.f .nil)))))))))))))))))) (.f (.f (.f (.f (.f .nil)))))) (.z (hv:=kh.G_ (en:=fj) (L:=[(⟨(⟨{ data:=#[101] },false,0,0⟩:Sym),aC,0⟩:Part),(⟨(⟨strOfNums [g_ (aM (65+s1.2.2))],true,0,0⟩:Sym),aC,0⟩:Part),(⟨(⟨{ data:=#[101] },false,0,0⟩:Sym),aC,0⟩:Part)]) (cs':=[af ({ data:=#[101] }),ba false,j 0,j 0,af aC,j 0,af (strOfNums [g_ (aM (65+s1.2.2))]),ba true,j 0,j 0,af aC,j 0,af ({ data:=#[101] }),ba false,j 0,j 0,af aC,j 0]) q q) (.f (.f (.f (.f (.f .nil)))))) q q Ht q q q q (.n q q (.n q q (.n q q (.b q (.n q q (.n q q .nil)))))))<|bR q) ?_
   refine ai.bq ?_
   refine ai.a_<|W.bp [0,2,3,4,5,6] (br q<|ah (O.add (.lit q) (.k q))<|ar.bp [0,2,3,4,5,25] q<|ar.aW) ?_
   obtain rfl:=ax h
   exact ai.go (fC q q q q q q)
  ·refine W.dd ?_
   refine ai.dc ?_
   obtain rfl:=ax h
   exact ai.aE (dB q q q)
 refine ai.de ?_
 refine ai.a_<|W.bb ?_
 refine W.fE (G1:=[(2,_),(4,.obj [af ({ data:=#[101] }),aj dY x2.1,j 0]),(5,_)]) [4] (.n q q (.z q q (gu.obj (.f (.z (.f .nil)))) (.n q q .nil))) ?_
 refine W.bp [2,5] (ah (O.dT (cs':=[af ({ data:=#[101] }),aj dY x2.1,j 0]) q (.obj q) DN q q)<|ah (O.dF (ys:=[.agg [af ({ data:=#[101] }),aj dY x2.1,j 0]]) gN [(⟨{ data:=#[101] },x2.1,0⟩:fV)] o_ q q q q q q MN q q)<|ah (O.bk q (.obj q) n1 q)<|ar.hs (G2:=[(2,.obj [af aC,.aJ,.aJ,af aC]),(5,.obj [af aC,ak cM x2.2,ak gN [(⟨{ data:=#[101] },x2.1,0⟩:fV)],af aC])]) q (cm.sK (y':=ak gN [(⟨{ data:=#[101] },x2.1,0⟩:fV)]) (cs2:=[af aC,ak cM x2.2,ak gN [(⟨{ data:=#[101] },x2.1,0⟩:fV)],af aC]) q q (.ptr q) (.own q) (.r q .nil) .refl q Mm q q q q q (.n q q (.b q .nil)))<|bR q) ?_
 refine ai.a_<|W.bb ?_
 refine W.fE (G1:=[(2,_),(5,.obj [af aC,aj cM x2.2,aj gN [(⟨{ data:=#[101] },x2.1,0⟩:fV)],af aC])]) [5] (.n q q (.z q q (gu.obj (.f (.z (.z (.f .nil))))) .nil)) ?_
 refine W.bp [2] (ah (O.dT (cs':=[af aC,aj cM x2.2,aj gN [(⟨{ data:=#[101] },x2.1,0⟩:fV)],af aC]) q (.obj q) qV q q)<|ar.dI (G2:=[(2,_)]) (cs2:=[af aC,aj cM x2.2,aj gN [(⟨{ data:=#[101] },x2.1,0⟩:fV)],af aC]) q (.obj q) (.cg q q) q Df q q q q (.b q .nil)<|bR q) ?_
 refine ai.a_<|W.rt ?_
 obtain rfl:=ax h
 exact cA (.c (ys0:=[af aC,aj cM x2.2,aj gN [(⟨{ data:=#[101] },x2.1,0⟩:fV)],af aC]) q qV q q q (.f q (.f q (.f q (.f q .nil)))) .nil)
theorem OT (a0:(List State)) (av:Int) (a2:Int) (r:Int) (h:GX a0 av a2=some r):b_ Try.prog 77 [aj cF a0,j av,j a2] [none,none,none] (j r):=by
 unfold GX at h
 refine b_.go (N:=⟨26,[]⟩) Try.func77 q q q q (W.fin ?_)
 refine W.st [(0,aj cF a0),(1,j av),(2,j a2)] ?_
 refine W.aZ [0,1,2] ?_
 refine W.bb ?_
 obtain ⟨aE,fp,h⟩:=aB h
 refine W.bM [2,13,14,15] (ah (O.aA (.aD q))<|br q<|ah (O.cE (.aD q) (.lit q) kV fp)<|ah (O.eP (.bn q) r1)<|ah (O.c8 (x:=aj ie aE.di) (.bn q) uH q)<|ah (O.gz (.aD q) sF)<|ah (O.aA (.k q))<|bR q) ?_
 refine W.bq ?_
 obtain ⟨aX,ao,h⟩:=aB h
 refine W.cj (G1:=[(2,_),(13,_),(14,_),(15,_)]) (dA q q q q) ?_
 refine W.jM (s:=0) (λ(s2:Int)=>[(2,j a2),(13,aj ie aE.di),(14,j (aE.di.length:Int)),(15,j s2)]) 0 (λ(bN:Unit)=>[]) (λ(ck:Int)=>[(6,j ck)]) ao (λs2 o h=>?_) (λbN J=>?_) (λck J=>?_)
 ·clear ao
  refine W.aZ [2,13,14,15,16] ?_
  refine W.bb<|W.bH h q (λdN h=>?_) (λdN h=>?_)
  ·refine W.bO<|ai.a_ ?_
   refine W.bb<|W.bq ?_
   obtain ⟨bl,gb,h⟩:=aB h
   refine W.bM [2,8,13,14,15] (ah (O.cE (.aD q) (.lit q) sF gb)<|ah (O.jn (cs':=[j bl.Sym,j bl.hh]) (.bn q) Ip q q)<|ah (O.fD (cs:=[j 0,j 0]) Dr q q)<|ar.dI (G2:=[(2,_),(8,_),(13,_),(14,_),(15,_)]) (cs2:=[j bl.Sym,j bl.hh]) q (.obj q) (.cg q q) q Mj q q q q (.n q q (.b q (.n q q (.n q q (.n q q .nil)))))<|bR q) ?_
   refine W.aZ [2,8,13,14,15,22] ?_
   refine W.bH h q (λcR h=>?_) (λcR h=>?_)
   ·refine W.aZ [6] ?_
    refine W.rt ?_
    refine ai.ee ?_
    refine ai.c_ ?_
    obtain rfl:=ax h
    exact ai.gm (.n q .nil)
   ·refine W.bO<|ai.bq ?_
    refine ai.a_<|W.bp [2,13,14,15] (ah (O.add (.lit q) (.k q))<|ar.bp [2,13,14,25] q<|ar.aW) ?_
    obtain rfl:=ax h
    exact ai.go (dA q q q q)
  ·refine W.dd ?_
   refine ai.dc ?_
   obtain rfl:=ax h
   exact ai.x2 .nil
 ·subst J
  refine ai.de ?_
  refine ai.a_<|W.aZ [6] ?_
  refine W.rt ?_
  obtain rfl:=ax h
  exact cA (.f q q .nil)
 ·subst J
  refine ai.ee ?_
  refine ai.c_ ?_
  obtain rfl:=ax h
  exact cA (.f q q .nil)
theorem OK (a0:(List State)) (av:Int) (a2:(List Int)) (r:Int) (h:GU a0 av a2=some r):b_ Try.prog 64 [aj cF a0,j av,aj aL a2] [none,none,none] (j r):=by
 unfold GU at h
 refine b_.go (N:=⟨23,[]⟩) Try.func64 q q q q (W.fin ?_)
 refine W.st [(0,aj cF a0),(1,j av),(2,aj aL a2)] ?_
 refine W.aZ [0,1,2] ?_
 refine W.bb<|W.bM [0,1,9,10,11] (ah (O.aA (.aD q))<|ah (O.gz (.aD q) eI)<|ah (O.aA (.k q))<|bR q) ?_
 refine W.bq ?_
 obtain ⟨x2,ao,h⟩:=aB h
 refine W.cj (G1:=[(0,_),(1,_),(9,_),(10,_),(11,_)]) (e' q q q q q) ?_
 refine W.jM (s:=(av,0)) (λ(s1:Int × Int)=>[(0,aj cF a0),(1,j s1.1),(9,aj aL a2),(10,j (a2.length:Int)),(11,j s1.2)]) 0 (λ(aX:Int)=>[(1,j aX)]) (λ(bN:Int)=>[(6,j bN)]) ao (λs1 o h=>?_) (λaX J=>?_) (λbN J=>?_)
 ·clear ao
  refine W.aZ [0,1,9,10,11,12] ?_
  refine W.bb<|W.bH h q (λdK h=>?_) (λdK h=>?_)
  ·refine W.bO<|ai.a_ ?_
   refine W.bb<|W.bq ?_
   obtain ⟨bu,fH,h⟩:=aB h
   refine W.aZ [0,1,8,9,10,11] ?_
   obtain ⟨bl,gb,h⟩:=aB h
   refine W.bM [0,1,9,10,11] (ah (O.aA (.aD q))<|br q<|br q<|dL (cu.go (.bX (.aD q) (.bX (.lit q) (.bX (.lit q) .nil))) (OT a0 s1.1 bu _ gb) call77 q)<|ar.bp [0,9,10,11,18] q<|ar.aW) ?_
   refine W.aZ [0,1,9,10,11,20] ?_
   refine W.bH h q (λcR h=>?_) (λcR h=>?_)
   ·refine W.aZ [6] ?_
    refine W.rt ?_
    refine ai.ee ?_
    refine ai.c_ ?_
    obtain rfl:=ax h
    exact ai.gm (.n q .nil)
   ·refine W.bO<|ai.bq ?_
    refine ai.a_<|W.bp [0,1,9,10,11] (ah (O.add (.lit q) (.k q))<|ar.bp [0,1,9,10,21] q<|ar.aW) ?_
    obtain rfl:=ax h
    exact ai.go (e' q q q q q)
  ·refine W.dd ?_
   refine ai.dc ?_
   obtain rfl:=ax h
   exact ai.x2 (.n q .nil)
 ·subst J
  refine ai.de ?_
  refine ai.a_<|W.aZ [6] ?_
  refine W.rt ?_
  obtain rfl:=ax h
  exact cA (.f q q .nil)
 ·subst J
  refine ai.ee ?_
  refine ai.c_ ?_
  obtain rfl:=ax h
  exact cA (.f q q .nil)
theorem IX (a0:(List State)) (av:(List Int)) (r:Int) (h:CW a0 av=some r):b_ Try.prog 41 [aj cF a0,aj aL av] [none,none] (j r):=by
 unfold CW at h
 refine b_.go (N:=⟨8,[]⟩) Try.func41 q q q q (W.fin ?_)
 refine W.st [(0,aj cF a0),(1,aj aL av)] ?_
 refine W.aZ [0,1] ?_
 obtain ⟨aE,fp,h⟩:=aB h
 refine W.bM [4] (ah (O.aA (.aD q))<|ah (O.aA (.aD q))<|dL (cu.go (.bX (.aD q) (.bX (.k q) (.bX (.aD q) .nil))) (OK a0 0 av _ fp) call64 q)<|ar.aW) ?_
 refine W.rt ?_
 obtain rfl:=ax h
 exact cA (.f q q .nil)
set_option maxHeartbeats 2000000 in
theorem Ow  (r:Bool) (h:CV =some r):b_ Try.prog 29 [] [] (ba r):=by
 unfold CV at h
 refine b_.go (N:=⟨182,[]⟩) Try.func29 q q q q (W.fin ?_)
 refine W.st [] ?_
 refine W.dv [] ?_
 obtain ⟨aE,fp,h⟩:=aB h
 refine W.bM [1] (ar.gq (x:=aj aL [0]) (O.dF (ys:=[j 0]) aL [0] eI q q q q q q nm q q) q q .none<|dL (cu.go (.bX (.aD q) .nil) (OB [0] _ fp) call40 q)<|ah (O.fD (cs:=[af aC,.aJ,.aJ,af aC]) xY q q)<|ar.dI (G2:=[(1,_)]) (cs2:=[af aE.bz,aj cM aE.Decls,aj gN aE.ea,af aE.bA]) q (.obj q) (.cg q q) q Df q q q q (.b q .nil)<|bR q) ?_
 obtain ⟨x2,ho,h⟩:=aB h
 refine W.bM [1,2,3,4,5] (ah (O.dT (cs':=[af aE.bz,aj cM aE.Decls,aj gN aE.ea,af aE.bA]) q (.obj q) qV q q)<|dL (cu.go (.bX (.cg q q) .nil) (D' aE _ ho) call30 q)<|ah (O.aA (.cw q q))<|ah (O.ex (y:=.agg (ch.cells x2.1)) q q q)<|ah (O.ex (y:=aj cF x2.2.1) q q q)<|ah (O.ex (y:=aj eT x2.2.2.1) q q q)<|ah (O.ex (y:=ba x2.2.2.2) q q q)<|ah (O.fD (cs:=[.aJ,.aJ,.aJ,af aC,af aC]) pe q q)<|ar.dI (G2:=[(1,_),(2,_),(23,_),(24,_),(25,_)]) (cs2:=[aj bo x2.1.a',aj a8 x2.1.bw,aj bE x2.1.aY,af x2.1.bz,af x2.1.bA]) q (.obj q) (.cg q q) q nL q q q q (.n q q (.b q (.n q q (.n q q (.n q q .nil)))))<|ar.aW) ?_
 obtain ⟨aX,hL,h⟩:=aB h
 refine W.bM [1,3,5,6,7] (ah (O.dT (cs':=[aj bo x2.1.a',aj a8 x2.1.bw,aj bE x2.1.aY,af x2.1.bz,af x2.1.bA]) q (.obj q) gg q q)<|ah (O.aA (.aD q))<|ah (O.aA (.aD q))<|dL (cu.go (.bX (.cg q q) (.bX (.aD q) (.bX (.aD q) .nil))) (Ea x2.1 x2.2.1 x2.2.2.1 _ hL) call31 q)<|ah (O.aA (.cw q q))<|ah (O.ex (y:=.agg [aj (b5 dM) aX.1.eV,aj (b5 aL) aX.1.dG]) q q q)<|ah (O.ex (y:=aj gC aX.2) q q q)<|ah (O.fD (cs:=[.aJ,.aJ]) v_ q q)<|ar.dI (G2:=[(1,_),(3,_),(5,_),(6,_),(32,_)]) (cs2:=[aj (b5 dM) aX.1.eV,aj (b5 aL) aX.1.dG]) q (.obj q) (.cg q q) q xV q q q q (.n q q (.n q q (.n q q (.b q (.n q q .nil)))))<|ar.aW) ?_
 refine W.bM [1,3,5,6,7] (ah (O.bk q (.obj q) s' q)<|ar.dI (G2:=[(1,_),(3,_),(5,_),(6,_),(7,_)]) (cs2:=[af aE.bz,.aJ,aj gN aE.ea,af aE.bA]) q (.ptr q) .CF q Ml q q q q (.b q (.n q q (.n q q (.n q q (.n q q .nil)))))<|bR q) ?_
 obtain ⟨bN,mL,h⟩:=aB h
 refine W.bM [3,5,6,7,8,9,10,11] (ar.gq (x:=.agg [af aE.bz,aj cM ([]:List Decl),aj gN aE.ea,af aE.bA]) (O.dT (cs':=[af aE.bz,.aJ,aj gN aE.ea,af aE.bA]) q (.obj q) qV q q) q q .none<|dL (cu.go (.bX (.cg q q) .nil) (D' (⟨aE.bz,([]:List Decl),aE.ea,aE.bA⟩:Source) _ mL) call30 q)<|ah (O.aA (.cw q q))<|ah (O.ex (y:=.agg (ch.cells bN.1)) q q q)<|ah (O.ex (y:=aj cF bN.2.1) q q q)<|ah (O.ex (y:=aj eT bN.2.2.1) q q q)<|ah (O.ex (y:=ba bN.2.2.2) q q q)<|ah (O.fD (cs:=[.aJ,.aJ,.aJ,af aC,af aC]) pe q q)<|ar.dI (G2:=[(3,_),(5,_),(6,_),(7,_),(8,_),(38,_),(39,_),(40,_)]) (cs2:=[aj bo bN.1.a',aj a8 bN.1.bw,aj bE bN.1.aY,af bN.1.bz,af bN.1.bA]) q (.obj q) (.cg q q) q nL q q q q (.n q q (.n q q (.n q q (.n q q (.b q (.n q q (.n q q (.n q q .nil))))))))<|ar.aW) ?_
 obtain ⟨ck,kQ,h⟩:=aB h
 refine W.bM [3,5,6,7,11,13] (ah (O.dT (cs':=[aj bo bN.1.a',aj a8 bN.1.bw,aj bE bN.1.aY,af bN.1.bz,af bN.1.bA]) q (.obj q) gg q q)<|ah (O.aA (.aD q))<|ah (O.aA (.aD q))<|dL (cu.go (.bX (.cg q q) (.bX (.aD q) (.bX (.aD q) .nil))) (Ea bN.1 bN.2.1 bN.2.2.1 _ kQ) call31 q)<|ah (O.aA (.cw q q))<|ah (O.ex (y:=.agg [aj (b5 dM) ck.1.eV,aj (b5 aL) ck.1.dG]) q q q)<|ah (O.ex (y:=aj gC ck.2) q q q)<|ah (O.fD (cs:=[.aJ,.aJ]) v_ q q)<|ar.dI (G2:=[(3,_),(5,_),(6,_),(7,_),(11,_),(12,_),(47,_)]) (cs2:=[aj (b5 dM) ck.1.eV,aj (b5 aL) ck.1.dG]) q (.obj q) (.cg q q) q xV q q q q (.n q q (.n q q (.n q q (.n q q (.n q q (.b q (.n q q .nil)))))))<|ar.aW) ?_
 obtain ⟨bu,fH,h⟩:=aB h
 refine W.bM [3,5,6,7,11,13,14,15] (ah (O.aA (.aD q))<|dL (cu.go (.bX (.aD q) .nil) (Ox ck.2 _ fH) call33 q)<|ah (O.aA (.vX q q))<|ah (O.ex (y:=j bu.1) q q q)<|ah (O.ex (y:=j bu.2) q q q)<|ar.aW) ?_
 refine W.bb ?_
 obtain ⟨DW,aa,h⟩:=aB h
 refine W.rs [(3,aj cF x2.2.1),(6,.obj [aj (b5 dM) aX.1.eV,aj (b5 aL) aX.1.dG]),(90,ba DW)] ?_ ?_
 ·refine br q<|ah (O.not (.lit q))<|ah (O.aA (.lit q)) ?_
  rcases cI aa with ⟨cU,aa⟩ | ⟨cU,aa⟩
  ·obtain rfl:=ax aa
   exact ar.aW
  ·refine a1 cU (O.aA (.lit q))<|a1 cU (O.not (.lit q))<|ah (O.cC (.lit q) cU (.lit q))<|ah (O.aA (.lit q)) ?_
   rcases cI aa with ⟨cR,aa⟩ | ⟨cR,aa⟩
   ·obtain rfl:=ax aa
    exact ar.aW
   ·refine a1 cR (O.aA (.aD q))<|a1 cR (O.gz (.aD q) sI)<|a1 cR (O.neq (.lit q) (.k q))<|ah (O.cC (.lit q) cR (.lit q))<|ah (O.aA (.lit q)) ?_
    rcases cI aa with ⟨ey,aa⟩ | ⟨ey,aa⟩
    ·obtain rfl:=ax aa
     exact ar.aW
    ·refine a1 ey (O.aA (.aD q))<|a1 ey (O.gz (.aD q) sI)<|a1 ey (O.neq (.lit q) (.k q))<|ah (O.cC (.lit q) ey (.lit q))<|ah (O.aA (.lit q)) ?_
     rcases cI aa with ⟨eG,aa⟩ | ⟨eG,aa⟩
     ·obtain rfl:=ax aa
      exact ar.aW
     ·refine a1 eG (O.aA (.aD q)) ?_
      obtain ⟨cp,il,aa⟩:=aB aa
      refine a1 eG (O.cE (.aD q) (.k q) sI il)<|a1 eG (O.eP (.bn q) Jx)<|a1 eG (O.c8 (x:=j cp.gd) (.bn q) cz q)<|a1 eG (O.neq (.lit q) (.k q))<|ah (O.cC (.lit q) eG (.lit q))<|ah (O.aA (.lit q)) ?_
      rcases cI aa with ⟨ew,aa⟩ | ⟨ew,aa⟩
      ·obtain rfl:=ax aa
       exact ar.aW
      ·refine a1 ew (O.aA (.aD q)) ?_
       obtain ⟨dR,jE,aa⟩:=aB aa
       refine a1 ew (O.cE (.aD q) (.k q) sI jE)<|a1 ew (O.eP (.bn q) Jy)<|a1 ew (O.c8 (x:=j dR.Drop) (.bn q) cz q)<|a1 ew (O.neq (.lit q) (.k q))<|ah (O.cC (.lit q) ew (.lit q))<|ah (O.aA (.lit q)) ?_
       rcases cI aa with ⟨eE,aa⟩ | ⟨eE,aa⟩
       ·obtain rfl:=ax aa
        exact ar.aW
       ·refine a1 eE (O.aA (.lit q))<|a1 eE (O.neq (.lit q) (.k q))<|ah (O.cC (.lit q) eE (.lit q))<|ah (O.aA (.lit q)) ?_
        rcases cI aa with ⟨qe,aa⟩ | ⟨qe,aa⟩
        ·obtain rfl:=ax aa
         exact ar.aW
        ·obtain rfl:=ax aa
         exact ar.aW
 refine W.bH h q (λuX h=>?_) (λuX h=>?_)
 ·refine W.aZ [0] ?_
  refine W.rt ?_
  refine ai.c_ ?_
  obtain rfl:=ax h
  exact ai.fin (Fin.ro (.f q q .nil) q (oi (by kernel_rfl)) .nil q (.inr q))
 ·refine W.bO<|ai.a_ ?_
  obtain ⟨eJ,jL,h⟩:=aB h
  refine W.bM [3,6,16] (ah (O.aA (.aD q))<|ar.gq (x:=aj aL [1001,3,1001]) (O.dF (ys:=[j 1001,j 3,j 1001]) aL [1001,3,1001] eI q q q q q q nm q q) q q .none<|dL (cu.go (.bX (.aD q) (.bX (.aD q) .nil)) (IX x2.2.1 [1001,3,1001] _ jL) call41 q)<|ar.aW) ?_
  refine W.bb ?_
  obtain ⟨s7,aa,h⟩:=aB h
  refine W.rd [[],[0],[0,1],[0,1,2],[0,1,2],[0,1,2,4],[0,1,2,4,5],aO 0 7 [],aO 0 8 [],aO 0 9 [],aO 0 10 [],aO 0 11 [],aO 0 10 [],aO 0 13 [],aO 0 14 [],aO 0 15 [],aO 0 16 [],aO 0 17 [],aO 0 18 [],aO 0 19 [],aO 0 20 [],aO 0 19 [],aO 0 22 [],aO 0 23 [],aO 0 24 [],aO 0 25 [],aO 0 26 [],aO 0 27 [],aO 0 28 [],aO 0 29 [],aO 0 30 [],aO 0 31 [],aO 0 30 [],aO 0 33 [],aO 0 34 [],aO 0 35 [],aO 0 36 [],aO 0 37 [],aO 0 38 [],aO 0 39 [],aO 0 40 [],aO 0 41 [],aO 0 42 [],aO 0 41 [],aO 0 44 [],aO 0 45 [],aO 0 46 [],aO 0 47 [],aO 0 48 [],aO 0 49 [],aO 0 50 [],aO 0 51 [],aO 0 52 [],aO 0 53 [],aO 0 54 [],aO 0 52 [],aO 0 52 [55],aO 0 57 [],aO 0 58 [],aO 0 59 [],aO 0 60 [],aO 0 61 [],aO 0 62 [],aO 0 63 [],aO 0 64 [],aO 0 65 [],aO 0 66 [],aO 0 67 [],aO 0 68 [],aO 0 69 [],aO 0 70 [],aO 0 71 [],aO 0 72 [],aO 0 73 [],aO 0 68 [],aO 0 68 [],aO 0 68 [74,75],aO 0 77 [],aO 0 78 [],aO 0 79 [],aO 0 80 [],aO 0 81 [],aO 0 82 [],aO 0 83 [],aO 0 84 [],aO 0 85 [],aO 0 86 [],aO 0 87 [],aO 0 88 []] [(0,ba s7)] e1 (by kernel_rfl) ?_ ?_
  ·refine au 0 (O.aA (.lit q))<|au 1 (O.geq (.lit q) (.k q))<|au 2 (O.aA (.lit q)) ?_
   rcases cI aa with ⟨h6,aa⟩ | ⟨h6,aa⟩
   ·refine bx 3 h6 (O.aA (.lit q))<|bx 4 h6 (O.bk q (.obj q) pA q)<|bx 5 h6 (O.c9 (y:=aj (b5 dM) aX.1.eV) q (.ptr q) p9 q q)<|bx 6 h6 (O.gz (.aD q) qE)<|bx 7 h6 (O.lss (.lit q) (.lit q))<|au 8 (O.eu (.lit q) h6 (.lit q))<|au 9 (O.aA (.lit q)) ?_
    rcases cI aa with ⟨gF,aa⟩ | ⟨gF,aa⟩
    ·refine bx 10 gF (O.bk q (.obj q) pA q)<|bx 11 gF (O.c9 (y:=aj (b5 dM) aX.1.eV) q (.ptr q) p9 q q)<|bx 12 gF (O.aA (.lit q)) ?_
     obtain ⟨dO,mg,aa⟩:=aB aa
     refine bx 13 gF (O.cE (.aD q) (.lit q) qE mg)<|bx 14 gF (O.c8 (x:=aj dM dO) (.bn q) s8 q)<|bx 15 gF (O.gz (.aD q) sH)<|bx 16 gF (O.eql (.lit q) (.k q))<|au 17 (O.eu (.lit q) gF (.lit q))<|au 18 (O.aA (.lit q)) ?_
     rcases cI aa with ⟨jC,aa⟩ | ⟨jC,aa⟩
     ·refine bx 19 jC (O.bk q (.obj q) pA q)<|bx 20 jC (O.c9 (y:=aj (b5 dM) aX.1.eV) q (.ptr q) p9 q q)<|bx 21 jC (O.aA (.lit q)) ?_
      obtain ⟨eK,mH,aa⟩:=aB aa
      refine bx 22 jC (O.cE (.aD q) (.lit q) qE mH)<|bx 23 jC (O.c8 (x:=aj dM eK) (.bn q) s8 q) ?_
      obtain ⟨gj,lP,aa⟩:=aB aa
      refine bx 24 jC (O.cE (.aD q) (.k q) sH lP)<|bx 25 jC (O.eP (.bn q) Er)<|bx 26 jC (O.c8 (x:=j gj.Kind) (.bn q) cz q)<|bx 27 jC (O.eql (.lit q) (.k q))<|au 28 (O.eu (.lit q) jC (.lit q))<|au 29 (O.aA (.lit q)) ?_
      rcases cI aa with ⟨iS,aa⟩ | ⟨iS,aa⟩
      ·refine bx 30 iS (O.bk q (.obj q) pA q)<|bx 31 iS (O.c9 (y:=aj (b5 dM) aX.1.eV) q (.ptr q) p9 q q)<|bx 32 iS (O.aA (.lit q)) ?_
       obtain ⟨ib,qq,aa⟩:=aB aa
       refine bx 33 iS (O.cE (.aD q) (.lit q) qE qq)<|bx 34 iS (O.c8 (x:=aj dM ib) (.bn q) s8 q) ?_
       obtain ⟨gr,m_,aa⟩:=aB aa
       refine bx 35 iS (O.cE (.aD q) (.k q) sH m_)<|bx 36 iS (O.eP (.bn q) Jp)<|bx 37 iS (O.c8 (x:=j gr.N) (.bn q) cz q)<|bx 38 iS (O.eql (.lit q) (.k q))<|au 39 (O.eu (.lit q) iS (.lit q))<|au 40 (O.aA (.lit q)) ?_
       rcases cI aa with ⟨er,aa⟩ | ⟨er,aa⟩
       ·refine bx 41 er (O.bk q (.obj q) pA q)<|bx 42 er (O.c9 (y:=aj (b5 dM) aX.1.eV) q (.ptr q) p9 q q)<|bx 43 er (O.aA (.lit q)) ?_
        obtain ⟨ev,k8,aa⟩:=aB aa
        refine bx 44 er (O.cE (.aD q) (.lit q) qE k8)<|bx 45 er (O.c8 (x:=aj dM ev) (.bn q) s8 q) ?_
        obtain ⟨ha,mJ,aa⟩:=aB aa
        refine bx 46 er (O.cE (.aD q) (.k q) sH mJ)<|bx 47 er (O.eP (.bn q) Er)<|bx 48 er (O.c8 (x:=j ha.Kind) (.bn q) cz q)<|bx 49 er (O.eql (.lit q) (.k q))<|au 50 (O.eu (.lit q) er (.lit q))<|au 51 (O.aA (.lit q)) ?_
        rcases cI aa with ⟨lK,aa⟩ | ⟨lK,aa⟩
        ·refine bx 52 lK (O.bk q (.obj q) uP q)<|bx 53 lK (O.c9 (y:=aj (b5 aL) aX.1.dG) q (.ptr q) q1 q q)<|bx 54 lK (O.gz (.aD q) kU)<|bx 55 lK (O.aA (.aD q))<|bx 56 lK (O.gz (.aD q) kV)<|bx 57 lK (O.eql (.lit q) (.lit q))<|au 58 (O.eu (.lit q) lK (.lit q))<|au 59 (O.aA (.lit q)) ?_
         rcases cI aa with ⟨lL,aa⟩ | ⟨lL,aa⟩
         ·refine bx 60 lL (O.bk q (.obj q) uP q)<|bx 61 lL (O.c9 (y:=aj (b5 aL) aX.1.dG) q (.ptr q) q1 q q) ?_
          obtain ⟨mT,u_,aa⟩:=aB aa
          refine bx 62 lL (O.cE (.aD q) (.k q) kU u_)<|bx 63 lL (O.c8 (x:=aj aL mT) (.bn q) gX q)<|bx 64 lL (O.gz (.aD q) eI)<|bx 65 lL (O.eql (.lit q) (.k q))<|au 66 (O.eu (.lit q) lL (.lit q))<|au 67 (O.aA (.lit q)) ?_
          rcases cI aa with ⟨fK,aa⟩ | ⟨fK,aa⟩
          ·refine bx 68 fK (O.bk q (.obj q) uP q)<|bx 69 fK (O.c9 (y:=aj (b5 aL) aX.1.dG) q (.ptr q) q1 q q) ?_
           obtain ⟨gL,u',aa⟩:=aB aa
           refine bx 70 fK (O.cE (.aD q) (.k q) kU u')<|bx 71 fK (O.c8 (x:=aj aL gL) (.bn q) gX q) ?_
           obtain ⟨iD,qs,aa⟩:=aB aa
           refine bx 72 fK (O.cE (.aD q) (.k q) eI qs)<|bx 73 fK (O.c8 (x:=j iD) (.bn q) cz q)<|bx 74 fK (O.aA (.aD q))<|bV.gq 75 (x:=aj aL [1001]) (O.dF (ys:=[j 1001]) aL [1001] eI q q q q q q nm q q) q q q q (.jS q q fK) ?_
           obtain ⟨j3,mh,aa⟩:=aB aa
           refine bV.c 76 (cu.go (.bX (.aD q) (.bX (.aD q) .nil)) (IX x2.2.1 [1001] _ mh) call41 q) q q q q (.jS q q fK)<|bx 77 fK (O.eql (.lit q) (.lit q))<|au 78 (O.eu (.lit q) fK (.lit q))<|au 79 (O.aA (.lit q)) ?_
           rcases cI aa with ⟨jD,aa⟩ | ⟨jD,aa⟩
           ·refine bx 80 jD (O.bk q (.obj q) uP q)<|bx 81 jD (O.c9 (y:=aj (b5 aL) aX.1.dG) q (.ptr q) q1 q q) ?_
            obtain ⟨hW,rl,aa⟩:=aB aa
            refine bx 82 jD (O.cE (.aD q) (.k q) kU rl)<|bx 83 jD (O.c8 (x:=aj aL hW) (.bn q) gX q) ?_
            obtain ⟨sP,zu,aa⟩:=aB aa
            obtain rfl:=ax aa
            exact bx 84 jD (O.cE (.aD q) (.k q) eI zu)<|bx 85 jD (O.c8 (x:=j sP) (.bn q) cz q)<|bx 86 jD (O.eql (.lit q) (.k q))<|au 87 (O.eu (.lit q) jD (.lit q))<|au 88 (O.dv (.lit q))<|bV.fin q q q (.n q .nil)
           ·obtain rfl:=ax aa
            exact aH 80 jD<|aH 81 jD<|aH 82 jD<|aH 83 jD<|aH 84 jD<|aH 85 jD<|aH 86 jD<|au 87 (O.cC (.lit q) jD (.k q))<|au 88 (O.dv (.lit q))<|bV.fin q q q (.n q .nil)
          ·obtain rfl:=ax aa
           exact aH 68 fK<|aH 69 fK<|aH 70 fK<|aH 71 fK<|aH 72 fK<|aH 73 fK<|aH 74 fK<|aH 75 fK<|aH 76 fK<|aH 77 fK<|au 78 (O.cC (.lit q) fK (.k q))<|au 79 (O.aA (.lit q))<|aH 80 q<|aH 81 q<|aH 82 q<|aH 83 q<|aH 84 q<|aH 85 q<|aH 86 q<|au 87 (O.cC (.lit q) q (.k q))<|au 88 (O.dv (.lit q))<|bV.fin q q q (.n q .nil)
         ·obtain rfl:=ax aa
          exact aH 60 lL<|aH 61 lL<|aH 62 lL<|aH 63 lL<|aH 64 lL<|aH 65 lL<|au 66 (O.cC (.lit q) lL (.k q))<|au 67 (O.aA (.lit q))<|aH 68 q<|aH 69 q<|aH 70 q<|aH 71 q<|aH 72 q<|aH 73 q<|aH 74 q<|aH 75 q<|aH 76 q<|aH 77 q<|au 78 (O.cC (.lit q) q (.k q))<|au 79 (O.aA (.lit q))<|aH 80 q<|aH 81 q<|aH 82 q<|aH 83 q<|aH 84 q<|aH 85 q<|aH 86 q<|au 87 (O.cC (.lit q) q (.k q))<|au 88 (O.dv (.lit q))<|bV.fin q q q (.n q .nil)
        ·obtain rfl:=ax aa
         exact aH 52 lK<|aH 53 lK<|aH 54 lK<|aH 55 lK<|aH 56 lK<|aH 57 lK<|au 58 (O.cC (.lit q) lK (.k q))<|au 59 (O.aA (.lit q))<|aH 60 q<|aH 61 q<|aH 62 q<|aH 63 q<|aH 64 q<|aH 65 q<|au 66 (O.cC (.lit q) q (.k q))<|au 67 (O.aA (.lit q))<|aH 68 q<|aH 69 q<|aH 70 q<|aH 71 q<|aH 72 q<|aH 73 q<|aH 74 q<|aH 75 q<|aH 76 q<|aH 77 q<|au 78 (O.cC (.lit q) q (.k q))<|au 79 (O.aA (.lit q))<|aH 80 q<|aH 81 q<|aH 82 q<|aH 83 q<|aH 84 q<|aH 85 q<|aH 86 q<|au 87 (O.cC (.lit q) q (.k q))<|au 88 (O.dv (.lit q))<|bV.fin q q q (.n q .nil)
       ·obtain rfl:=ax aa
        exact aH 41 er<|aH 42 er<|aH 43 er<|aH 44 er<|aH 45 er<|aH 46 er<|aH 47 er<|aH 48 er<|aH 49 er<|au 50 (O.cC (.lit q) er (.k q))<|au 51 (O.aA (.lit q))<|aH 52 q<|aH 53 q<|aH 54 q<|aH 55 q<|aH 56 q<|aH 57 q<|au 58 (O.cC (.lit q) q (.k q))<|au 59 (O.aA (.lit q))<|aH 60 q<|aH 61 q<|aH 62 q<|aH 63 q<|aH 64 q<|aH 65 q<|au 66 (O.cC (.lit q) q (.k q))<|au 67 (O.aA (.lit q))<|aH 68 q<|aH 69 q<|aH 70 q<|aH 71 q<|aH 72 q<|aH 73 q<|aH 74 q<|aH 75 q<|aH 76 q<|aH 77 q<|au 78 (O.cC (.lit q) q (.k q))<|au 79 (O.aA (.lit q))<|aH 80 q<|aH 81 q<|aH 82 q<|aH 83 q<|aH 84 q<|aH 85 q<|aH 86 q<|au 87 (O.cC (.lit q) q (.k q))<|au 88 (O.dv (.lit q))<|bV.fin q q q (.n q .nil)
      ·obtain rfl:=ax aa
       exact aH 30 iS<|aH 31 iS<|aH 32 iS<|aH 33 iS<|aH 34 iS<|aH 35 iS<|aH 36 iS<|aH 37 iS<|aH 38 iS<|au 39 (O.cC (.lit q) iS (.k q))<|au 40 (O.aA (.lit q))<|aH 41 q<|aH 42 q<|aH 43 q<|aH 44 q<|aH 45 q<|aH 46 q<|aH 47 q<|aH 48 q<|aH 49 q<|au 50 (O.cC (.lit q) q (.k q))<|au 51 (O.aA (.lit q))<|aH 52 q<|aH 53 q<|aH 54 q<|aH 55 q<|aH 56 q<|aH 57 q<|au 58 (O.cC (.lit q) q (.k q))<|au 59 (O.aA (.lit q))<|aH 60 q<|aH 61 q<|aH 62 q<|aH 63 q<|aH 64 q<|aH 65 q<|au 66 (O.cC (.lit q) q (.k q))<|au 67 (O.aA (.lit q))<|aH 68 q<|aH 69 q<|aH 70 q<|aH 71 q<|aH 72 q<|aH 73 q<|aH 74 q<|aH 75 q<|aH 76 q<|aH 77 q<|au 78 (O.cC (.lit q) q (.k q))<|au 79 (O.aA (.lit q))<|aH 80 q<|aH 81 q<|aH 82 q<|aH 83 q<|aH 84 q<|aH 85 q<|aH 86 q<|au 87 (O.cC (.lit q) q (.k q))<|au 88 (O.dv (.lit q))<|bV.fin q q q (.n q .nil)
     ·obtain rfl:=ax aa
      exact aH 19 jC<|aH 20 jC<|aH 21 jC<|aH 22 jC<|aH 23 jC<|aH 24 jC<|aH 25 jC<|aH 26 jC<|aH 27 jC<|au 28 (O.cC (.lit q) jC (.k q))<|au 29 (O.aA (.lit q))<|aH 30 q<|aH 31 q<|aH 32 q<|aH 33 q<|aH 34 q<|aH 35 q<|aH 36 q<|aH 37 q<|aH 38 q<|au 39 (O.cC (.lit q) q (.k q))<|au 40 (O.aA (.lit q))<|aH 41 q<|aH 42 q<|aH 43 q<|aH 44 q<|aH 45 q<|aH 46 q<|aH 47 q<|aH 48 q<|aH 49 q<|au 50 (O.cC (.lit q) q (.k q))<|au 51 (O.aA (.lit q))<|aH 52 q<|aH 53 q<|aH 54 q<|aH 55 q<|aH 56 q<|aH 57 q<|au 58 (O.cC (.lit q) q (.k q))<|au 59 (O.aA (.lit q))<|aH 60 q<|aH 61 q<|aH 62 q<|aH 63 q<|aH 64 q<|aH 65 q<|au 66 (O.cC (.lit q) q (.k q))<|au 67 (O.aA (.lit q))<|aH 68 q<|aH 69 q<|aH 70 q<|aH 71 q<|aH 72 q<|aH 73 q<|aH 74 q<|aH 75 q<|aH 76 q<|aH 77 q<|au 78 (O.cC (.lit q) q (.k q))<|au 79 (O.aA (.lit q))<|aH 80 q<|aH 81 q<|aH 82 q<|aH 83 q<|aH 84 q<|aH 85 q<|aH 86 q<|au 87 (O.cC (.lit q) q (.k q))<|au 88 (O.dv (.lit q))<|bV.fin q q q (.n q .nil)
    ·obtain rfl:=ax aa
     exact aH 10 gF<|aH 11 gF<|aH 12 gF<|aH 13 gF<|aH 14 gF<|aH 15 gF<|aH 16 gF<|au 17 (O.cC (.lit q) gF (.k q))<|au 18 (O.aA (.lit q))<|aH 19 q<|aH 20 q<|aH 21 q<|aH 22 q<|aH 23 q<|aH 24 q<|aH 25 q<|aH 26 q<|aH 27 q<|au 28 (O.cC (.lit q) q (.k q))<|au 29 (O.aA (.lit q))<|aH 30 q<|aH 31 q<|aH 32 q<|aH 33 q<|aH 34 q<|aH 35 q<|aH 36 q<|aH 37 q<|aH 38 q<|au 39 (O.cC (.lit q) q (.k q))<|au 40 (O.aA (.lit q))<|aH 41 q<|aH 42 q<|aH 43 q<|aH 44 q<|aH 45 q<|aH 46 q<|aH 47 q<|aH 48 q<|aH 49 q<|au 50 (O.cC (.lit q) q (.k q))<|au 51 (O.aA (.lit q))<|aH 52 q<|aH 53 q<|aH 54 q<|aH 55 q<|aH 56 q<|aH 57 q<|au 58 (O.cC (.lit q) q (.k q))<|au 59 (O.aA (.lit q))<|aH 60 q<|aH 61 q<|aH 62 q<|aH 63 q<|aH 64 q<|aH 65 q<|au 66 (O.cC (.lit q) q (.k q))<|au 67 (O.aA (.lit q))<|aH 68 q<|aH 69 q<|aH 70 q<|aH 71 q<|aH 72 q<|aH 73 q<|aH 74 q<|aH 75 q<|aH 76 q<|aH 77 q<|au 78 (O.cC (.lit q) q (.k q))<|au 79 (O.aA (.lit q))<|aH 80 q<|aH 81 q<|aH 82 q<|aH 83 q<|aH 84 q<|aH 85 q<|aH 86 q<|au 87 (O.cC (.lit q) q (.k q))<|au 88 (O.dv (.lit q))<|bV.fin q q q (.n q .nil)
   ·obtain rfl:=ax aa
    exact aH 3 h6<|aH 4 h6<|aH 5 h6<|aH 6 h6<|aH 7 h6<|au 8 (O.cC (.lit q) h6 (.k q))<|au 9 (O.aA (.lit q))<|aH 10 q<|aH 11 q<|aH 12 q<|aH 13 q<|aH 14 q<|aH 15 q<|aH 16 q<|au 17 (O.cC (.lit q) q (.k q))<|au 18 (O.aA (.lit q))<|aH 19 q<|aH 20 q<|aH 21 q<|aH 22 q<|aH 23 q<|aH 24 q<|aH 25 q<|aH 26 q<|aH 27 q<|au 28 (O.cC (.lit q) q (.k q))<|au 29 (O.aA (.lit q))<|aH 30 q<|aH 31 q<|aH 32 q<|aH 33 q<|aH 34 q<|aH 35 q<|aH 36 q<|aH 37 q<|aH 38 q<|au 39 (O.cC (.lit q) q (.k q))<|au 40 (O.aA (.lit q))<|aH 41 q<|aH 42 q<|aH 43 q<|aH 44 q<|aH 45 q<|aH 46 q<|aH 47 q<|aH 48 q<|aH 49 q<|au 50 (O.cC (.lit q) q (.k q))<|au 51 (O.aA (.lit q))<|aH 52 q<|aH 53 q<|aH 54 q<|aH 55 q<|aH 56 q<|aH 57 q<|au 58 (O.cC (.lit q) q (.k q))<|au 59 (O.aA (.lit q))<|aH 60 q<|aH 61 q<|aH 62 q<|aH 63 q<|aH 64 q<|aH 65 q<|au 66 (O.cC (.lit q) q (.k q))<|au 67 (O.aA (.lit q))<|aH 68 q<|aH 69 q<|aH 70 q<|aH 71 q<|aH 72 q<|aH 73 q<|aH 74 q<|aH 75 q<|aH 76 q<|aH 77 q<|au 78 (O.cC (.lit q) q (.k q))<|au 79 (O.aA (.lit q))<|aH 80 q<|aH 81 q<|aH 82 q<|aH 83 q<|aH 84 q<|aH 85 q<|aH 86 q<|au 87 (O.cC (.lit q) q (.k q))<|au 88 (O.dv (.lit q))<|bV.fin q q q (.n q .nil)
  refine ai.a_<|W.rt ?_
  obtain rfl:=ax h
  exact ai.fin (Fin.ro (.f q q .nil) q (oi (by kernel_rfl)) .nil q (.inr q))
theorem Oy (a0:Cell) (r:Int) (h:Aa a0=some r):b_ Try.prog 37 [.agg (eT.cells a0)] [none] (j r):=by
 unfold Aa at h
 refine b_.go (N:=⟨17,[]⟩) Try.func37 q q q q (W.fin ?_)
 refine W.st [(0,.agg (eT.cells a0))] ?_
 refine W.bM [1] (ah (O.box (.cg q q) q)<|ar.aW) ?_
 refine W.aZ [1,3] ?_
 refine W.bb<|W.aZ [1,3,9] ?_
 obtain ⟨h0,aa,h⟩:=aB h
 refine W.bC [(1,.obj (eT.cells a0)),(3,j h0)] ?_ ?_
 ·clear h; have h:=aa; clear aa
  refine W.bH h q (λcX h=>?_) (λcX h=>?_)
  ·refine W.bp [1,3] (br q<|ah (O.add (.lit q) (.k q))<|ar.bp [1,11] q<|ar.aW) ?_
   obtain rfl:=ax h
   exact ai.bC (fe q q)
  ·refine W.bO ?_
   obtain rfl:=ax h
   exact ai.bC (fe q q)
 refine ai.a_<|W.bb ?_
 refine W.aZ [3,13] ?_
 obtain ⟨dm,aa,h⟩:=aB h
 refine W.bC [(3,j dm)] ?_ ?_
 ·clear h; have h:=aa; clear aa
  refine W.bH h q (λdf h=>?_) (λdf h=>?_)
  ·refine W.bp [3] (br q<|ah (O.add (.lit q) (.k q))<|ar.bp [15] q<|ar.aW) ?_
   obtain rfl:=ax h
   exact ai.bC (.n q .nil)
  ·refine W.bO ?_
   obtain rfl:=ax h
   exact ai.bC (.n q .nil)
 refine ai.a_<|W.aZ [2] ?_
 refine W.rt ?_
 obtain rfl:=ax h
 exact cA (.f q q .nil)
theorem OA (a0:(List Cell)) (r:Int) (h:Ac a0=some r):b_ Try.prog 39 [aj eT a0] [none] (j r):=by
 unfold Ac at h
 refine b_.go (N:=⟨19,[]⟩) Try.func39 q q q q (W.fin ?_)
 refine W.st [(0,aj eT a0)] ?_
 refine W.aZ [0] ?_
 refine W.aZ [0,3] ?_
 refine W.bb<|W.bM [3,6,7,8] (ah (O.aA (.aD q))<|ah (O.gz (.aD q) o')<|ah (O.aA (.k q))<|bR q) ?_
 refine W.bq ?_
 obtain ⟨x2,ao,h⟩:=aB h
 refine W.cj (G1:=[(3,_),(6,_),(7,_),(8,_)]) (dA q q q q) ?_
 refine W.e0 (s:=(0,0)) (λ(s1:Int × Int)=>[(3,j s1.1),(6,aj eT a0),(7,j (a0.length:Int)),(8,j s1.2)]) 0 (λ(x2:Int)=>[(3,j x2)]) ao (λs1 o h=>?_) ?_
 ·clear ao
  refine W.aZ [3,6,7,8,9] ?_
  refine W.bb<|W.bH h q (λdf h=>?_) (λdf h=>?_)
  ·refine W.bO<|ai.a_ ?_
   refine W.bb ?_
   obtain ⟨lr,aa,h⟩:=aB h
   refine W.bC [(3,j lr),(6,aj eT a0),(7,j (a0.length:Int)),(8,j s1.2)] ?_ ?_
   ·clear h; have h:=aa; clear aa
    refine W.bq ?_
    obtain ⟨bu,fH,h⟩:=aB h
    refine W.bM [3,5,6,7,8] (ah (O.cE (.aD q) (.lit q) o' fH)<|ah (O.jn (cs':=[j bu.State,j bu.bJ,j bu.ff,ba bu.hD,aj aL bu.aY]) (.bn q) wG q q)<|ah (O.fD (cs:=[j 0,j 0,j 0,ba false,.aJ]) Ds q q)<|ar.dI (G2:=[(3,_),(5,_),(6,_),(7,_),(8,_)]) (cs2:=[j bu.State,j bu.bJ,j bu.ff,ba bu.hD,aj aL bu.aY]) q (.obj q) (.cg q q) q Hq q q q q (.n q q (.b q (.n q q (.n q q (.n q q .nil)))))<|bR q) ?_
    obtain ⟨bl,gb,h⟩:=aB h
    refine W.bM [3,6,7,8,14] (ah (O.dT (cs':=[j bu.State,j bu.bJ,j bu.ff,ba bu.hD,aj aL bu.aY]) q (.obj q) wG q q)<|dL (cu.go (.bX (.cg q q) .nil) (Oy bu _ gb) call37 q)<|ar.aW) ?_
    obtain ⟨jm,aa,h⟩:=aB h
    refine W.bC [(3,j jm),(6,aj eT a0),(7,j (a0.length:Int)),(8,j s1.2)] ?_ ?_
    ·clear h; have h:=aa; clear aa
     refine W.bH h q (λey h=>?_) (λey h=>?_)
     ·refine W.bp [3,6,7,8] (br q<|ah (O.add (.lit q) (.k q))<|ar.bp [6,7,8,16] q<|ar.aW) ?_
      obtain rfl:=ax h
      exact ai.bC (dA q q q q)
     ·refine W.bO ?_
      obtain rfl:=ax h
      exact ai.bC (dA q q q q)
    refine ai.bq ?_
    obtain rfl:=ax h
    exact ai.bC (dA q q q q)
   refine ai.a_<|W.bp [3,6,7,8] (ah (O.add (.lit q) (.k q))<|ar.bp [3,6,7,17] q<|ar.aW) ?_
   obtain rfl:=ax h
   exact ai.go (dA q q q q)
  ·refine W.dd ?_
   refine ai.dc ?_
   obtain rfl:=ax h
   exact ai.aE (.n q .nil)
 refine ai.de ?_
 refine ai.a_<|W.aZ [2] ?_
 refine W.rt ?_
 obtain rfl:=ax h
 exact cA (.f q q .nil)
theorem Oj (a0:qL) (r:Bool) (h:zX a0=some r):b_ Try.prog 11 [.agg (ht.cells a0)] [none] (ba r):=by
 unfold zX at h
 refine b_.go (N:=⟨123,[]⟩) Try.func11 q q q q (W.fin ?_)
 refine W.st [(0,.agg (ht.cells a0))] ?_
 refine W.bM [1] (ah (O.box (.cg q q) q)<|ar.aW) ?_
 refine W.bb ?_
 obtain ⟨aE,fp,h⟩:=aB h
 refine W.bM [1,12] (dL (cu.go .nil (Ow  _ fp) call29 q)<|ar.aW) ?_
 refine W.bH h q (λcX h=>?_) (λcX h=>?_)
 ·refine W.aZ [2] ?_
  refine W.rt ?_
  refine ai.c_ ?_
  obtain rfl:=ax h
  exact cA (.f q q .nil)
 ·refine W.bO<|ai.a_ ?_
  obtain ⟨aX,hL,h⟩:=aB h
  obtain ⟨bN,mL,h⟩:=aB h
  refine W.bM [3,4,5,6] (ah (O.dT (cs':=[j a0.bw,aj (b5 aL) a0.ea,aj aL a0.nS,aj aL a0.l2,ba a0.pZ]) q (.obj q) Nx q q)<|dL (cu.go (.bX (.cg q q) .nil) (Ov a0 _ hL) call20 q)<|dL (cu.go (.bX (.cg q q) .nil) (D' aX _ mL) call30 q)<|ah (O.aA (.cw q q))<|ah (O.ex (y:=.agg (ch.cells bN.1)) q q q)<|ah (O.ex (y:=aj cF bN.2.1) q q q)<|ah (O.ex (y:=aj eT bN.2.2.1) q q q)<|ah (O.ex (y:=ba bN.2.2.2) q q q)<|ah (O.fD (cs:=[.aJ,.aJ,.aJ,af aC,af aC]) pe q q)<|ar.dI (G2:=[(3,_),(18,_),(19,_),(20,_)]) (cs2:=[aj bo bN.1.a',aj a8 bN.1.bw,aj bE bN.1.aY,af bN.1.bz,af bN.1.bA]) q (.obj q) (.cg q q) q nL q q q q (.b q (.n q q (.n q q (.n q q .nil))))<|ar.aW) ?_
  refine W.bb<|W.aZ [3,4,5,22] ?_
  refine W.bH h q (λdK h=>?_) (λdK h=>?_)
  ·refine W.aZ [2] ?_
   refine W.rt ?_
   refine ai.c_ ?_
   obtain rfl:=ax h
   exact cA (.f q q .nil)
  ·refine W.bO<|ai.a_ ?_
   obtain ⟨bu,fH,h⟩:=aB h
   refine W.bM [4,5,7,8] (ah (O.dT (cs':=[aj bo bN.1.a',aj a8 bN.1.bw,aj bE bN.1.aY,af bN.1.bz,af bN.1.bA]) q (.obj q) gg q q)<|ah (O.aA (.aD q))<|ah (O.aA (.aD q))<|dL (cu.go (.bX (.cg q q) (.bX (.aD q) (.bX (.aD q) .nil))) (Ea bN.1 bN.2.1 bN.2.2.1 _ fH) call31 q)<|ah (O.aA (.cw q q))<|ah (O.ex (y:=.agg [aj (b5 dM) bu.1.eV,aj (b5 aL) bu.1.dG]) q q q)<|ah (O.ex (y:=aj gC bu.2) q q q)<|ah (O.fD (cs:=[.aJ,.aJ]) v_ q q)<|ar.dI (G2:=[(4,_),(5,_),(7,_),(29,_)]) (cs2:=[aj (b5 dM) bu.1.eV,aj (b5 aL) bu.1.dG]) q (.obj q) (.cg q q) q xV q q q q (.n q q (.n q q (.b q (.n q q .nil))))<|ar.aW) ?_
   refine W.bb ?_
   obtain ⟨bl,gb,h⟩:=aB h
   refine W.bM [4,5,7,8,32] (ah (O.aA (.aD q))<|dL (cu.go (.bX (.aD q) .nil) (OA bN.2.2.1 _ gb) call39 q)<|ar.aW) ?_
   refine W.bH h q (λcR h=>?_) (λcR h=>?_)
   ·refine W.aZ [2] ?_
    refine W.rt ?_
    refine ai.c_ ?_
    obtain rfl:=ax h
    exact cA (.f q q .nil)
   ·refine W.bO<|ai.a_ ?_
    refine W.bb<|W.aZ [5,7,8,9] ?_
    refine W.bq ?_
    obtain ⟨bQ,ao,h⟩:=aB h
    refine W.cj (G1:=[(5,_),(7,_),(8,_),(9,_)]) (dA q q q q) ?_
    refine W.jM (s:=0) (λ(hB:Int)=>[(5,aj eT bN.2.2.1),(7,.obj [aj (b5 dM) bu.1.eV,aj (b5 aL) bu.1.dG]),(8,aj gC bu.2),(9,j hB)]) 0 (λ(cp:Unit)=>[(8,aj gC bu.2)]) (λ(cO:Bool)=>[(2,ba cO)]) ao (λhB o h=>?_) (λcp J=>?_) (λcO J=>?_)
    ·clear ao
     refine W.bb<|W.aZ [5,7,8,9,42] ?_
     refine W.bH h q (λjB h=>?_) (λjB h=>?_)
     ·refine W.bO<|ai.a_ ?_
      refine W.bb<|W.bq ?_
      refine W.bM [5,7,8,9,10] (ah (O.eS (cs:=[j 3,j 0]) rv nQ q q q)<|ah (O.fD (cs:=[j 0,j 0]) nQ q q)<|ar.dI (G2:=[(5,_),(7,_),(8,_),(9,_),(10,_)]) (cs2:=[j 3,j 0]) q (.obj q) (.cg q q) q oq q q q q (.n q q (.n q q (.n q q (.n q q (.b q .nil)))))<|bR q) ?_
      refine W.bb ?_
      obtain ⟨d',kr,h⟩:=aB h
      refine W.aZ [5,7,8,9,10,51] ?_
      obtain ⟨mm,aa,h⟩:=aB h
      refine W.bC [(5,aj eT bN.2.2.1),(7,.obj [aj (b5 dM) bu.1.eV,aj (b5 aL) bu.1.dG]),(8,aj gC bu.2),(9,j hB),(10,.obj [j mm.1,j mm.2])] ?_ ?_
      ·clear h; have h:=aa; clear aa
       refine W.bH h q (λiw h=>?_) (λiw h=>?_)
       ·obtain ⟨b4,h8,h⟩:=aB h
        refine W.bp [5,7,8,9,10] (ah (O.aA (.aD q))<|br q<|ah (O.cE (.aD q) (.lit q) o' h8)<|ah (O.eP (.bn q) yI)<|ah (O.c8 (x:=j b4.ff) (.bn q) cz q)<|ah (O.eS (cs:=[j 1,j b4.ff]) rv nQ q q q)<|ar.dI (G2:=[(5,_),(7,_),(8,_),(9,_),(10,_)]) (cs2:=[j 1,j b4.ff]) q (.obj q) (.cg q q) q oq q q q q (.n q q (.n q q (.n q q (.n q q (.b q .nil)))))<|bR q) ?_
        obtain rfl:=ax h
        exact ai.bC (e' q q q q q)
       ·refine W.bO ?_
        obtain rfl:=ax h
        exact ai.bC (e' q q q q q)
      refine ai.a_<|W.bb ?_
      obtain ⟨eJ,jL,h⟩:=aB h
      refine W.aZ [5,7,8,9,10,64] ?_
      obtain ⟨e_,aa,h⟩:=aB h
      refine W.bC [(5,aj eT bN.2.2.1),(7,.obj [aj (b5 dM) bu.1.eV,aj (b5 aL) bu.1.dG]),(8,aj gC bu.2),(9,j hB),(10,.obj [j e_.1,j e_.2])] ?_ ?_
      ·clear h; have h:=aa; clear aa
       refine W.bH h q (λgF h=>?_) (λgF h=>?_)
       ·obtain ⟨dO,mg,h⟩:=aB h
        obtain ⟨gi,nD,h⟩:=aB h
        refine W.bp [5,7,8,9,10] (ah (O.aA (.aD q))<|br q<|ah (O.cE (.aD q) (.lit q) o' mg)<|ah (O.eP (.bn q) uS)<|ah (O.c8 (x:=aj aL dO.aY) (.bn q) gX q)<|ah (O.cE (.aD q) (.k q) eI nD)<|ah (O.c8 (x:=j gi) (.bn q) cz q)<|ah (O.eS (cs:=[j 2,j gi]) rv nQ q q q)<|ar.dI (G2:=[(5,_),(7,_),(8,_),(9,_),(10,_)]) (cs2:=[j 2,j gi]) q (.obj q) (.cg q q) q oq q q q q (.n q q (.n q q (.n q q (.n q q (.b q .nil)))))<|bR q) ?_
        obtain rfl:=ax h
        exact ai.bC (e' q q q q q)
       ·refine W.bO ?_
        obtain rfl:=ax h
        exact ai.bC (e' q q q q q)
      refine ai.a_<|W.bb ?_
      obtain ⟨By,aa,h⟩:=aB h
      refine W.rd [[],[],[0,1],[0,1,2],[0,1,2,3],[],[5],[5,6],aO 0 8 [],aO 0 9 [],aO 0 10 [],aO 0 10 [],aO 0 12 [],aO 0 13 [],aO 0 14 [],aO 0 10 [],aO 0 10 [15],aO 0 10 [],aO 0 10 [],aO 0 10 [17,18],aO 0 10 [17,18,19],aO 0 10 [17,18,19,20],aO 0 10 (aO 15 7 []),aO 0 10 (aO 15 8 []),aO 0 10 (aO 15 9 []),aO 0 25 [],aO 0 26 [],aO 0 27 [],aO 0 28 [],aO 0 29 [],aO 0 28 [],aO 0 28 [],aO 0 28 [30,31],aO 0 28 [30,31,32],aO 0 28 [30,31,32,33],aO 0 35 [],aO 0 36 [],aO 0 28 [],aO 0 28 [],aO 0 28 [37,38],aO 0 28 [37,38,39],aO 0 28 [37,38,39,40],aO 0 42 [],aO 0 43 [],aO 0 28 [],aO 0 45 [],aO 0 46 []] [(5,aj eT bN.2.2.1),(7,.obj [aj (b5 dM) bu.1.eV,aj (b5 aL) bu.1.dG]),(8,aj gC bu.2),(9,j hB),(119,ba By)] e1 (by kernel_rfl) ?_ ?_
      ·refine au 0 (O.aA (.aD q))<|au 1 (O.aA (.lit q)) ?_
       obtain ⟨eK,mH,aa⟩:=aB aa
       refine au 2 (O.cE (.aD q) (.lit q) o' mH)<|au 3 (O.eP (.bn q) uQ)<|au 4 (O.c8 (x:=j eK.State) (.bn q) cz q)<|au 5 (O.bk q (.obj q) pA q)<|au 6 (O.c9 (y:=aj (b5 dM) bu.1.eV) q (.ptr q) p9 q q)<|au 7 (O.gz (.aD q) qE)<|au 8 (O.geq (.lit q) (.lit q))<|au 9 (O.aA (.lit q)) ?_
       rcases cI aa with ⟨gP,aa⟩ | ⟨gP,aa⟩
       ·obtain rfl:=ax aa
        exact aH 10 gP<|aH 11 gP<|aH 12 gP<|aH 13 gP<|aH 14 gP<|aH 15 gP<|aH 16 gP<|aH 17 gP<|aH 18 gP<|aH 19 gP<|aH 20 gP<|aH 21 gP<|aH 22 gP<|aH 23 gP<|aH 24 gP<|aH 25 gP<|au 26 (O.eu (.lit q) gP (.k q))<|au 27 (O.aA (.lit q))<|aH 28 q<|aH 29 q<|aH 30 q<|aH 31 q<|aH 32 q<|aH 33 q<|aH 34 q<|aH 35 q<|aH 36 q<|aH 37 q<|aH 38 q<|aH 39 q<|aH 40 q<|aH 41 q<|aH 42 q<|aH 43 q<|aH 44 q<|aH 45 q<|au 46 (O.eu (.lit q) q (.k q))<|bV.fin q q q (e' q q q q q)
       ·refine bx 10 gP (O.aA (.aD q))<|bx 11 gP (O.aA (.lit q)) ?_
        obtain ⟨e3,mI,aa⟩:=aB aa
        refine bx 12 gP (O.cE (.aD q) (.lit q) o' mI)<|bx 13 gP (O.eP (.bn q) uR)<|bx 14 gP (O.c8 (x:=j e3.bJ) (.bn q) cz q)<|bx 15 gP (O.bk q (.obj q) pA q)<|bx 16 gP (O.c9 (y:=aj (b5 dM) bu.1.eV) q (.ptr q) p9 q q)<|bx 17 gP (O.aA (.aD q))<|bx 18 gP (O.aA (.lit q)) ?_
        obtain ⟨ib,qq,aa⟩:=aB aa
        refine bx 19 gP (O.cE (.aD q) (.lit q) o' qq)<|bx 20 gP (O.eP (.bn q) uQ)<|bx 21 gP (O.c8 (x:=j ib.State) (.bn q) cz q) ?_
        obtain ⟨gr,m_,aa⟩:=aB aa
        refine bx 22 gP (O.cE (.aD q) (.lit q) qE m_)<|bx 23 gP (O.c8 (x:=aj dM gr) (.bn q) s8 q)<|bx 24 gP (O.gz (.aD q) sH)<|bx 25 gP (O.geq (.lit q) (.lit q))<|au 26 (O.cC (.lit q) gP (.lit q))<|au 27 (O.aA (.lit q)) ?_
        rcases cI aa with ⟨er,aa⟩ | ⟨er,aa⟩
        ·obtain rfl:=ax aa
         exact aH 28 er<|aH 29 er<|aH 30 er<|aH 31 er<|aH 32 er<|aH 33 er<|aH 34 er<|aH 35 er<|aH 36 er<|aH 37 er<|aH 38 er<|aH 39 er<|aH 40 er<|aH 41 er<|aH 42 er<|aH 43 er<|aH 44 er<|aH 45 er<|au 46 (O.eu (.lit q) er (.k q))<|bV.fin q q q (e' q q q q q)
        ·refine bx 28 er (O.bk q (.obj q) pA q)<|bx 29 er (O.c9 (y:=aj (b5 dM) bu.1.eV) q (.ptr q) p9 q q)<|bx 30 er (O.aA (.aD q))<|bx 31 er (O.aA (.lit q)) ?_
         obtain ⟨ev,k8,aa⟩:=aB aa
         refine bx 32 er (O.cE (.aD q) (.lit q) o' k8)<|bx 33 er (O.eP (.bn q) uQ)<|bx 34 er (O.c8 (x:=j ev.State) (.bn q) cz q) ?_
         obtain ⟨ha,mJ,aa⟩:=aB aa
         refine bx 35 er (O.cE (.aD q) (.lit q) qE mJ)<|bx 36 er (O.c8 (x:=aj dM ha) (.bn q) s8 q)<|bx 37 er (O.aA (.aD q))<|bx 38 er (O.aA (.lit q)) ?_
         obtain ⟨i_,mK,aa⟩:=aB aa
         refine bx 39 er (O.cE (.aD q) (.lit q) o' mK)<|bx 40 er (O.eP (.bn q) uR)<|bx 41 er (O.c8 (x:=j i_.bJ) (.bn q) cz q) ?_
         obtain ⟨dH,sl,aa⟩:=aB aa
         obtain rfl:=ax aa
         exact bx 42 er (O.cE (.aD q) (.lit q) sH sl)<|bx 43 er (O.jn (cs':=[j dH.Kind,j dH.N]) (.bn q) oI q q)<|bx 44 er (O.dT (cs':=[j e_.1,j e_.2]) q (.obj q) oI q q)<|bx 45 er (O.Lg (va:=[.int .i64 dH.Kind,.int .i64 dH.N]) (vb:=[.int .i64 e_.1,.int .i64 e_.2]) (.cg q q) (.cg q q) q q Pu)<|au 46 (O.cC (.lit q) er (.lit q))<|bV.fin q q q (e' q q q q q)
      refine ai.a_<|W.bH h q (λfK h=>?_) (λfK h=>?_)
      ·refine W.aZ [2] ?_
       refine W.rt ?_
       refine ai.ee ?_
       refine ai.c_ ?_
       obtain rfl:=ax h
       exact ai.gm (.n q .nil)
      ·refine W.bO<|ai.bq ?_
       refine ai.a_<|W.bp [5,7,8,9] (br q<|ah (O.add (.lit q) (.k q))<|ar.bp [5,7,8,44] q<|ar.aW) ?_
       obtain rfl:=ax h
       exact ai.go (dA q q q q)
     ·refine W.dd ?_
      refine ai.dc ?_
      obtain rfl:=ax h
      exact ai.x2 (.n q .nil)
    ·subst J
     refine ai.de ?_
     refine ai.a_<|W.aZ [2] ?_
     refine W.rt ?_
     obtain rfl:=ax h
     exact cA (.f q q .nil)
    ·subst J
     refine ai.ee ?_
     refine ai.c_ ?_
     obtain rfl:=ax h
     exact cA (.f q q .nil)
end Go.Proofs
namespace Go.Own
open Go Go.ChangeShapes Go.WideShapes Go.ChangeAt Go.RowKit
variable {H:Type}{enc:TypeId × Value->H}{P:Program}
theorem Tz {f:Func}{s:ChangeSpec}{apart fresh handsOn again:Bool}{W uv:World}{args:Array Value}{v:Value}{jz gs:List (DataW H)}{before lx pv:List MemPlace}
  (w3:DataW.Whole enc P f.params.toList s.vars apart W args.toList jz gs before) (hk:HV W uv) (sg:before=lx++pv)
  (xd:∀ (b:Nat) (sp:Nat->Bool) (aV:Bool),DataW.TrodAll enc P uv b sp aV f.resultTypes.toList (v.resultList f.resultTypes.size) (s.fn H (jz++gs)).results [])
  (n5:∀ sp:Nat->Bool,(∀ p∈before,sp p.block=true)->DataW.TrodAll enc P uv 0 sp true f.params.toList args.toList (s.fn H (jz++gs)).args lx)
  (KW:∀ sp:Nat->Bool,(∀ p∈before,sp p.block=true)->DataW.TrodVars enc P uv sp s.vars (s.fn H (jz++gs)).vars pv)
  (eA:∀ (ae:Nat) (t:TypeId) (r:Value),f.resultTypes[ae]?=some t->(v.resultList f.resultTypes.size)[ae]?=some r->Value.okWide P uv .any 0 t r) :
  s.post enc P f apart fresh handsOn again W args v uv:=by
 subst sg
 have bd:∀ p∈lx++pv,p.block<W.heap.size:=λp aF=>w3.lt p aF
 have kO:∀ p∈lx++pv,(λb=>decide (b<W.heap.size)) p.block=true:=λp aF=>decide_eq_true (bd p aF)
 have QH:=w3
 obtain ⟨_,_,_,_,_,bG,aN⟩:=QH
 have aG:=trodAll_append (n5 (λ_=>true) (λ_ _=>rfl)) (xd 0 (λ_=>true) true)
 refine ⟨jz,gs,lx++pv,[],lx,pv,w3,xd _ _ _,n5 _ kO,KW _ kO,hk.kept _,λ_=>⟨eA,_,_,lx++pv,⟨_,pv,aG,KW _ (λ_ _=>rfl),rfl,λb off aF=>?_,aN⟩,λp aF _=>aF⟩⟩
 rw [hk.fE _ (bd _ aF)]
 exact bG b off aF
end Go.Own
namespace Go.Proofs
open Go Go.Own
set_option maxRecDepth 100000
theorem Uu:Try.prog.underlying 3=some (.int .i64):=by kernel_rfl
theorem Ut:Try.prog.underlying 4=some .bool:=by kernel_rfl
def vx (n:Int):Prop:=(Lit.int .i64 n).wf=true
def okB (_:Bool):Prop:=True
def vy {α:Type}(p:α->Prop) (l:List α):Prop:=l.length<=maxLen/\∀ x∈l,p x
def Ti (x:qL):Prop:=vx x.bw/\vy (vy vx) x.ea/\vy vx x.nS/\vy vx x.l2/\okB x.pZ/\True
theorem H6:lA Try.prog aL 3 vx:=.int Uu (by kernel_rfl) λ_=>rfl
theorem M0:lA Try.prog bF 4 okB:=.bool Ut (by kernel_rfl) λ_=>rfl
theorem Uv:Try.prog.underlying 29=some (.slice 3):=by kernel_rfl
theorem DE:lA Try.prog (b5 aL) 29 (vy vx):=H6.slice (t:=29) Uv (by kernel_rfl) (by decide)
theorem M3:lA Try.prog (b5 (b5 aL)) 34 (vy (vy vx)):=DE.slice (t:=34) (by kernel_rfl) (by kernel_rfl) (by decide)
def Pr:cx qL:=⟨5,λx=>[j x.bw,aj (b5 aL) x.ea,aj aL x.nS,aj aL x.l2,ba x.pZ],λ_=>rfl,λ_=>eR.bI⟩
theorem L1:AO Try.prog 36 [3,34,29,29,4]=true:=by kernel_rfl
theorem M1:lA Try.prog Pr 36 Ti:=.struct (t:=36) (.cons H6 (.cons M3 (.cons DE (.cons DE (.cons M0 .nil))))) (λb=>(⟨b.1,b.2.1,b.2.2.1,b.2.2.2.1,b.2.2.2.2.1⟩:qL)) (λx=>(x.bw,x.ea,x.nS,x.l2,x.pZ,())) (λ_=>rfl) (λ_=>rfl) L1 (by kernel_rfl)
theorem Tq:laidOutB Try.prog=true:=by kernel_rfl
theorem Tr:mapsRowed Try.prog=true:=by kernel_rfl
theorem Tp:((List.range Try.prog.types.size).all λt=>match Try.prog.underlying t with | some (.slice e)=>decide (0<Try.prog.cellsOf e) | _=>true)=true:=by kernel_rfl
end Go.Proofs
