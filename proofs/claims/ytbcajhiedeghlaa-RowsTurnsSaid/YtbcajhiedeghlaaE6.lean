/-
  What is proved here: parts of the proof that the last text states: rules for walks through code, and of this program's functions what they answer. No condition of their own.
-/
import Derived.KernelRfl
import Derived.ProofKit
import Derived.RowKit3
import Derived.Test.YtbcajhiedeghlaaRows
import Derived.Test.YtbcajhiedeghlaaE5
namespace Go.Proofs
open Go Go.Own
set_option maxRecDepth 100000
set_option linter.unusedVariables false
theorem con75 (a0:Grammar) (a1:Int) (a2:Int) (r:Int) (h:pf75 a0 a1 a2=some r):Con Try.prog 75 [.agg (eGrammar_0.cells a0),I64 a1,I64 a2] [none,none,none] (I64 r):=by
 unfold pf75 at h
 refine Con.go (N:=⟨61,[]⟩) Try.func75 q q q q (W.fin ?_)
 refine W.st [(0,.agg (eGrammar_0.cells a0)),(1,I64 a1),(2,I64 a2)] ?_
 refine W.sq'<|W.rx [(1,_),(2,_),(3,_)] (Rv (O.box (.aggF q q) q)<|Vk q<|Fi (tn3 q q q)) ?_
 refine Px.sq<|W.sq' ?_
 obtain ⟨x1,hx1,h⟩:=bnd h
 refine W.rx [(2,_),(3,_),(7,_)] (Rv (O.ldON (cs':=[iR eTok a0.Toks,iR eNon a0.Nons,iR eProd_0 a0.Prods,SS a0.Pro,SS a0.Tail]) q (.obj q) at44 q q)<|Vm q<|Rc (PC.go (.cc (.aggF q q) (.cc (.lit q) .nil)) (con91 a0 a1 _ hx1) call91 q)<|Rv (O.mv (.tupF q q))<|Rv (O.ex (y:=I64 x1.1) q q q)<|Rv (O.ex (y:=I64 x1.2) q q q)<|Va q<|Va q<|Fi (tn3 q q q)) ?_
 refine Px.sq<|W.sq' ?_
 refine W.sq' ?_
 obtain ⟨c6,hj,h⟩:=bnd h
 refine W.rx [(2,I64 a2),(3,.obj (eGrammar_0.cells a0)),(7,I64 x1.1),(37,BB c6)] ?_ ?_
 ·refine Vm q<|Rv (O.eql (.lit q) (.k q))<|Rv (O.mv (.lit q)) ?_
  rcases cnd hj with ⟨hb2,hj⟩ | ⟨hb2,hj⟩
  ·obtain rfl:=sm hj
   exact RunL.ps q q hb2 q q<|RunL.ps q q hb2 q q<|Rv (O.pkT (.lit q) hb2 (.k q))<|Vm q<|RunL.ps q q q q q<|RunL.ps q q q q q<|RunL.ps q q q q q<|RunL.ps q q q q q<|RunL.ps q q q q q<|Rv (O.pkT (.lit q) q (.k q))<|Vm q<|RunL.ps q q q q q<|RunL.ps q q q q q<|RunL.ps q q q q q<|RunL.ps q q q q q<|RunL.ps q q q q q<|RunL.ps q q q q q<|RunL.ps q q q q q<|Rv (O.pkT (.lit q) q (.k q))<|Fi (tn4 q q q q)
  ·refine RunL.v (O.mv (.lit q)) q q (.yb q q hb2)<|RunL.v (O.lss (.lit q) (.k q)) q q (.yb q q hb2)<|Rv (O.pkF (.lit q) hb2 (.lit q))<|Rv (O.mv (.lit q)) ?_
   rcases cnd hj with ⟨hb3,hj⟩ | ⟨hb3,hj⟩
   ·obtain rfl:=sm hj
    exact RunL.ps q q hb3 q q<|RunL.ps q q hb3 q q<|RunL.ps q q hb3 q q<|RunL.ps q q hb3 q q<|RunL.ps q q hb3 q q<|Rv (O.pkT (.lit q) hb3 (.k q))<|Vm q<|RunL.ps q q q q q<|RunL.ps q q q q q<|RunL.ps q q q q q<|RunL.ps q q q q q<|RunL.ps q q q q q<|RunL.ps q q q q q<|RunL.ps q q q q q<|Rv (O.pkT (.lit q) q (.k q))<|Fi (tn4 q q q q)
   ·refine RunL.v (O.mv (.lit q)) q q (.yb q q hb3)<|RunL.v (O.fO q (.obj q) fd44_0 q) q q (.yb q q hb3)<|RunL.v (O.ldO (y:=iR eTok a0.Toks) q (.ptr q) ct40 q q) q q (.yb q q hb3)<|RunL.v (O.lenI (.imm q) sl40) q q (.yb q q hb3)<|RunL.v (O.geq (.lit q) (.lit q)) q q (.yb q q hb3)<|Rv (O.pkF (.lit q) hb3 (.lit q))<|Rv (O.mv (.lit q)) ?_
    rcases cnd hj with ⟨hb4,hj⟩ | ⟨hb4,hj⟩
    ·obtain rfl:=sm hj
     exact RunL.ps q q hb4 q q<|RunL.ps q q hb4 q q<|RunL.ps q q hb4 q q<|RunL.ps q q hb4 q q<|RunL.ps q q hb4 q q<|RunL.ps q q hb4 q q<|RunL.ps q q hb4 q q<|Rv (O.pkT (.lit q) hb4 (.k q))<|Fi (tn4 q q q q)
    ·refine RunL.v (O.fO q (.obj q) fd44_0 q) q q (.yb q q hb4)<|RunL.v (O.ldO (y:=iR eTok a0.Toks) q (.ptr q) ct40 q q) q q (.yb q q hb4)<|RunL.v (O.mv (.lit q)) q q (.yb q q hb4) ?_
     obtain ⟨x5,hx5,hj⟩:=bnd hj
     obtain rfl:=sm hj
     exact RunL.v (O.ixI (.imm q) (.lit q) sl40 hx5) q q (.yb q q hb4)<|RunL.v (O.fI (.iptr q) fd78_3) q q (.yb q q hb4)<|RunL.v (O.ldI (x:=I64 x5.Level) (.iptr q) ct3 q) q q (.yb q q hb4)<|RunL.v (O.eql (.lit q) (.k q)) q q (.yb q q hb4)<|Rv (O.pkF (.lit q) hb4 (.lit q))<|Fi (tn4 q q q q)
 refine Px.sq<|W.cnd q (fun hb7=>?_) (fun hb7=>?_)
 ·replace h:=cndT hb7 h
  refine W.sq'<|W.rx [(6,_)] (Vk q<|Fi (.n q .nil)) ?_
  refine Px.sq<|W.rt ?_
  refine Px.sqR ?_
  obtain rfl:=sm h
  exact Px.fin (Fin.ro (.f q q .nil) q (ode (by kernel_rfl)) (.no (.no (.no .nil))) q (.inr q))
 ·replace h:=cndF hb7 h
  refine W.sk<|Px.sq ?_
  refine W.sq' ?_
  obtain ⟨x8,hx8,h⟩:=bnd h
  refine W.rx [(7,_),(9,_)] (Rv (O.fO q (.obj q) fd44_0 q)<|Rv (O.ldO (y:=iR eTok a0.Toks) q (.ptr q) ct40 q q)<|Vm q<|Rv (O.ixI (.imm q) (.lit q) sl40 hx8)<|Rv (O.ldIN (cs':=[SS x8.Name,BB x8.Lit,I64 x8.Num,I64 x8.Level,I64 x8.Assoc,SS x8.Tag]) (.iptr q) at78 q q)<|Rv (O.al (cs:=[SS S0,BB false,I64 0,I64 0,I64 0,SS S0]) ze78 q q)<|RunL.sO (G2:=[(7,_),(9,_)]) (cs2:=[SS x8.Name,BB x8.Lit,I64 x8.Num,I64 x8.Level,I64 x8.Assoc,SS x8.Tag]) q (.obj q) (.aggF q q) q sz78 q q q q (.n q q (.b q .nil))<|Fi (tn2 q q)) ?_
  refine Px.sq<|W.sq' ?_
  refine W.bk<|W.sq' ?_
  refine W.rx [(7,_),(9,_),(43,_)] (Rv (O.fO q (.obj q) fd78_3 q)<|Rv (O.ldO (y:=I64 x8.Level) q (.ptr q) ct3 q q)<|Vm q<|Rv (O.gtr (.lit q) (.lit q))<|Va q<|Fi (tn3 q q q)) ?_
  refine Px.sq<|W.cnd q (fun hb9=>?_) (fun hb9=>?_)
  ·replace h:=cndT hb9 h
   refine W.sq'<|W.rx [(6,_)] (Vk q<|Fi (.n q .nil)) ?_
   refine Px.sq<|W.rt ?_
   refine Px.bkR ?_
   refine Px.sqR ?_
   obtain rfl:=sm h
   exact Px.fin (Fin.ro (.f q q .nil) q (ode (by kernel_rfl)) (.no (.no (.no .nil))) q (.inr q))
  ·replace h:=cndF hb9 h
   refine W.sq'<|W.rx [(9,_),(48,_)] (Rv (O.fO q (.obj q) fd78_3 q)<|Rv (O.ldO (y:=I64 x8.Level) q (.ptr q) ct3 q q)<|Vm q<|Rv (O.lss (.lit q) (.lit q))<|Va q<|Fi (tn2 q q)) ?_
   refine Px.sq<|W.cnd q (fun hb10=>?_) (fun hb10=>?_)
   ·replace h:=cndT hb10 h
    refine W.sq'<|W.rx [(6,_)] (Vk q<|Fi (.n q .nil)) ?_
    refine Px.sq<|W.rt ?_
    refine Px.bkR ?_
    refine Px.sqR ?_
    obtain rfl:=sm h
    exact Px.fin (Fin.ro (.f q q .nil) q (ode (by kernel_rfl)) (.no (.no (.no .nil))) q (.inr q))
   ·replace h:=cndF hb10 h
    refine W.sq'<|W.rx [(9,_),(53,_)] (Rv (O.fO q (.obj q) fd78_4 q)<|Rv (O.ldO (y:=I64 x8.Assoc) q (.ptr q) ct3 q q)<|Rv (O.eql (.lit q) (.k q))<|Va q<|Fi (tn2 q q)) ?_
    refine Px.sq<|W.cnd q (fun hb11=>?_) (fun hb11=>?_)
    ·replace h:=cndT hb11 h
     refine W.sq'<|W.rx [(6,_)] (Vk q<|Fi (.n q .nil)) ?_
     refine Px.sq<|W.rt ?_
     refine Px.bkR ?_
     refine Px.sqR ?_
     obtain rfl:=sm h
     exact Px.fin (Fin.ro (.f q q .nil) q (ode (by kernel_rfl)) (.no (.no (.no .nil))) q (.inr q))
    ·replace h:=cndF hb11 h
     refine W.sq'<|W.rx [(57,_)] (Rv (O.fO q (.obj q) fd78_4 q)<|Rv (O.ldO (y:=I64 x8.Assoc) q (.ptr q) ct3 q q)<|Rv (O.eql (.lit q) (.k q))<|Va q<|Fi (.n q .nil)) ?_
     refine Px.sq<|W.cnd q (fun hb12=>?_) (fun hb12=>?_)
     ·replace h:=cndT hb12 h
      refine W.sq'<|W.rx [(6,_)] (Vk q<|Fi (.n q .nil)) ?_
      refine Px.sq<|W.rt ?_
      refine Px.bkR ?_
      refine Px.sqR ?_
      obtain rfl:=sm h
      exact Px.fin (Fin.ro (.f q q .nil) q (ode (by kernel_rfl)) (.no (.no (.no .nil))) q (.inr q))
     ·replace h:=cndF hb12 h
      refine W.sk<|Px.bk ?_
      refine Px.sq<|W.sq' ?_
      refine W.rx [(6,_)] (Vk q<|Fi (.n q .nil)) ?_
      refine Px.sq<|W.rt ?_
      obtain rfl:=sm h
      exact Px.fin (Fin.ro (.f q q .nil) q (ode (by kernel_rfl)) (.no (.no (.no .nil))) q (.inr q))
theorem con58 (a0:Grammar) (a1:Cell) (r:Act × (List Clash)) (h:pf58 a0 a1=some r):Con Try.prog 58 [.agg (eGrammar_0.cells a0),.agg (eCell_0.cells a1)] [none,none] (.tup [.agg [I64 r.1.Kind,I64 r.1.N],iR eClash r.2]):=by
 unfold pf58 at h
 refine Con.go (N:=⟨97,[]⟩) Try.func58 q q q q (W.fin ?_)
 refine W.st [(0,.agg (eGrammar_0.cells a0)),(1,.agg (eCell_0.cells a1))] ?_
 refine W.sq'<|W.rx [(2,_),(3,_),(4,_)] (Rv (O.box (.aggF q q) q)<|Rv (O.box (.aggF q q) q)<|Rv (O.al (cs:=[I64 0,I64 0]) ze23 q q)<|Rv (O.az .knil)<|Fi (tn3 q q q)) ?_
 refine Px.sq<|W.sq' ?_
 refine W.rx [(2,_),(3,_),(4,_),(6,_)] (Rv (O.az .knil)<|Fi (tn4 q q q q)) ?_
 refine Px.sq<|W.sq' ?_
 refine W.sq'<|W.rx [(2,_),(3,_),(4,_),(6,_),(7,_)] (Vk q<|Fi (tn5 q q q q q)) ?_
 refine Px.sq<|W.bk ?_
 obtain ⟨x2,hl,h⟩:=bnd h
 refine W.tr (G1:=[(2,_),(3,_),(4,_),(6,oR eClash ([]:List Clash)),(7,_)]) (.n q (.n q (.n q (.w q q .nilOwn (.n q .nil))))) ?_
 refine W.lp1 (s:=(([]:List Clash),1)) (fun (s1:List Clash × Int)=>[(2,.obj (eGrammar_0.cells a0)),(3,.obj (eCell_0.cells a1)),(4,.obj [I64 0,I64 0]),(6,oR eClash s1.1),(7,I64 s1.2)]) 0 (fun (x2:List Clash)=>[(2,.obj (eGrammar_0.cells a0)),(3,.obj (eCell_0.cells a1)),(4,.obj [I64 0,I64 0]),(6,oR eClash x2)]) hl (fun s1 o h=>?_) ?_
 ·clear hl
  refine W.sq'<|W.sq' ?_
  refine W.rx [(2,_),(3,_),(4,_),(6,_),(7,_),(15,_)] (Vm q<|Rv (O.fO q (.obj q) fd76_4 q)<|Rv (O.ldO (y:=iR eI a1.Prods) q (.ptr q) ct29 q q)<|Rv (O.lenI (.imm q) sl29)<|Rv (O.lss (.lit q) (.lit q))<|Fi (tn6 q q q q q q)) ?_
  refine Px.sq<|W.cnd q (fun hb4=>?_) (fun hb4=>?_)
  ·replace h:=cndT hb4 h
   refine W.sk<|Px.sq ?_
   refine W.sq'<|W.bk ?_
   refine W.tr (G1:=[(2,_),(3,_),(4,_),(6,_),(7,_)]) (tn5 q q q q q) ?_
   obtain ⟨x5,hx5,h⟩:=bnd h
   obtain ⟨x6,hx6,h⟩:=bnd h
   obtain ⟨x7,hx7,h⟩:=bnd h
   refine W.rd [[],[],[1],[],[3],[],[5],[5,6],[5,6,7],[],[9],[],[9,10,11],[9,10,11,12],rn 1 13 [],rn 1 14 [],rn 0 16 [],rn 0 17 []] [(2,_),(3,_),(4,_),(6,_),(7,_)] mixo (by kernel_rfl) (Dv 0 (O.mv (.own q))<|Dv 1 (O.fO q (.obj q) fd76_0 q)<|Dv 2 (O.ldO (y:=I64 a1.State) q (.ptr q) ct3 q q)<|Dv 3 (O.fO q (.obj q) fd76_1 q)<|Dv 4 (O.ldO (y:=I64 a1.Tok) q (.ptr q) ct3 q q)<|Dv 5 (O.fO q (.obj q) fd76_4 q)<|Dv 6 (O.ldO (y:=iR eI a1.Prods) q (.ptr q) ct29 q q)<|Dv 7 (O.ixI (.imm q) (.k q) sl29 hx5)<|Dv 8 (O.ldI (x:=I64 x5) (.iptr q) ct3 q)<|Dv 9 (O.fO q (.obj q) fd76_4 q)<|Dv 10 (O.ldO (y:=iR eI a1.Prods) q (.ptr q) ct29 q q)<|Dv 11 (O.mv (.lit q))<|Dv 12 (O.ixI (.imm q) (.lit q) sl29 hx6)<|Dv 13 (O.ldI (x:=I64 x6) (.iptr q) ct3 q)<|Dv 14 (O.bu (cs:=[I64 a1.State,I64 a1.Tok,I64 x5,I64 x6]) sc82 ze82 q q q)<|DL.vi 15 (x:=iR eClash [(⟨a1.State,a1.Tok,x5,x6⟩:Clash)]) (O.bs (ys:=[.agg [I64 a1.State,I64 a1.Tok,I64 x5,I64 x6]]) eClash [(⟨a1.State,a1.Tok,x5,x6⟩:Clash)] sl68 q q q q q q zt82 q q) q q q q .none<|Dv 16 (O.ap (en:=eClash) (r:=x7) (.brw q) q (.imm q) .i ap68 q hx7)<|DL.bv 17 (G2:=[(2,.obj (eGrammar_0.cells a0)),(3,.obj (eCell_0.cells a1)),(4,.obj [I64 0,I64 0]),(7,I64 s1.2)]) (EO.aP q q (.pend q) q q q (.n q q (.n q q (.n q q (.n q q .nil)))) q q) q q q q (by kernel_rfl) (by kernel_rfl)<|DL.fin q q q (tn5 q q q q q)) ?_
   refine Px.bk ?_
   refine Px.sq<|W.rx [(2,_),(3,_),(4,_),(6,_),(7,_)] (Vm q<|Rv (O.add (.lit q) (.k q))<|RunL.re (G1:=[(2,_),(3,_),(4,_),(6,_),(17,_)]) (tn5 q q q q q)<|Va q<|Fi (tn5 q q q q q)) ?_
   obtain rfl:=sm h
   exact Px.go (tn5 q q q q q)
  ·replace h:=cndF hb4 h
   refine W.xi ?_
   refine Px.sqE ?_
   obtain rfl:=sm h
   exact Px.x1 (tn4 q q q q)
 refine Px.bkH ?_
 refine Px.sq<|W.sq' ?_
 refine W.rx [(2,_),(3,_),(4,_),(6,_),(8,_)] (Rv (O.fO q (.obj q) fd76_2 q)<|Rv (O.ldO (y:=I64 a1.Shift) q (.ptr q) ct3 q q)<|Rv (O.bu (cs:=[I64 1,I64 a1.Shift]) sc23 ze23 q q q)<|Rv (O.al (cs:=[I64 0,I64 0]) ze23 q q)<|RunL.sO (G2:=[(2,_),(3,_),(4,_),(6,_),(8,_)]) (cs2:=[I64 1,I64 a1.Shift]) q (.obj q) (.aggF q q) q sz23 q q q q (.n q q (.n q q (.n q q (.n q q (.b q .nil)))))<|Fi (tn5 q q q q q)) ?_
 refine Px.sq<|W.sq' ?_
 refine W.sq'<|W.rx [(2,_),(3,_),(4,_),(6,_),(8,_),(39,_)] (Rv (O.fO q (.obj q) fd76_3 q)<|Rv (O.ldO (y:=BB a1.Accept) q (.ptr q) ct4 q q)<|Fi (tn6 q q q q q q)) ?_
 refine Px.sq ?_
 obtain ⟨j8,hj,h⟩:=bnd h
 refine W.jn [(2,.obj (eGrammar_0.cells a0)),(3,.obj (eCell_0.cells a1)),(4,.obj [I64 0,I64 0]),(6,oR eClash x2),(8,.obj [I64 j8.1,I64 j8.2])] ?_ ?_
 ·clear h; have h:=hj; clear hj
  refine W.cnd q (fun hb9=>?_) (fun hb9=>?_)
  ·replace h:=cndT hb9 h
   refine W.rx [(2,_),(3,_),(4,_),(6,_),(8,_)] (Rv (O.bu (cs:=[I64 3,I64 0]) sc23 ze23 q q q)<|RunL.sO (G2:=[(2,_),(3,_),(4,_),(6,_),(8,_)]) (cs2:=[I64 3,I64 0]) q (.obj q) (.aggF q q) q sz23 q q q q (.n q q (.n q q (.n q q (.n q q (.b q .nil)))))<|Fi (tn5 q q q q q)) ?_
   obtain rfl:=sm h
   exact Px.jn (tn5 q q q q q)
  ·replace h:=cndF hb9 h
   refine W.sk ?_
   obtain rfl:=sm h
   exact Px.jn (tn5 q q q q q)
 refine Px.sq<|W.sq' ?_
 refine W.sq'<|W.rx [(2,_),(3,_),(4,_),(6,_),(8,_),(44,_)] (Rv (O.fO q (.obj q) fd76_4 q)<|Rv (O.ldO (y:=iR eI a1.Prods) q (.ptr q) ct29 q q)<|Rv (O.lenI (.imm q) sl29)<|Rv (O.eql (.lit q) (.k q))<|Fi (tn6 q q q q q q)) ?_
 refine Px.sq<|W.cnd q (fun hb10=>?_) (fun hb10=>?_)
 ·replace h:=cndT hb10 h
  refine W.sq'<|W.rx [(4,_),(5,_)] (Rv (O.ldON (cs':=[I64 j8.1,I64 j8.2]) q (.obj q) at23 q q)<|Rv (O.mv (.own q))<|RunL.sO (G2:=[(4,_),(6,_),(46,.brw eClash.z ⟨6,[]⟩ x2.length)]) (cs2:=[I64 j8.1,I64 j8.2]) q (.obj q) (.aggF q q) q sz23 q q q q (.b q (.n q q (.w (en:=eClash) q q q q .nil)))<|RunL.ea (G2:=[(4,.obj [I64 j8.1,I64 j8.2])]) q (EO.aR q q (.brw q) q (.n q q .nil) q q)<|Fi (tn2 q q)) ?_
  refine Px.sq<|W.fz (G1:=[(4,_),(5,iR eClash x2)]) [5] (.n q q (.z q q .zz .nil)) ?_
  refine W.rt ?_
  refine Px.sqR ?_
  obtain rfl:=sm h
  exact Px.fin (Fin.ro (.c (ys0:=[I64 j8.1,I64 j8.2]) q at23 q q q (.f q (.f q .nil)) (.f q q .nil)) q (ode (by kernel_rfl)) (.no (.no .nil)) q (.inr q))
 ·replace h:=cndF hb10 h
  refine W.sk<|Px.sq ?_
  refine W.sq' ?_
  obtain ⟨x11,hx11,h⟩:=bnd h
  refine W.rx [(2,_),(3,_),(4,_),(6,_),(8,_),(9,_)] (Rv (O.fO q (.obj q) fd76_4 q)<|Rv (O.ldO (y:=iR eI a1.Prods) q (.ptr q) ct29 q q)<|Rv (O.ixI (.imm q) (.k q) sl29 hx11)<|Rv (O.ldI (x:=I64 x11) (.iptr q) ct3 q)<|Va q<|Fi (tn6 q q q q q q)) ?_
  refine Px.sq<|W.sq' ?_
  refine W.sq' ?_
  obtain ⟨c13,hj,h⟩:=bnd h
  refine W.rx [(2,.obj (eGrammar_0.cells a0)),(3,.obj (eCell_0.cells a1)),(4,.obj [I64 0,I64 0]),(6,oR eClash x2),(8,.obj [I64 j8.1,I64 j8.2]),(9,I64 x11),(58,BB c13)] ?_ ?_
  ·refine Rv (O.fO q (.obj q) fd76_2 q)<|Rv (O.ldO (y:=I64 a1.Shift) q (.ptr q) ct3 q q)<|Rv (O.lss (.lit q) (.k q))<|Rv (O.mv (.lit q)) ?_
   rcases cnd hj with ⟨hb12,hj⟩ | ⟨hb12,hj⟩
   ·obtain rfl:=sm hj
    exact RunL.v (O.fO q (.obj q) fd76_3 q) q q (.yb q q hb12)<|RunL.v (O.ldO (y:=BB a1.Accept) q (.ptr q) ct4 q q) q q (.yb q q hb12)<|RunL.v (O.not (.lit q)) q q (.yb q q hb12)<|Rv (O.pkT (.lit q) hb12 (.lit q))<|Fi (tn7 q q q q q q q)
   ·obtain rfl:=sm hj
    exact RunL.ps q q hb12 q q<|RunL.ps q q hb12 q q<|RunL.ps q q hb12 q q<|Rv (O.pkF (.lit q) hb12 (.k q))<|Fi (tn7 q q q q q q q)
  refine Px.sq<|W.cnd q (fun hb14=>?_) (fun hb14=>?_)
  ·replace h:=cndT hb14 h
   refine W.sq'<|W.rx [(4,_),(5,_)] (Vm q<|Rv (O.bu (cs:=[I64 2,I64 x11]) sc23 ze23 q q q)<|Rv (O.mv (.own q))<|RunL.sO (G2:=[(4,_),(6,_),(61,.brw eClash.z ⟨6,[]⟩ x2.length)]) (cs2:=[I64 2,I64 x11]) q (.obj q) (.aggF q q) q sz23 q q q q (.b q (.n q q (.w (en:=eClash) q q q q .nil)))<|RunL.ea (G2:=[(4,.obj [I64 2,I64 x11])]) q (EO.aR q q (.brw q) q (.n q q .nil) q q)<|Fi (tn2 q q)) ?_
   refine Px.sq<|W.fz (G1:=[(4,_),(5,iR eClash x2)]) [5] (.n q q (.z q q .zz .nil)) ?_
   refine W.rt ?_
   refine Px.sqR ?_
   obtain rfl:=sm h
   exact Px.fin (Fin.ro (.c (ys0:=[I64 2,I64 x11]) q at23 q q q (.f q (.f q .nil)) (.f q q .nil)) q (ode (by kernel_rfl)) (.no (.no .nil)) q (.inr q))
  ·replace h:=cndF hb14 h
   refine W.sk<|Px.sq ?_
   refine W.sq' ?_
   obtain ⟨x15,hx15,h⟩:=bnd h
   refine W.rx [(3,_),(4,_),(6,_),(8,_),(9,_),(10,_)] (Rv (O.ldON (cs':=[iR eTok a0.Toks,iR eNon a0.Nons,iR eProd_0 a0.Prods,SS a0.Pro,SS a0.Tail]) q (.obj q) at44 q q)<|Vm q<|Rv (O.fO q (.obj q) fd76_1 q)<|Rv (O.ldO (y:=I64 a1.Tok) q (.ptr q) ct3 q q)<|Rc (PC.go (.cc (.aggF q q) (.cc (.lit q) (.cc (.lit q) .nil))) (con75 a0 x11 a1.Tok _ hx15) call75 q)<|Va q<|Fi (tn6 q q q q q q)) ?_
   refine Px.sq<|W.sq' ?_
   refine W.bk<|W.sq' ?_
   obtain ⟨c17,hj,h⟩:=bnd h
   refine W.rx [(3,.obj (eCell_0.cells a1)),(4,.obj [I64 0,I64 0]),(6,oR eClash x2),(8,.obj [I64 j8.1,I64 j8.2]),(9,I64 x11),(10,I64 x15),(67,BB c17)] ?_ ?_
   ·refine Rv (O.fO q (.obj q) fd76_3 q)<|Rv (O.ldO (y:=BB a1.Accept) q (.ptr q) ct4 q q)<|Rv (O.mv (.lit q)) ?_
    rcases cnd hj with ⟨hb16,hj⟩ | ⟨hb16,hj⟩
    ·obtain rfl:=sm hj
     exact RunL.ps q q hb16 q q<|RunL.ps q q hb16 q q<|Rv (O.pkT (.lit q) hb16 (.k q))<|Va q<|Fi (tn7 q q q q q q q)
    ·obtain rfl:=sm hj
     exact RunL.v (O.mv (.lit q)) q q (.yb q q hb16)<|RunL.v (O.eql (.lit q) (.k q)) q q (.yb q q hb16)<|Rv (O.pkF (.lit q) hb16 (.lit q))<|Va q<|Fi (tn7 q q q q q q q)
   refine Px.sq<|W.cnd q (fun hb18=>?_) (fun hb18=>?_)
   ·replace h:=cndT hb18 h
    refine W.sq' ?_
    obtain ⟨x19,hx19,h⟩:=bnd h
    refine W.rd [[],[],[],[2],[],[4],[],rn 2 5 [],rn 2 6 [],rn 1 8 [],rn 0 10 [],rn 0 11 []] [(4,_),(5,_)] mixo (by kernel_rfl) (Dv 0 (O.ldON (cs':=[I64 j8.1,I64 j8.2]) q (.obj q) at23 q q)<|Dv 1 (O.mv (.own q))<|Dv 2 (O.fO q (.obj q) fd76_0 q)<|Dv 3 (O.ldO (y:=I64 a1.State) q (.ptr q) ct3 q q)<|Dv 4 (O.fO q (.obj q) fd76_1 q)<|Dv 5 (O.ldO (y:=I64 a1.Tok) q (.ptr q) ct3 q q)<|Dv 6 (O.mv (.lit q))<|Dv 7 (O.bu (cs:=[I64 a1.State,I64 a1.Tok,I64 (-1),I64 x11]) sc82 ze82 q q q)<|DL.vi 8 (x:=iR eClash [(⟨a1.State,a1.Tok,(-1),x11⟩:Clash)]) (O.bs (ys:=[.agg [I64 a1.State,I64 a1.Tok,I64 (-1),I64 x11]]) eClash [(⟨a1.State,a1.Tok,(-1),x11⟩:Clash)] sl68 q q q q q q zt82 q q) q q q q .none<|Dv 9 (O.ap (en:=eClash) (r:=x19) (.brw q) q (.imm q) .i ap68 q hx19)<|DL.bw 10 (G2:=[(4,.obj [I64 j8.1,I64 j8.2]),(83,oR eClash (x2++[(⟨a1.State,a1.Tok,(-1),x11⟩:Clash)]))]) (EffOk.settle (ts:=[83]) (xs:=[.brw eClash.z ⟨83,[]⟩ (x2.length+[(⟨a1.State,a1.Tok,(-1),x11⟩:Clash)].length)]) (ys:=[.own eClash.z (x2.length+[(⟨a1.State,a1.Tok,(-1),x11⟩:Clash)].length) (rowc eClash x2++rowc eClash [(⟨a1.State,a1.Tok,(-1),x11⟩:Clash)])]) (g2:=get [(4,.obj [I64 0,I64 0]),(6,.dead),(74,.agg [I64 j8.1,I64 j8.2]),(83,oR eClash (x2++[(⟨a1.State,a1.Tok,(-1),x11⟩:Clash)]))]) q (TkL.take (.pn q q q .ns .nil)) (by decide) q (all1 q) (Trim.keep (.n q (.n q (.n q (.e q (oR_app _ _ _) .nil))))) (EO.eff (EO.sO (G2:=[(4,.obj [I64 j8.1,I64 j8.2]),(83,oR eClash (x2++[(⟨a1.State,a1.Tok,(-1),x11⟩:Clash)]))]) (cs2:=[I64 j8.1,I64 j8.2]) q q q (.obj q) (.aggF q q) q sz23 q q q q (.b q (.n q q .nil))))) q q (by kernel_rfl) q q (by kernel_rfl)<|DL.bv 11 (G2:=[(4,.obj [I64 j8.1,I64 j8.2])]) (EO.aR q q (.own q) q (.n q q .nil) q q) q q q q (by kernel_rfl) (by kernel_rfl)<|DL.fin q q q (tn2 q q)) ?_
    refine Px.sq<|W.fz (G1:=[(4,_),(5,iR eClash (x2++[(⟨a1.State,a1.Tok,(-1),x11⟩:Clash)]))]) [5] (.n q q (.z q q .zz .nil)) ?_
    refine W.rt ?_
    refine Px.bkR ?_
    refine Px.sqR ?_
    obtain rfl:=sm h
    exact Px.fin (Fin.ro (.c (ys0:=[I64 j8.1,I64 j8.2]) q at23 q q q (.f q (.f q .nil)) (.f q q .nil)) q (ode (by kernel_rfl)) (.no (.no .nil)) q (.inr q))
   ·replace h:=cndF hb18 h
    refine W.sq'<|W.rx [(4,_),(6,_),(8,_),(9,_),(10,_),(84,_)] (Vm q<|Rv (O.eql (.lit q) (.k q))<|Va q<|Fi (tn6 q q q q q q)) ?_
    refine Px.sq<|W.cnd q (fun hb20=>?_) (fun hb20=>?_)
    ·replace h:=cndT hb20 h
     refine W.sq'<|W.rx [(4,_),(5,_)] (Vm q<|Rv (O.bu (cs:=[I64 2,I64 x11]) sc23 ze23 q q q)<|Rv (O.mv (.own q))<|RunL.sO (G2:=[(4,_),(6,_),(89,.brw eClash.z ⟨6,[]⟩ x2.length)]) (cs2:=[I64 2,I64 x11]) q (.obj q) (.aggF q q) q sz23 q q q q (.b q (.n q q (.w (en:=eClash) q q q q .nil)))<|RunL.ea (G2:=[(4,.obj [I64 2,I64 x11])]) q (EO.aR q q (.brw q) q (.n q q .nil) q q)<|Fi (tn2 q q)) ?_
     refine Px.sq<|W.fz (G1:=[(4,_),(5,iR eClash x2)]) [5] (.n q q (.z q q .zz .nil)) ?_
     refine W.rt ?_
     refine Px.bkR ?_
     refine Px.sqR ?_
     obtain rfl:=sm h
     exact Px.fin (Fin.ro (.c (ys0:=[I64 2,I64 x11]) q at23 q q q (.f q (.f q .nil)) (.f q q .nil)) q (ode (by kernel_rfl)) (.no (.no .nil)) q (.inr q))
    ·replace h:=cndF hb20 h
     refine W.sq'<|W.rx [(4,_),(6,_),(8,_),(90,_)] (Vm q<|Rv (O.eql (.lit q) (.k q))<|Va q<|Fi (tn4 q q q q)) ?_
     refine Px.sq<|W.cnd q (fun hb21=>?_) (fun hb21=>?_)
     ·replace h:=cndT hb21 h
      refine W.sq'<|W.rx [(4,_),(5,_)] (Rv (O.bu (cs:=[I64 4,I64 0]) sc23 ze23 q q q)<|Rv (O.mv (.own q))<|RunL.sO (G2:=[(4,_),(6,_),(94,.brw eClash.z ⟨6,[]⟩ x2.length)]) (cs2:=[I64 4,I64 0]) q (.obj q) (.aggF q q) q sz23 q q q q (.b q (.n q q (.w (en:=eClash) q q q q .nil)))<|RunL.ea (G2:=[(4,.obj [I64 4,I64 0])]) q (EO.aR q q (.brw q) q (.n q q .nil) q q)<|Fi (tn2 q q)) ?_
      refine Px.sq<|W.fz (G1:=[(4,_),(5,iR eClash x2)]) [5] (.n q q (.z q q .zz .nil)) ?_
      refine W.rt ?_
      refine Px.bkR ?_
      refine Px.sqR ?_
      obtain rfl:=sm h
      exact Px.fin (Fin.ro (.c (ys0:=[I64 4,I64 0]) q at23 q q q (.f q (.f q .nil)) (.f q q .nil)) q (ode (by kernel_rfl)) (.no (.no .nil)) q (.inr q))
     ·replace h:=cndF hb21 h
      refine W.sk<|Px.bk ?_
      refine Px.sq<|W.sq' ?_
      refine W.rx [(4,_),(5,_)] (Rv (O.ldON (cs':=[I64 j8.1,I64 j8.2]) q (.obj q) at23 q q)<|Rv (O.mv (.own q))<|RunL.sO (G2:=[(4,_),(6,_),(96,.brw eClash.z ⟨6,[]⟩ x2.length)]) (cs2:=[I64 j8.1,I64 j8.2]) q (.obj q) (.aggF q q) q sz23 q q q q (.b q (.n q q (.w (en:=eClash) q q q q .nil)))<|RunL.ea (G2:=[(4,.obj [I64 j8.1,I64 j8.2])]) q (EO.aR q q (.brw q) q (.n q q .nil) q q)<|Fi (tn2 q q)) ?_
      refine Px.sq<|W.fz (G1:=[(4,_),(5,iR eClash x2)]) [5] (.n q q (.z q q .zz .nil)) ?_
      refine W.rt ?_
      obtain rfl:=sm h
      exact Px.fin (Fin.ro (.c (ys0:=[I64 j8.1,I64 j8.2]) q at23 q q q (.f q (.f q .nil)) (.f q q .nil)) q (ode (by kernel_rfl)) (.no (.no .nil)) q (.inr q))
theorem con32 (a0:Grammar) (a1:(List State)) (a2:(List Cell)) (r:Dense × (List Clash)) (h:pf32 a0 a1 a2=some r):Con Try.prog 32 [.agg (eGrammar_0.cells a0),iR eState_0 a1,iR eCell_0 a2] [none,none,none] (.tup [.agg [iR (eM eAct) r.1.Acts,iR (eM eI) r.1.Gotos],iR eClash r.2]):=by
 unfold pf32 at h
 refine Con.go (N:=⟨92,[]⟩) Try.func32 q q q q (W.fin ?_)
 refine W.st [(0,.agg (eGrammar_0.cells a0)),(1,iR eState_0 a1),(2,iR eCell_0 a2)] ?_
 refine W.sq'<|W.rx [(1,_),(2,_),(3,_),(6,_)] (Rv (O.box (.aggF q q) q)<|Rv (O.al (cs:=[.nils,.nils]) ze47 q q)<|Rv (O.az .knil)<|Fi (tn4 q q q q)) ?_
 refine Px.sq<|W.sq' ?_
 refine W.rx [(1,_),(2,_),(3,_),(6,_),(8,_)] (Rv (O.al (cs:=[.nils,.nils]) ze47 q q)<|Fi (tn5 q q q q q)) ?_
 refine Px.sq<|W.sq' ?_
 refine W.rx [(1,_),(2,_),(3,_),(6,_),(8,_),(9,_)] (Rv (O.az .knil)<|Fi (tn6 q q q q q q)) ?_
 refine Px.sq<|W.sq' ?_
 refine W.sq'<|W.rx [(1,_),(2,_),(3,_),(6,_),(8,_),(9,_),(10,_)] (Vk q<|Fi (tn7 q q q q q q q)) ?_
 refine Px.sq<|W.bk ?_
 obtain ⟨x2,hl,h⟩:=bnd h
 refine W.tr (G1:=[(1,_),(2,_),(3,_),(6,_),(8,.obj [oR (eM eAct) ([]:List (List Act)),oR (eM eI) ([]:List (List Int))]),(9,oR eClash ([]:List Clash)),(10,_)]) (.n q (.n q (.n q (.n q (.w q q (WkL.obj (.o (.o .nil))) (.w q q .nilOwn (.n q .nil))))))) ?_
 refine W.lp1 (s:=(([]:List (List Act)),([]:List (List Int)),([]:List Clash),0)) (fun (s1:List (List Act) × List (List Int) × List Clash × Int)=>[(1,iR eState_0 a1),(2,iR eCell_0 a2),(3,.obj (eGrammar_0.cells a0)),(6,.obj [.nils,.nils]),(8,.obj [oR (eM eAct) s1.1,oR (eM eI) s1.2.1]),(9,oR eClash s1.2.2.1),(10,I64 s1.2.2.2)]) 0 (fun (x2:List (List Act) × List (List Int) × List Clash)=>[(6,.obj [.nils,.nils]),(8,.obj [oR (eM eAct) x2.1,oR (eM eI) x2.2.1]),(9,oR eClash x2.2.2)]) hl (fun s1 o h=>?_) ?_
 ·clear hl
  refine W.sq'<|W.sq' ?_
  refine W.rx [(1,_),(2,_),(3,_),(6,_),(8,_),(9,_),(10,_),(20,_)] (Vm q<|Rv (O.mv (.imm q))<|Rv (O.lenI (.imm q) sl64)<|Rv (O.lss (.lit q) (.lit q))<|Fi (tn8 q q q q q q q q)) ?_
  refine Px.sq<|W.cnd q (fun hb4=>?_) (fun hb4=>?_)
  ·replace h:=cndT hb4 h
   refine W.sk<|Px.sq ?_
   refine W.sq'<|W.bk ?_
   refine W.sq' ?_
   obtain ⟨x5,hx5,h⟩:=bnd h
   refine W.rx [(1,_),(2,_),(3,_),(6,_),(8,_),(9,_),(10,_),(11,_)] (Rv (O.fO q (.obj q) fd44_0 q)<|Rv (O.ldO (y:=iR eTok a0.Toks) q (.ptr q) ct40 q q)<|Rv (O.lenI (.imm q) sl40)<|Rv (O.mk (en:=eAct) (z0:=(⟨0,0⟩:Act)) sl54 (.lit q) (.lit q) ze23 q q hx5 bb23 q)<|RunL.ea (G2:=[(1,iR eState_0 a1),(2,iR eCell_0 a2),(3,.obj (eGrammar_0.cells a0)),(6,.obj [.nils,.nils]),(8,.obj [oR (eM eAct) s1.1,oR (eM eI) s1.2.1]),(9,oR eClash s1.2.2.1),(10,I64 s1.2.2.2)]) q (EO.aR q q (.own q) q (.n q q (.n q q (.n q q (.n q q (.n q q (.n q q (.n q q .nil))))))) q q)<|Fi (tn8 q q q q q q q q)) ?_
   refine Px.sq<|W.sq' ?_
   refine W.sq'<|W.rx [(1,_),(2,_),(3,_),(6,_),(8,_),(9,_),(10,_),(11,_),(12,_)] (Vk q<|Fi (tn9 q q q q q q q q q)) ?_
   refine Px.sq<|W.bk ?_
   obtain ⟨x7,hl,h⟩:=bnd h
   refine W.tr (G1:=[(1,_),(2,_),(3,_),(6,_),(8,_),(9,_),(10,_),(11,_),(12,_)]) (tn9 q q q q q q q q q) ?_
   refine W.lp1 (s:=(s1.2.2.1,x5,0)) (fun (s6:List Clash × List Act × Int)=>[(1,iR eState_0 a1),(2,iR eCell_0 a2),(3,.obj (eGrammar_0.cells a0)),(6,.obj [.nils,.nils]),(8,.obj [oR (eM eAct) s1.1,oR (eM eI) s1.2.1]),(9,oR eClash s6.1),(10,I64 s1.2.2.2),(11,oR eAct s6.2.1),(12,I64 s6.2.2)]) 2 (fun (x7:List Clash × List Act)=>[(1,iR eState_0 a1),(2,iR eCell_0 a2),(3,.obj (eGrammar_0.cells a0)),(6,.obj [.nils,.nils]),(8,.obj [oR (eM eAct) s1.1,oR (eM eI) s1.2.1]),(9,oR eClash x7.1),(10,I64 s1.2.2.2),(11,oR eAct x7.2)]) hl (fun s6 o h=>?_) ?_
   ·clear hl
    refine W.sq'<|W.sq' ?_
    refine W.rx [(1,_),(2,_),(3,_),(6,_),(8,_),(9,_),(10,_),(11,_),(12,_),(30,_)] (Vm q<|Rv (O.mv (.imm q))<|Rv (O.lenI (.imm q) sl65)<|Rv (O.lss (.lit q) (.lit q))<|Fi (tn10 q q q q q q q q q q)) ?_
    refine Px.sq<|W.cnd q (fun hb9=>?_) (fun hb9=>?_)
    ·replace h:=cndT hb9 h
     refine W.sk<|Px.sq ?_
     refine W.sq' ?_
     obtain ⟨j10,hj,h⟩:=bnd h
     refine W.jn [(1,iR eState_0 a1),(2,iR eCell_0 a2),(3,.obj (eGrammar_0.cells a0)),(6,.obj [.nils,.nils]),(8,.obj [oR (eM eAct) s1.1,oR (eM eI) s1.2.1]),(9,oR eClash j10.1),(10,I64 s1.2.2.2),(11,oR eAct j10.2),(12,I64 s6.2.2)] ?_ ?_
     ·clear h; have h:=hj; clear hj
      refine W.bk<|W.sq' ?_
      obtain ⟨x11,hx11,h⟩:=bnd h
      refine W.rx [(1,_),(2,_),(3,_),(6,_),(8,_),(9,_),(10,_),(11,_),(12,_),(39,_)] (Rv (O.mv (.imm q))<|Vm q<|Rv (O.ixI (.imm q) (.lit q) sl65 hx11)<|Rv (O.fI (.iptr q) fd76_0)<|Rv (O.ldI (x:=I64 x11.State) (.iptr q) ct3 q)<|Vm q<|Rv (O.eql (.lit q) (.lit q))<|Fi (tn10 q q q q q q q q q q)) ?_
      refine Px.sq ?_
      obtain ⟨j12,hj,h⟩:=bnd h
      refine W.jn [(1,iR eState_0 a1),(2,iR eCell_0 a2),(3,.obj (eGrammar_0.cells a0)),(6,.obj [.nils,.nils]),(8,.obj [oR (eM eAct) s1.1,oR (eM eI) s1.2.1]),(9,oR eClash j12.1),(10,I64 s1.2.2.2),(11,oR eAct j12.2),(12,I64 s6.2.2)] ?_ ?_
      ·clear h; have h:=hj; clear hj
       refine W.cnd q (fun hb13=>?_) (fun hb13=>?_)
       ·replace h:=cndT hb13 h
        refine W.sq' ?_
        obtain ⟨x14,hx14,h⟩:=bnd h
        obtain ⟨x15,hx15,h⟩:=bnd h
        refine W.rd [[],[],[],[1,2],[1,2,3],rn 0 5 [],rn 0 6 [],rn 0 7 [],rn 0 7 [],[],rn 0 8 [9],rn 0 11 []] [(1,_),(2,_),(3,_),(6,_),(8,_),(9,_),(10,_),(11,_),(12,_),(13,_),(14,_)] mixo (by kernel_rfl) (Dv 0 (O.ldON (cs':=[iR eTok a0.Toks,iR eNon a0.Nons,iR eProd_0 a0.Prods,SS a0.Pro,SS a0.Tail]) q (.obj q) at44 q q)<|Dv 1 (O.mv (.imm q))<|Dv 2 (O.mv (.lit q))<|Dv 3 (O.ixI (.imm q) (.lit q) sl65 hx14)<|Dv 4 (O.ldIN (cs':=[I64 x14.State,I64 x14.Tok,I64 x14.Shift,BB x14.Accept,iR eI x14.Prods]) (.iptr q) at76 q q)<|Dc 5 (PC.go (.cc (.aggF q q) (.cc (.aggF q q) .nil)) (con58 a0 x14 _ hx15) call58 q)<|Dv 6 (O.mv (.tup q q))<|Dv 7 (O.ex (y:=.agg [I64 x15.1.Kind,I64 x15.1.N]) q q q)<|Dv 8 (O.ex (y:=iR eClash x15.2) q q q)<|Dv 9 (O.al (cs:=[I64 0,I64 0]) ze23 q q)<|DL.bu 10 (G2:=[(1,iR eState_0 a1),(2,iR eCell_0 a2),(3,.obj (eGrammar_0.cells a0)),(6,.obj [.nils,.nils]),(8,.obj [oR (eM eAct) s1.1,oR (eM eI) s1.2.1]),(9,oR eClash s6.1),(10,I64 s1.2.2.2),(11,oR eAct s6.2.1),(12,I64 s6.2.2),(13,.obj [I64 x15.1.Kind,I64 x15.1.N]),(40,.tup [.agg [I64 x15.1.Kind,I64 x15.1.N],iR eClash x15.2])]) (U:=[(8,48,some (iR eClash x15.2))]) (EffOk.v (EO.eff (EO.sO (G2:=[(1,iR eState_0 a1),(2,iR eCell_0 a2),(3,.obj (eGrammar_0.cells a0)),(6,.obj [.nils,.nils]),(8,.obj [oR (eM eAct) s1.1,oR (eM eI) s1.2.1]),(9,oR eClash s6.1),(10,I64 s1.2.2.2),(11,oR eAct s6.2.1),(12,I64 s6.2.2),(13,.obj [I64 x15.1.Kind,I64 x15.1.N]),(40,.tup [.agg [I64 x15.1.Kind,I64 x15.1.N],iR eClash x15.2])]) (cs2:=[I64 x15.1.Kind,I64 x15.1.N]) q q q (.obj q) (.aggF q q) q sz23 q q q q (.n q q (.n q q (.n q q (.n q q (.n q q (.n q q (.n q q (.n q q (.n q q (.b q (.n q q .nil)))))))))))))) q q (by kernel_rfl) q q q (.c (.inr (.inr (.inr (.inr (.inl ⟨_,_,_,q,NRc.nr⟩))))) q q q q q (Gd.wanted .none) (O.ex (y:=iR eClash x15.2) q q q) .nil) (by kernel_rfl)<|Dv 11 (O.az (.imm q))<|DL.fin q q q (tn11 q q q q q q q q q q q)) ?_
        refine Px.sq<|W.sq' ?_
        obtain ⟨x16,hx16,h⟩:=bnd h
        obtain ⟨x17,hx17,h⟩:=bnd h
        refine W.rd [[],[],[],[1,2],[1,2,3],[1,2,3,4],[],rn 0 7 [],rn 0 8 []] [(1,_),(2,_),(3,_),(6,_),(8,_),(9,_),(10,_),(11,_),(12,_),(14,_)] mixo (by kernel_rfl) (Dv 0 (O.mv (.own q))<|Dv 1 (O.mv (.imm q))<|Dv 2 (O.mv (.lit q))<|Dv 3 (O.ixI (.imm q) (.lit q) sl65 hx16)<|Dv 4 (O.fI (.iptr q) fd76_1)<|Dv 5 (O.ldI (x:=I64 x16.Tok) (.iptr q) ct3 q)<|Dv 6 (O.ldON (cs':=[I64 x15.1.Kind,I64 x15.1.N]) q (.obj q) at23 q q)<|Dv 7 (O.ixO (en:=eAct) q (.brw q) (.lit q) sl54 hx17 q)<|DL.bp 8 (G2:=[(1,iR eState_0 a1),(2,iR eCell_0 a2),(3,.obj (eGrammar_0.cells a0)),(6,.obj [.nils,.nils]),(8,.obj [oR (eM eAct) s1.1,oR (eM eI) s1.2.1]),(9,oR eClash s6.1),(10,I64 s1.2.2.2),(11,oR eAct (s6.2.1.set x16.Tok.toNat x15.1)),(12,I64 s6.2.2),(14,iR eClash x15.2)]) (EO.stE (en:=eAct) (y2:=x15.1) (cs':=[I64 x15.1.Kind,I64 x15.1.N]) (x2:=oR eAct (s6.2.1.set x16.Tok.toNat x15.1)) q q (.ptr q) (.aggF q q) q hx17 sz23 q q q q q q q (.n q q (.n q q (.n q q (.n q q (.n q q (.n q q (.n q q (.b q (.n q q (.n q q .nil))))))))))) q q q q (by kernel_rfl) (by kernel_rfl)<|DL.fin q q q (tn10 q q q q q q q q q q)) ?_
        refine Px.sq ?_
        obtain ⟨x18,hx18,h⟩:=bnd h
        refine W.rx [(1,_),(2,_),(3,_),(6,_),(8,_),(9,_),(10,_),(11,_),(12,_)] (Rv (O.mv (.own q))<|Rv (O.mv (.imm q))<|Rv (O.ap (en:=eClash) (r:=x18) (.brw q) q (.imm q) .i ap68 q hx18)<|RunL.ea (G2:=[(1,iR eState_0 a1),(2,iR eCell_0 a2),(3,.obj (eGrammar_0.cells a0)),(6,.obj [.nils,.nils]),(8,.obj [oR (eM eAct) s1.1,oR (eM eI) s1.2.1]),(10,I64 s1.2.2.2),(11,oR eAct (s6.2.1.set x16.Tok.toNat x15.1)),(12,I64 s6.2.2)]) q (EO.aP q q (.pend q) q q q (.n q q (.n q q (.n q q (.n q q (.n q q (.n q q (.n q q (.n q q .nil)))))))) q q)<|Fi (tn9 q q q q q q q q q)) ?_
        obtain rfl:=sm h
        exact Px.jn (tn9 q q q q q q q q q)
       ·replace h:=cndF hb13 h
        refine W.sk ?_
        obtain rfl:=sm h
        exact Px.jn (tn9 q q q q q q q q q)
      refine Px.bk ?_
      obtain rfl:=sm h
      exact Px.jn (tn9 q q q q q q q q q)
     refine Px.sq<|W.rx [(1,_),(2,_),(3,_),(6,_),(8,_),(9,_),(10,_),(11,_),(12,_)] (Vm q<|Rv (O.add (.lit q) (.k q))<|RunL.re (G1:=[(1,_),(2,_),(3,_),(6,_),(8,_),(9,_),(10,_),(11,_),(32,_)]) (tn9 q q q q q q q q q)<|Va q<|Fi (tn9 q q q q q q q q q)) ?_
     obtain rfl:=sm h
     exact Px.go (tn9 q q q q q q q q q)
    ·replace h:=cndF hb9 h
     refine W.xi ?_
     refine Px.sqE ?_
     obtain rfl:=sm h
     exact Px.x1 (tn8 q q q q q q q q)
   refine Px.bkH ?_
   refine Px.sq<|W.sq' ?_
   obtain ⟨x19,hx19,h⟩:=bnd h
   refine W.rx [(1,_),(2,_),(3,_),(6,_),(8,_),(9,_),(10,_),(11,_),(15,_)] (Rv (O.fO q (.obj q) fd44_1 q)<|Rv (O.ldO (y:=iR eNon a0.Nons) q (.ptr q) ct41 q q)<|Rv (O.lenI (.imm q) sl41)<|Rv (O.mk (en:=eI) (z0:=0) sl29 (.lit q) (.lit q) ze3 q q hx19 bb3 q)<|RunL.ea (G2:=[(1,iR eState_0 a1),(2,iR eCell_0 a2),(3,.obj (eGrammar_0.cells a0)),(6,.obj [.nils,.nils]),(8,.obj [oR (eM eAct) s1.1,oR (eM eI) s1.2.1]),(9,oR eClash x7.1),(10,I64 s1.2.2.2),(11,oR eAct x7.2)]) q (EO.aR q q (.own q) q (.n q q (.n q q (.n q q (.n q q (.n q q (.n q q (.n q q (.n q q .nil)))))))) q q)<|Fi (tn9 q q q q q q q q q)) ?_
   refine Px.sq<|W.sq' ?_
   refine W.sq'<|W.rx [(1,_),(2,_),(3,_),(6,_),(8,_),(9,_),(10,_),(11,_),(15,_),(16,_)] (Vk q<|Fi (tn10 q q q q q q q q q q)) ?_
   refine Px.sq<|W.bk ?_
   obtain ⟨x21,hl,h⟩:=bnd h
   refine W.tr (G1:=[(1,_),(2,_),(3,_),(6,_),(8,_),(9,_),(10,_),(11,_),(15,_),(16,_)]) (tn10 q q q q q q q q q q) ?_
   refine W.lp1 (s:=(x19,0)) (fun (s20:List Int × Int)=>[(1,iR eState_0 a1),(2,iR eCell_0 a2),(3,.obj (eGrammar_0.cells a0)),(6,.obj [.nils,.nils]),(8,.obj [oR (eM eAct) s1.1,oR (eM eI) s1.2.1]),(9,oR eClash x7.1),(10,I64 s1.2.2.2),(11,oR eAct x7.2),(15,oR eI s20.1),(16,I64 s20.2)]) 4 (fun (x21:List Int)=>[(1,iR eState_0 a1),(2,iR eCell_0 a2),(3,.obj (eGrammar_0.cells a0)),(6,.obj [.nils,.nils]),(8,.obj [oR (eM eAct) s1.1,oR (eM eI) s1.2.1]),(9,oR eClash x7.1),(10,I64 s1.2.2.2),(11,oR eAct x7.2),(15,oR eI x21)]) hl (fun s20 o h=>?_) ?_
   ·clear hl
    refine W.sq'<|W.sq' ?_
    refine W.rx [(1,_),(2,_),(3,_),(6,_),(8,_),(9,_),(10,_),(11,_),(15,_),(16,_),(67,_)] (Vm q<|Rv (O.mv (.own q))<|Rv (O.lenO (.brw q) sl29)<|Rv (O.lss (.lit q) (.lit q))<|Fi (tn11 q q q q q q q q q q q)) ?_
    refine Px.sq<|W.cnd q (fun hb23=>?_) (fun hb23=>?_)
    ·replace h:=cndT hb23 h
     refine W.sk<|Px.sq ?_
     refine W.sq'<|W.bk ?_
     obtain ⟨x24,hx24,h⟩:=bnd h
     obtain ⟨x25,hx25,h⟩:=bnd h
     refine W.rx [(1,_),(2,_),(3,_),(6,_),(8,_),(9,_),(10,_),(11,_),(15,_),(16,_)] (Rv (O.mv (.own q))<|Vm q<|Rv (O.mv (.imm q))<|Vm q<|Vm q<|Rv (O.add (.k q) (.lit q))<|Rc (PC.go (.cc (.imm q) (.cc (.lit q) (.cc (.lit q) .nil))) (con59 a1 s1.2.2.2 (w64 (1000+s20.2)) _ hx24) call59 q)<|Rv (O.ixO (en:=eI) q (.brw q) (.lit q) sl29 hx25 q)<|RunL.ef (G2:=[(1,iR eState_0 a1),(2,iR eCell_0 a2),(3,.obj (eGrammar_0.cells a0)),(6,.obj [.nils,.nils]),(8,.obj [oR (eM eAct) s1.1,oR (eM eI) s1.2.1]),(9,oR eClash x7.1),(10,I64 s1.2.2.2),(11,oR eAct x7.2),(15,oR eI (s20.1.set s20.2.toNat x24)),(16,I64 s20.2)]) q (EO.stE (en:=eI) (y2:=x24) (cs':=[I64 x24]) (x2:=oR eI (s20.1.set s20.2.toNat x24)) q q (.ptr q) (.lit q) q hx25 sz3 q q q q q q q (.n q q (.n q q (.n q q (.n q q (.n q q (.n q q (.n q q (.n q q (.b q (.n q q .nil)))))))))))<|Fi (tn10 q q q q q q q q q q)) ?_
     refine Px.bk ?_
     refine Px.sq<|W.rx [(1,_),(2,_),(3,_),(6,_),(8,_),(9,_),(10,_),(11,_),(15,_),(16,_)] (Vm q<|Rv (O.add (.lit q) (.k q))<|RunL.re (G1:=[(1,_),(2,_),(3,_),(6,_),(8,_),(9,_),(10,_),(11,_),(15,_),(69,_)]) (tn10 q q q q q q q q q q)<|Va q<|Fi (tn10 q q q q q q q q q q)) ?_
     obtain rfl:=sm h
     exact Px.go (tn10 q q q q q q q q q q)
    ·replace h:=cndF hb23 h
     refine W.xi ?_
     refine Px.sqE ?_
     obtain rfl:=sm h
     exact Px.x1 (tn9 q q q q q q q q q)
   refine Px.bkH ?_
   refine Px.sq<|W.fz (G1:=[(1,_),(2,_),(3,_),(6,_),(8,_),(9,_),(10,_),(11,iR eAct x7.2),(15,iR eI x21)]) [11,15] (.n q q (.n q q (.n q q (.n q q (.n q q (.n q q (.n q q (.z q q .zz (.z q q .zz .nil))))))))) ?_
   obtain ⟨x26,hx26,h⟩:=bnd h
   obtain ⟨x27,hx27,h⟩:=bnd h
   refine W.rd [[],[0],[],[2],[0,1,2,3],[],[5],[],[7],rn 0 9 [],rn 0 7 [],rn 0 11 [],rn 0 12 [],rn 0 13 []] [(1,_),(2,_),(3,_),(6,_),(8,_),(9,_),(10,_)] mixo (by kernel_rfl) (Dv 0 (O.fO q (.obj q) fd47_0 q)<|Dv 1 (O.ldO (y:=.brw (eM eAct).z ⟨8,[0]⟩ s1.1.length) q (.ptr q) ct45 q q)<|Dv 2 (O.mv (.imm q))<|DL.vi 3 (x:=iR (eM eAct) [x7.2]) (O.bs (ys:=[iR eAct x7.2]) (eM eAct) [x7.2] sl45 q q q q q q zt54 q q) q q q q .none<|Dv 4 (O.ap (en:=(eM eAct)) (r:=x26) (.brw q) q (.imm q) .i ap45 q hx26)<|Dv 5 (O.fO q (.obj q) fd47_1 q)<|Dv 6 (O.ldO (y:=.brw (eM eI).z ⟨8,[1]⟩ s1.2.1.length) q (.ptr q) ct34 q q)<|Dv 7 (O.mv (.imm q))<|DL.vi 8 (x:=iR (eM eI) [x21]) (O.bs (ys:=[iR eI x21]) (eM eI) [x21] sl34 q q q q q q zt29 q q) q q q q .none<|Dv 9 (O.ap' (en:=(eM eI)) (r:=x27) (.brw q) q (.imm q) .i ap34 q hx27 (noQ_spec (by kernel_rfl) (by kernel_rfl)))<|Dv 10 (O.fO q (.obj q) fd47_0 q)<|DL.bw 11 (G2:=[(1,iR eState_0 a1),(2,iR eCell_0 a2),(3,.obj (eGrammar_0.cells a0)),(6,.obj [.nils,.nils]),(8,.obj [oR (eM eAct) (s1.1++[x7.2]),.dead]),(9,oR eClash x7.1),(10,I64 s1.2.2.2),(87,oR (eM eI) (s1.2.1++[x21]))]) (EffOk.settle (ts:=[82,87]) (xs:=[.brw (eM eAct).z ⟨82,[]⟩ (s1.1.length+[x7.2].length),.brw (eM eI).z ⟨87,[]⟩ (s1.2.1.length+[x21].length)]) (ys:=[.own (eM eAct).z (s1.1.length+[x7.2].length) (rowc (eM eAct) s1.1++rowc (eM eAct) [x7.2]),.own (eM eI).z (s1.2.1.length+[x21].length) (rowc (eM eI) s1.2.1++rowc (eM eI) [x21])]) (g2:=get [(1,iR eState_0 a1),(2,iR eCell_0 a2),(3,.obj (eGrammar_0.cells a0)),(6,.obj [.nils,.nils]),(8,.obj [.dead,.dead]),(9,oR eClash x7.1),(10,I64 s1.2.2.2),(82,oR (eM eAct) (s1.1++[x7.2])),(87,oR (eM eI) (s1.2.1++[x21])),(88,.ptr ⟨8,[]⟩ 0)]) q (TkL.take (.pn q q q .ns (.pn q q q .ns .nil))) (by decide) q (all2 q q) (Trim.keep (.n q (.n q (.n q (.n q (.n q (.n q (.n q (.e q (oR_app _ _ _) (.e q (oR_app _ _ _) (.q q q q .nil))))))))))) (EO.eff (EO.stB (y':=oR (eM eAct) (s1.1++[x7.2])) (cs2:=[oR (eM eAct) (s1.1++[x7.2]),.dead]) q q (.ptr q) (.own q) (.r q .nil) .refl q sz45 q q q q q (.n q q (.n q q (.n q q (.n q q (.b q (.n q q (.n q q (.n q q .nil))))))))))) q q (by kernel_rfl) q q (by kernel_rfl)<|Dv 12 (O.fO q (.obj q) fd47_1 q)<|DL.bp 13 (G2:=[(1,iR eState_0 a1),(2,iR eCell_0 a2),(3,.obj (eGrammar_0.cells a0)),(6,.obj [.nils,.nils]),(8,.obj [oR (eM eAct) (s1.1++[x7.2]),oR (eM eI) (s1.2.1++[x21])]),(9,oR eClash x7.1),(10,I64 s1.2.2.2)]) (EO.stB (y':=oR (eM eI) (s1.2.1++[x21])) (cs2:=[oR (eM eAct) (s1.1++[x7.2]),oR (eM eI) (s1.2.1++[x21])]) q q (.ptr q) (.own q) (.r q .nil) .refl q sz34 q q q q q (.n q q (.n q q (.n q q (.n q q (.b q (.n q q (.n q q .nil)))))))) q q q q (by kernel_rfl) (by kernel_rfl)<|DL.fin q q q (tn7 q q q q q q q)) ?_
   refine Px.bk ?_
   refine Px.sq<|W.rx [(1,_),(2,_),(3,_),(6,_),(8,_),(9,_),(10,_)] (Vm q<|Rv (O.add (.lit q) (.k q))<|RunL.re (G1:=[(1,_),(2,_),(3,_),(6,_),(8,_),(9,_),(22,_)]) (tn7 q q q q q q q)<|Va q<|Fi (tn7 q q q q q q q)) ?_
   obtain rfl:=sm h
   exact Px.go (tn7 q q q q q q q)
  ·replace h:=cndF hb4 h
   refine W.xi ?_
   refine Px.sqE ?_
   obtain rfl:=sm h
   exact Px.x1 (tn3 q q q)
 refine Px.bkH ?_
 refine Px.sq<|W.sq' ?_
 refine W.fz (G1:=[(6,_),(8,.obj [iR (eM eAct) x2.1,iR (eM eI) x2.2.1]),(9,_)]) [8] (.n q q (.z q q (FzL.obj (.z (.z .nil))) (.n q q .nil))) ?_
 refine W.rx [(6,_),(7,_)] (Rv (O.ldON (cs':=[iR (eM eAct) x2.1,iR (eM eI) x2.2.1]) q (.obj q) at47 q q)<|Rv (O.mv (.own q))<|RunL.sO (G2:=[(6,_),(9,_),(91,.brw eClash.z ⟨9,[]⟩ x2.2.2.length)]) (cs2:=[iR (eM eAct) x2.1,iR (eM eI) x2.2.1]) q (.obj q) (.aggF q q) q sz47 q q q q (.b q (.n q q (.w (en:=eClash) q q q q .nil)))<|RunL.ea (G2:=[(6,.obj [iR (eM eAct) x2.1,iR (eM eI) x2.2.1])]) q (EO.aR q q (.brw q) q (.n q q .nil) q q)<|Fi (tn2 q q)) ?_
 refine Px.sq<|W.fz (G1:=[(6,_),(7,iR eClash x2.2.2)]) [7] (.n q q (.z q q .zz .nil)) ?_
 refine W.rt ?_
 obtain rfl:=sm h
 exact Px.fin (Fin.ro (.c (ys0:=[iR (eM eAct) x2.1,iR (eM eI) x2.2.1]) q at47 q q q (.f q (.f q .nil)) (.f q q .nil)) q (ode (by kernel_rfl)) (.no (.no (.no .nil))) q (.inr q))
theorem con48 (a0:(List Cell)) (r:Int) (h:pf48 a0=some r):Con Try.prog 48 [iR eCell_0 a0] [none] (I64 r):=by
 unfold pf48 at h
 refine Con.go (N:=⟨20,[]⟩) Try.func48 q q q q (W.fin ?_)
 refine W.st [(0,iR eCell_0 a0)] ?_
 refine W.sq'<|W.rx [(0,_)] (Vk q<|Fi (.n q .nil)) ?_
 refine Px.sq<|W.sq' ?_
 refine W.rx [(0,_),(3,_)] (Vk q<|Fi (tn2 q q)) ?_
 refine Px.sq<|W.sq' ?_
 refine W.sq'<|W.rx [(0,_),(3,_),(4,_)] (Vk q<|Fi (tn3 q q q)) ?_
 refine Px.sq<|W.bk ?_
 obtain ⟨x2,hl,h⟩:=bnd h
 refine W.tr (G1:=[(0,_),(3,_),(4,_)]) (tn3 q q q) ?_
 refine W.lp1 (s:=(0,0)) (fun (s1:Int × Int)=>[(0,iR eCell_0 a0),(3,I64 s1.1),(4,I64 s1.2)]) 0 (fun (x2:Int)=>[(3,I64 x2)]) hl (fun s1 o h=>?_) ?_
 ·clear hl
  refine W.sq'<|W.sq' ?_
  refine W.rx [(0,_),(3,_),(4,_),(8,_)] (Vm q<|Rv (O.mv (.imm q))<|Rv (O.lenI (.imm q) sl65)<|Rv (O.lss (.lit q) (.lit q))<|Fi (tn4 q q q q)) ?_
  refine Px.sq<|W.cnd q (fun hb4=>?_) (fun hb4=>?_)
  ·replace h:=cndT hb4 h
   refine W.sk<|Px.sq ?_
   refine W.sq' ?_
   obtain ⟨j5,hj,h⟩:=bnd h
   refine W.jn [(0,iR eCell_0 a0),(3,I64 j5),(4,I64 s1.2)] ?_ ?_
   ·clear h; have h:=hj; clear hj
    refine W.bk<|W.sq' ?_
    obtain ⟨x6,hx6,h⟩:=bnd h
    obtain ⟨x7,hx7,h⟩:=bnd h
    refine W.rx [(0,_),(3,_),(4,_),(16,_)] (Rv (O.mv (.imm q))<|Vm q<|Rv (O.ixI (.imm q) (.lit q) sl65 hx6)<|Rv (O.ldIN (cs':=[I64 x6.State,I64 x6.Tok,I64 x6.Shift,BB x6.Accept,iR eI x6.Prods]) (.iptr q) at76 q q)<|Rc (PC.go (.cc (.aggF q q) .nil) (con66 x6 _ hx7) call66 q)<|Rv (O.gtr (.lit q) (.k q))<|Fi (tn4 q q q q)) ?_
    refine Px.sq ?_
    obtain ⟨j8,hj,h⟩:=bnd h
    refine W.jn [(0,iR eCell_0 a0),(3,I64 j8),(4,I64 s1.2)] ?_ ?_
    ·clear h; have h:=hj; clear hj
     refine W.cnd q (fun hb9=>?_) (fun hb9=>?_)
     ·replace h:=cndT hb9 h
      refine W.rx [(0,_),(3,_),(4,_)] (Vm q<|Rv (O.add (.lit q) (.k q))<|RunL.re (G1:=[(0,_),(4,_),(18,_)]) (tn3 q q q)<|Va q<|Fi (tn3 q q q)) ?_
      obtain rfl:=sm h
      exact Px.jn (tn3 q q q)
     ·replace h:=cndF hb9 h
      refine W.sk ?_
      obtain rfl:=sm h
      exact Px.jn (tn3 q q q)
    refine Px.bk ?_
    obtain rfl:=sm h
    exact Px.jn (tn3 q q q)
   refine Px.sq<|W.rx [(0,_),(3,_),(4,_)] (Vm q<|Rv (O.add (.lit q) (.k q))<|RunL.re (G1:=[(0,_),(3,_),(10,_)]) (tn3 q q q)<|Va q<|Fi (tn3 q q q)) ?_
   obtain rfl:=sm h
   exact Px.go (tn3 q q q)
  ·replace h:=cndF hb4 h
   refine W.xi ?_
   refine Px.sqE ?_
   obtain rfl:=sm h
   exact Px.x1 (.n q .nil)
 refine Px.bkH ?_
 refine Px.sq<|W.sq' ?_
 refine W.rx [(2,_)] (Vm q<|Va q<|Fi (.n q .nil)) ?_
 refine Px.sq<|W.rt ?_
 obtain rfl:=sm h
 exact Px.fin (Fin.ro (.f q q .nil) q (ode (by kernel_rfl)) (.no .nil) q (.inr q))
theorem con21 (a0:Source) (r:Grammar × Dense × Int × Bool) (h:pf21 a0=some r):Con Try.prog 21 [.agg (eSource_0.cells a0)] [none] (.tup [.agg (eGrammar_0.cells r.1),.agg [iR (eM eAct) r.2.1.Acts,iR (eM eI) r.2.1.Gotos],I64 r.2.2.1,BB r.2.2.2]):=by
 unfold pf21 at h
 refine Con.go (N:=⟨34,[]⟩) Try.func21 q q q q (W.fin ?_)
 refine W.st [(0,.agg (eSource_0.cells a0))] ?_
 refine W.sq'<|W.rx [(1,_),(2,_),(3,_)] (Rv (O.box (.aggF q q) q)<|Rv (O.al (cs:=[.nils,.nils,.nils,SS S0,SS S0]) ze44 q q)<|Rv (O.al (cs:=[.nils,.nils]) ze47 q q)<|Vk q<|Vk q<|Fi (tn3 q q q)) ?_
 refine Px.sq<|W.sq' ?_
 obtain ⟨x1,hx1,h⟩:=bnd h
 refine W.rx [(2,_),(3,_),(6,_),(7,_),(8,_),(9,_)] (Rv (O.ldON (cs':=[SS a0.Pro,iR eDecl_0 a0.Decls,iR eRule_0 a0.Rules,SS a0.Tail]) q (.obj q) at33 q q)<|Rc (PC.go (.cc (.aggF q q) .nil) (con30 a0 _ hx1) call30 q)<|Rv (O.mv (.tup q q))<|Rv (O.ex (y:=.agg (eGrammar_0.cells x1.1)) q q q)<|Rv (O.ex (y:=iR eState_0 x1.2.1) q q q)<|Rv (O.ex (y:=iR eCell_0 x1.2.2.1) q q q)<|Rv (O.ex (y:=BB x1.2.2.2) q q q)<|Rv (O.al (cs:=[.nils,.nils,.nils,SS S0,SS S0]) ze44 q q)<|RunL.sO (G2:=[(2,_),(3,_),(6,_),(16,_),(17,_),(18,_)]) (cs2:=[iR eTok x1.1.Toks,iR eNon x1.1.Nons,iR eProd_0 x1.1.Prods,SS x1.1.Pro,SS x1.1.Tail]) q (.obj q) (.aggF q q) q sz44 q q q q (.n q q (.n q q (.b q (.n q q (.n q q (.n q q .nil))))))<|Rv (O.az (.imm q))<|Rv (O.az (.imm q))<|Va q<|Fi (tn6 q q q q q q)) ?_
 refine Px.sq<|W.sq' ?_
 refine W.sq'<|W.rx [(2,_),(3,_),(6,_),(7,_),(8,_),(20,_)] (Vm q<|Rv (O.not (.lit q))<|Fi (tn6 q q q q q q)) ?_
 refine Px.sq<|W.cnd q (fun hb2=>?_) (fun hb2=>?_)
 ·replace h:=cndT hb2 h
  refine W.sq'<|W.rx [(2,_),(3,_),(4,_),(5,_)] (Rv (O.ldON (cs':=[iR eTok x1.1.Toks,iR eNon x1.1.Nons,iR eProd_0 x1.1.Prods,SS x1.1.Pro,SS x1.1.Tail]) q (.obj q) at44 q q)<|Rv (O.bu (cs:=[.nils,.nils]) sc47 ze47 q q q)<|RunL.sO (G2:=[(2,_),(3,_),(22,_)]) (cs2:=[iR eTok x1.1.Toks,iR eNon x1.1.Nons,iR eProd_0 x1.1.Prods,SS x1.1.Pro,SS x1.1.Tail]) q (.obj q) (.aggF q q) q sz44 q q q q (.b q (.n q q (.n q q .nil)))<|RunL.sO (G2:=[(2,_),(3,_)]) (cs2:=[.nils,.nils]) q (.obj q) (.aggF q q) q sz47 q q q q (.n q q (.b q .nil))<|Vk q<|Vk q<|Fi (tn4 q q q q)) ?_
  refine Px.sq<|W.fz (G1:=[(2,_),(3,.obj [iR (eM eAct) ([]:List (List Act)),iR (eM eI) ([]:List (List Int))]),(4,_),(5,_)]) [3] (.n q q (.z q q (FzL.obj (.z (.z .nil))) (.n q q (.n q q .nil)))) ?_
  refine W.rt ?_
  refine Px.sqR ?_
  obtain rfl:=sm h
  exact Px.fin (Fin.ro (.c (ys0:=[iR eTok x1.1.Toks,iR eNon x1.1.Nons,iR eProd_0 x1.1.Prods,SS x1.1.Pro,SS x1.1.Tail]) q at44 q q q (.f q (.f q (.f q (.f q (.f q .nil))))) (.c (ys0:=[iR (eM eAct) ([]:List (List Act)),iR (eM eI) ([]:List (List Int))]) q at47 q q q (.f q (.f q .nil)) (.f q q (.f q q .nil)))) q (ode (by kernel_rfl)) (.no .nil) q (.inr q))
 ·replace h:=cndF hb2 h
  refine W.sk<|Px.sq ?_
  refine W.sq' ?_
  obtain ⟨x3,hx3,h⟩:=bnd h
  refine W.rx [(2,_),(3,_),(6,_),(8,_),(10,_)] (Rv (O.ldON (cs':=[iR eTok x1.1.Toks,iR eNon x1.1.Nons,iR eProd_0 x1.1.Prods,SS x1.1.Pro,SS x1.1.Tail]) q (.obj q) at44 q q)<|Rv (O.mv (.imm q))<|Rv (O.mv (.imm q))<|Rc (PC.go (.cc (.aggF q q) (.cc (.imm q) (.cc (.imm q) .nil))) (con32 x1.1 x1.2.1 x1.2.2.1 _ hx3) call32 q)<|Rv (O.mv (.tup q q))<|Rv (O.ex (y:=.agg [iR (eM eAct) x3.1.Acts,iR (eM eI) x3.1.Gotos]) q q q)<|Rv (O.ex (y:=iR eClash x3.2) q q q)<|Rv (O.al (cs:=[.nils,.nils]) ze47 q q)<|RunL.sO (G2:=[(2,_),(3,_),(6,_),(8,_),(10,_),(29,_)]) (cs2:=[iR (eM eAct) x3.1.Acts,iR (eM eI) x3.1.Gotos]) q (.obj q) (.aggF q q) q sz47 q q q q (.n q q (.n q q (.n q q (.n q q (.b q (.n q q .nil))))))<|Rv (O.az (.imm q))<|Fi (tn5 q q q q q)) ?_
  refine Px.sq<|W.sq' ?_
  obtain ⟨x4,hx4,h⟩:=bnd h
  refine W.rd [[],[],[],[2],[0,2,3],rn 0 5 [],rn 0 6 [],rn 0 7 []] [(2,_),(3,_),(4,_),(5,_)] mixo (by kernel_rfl) (Dv 0 (O.ldON (cs':=[iR eTok x1.1.Toks,iR eNon x1.1.Nons,iR eProd_0 x1.1.Prods,SS x1.1.Pro,SS x1.1.Tail]) q (.obj q) at44 q q)<|Dv 1 (O.ldON (cs':=[iR (eM eAct) x3.1.Acts,iR (eM eI) x3.1.Gotos]) q (.obj q) at47 q q)<|Dv 2 (O.mv (.imm q))<|Dc 3 (PC.go (.cc (.imm q) .nil) (con48 x1.2.2.1 _ hx4) call48 q)<|DL.bu 4 (G2:=[(2,.obj (eGrammar_0.cells x1.1)),(3,.obj [.nils,.nils]),(10,.obj [iR (eM eAct) x3.1.Acts,iR (eM eI) x3.1.Gotos]),(33,I64 x4)]) (U:=[(1,31,some (.agg [iR (eM eAct) x3.1.Acts,iR (eM eI) x3.1.Gotos]))]) (EffOk.v (EO.eff (EO.sO (G2:=[(2,.obj (eGrammar_0.cells x1.1)),(3,.obj [.nils,.nils]),(10,.obj [iR (eM eAct) x3.1.Acts,iR (eM eI) x3.1.Gotos]),(33,I64 x4)]) (cs2:=[iR eTok x1.1.Toks,iR eNon x1.1.Nons,iR eProd_0 x1.1.Prods,SS x1.1.Pro,SS x1.1.Tail]) q q q (.obj q) (.aggF q q) q sz44 q q q q (.b q (.n q q (.n q q (.n q q .nil))))))) q q (by kernel_rfl) q q q (.c (.inr (.inr (.inr (.inr (.inr ⟨_,q,Plc.pl,cloN⟩))))) q q q q q (Gd.wanted .none) (O.ldON (cs':=[iR (eM eAct) x3.1.Acts,iR (eM eI) x3.1.Gotos]) q (.obj q) at47 q q) .nil) (by kernel_rfl)<|DL.sO 5 (G2:=[(2,.obj (eGrammar_0.cells x1.1)),(3,.obj [iR (eM eAct) x3.1.Acts,iR (eM eI) x3.1.Gotos]),(33,I64 x4)]) (cs2:=[iR (eM eAct) x3.1.Acts,iR (eM eI) x3.1.Gotos]) q (by kernel_rfl) (by kernel_rfl) q q q (.obj q) (.aggF q q) q sz47 q q q q (.n q q (.b q (.n q q .nil)))<|Dv 6 (O.az (.lit q))<|Dv 7 (O.az (.k q))<|DL.fin q q q (tn4 q q q q)) ?_
  refine Px.sq<|W.rt ?_
  obtain rfl:=sm h
  exact Px.fin (Fin.ro (.c (ys0:=[iR eTok x1.1.Toks,iR eNon x1.1.Nons,iR eProd_0 x1.1.Prods,SS x1.1.Pro,SS x1.1.Tail]) q at44 q q q (.f q (.f q (.f q (.f q (.f q .nil))))) (.c (ys0:=[iR (eM eAct) x3.1.Acts,iR (eM eI) x3.1.Gotos]) q at47 q q q (.f q (.f q .nil)) (.f q q (.f q q .nil)))) q (ode (by kernel_rfl)) (.no .nil) q (.inr q))
theorem con49 (a0:(List Pair)) (a1:(List Pair)) (r:Bool) (h:pf49 a0 a1=some r):Con Try.prog 49 [iR ePair a0,iR ePair a1] [none,none] (BB r):=by
 unfold pf49 at h
 refine Con.go (N:=⟨26,[]⟩) Try.func49 q q q q (W.fin ?_)
 refine W.st [(0,iR ePair a0),(1,iR ePair a1)] ?_
 refine W.sq'<|W.rx [(0,_),(1,_)] (Vk q<|Fi (tn2 q q)) ?_
 refine Px.sq<|W.sq' ?_
 refine W.sq'<|W.rx [(0,_),(1,_),(10,_)] (Rv (O.mv (.imm q))<|Rv (O.lenI (.imm q) sl57)<|Rv (O.mv (.imm q))<|Rv (O.lenI (.imm q) sl57)<|Rv (O.neq (.lit q) (.lit q))<|Fi (tn3 q q q)) ?_
 refine Px.sq<|W.cnd q (fun hb1=>?_) (fun hb1=>?_)
 ·replace h:=cndT hb1 h
  refine W.sq'<|W.rx [(4,_)] (Vk q<|Fi (.n q .nil)) ?_
  refine Px.sq<|W.rt ?_
  refine Px.sqR ?_
  obtain rfl:=sm h
  exact Px.fin (Fin.ro (.f q q .nil) q (ode (by kernel_rfl)) (.no (.no .nil)) q (.inr q))
 ·replace h:=cndF hb1 h
  refine W.sk<|Px.sq ?_
  refine W.sq'<|W.sq' ?_
  refine W.rx [(0,_),(1,_),(5,_)] (Vk q<|Fi (tn3 q q q)) ?_
  refine Px.sq<|W.bk ?_
  obtain ⟨x3,hl,h⟩:=bnd h
  refine W.tr (G1:=[(0,_),(1,_),(5,_)]) (tn3 q q q) ?_
  refine W.lp2 (s:=0) (fun (s2:Int)=>[(0,iR ePair a0),(1,iR ePair a1),(5,I64 s2)]) 0 (fun (x4:Unit)=>[]) (fun (x5:Bool)=>[(4,BB x5)]) hl (fun s2 o h=>?_) (fun x4 hx=>?_) (fun x5 hx=>?_)
  ·clear hl
   refine W.sq'<|W.sq' ?_
   refine W.rx [(0,_),(1,_),(5,_),(14,_)] (Vm q<|Rv (O.mv (.imm q))<|Rv (O.lenI (.imm q) sl57)<|Rv (O.lss (.lit q) (.lit q))<|Fi (tn4 q q q q)) ?_
   refine Px.sq<|W.cnd q (fun hb6=>?_) (fun hb6=>?_)
   ·replace h:=cndT hb6 h
    refine W.sk<|Px.sq ?_
    refine W.sq'<|W.bk ?_
    refine W.sq' ?_
    obtain ⟨x7,hx7,h⟩:=bnd h
    obtain ⟨x8,hx8,h⟩:=bnd h
    refine W.rd [[],[],[0,1],[0,1,2],[],[],[4,5],[4,5,6],rn 0 8 []] [(0,_),(1,_),(5,_),(25,_)] mixo (by kernel_rfl) (Dv 0 (O.mv (.imm q))<|Dv 1 (O.mv (.lit q))<|Dv 2 (O.ixI (.imm q) (.lit q) sl57 hx7)<|Dv 3 (O.ldIN (cs':=[I64 x7.At,I64 x7.Val]) (.iptr q) at62 q q)<|Dv 4 (O.mv (.imm q))<|Dv 5 (O.mv (.lit q))<|Dv 6 (O.ixI (.imm q) (.lit q) sl57 hx8)<|Dv 7 (O.ldIN (cs':=[I64 x8.At,I64 x8.Val]) (.iptr q) at62 q q)<|Dv 8 (O.neqA (va:=[.int .i64 x7.At,.int .i64 x7.Val]) (vb:=[.int .i64 x8.At,.int .i64 x8.Val]) (.aggF q q) (.aggF q q) q q eq62)<|DL.fin q q q (tn4 q q q q)) ?_
    refine Px.sq<|W.cnd q (fun hb9=>?_) (fun hb9=>?_)
    ·replace h:=cndT hb9 h
     refine W.sq'<|W.rx [(4,_)] (Vk q<|Fi (.n q .nil)) ?_
     refine Px.sq<|W.rt ?_
     refine Px.bkR ?_
     refine Px.sqR ?_
     obtain rfl:=sm h
     exact Px.r2 (.n q .nil)
    ·replace h:=cndF hb9 h
     refine W.sk<|Px.bk ?_
     refine Px.sq<|W.rx [(0,_),(1,_),(5,_)] (Vm q<|Rv (O.add (.lit q) (.k q))<|RunL.re (G1:=[(0,_),(1,_),(16,_)]) (tn3 q q q)<|Va q<|Fi (tn3 q q q)) ?_
     obtain rfl:=sm h
     exact Px.go (tn3 q q q)
   ·replace h:=cndF hb6 h
    refine W.xi ?_
    refine Px.sqE ?_
    obtain rfl:=sm h
    exact Px.x2 .nil
  ·subst hx
   refine Px.bkH ?_
   refine Px.sq<|W.sq' ?_
   refine W.rx [(4,_)] (Vk q<|Fi (.n q .nil)) ?_
   refine Px.sq<|W.rt ?_
   obtain rfl:=sm h
   exact Px.fin (Fin.ro (.f q q .nil) q (ode (by kernel_rfl)) (.no (.no .nil)) q (.inr q))
  ·subst hx
   refine Px.bkR ?_
   refine Px.sqR ?_
   obtain rfl:=sm h
   exact Px.fin (Fin.ro (.f q q .nil) q (ode (by kernel_rfl)) (.no (.no .nil)) q (.inr q))
theorem con22 (a0:(List Row)) (a1:(List Row)) (r:Bool) (h:pf22 a0 a1=some r):Con Try.prog 22 [iR eRow_0 a0,iR eRow_0 a1] [none,none] (BB r):=by
 unfold pf22 at h
 refine Con.go (N:=⟨42,[]⟩) Try.func22 q q q q (W.fin ?_)
 refine W.st [(0,iR eRow_0 a0),(1,iR eRow_0 a1)] ?_
 refine W.sq'<|W.rx [(0,_),(1,_)] (Vk q<|Fi (tn2 q q)) ?_
 refine Px.sq<|W.sq' ?_
 refine W.sq'<|W.rx [(0,_),(1,_),(10,_)] (Rv (O.mv (.imm q))<|Rv (O.lenI (.imm q) sl51)<|Rv (O.mv (.imm q))<|Rv (O.lenI (.imm q) sl51)<|Rv (O.neq (.lit q) (.lit q))<|Fi (tn3 q q q)) ?_
 refine Px.sq<|W.cnd q (fun hb1=>?_) (fun hb1=>?_)
 ·replace h:=cndT hb1 h
  refine W.sq'<|W.rx [(4,_)] (Vk q<|Fi (.n q .nil)) ?_
  refine Px.sq<|W.rt ?_
  refine Px.sqR ?_
  obtain rfl:=sm h
  exact Px.fin (Fin.ro (.f q q .nil) q (ode (by kernel_rfl)) (.no (.no .nil)) q (.inr q))
 ·replace h:=cndF hb1 h
  refine W.sk<|Px.sq ?_
  refine W.sq'<|W.sq' ?_
  refine W.rx [(0,_),(1,_),(5,_)] (Vk q<|Fi (tn3 q q q)) ?_
  refine Px.sq<|W.bk ?_
  obtain ⟨x3,hl,h⟩:=bnd h
  refine W.tr (G1:=[(0,_),(1,_),(5,_)]) (tn3 q q q) ?_
  refine W.lp2 (s:=0) (fun (s2:Int)=>[(0,iR eRow_0 a0),(1,iR eRow_0 a1),(5,I64 s2)]) 0 (fun (x4:Unit)=>[]) (fun (x5:Bool)=>[(4,BB x5)]) hl (fun s2 o h=>?_) (fun x4 hx=>?_) (fun x5 hx=>?_)
  ·clear hl
   refine W.sq'<|W.sq' ?_
   refine W.rx [(0,_),(1,_),(5,_),(14,_)] (Vm q<|Rv (O.mv (.imm q))<|Rv (O.lenI (.imm q) sl51)<|Rv (O.lss (.lit q) (.lit q))<|Fi (tn4 q q q q)) ?_
   refine Px.sq<|W.cnd q (fun hb6=>?_) (fun hb6=>?_)
   ·replace h:=cndT hb6 h
    refine W.sk<|Px.sq ?_
    refine W.sq'<|W.bk ?_
    refine W.sq' ?_
    obtain ⟨c13,hj,h⟩:=bnd h
    refine W.rd [[],[],[0,1],[0,1,2],[0,1,2,3],[],[],[5,6],[5,6,7],[5,6,7,8],rn 0 10 [],rn 0 11 [],rn 0 12 [],rn 0 12 [],rn 0 14 [],rn 0 15 [],rn 0 16 [],rn 0 12 [],rn 0 12 [],rn 0 12 [17,18],rn 0 12 [17,18,19],rn 0 12 [17,18,19,20],rn 0 22 [],rn 0 23 [],rn 0 24 []] [(0,iR eRow_0 a0),(1,iR eRow_0 a1),(5,I64 s2),(41,BB c13)] mixo (by kernel_rfl) ?_ ?_
    ·refine Dv 0 (O.mv (.imm q))<|Dv 1 (O.mv (.lit q)) ?_
     obtain ⟨x7,hx7,hj⟩:=bnd hj
     refine Dv 2 (O.ixI (.imm q) (.lit q) sl51 hx7)<|Dv 3 (O.fI (.iptr q) fd59_0)<|Dv 4 (O.ldI (x:=I64 x7.Def) (.iptr q) ct3 q)<|Dv 5 (O.mv (.imm q))<|Dv 6 (O.mv (.lit q)) ?_
     obtain ⟨x8,hx8,hj⟩:=bnd hj
     refine Dv 7 (O.ixI (.imm q) (.lit q) sl51 hx8)<|Dv 8 (O.fI (.iptr q) fd59_0)<|Dv 9 (O.ldI (x:=I64 x8.Def) (.iptr q) ct3 q)<|Dv 10 (O.neq (.lit q) (.lit q))<|Dv 11 (O.mv (.lit q)) ?_
     rcases cnd hj with ⟨hb9,hj⟩ | ⟨hb9,hj⟩
     ·obtain rfl:=sm hj
      exact DL.ps 12 q q hb9 q q q q<|DL.ps 13 q q hb9 q q q q<|DL.ps 14 q q hb9 q q q q<|DL.ps 15 q q hb9 q q q q<|DL.ps 16 q q hb9 q q q q<|DL.ps 17 q q hb9 q q q q<|DL.ps 18 q q hb9 q q q q<|DL.ps 19 q q hb9 q q q q<|DL.ps 20 q q hb9 q q q q<|DL.ps 21 q q hb9 q q q q<|DL.ps 22 q q hb9 q q q q<|DL.ps 23 q q hb9 q q q q<|Dv 24 (O.pkT (.lit q) hb9 (.k q))<|DL.fin q q q (tn4 q q q q)
     ·refine DL.v 12 (O.mv (.imm q)) q q q q (.yb q q hb9)<|DL.v 13 (O.mv (.lit q)) q q q q (.yb q q hb9) ?_
      obtain ⟨x10,hx10,hj⟩:=bnd hj
      refine DL.v 14 (O.ixI (.imm q) (.lit q) sl51 hx10) q q q q (.yb q q hb9)<|DL.v 15 (O.fI (.iptr q) fd59_1) q q q q (.yb q q hb9)<|DL.v 16 (O.ldI (x:=iR ePair x10.Pairs) (.iptr q) ct57 q) q q q q (.yb q q hb9)<|DL.v 17 (O.mv (.imm q)) q q q q (.yb q q hb9)<|DL.v 18 (O.mv (.lit q)) q q q q (.yb q q hb9) ?_
      obtain ⟨x11,hx11,hj⟩:=bnd hj
      refine DL.v 19 (O.ixI (.imm q) (.lit q) sl51 hx11) q q q q (.yb q q hb9)<|DL.v 20 (O.fI (.iptr q) fd59_1) q q q q (.yb q q hb9)<|DL.v 21 (O.ldI (x:=iR ePair x11.Pairs) (.iptr q) ct57 q) q q q q (.yb q q hb9) ?_
      obtain ⟨x12,hx12,hj⟩:=bnd hj
      obtain rfl:=sm hj
      exact DL.c 22 (PC.go (.cc (.imm q) (.cc (.imm q) .nil)) (con49 x10.Pairs x11.Pairs _ hx12) call49 q) q q q q (.yb q q hb9)<|DL.v 23 (O.not (.lit q)) q q q q (.yb q q hb9)<|Dv 24 (O.pkF (.lit q) hb9 (.lit q))<|DL.fin q q q (tn4 q q q q)
    refine Px.sq<|W.cnd q (fun hb14=>?_) (fun hb14=>?_)
    ·replace h:=cndT hb14 h
     refine W.sq'<|W.rx [(4,_)] (Vk q<|Fi (.n q .nil)) ?_
     refine Px.sq<|W.rt ?_
     refine Px.bkR ?_
     refine Px.sqR ?_
     obtain rfl:=sm h
     exact Px.r2 (.n q .nil)
    ·replace h:=cndF hb14 h
     refine W.sk<|Px.bk ?_
     refine Px.sq<|W.rx [(0,_),(1,_),(5,_)] (Vm q<|Rv (O.add (.lit q) (.k q))<|RunL.re (G1:=[(0,_),(1,_),(16,_)]) (tn3 q q q)<|Va q<|Fi (tn3 q q q)) ?_
     obtain rfl:=sm h
     exact Px.go (tn3 q q q)
   ·replace h:=cndF hb6 h
    refine W.xi ?_
    refine Px.sqE ?_
    obtain rfl:=sm h
    exact Px.x2 .nil
  ·subst hx
   refine Px.bkH ?_
   refine Px.sq<|W.sq' ?_
   refine W.rx [(4,_)] (Vk q<|Fi (.n q .nil)) ?_
   refine Px.sq<|W.rt ?_
   obtain rfl:=sm h
   exact Px.fin (Fin.ro (.f q q .nil) q (ode (by kernel_rfl)) (.no (.no .nil)) q (.inr q))
  ·subst hx
   refine Px.bkR ?_
   refine Px.sqR ?_
   obtain rfl:=sm h
   exact Px.fin (Fin.ro (.f q q .nil) q (ode (by kernel_rfl)) (.no (.no .nil)) q (.inr q))
theorem con50 (a0:(List Int)) (r:Int) (h:pf50 a0=some r):Con Try.prog 50 [iR eI a0] [none] (I64 r):=by
 unfold pf50 at h
 refine Con.go (N:=⟨44,[]⟩) Try.func50 q q q q (W.fin ?_)
 refine W.st [(0,iR eI a0)] ?_
 refine W.sq'<|W.rx [(0,_)] (Vk q<|Fi (.n q .nil)) ?_
 refine Px.sq<|W.sq' ?_
 refine W.rx [(0,_),(3,_)] (Rv (O.mkm mk3 mv3)<|RunL.ea (G2:=[(0,iR eI a0)]) q (EO.aG (y':=.mp (MI mk3 mv3 ([]:List (Int × Int)))) q q (.mp q) (.m q .nil) .refl (.n q .nil) q q)<|Fi (tn2 q q)) ?_
 refine Px.sq<|W.sq' ?_
 refine W.rx [(0,_),(3,_),(4,_)] (Vk q<|Fi (tn3 q q q)) ?_
 refine Px.sq<|W.sq' ?_
 refine W.sq'<|W.rx [(3,_),(4,_),(9,_),(10,_),(11,_)] (Rv (O.mv (.imm q))<|Rv (O.lenI (.imm q) sl29)<|Rv (O.mv (.k q))<|Fi (tn5 q q q q q)) ?_
 refine Px.sq<|W.bk ?_
 obtain ⟨x2,hl,h⟩:=bnd h
 refine W.tr (G1:=[(3,_),(4,_),(9,_),(10,_),(11,_)]) (tn5 q q q q q) ?_
 refine W.lp1 (s:=(([]:List (Int × Int)),(-1),0)) (fun (s1:(List (Int × Int)) × Int × Int)=>[(3,.mp (MI mk3 mv3 s1.1)),(4,I64 s1.2.1),(9,iR eI a0),(10,I64 (a0.length:Int)),(11,I64 s1.2.2)]) 0 (fun (x2:Int)=>[(4,I64 x2)]) hl (fun s1 o h=>?_) ?_
 ·clear hl
  refine W.sq'<|W.rx [(3,_),(4,_),(9,_),(10,_),(11,_),(12,_)] (Rv (O.lss (.lit q) (.lit q))<|Fi (tn6 q q q q q q)) ?_
  refine Px.sq<|W.sq' ?_
  refine W.cnd q (fun hb4=>?_) (fun hb4=>?_)
  ·replace h:=cndT hb4 h
   refine W.sk<|Px.sq ?_
   refine W.sq' ?_
   obtain ⟨j5,hj,h⟩:=bnd h
   refine W.jn [(3,.mp (MI mk3 mv3 j5.1)),(4,I64 j5.2),(9,iR eI a0),(10,I64 (a0.length:Int)),(11,I64 s1.2.2)] ?_ ?_
   ·clear h; have h:=hj; clear hj
    refine W.bk<|W.sq' ?_
    obtain ⟨x6,hx6,h⟩:=bnd h
    refine W.rx [(3,_),(4,_),(6,_),(9,_),(10,_),(11,_)] (Rv (O.ixI (.imm q) (.lit q) sl29 hx6)<|Rv (O.ldI (x:=I64 x6) (.iptr q) ct3 q)<|Va q<|Fi (tn6 q q q q q q)) ?_
    refine Px.sq<|W.sq' ?_
    obtain ⟨x7,hx7,h⟩:=bnd h
    obtain ⟨x8,hx8,h⟩:=bnd h
    refine W.rx [(3,_),(4,_),(6,_),(9,_),(10,_),(11,_)] (Rv (O.mv (.mp q))<|Vm q<|Rv (O.lk (K:=mk3) (V:=mv3) (m:=s1.1) (x:=x6) (Y:=I64 x6) (X:=I64 x7) (.mref q) q (.lit q) q um126 hx7 q)<|Rv (O.add (.lit q) (.k q))<|RunL.ef (G2:=[(3,.mp (MI mk3 mv3 x8)),(4,I64 s1.2.1),(6,I64 x6),(9,iR eI a0),(10,I64 (a0.length:Int)),(11,I64 s1.2.2)]) q (EO.mt (K:=mk3) (V:=mv3) (m:=s1.1) (m':=x8) (x:=x6) (y:=w64 (x7+1)) (Y:=I64 x6) (Z:=I64 (w64 (x7+1))) (p:=⟨3,[]⟩) (x2:=.mp (MI mk3 mv3 x8)) q q (.mref q) q (.lit q) q (.lit q) q um126 hx8 q q q (.b q (.n q q (.n q q (.n q q (.n q q (.n q q .nil)))))))<|Fi (tn6 q q q q q q)) ?_
    refine Px.sq<|W.sq' ?_
    obtain ⟨x9,hx9,h⟩:=bnd h
    obtain ⟨x10,hx10,h⟩:=bnd h
    refine W.rx [(3,_),(4,_),(6,_),(7,_),(9,_),(10,_),(11,_)] (Rv (O.mv (.mp q))<|Vm q<|Rv (O.lk (K:=mk3) (V:=mv3) (m:=x8) (x:=x6) (Y:=I64 x6) (X:=I64 x9) (.mref q) q (.lit q) q um126 hx9 q)<|Rv (O.mv (.mp q))<|Vm q<|Rv (O.lk (K:=mk3) (V:=mv3) (m:=x8) (x:=s1.2.1) (Y:=I64 s1.2.1) (X:=I64 x10) (.mref q) q (.lit q) q um126 hx10 q)<|Rv (O.sub (.lit q) (.lit q))<|Va q<|Fi (tn7 q q q q q q q)) ?_
    refine Px.sq<|W.sq' ?_
    obtain ⟨c14,hj,h⟩:=bnd h
    refine W.rx [(3,.mp (MI mk3 mv3 x8)),(4,I64 s1.2.1),(6,I64 x6),(9,iR eI a0),(10,I64 (a0.length:Int)),(11,I64 s1.2.2),(40,BB c14)] ?_ ?_
    ·refine Vm q<|Rv (O.lss (.lit q) (.k q))<|Rv (O.mv (.lit q)) ?_
     rcases cnd hj with ⟨hb11,hj⟩ | ⟨hb11,hj⟩
     ·obtain rfl:=sm hj
      exact RunL.ps q q hb11 q q<|RunL.ps q q hb11 q q<|Rv (O.pkT (.lit q) hb11 (.k q))<|Vm q<|RunL.ps q q q q q<|RunL.ps q q q q q<|RunL.ps q q q q q<|RunL.pu q q q q<|RunL.pu q q q q<|RunL.pu q q q q<|RunL.ps q q q q q<|Rv (O.pkT (.lit q) q (.k q))<|Fi (tn7 q q q q q q q)
     ·refine RunL.v (O.mv (.lit q)) q q (.yb q q hb11)<|RunL.v (O.gtr (.lit q) (.k q)) q q (.yb q q hb11)<|Rv (O.pkF (.lit q) hb11 (.lit q))<|Rv (O.mv (.lit q)) ?_
      rcases cnd hj with ⟨hb12,hj⟩ | ⟨hb12,hj⟩
      ·obtain rfl:=sm hj
       exact RunL.ps q q hb12 q q<|RunL.ps q q hb12 q q<|RunL.ps q q hb12 q q<|RunL.pu q q q q<|RunL.pu q q q q<|RunL.pu q q q q<|RunL.ps q q hb12 q q<|Rv (O.pkT (.lit q) hb12 (.k q))<|Fi (tn7 q q q q q q q)
      ·refine RunL.v (O.mv (.lit q)) q q (.yb q q hb12)<|RunL.v (O.eql (.lit q) (.k q)) q q (.yb q q hb12)<|RunL.v (O.mv (.lit q)) q q (.yb q q hb12) ?_
       rcases cnd hj with ⟨hb13,hj⟩ | ⟨hb13,hj⟩
       ·obtain rfl:=sm hj
        exact RunL.v (O.mv (.lit q)) q q (.yb q q hb13)<|RunL.v (O.mv (.lit q)) q q (.yb q q hb13)<|RunL.v (O.lss (.lit q) (.lit q)) q q (.yb q q hb13)<|RunL.v (O.pkT (.lit q) hb13 (.lit q)) q q (.yb q q hb12)<|Rv (O.pkF (.lit q) hb12 (.lit q))<|Fi (tn7 q q q q q q q)
       ·obtain rfl:=sm hj
        exact RunL.ps q q hb13 q q<|RunL.ps q q hb13 q q<|RunL.ps q q hb13 q q<|RunL.v (O.pkF (.lit q) hb13 (.k q)) q q (.yb q q hb12)<|Rv (O.pkF (.lit q) hb12 (.lit q))<|Fi (tn7 q q q q q q q)
    refine Px.sq ?_
    obtain ⟨j15,hj,h⟩:=bnd h
    refine W.jn [(3,.mp (MI mk3 mv3 x8)),(4,I64 j15),(9,iR eI a0),(10,I64 (a0.length:Int)),(11,I64 s1.2.2)] ?_ ?_
    ·clear h; have h:=hj; clear hj
     refine W.cnd q (fun hb16=>?_) (fun hb16=>?_)
     ·replace h:=cndT hb16 h
      refine W.rx [(3,_),(4,_),(9,_),(10,_),(11,_)] (Vm q<|RunL.re (G1:=[(3,_),(9,_),(10,_),(11,_),(41,_)]) (tn5 q q q q q)<|Va q<|Fi (tn5 q q q q q)) ?_
      obtain rfl:=sm h
      exact Px.jn (tn5 q q q q q)
     ·replace h:=cndF hb16 h
      refine W.sk ?_
      obtain rfl:=sm h
      exact Px.jn (tn5 q q q q q)
    refine Px.bk ?_
    obtain rfl:=sm h
    exact Px.jn (tn5 q q q q q)
   refine Px.sq<|W.rx [(3,_),(4,_),(9,_),(10,_),(11,_)] (Rv (O.add (.lit q) (.k q))<|RunL.re (G1:=[(3,_),(4,_),(9,_),(10,_),(42,_)]) (tn5 q q q q q)<|Vm q<|Fi (tn5 q q q q q)) ?_
   obtain rfl:=sm h
   exact Px.go (tn5 q q q q q)
  ·replace h:=cndF hb4 h
   refine W.xi ?_
   refine Px.sqE ?_
   obtain rfl:=sm h
   exact Px.x1 (.n q .nil)
 refine Px.bkH ?_
 refine Px.sq<|W.sq' ?_
 refine W.rx [(2,_)] (Vm q<|Va q<|Fi (.n q .nil)) ?_
 refine Px.sq<|W.rt ?_
 obtain rfl:=sm h
 exact Px.fin (Fin.ro (.f q q .nil) q (ode (by kernel_rfl)) (.no .nil) q (.inr q))
theorem con23 (a0:Dense) (r:(List Row)) (h:pf23 a0=some r):Con Try.prog 23 [.agg [iR (eM eAct) a0.Acts,iR (eM eI) a0.Gotos]] [none] (iR eRow_0 r):=by
 unfold pf23 at h
 refine Con.go (N:=⟨75,[]⟩) Try.func23 q q q q (W.fin ?_)
 refine W.st [(0,.agg [iR (eM eAct) a0.Acts,iR (eM eI) a0.Gotos])] ?_
 refine W.sq'<|W.rx [(1,_)] (Rv (O.box (.aggF q q) q)<|Rv (O.az .knil)<|Fi (.n q .nil)) ?_
 refine Px.sq<|W.sq' ?_
 refine W.rx [(1,_),(3,_)] (Rv (O.az .knil)<|Fi (tn2 q q)) ?_
 refine Px.sq<|W.sq' ?_
 refine W.sq'<|W.rx [(3,_),(13,_),(14,_),(15,_)] (Rv (O.fO q (.obj q) fd47_0 q)<|Rv (O.ldO (y:=iR (eM eAct) a0.Acts) q (.ptr q) ct45 q q)<|Rv (O.lenI (.imm q) sl45)<|Rv (O.mv (.k q))<|Fi (tn4 q q q q)) ?_
 refine Px.sq<|W.bk ?_
 obtain ⟨x2,hl,h⟩:=bnd h
 refine W.tr (G1:=[(3,oR eRow_0 ([]:List Row)),(13,_),(14,_),(15,_)]) (.w q q .nilOwn (tn3 q q q)) ?_
 refine W.lp1 (s:=(([]:List Row),0)) (fun (s1:List Row × Int)=>[(3,oR eRow_0 s1.1),(13,iR (eM eAct) a0.Acts),(14,I64 (a0.Acts.length:Int)),(15,I64 s1.2)]) 0 (fun (x2:List Row)=>[(3,oR eRow_0 x2)]) hl (fun s1 o h=>?_) ?_
 ·clear hl
  refine W.sq'<|W.rx [(3,_),(13,_),(14,_),(15,_),(16,_)] (Rv (O.lss (.lit q) (.lit q))<|Fi (tn5 q q q q q)) ?_
  refine Px.sq<|W.sq' ?_
  refine W.cnd q (fun hb4=>?_) (fun hb4=>?_)
  ·replace h:=cndT hb4 h
   refine W.sk<|Px.sq ?_
   refine W.sq'<|W.bk ?_
   refine W.sq' ?_
   obtain ⟨x5,hx5,h⟩:=bnd h
   refine W.rx [(3,_),(5,_),(13,_),(14,_),(15,_)] (Rv (O.ixI (.imm q) (.lit q) sl45 hx5)<|Rv (O.ldI (x:=iR eAct x5) (.iptr q) ct54 q)<|Rv (O.az (.imm q))<|Fi (tn5 q q q q q)) ?_
   refine Px.sq<|W.sq' ?_
   refine W.rx [(3,_),(5,_),(6,_),(13,_),(14,_),(15,_)] (Rv (O.az .knil)<|Fi (tn6 q q q q q q)) ?_
   refine Px.sq<|W.sq' ?_
   refine W.sq'<|W.rx [(3,_),(5,_),(6,_),(13,_),(14,_),(15,_),(19,_),(20,_),(21,_)] (Rv (O.mv (.imm q))<|Rv (O.lenI (.imm q) sl54)<|Rv (O.mv (.k q))<|Fi (tn9 q q q q q q q q q)) ?_
   refine Px.sq<|W.bk ?_
   obtain ⟨x7,hl,h⟩:=bnd h
   refine W.tr (G1:=[(3,_),(5,_),(6,oR eI ([]:List Int)),(13,_),(14,_),(15,_),(19,_),(20,_),(21,_)]) (.n q (.n q (.w q q .nilOwn (tn6 q q q q q q)))) ?_
   refine W.lp1 (s:=(([]:List Int),0)) (fun (s6:List Int × Int)=>[(3,oR eRow_0 s1.1),(5,iR eAct x5),(6,oR eI s6.1),(13,iR (eM eAct) a0.Acts),(14,I64 (a0.Acts.length:Int)),(15,I64 s1.2),(19,iR eAct x5),(20,I64 (x5.length:Int)),(21,I64 s6.2)]) 2 (fun (x7:List Int)=>[(3,oR eRow_0 s1.1),(5,iR eAct x5),(6,oR eI x7),(13,iR (eM eAct) a0.Acts),(14,I64 (a0.Acts.length:Int)),(15,I64 s1.2)]) hl (fun s6 o h=>?_) ?_
   ·clear hl
    refine W.sq'<|W.rx [(3,_),(5,_),(6,_),(13,_),(14,_),(15,_),(19,_),(20,_),(21,_),(22,_)] (Rv (O.lss (.lit q) (.lit q))<|Fi (tn10 q q q q q q q q q q)) ?_
    refine Px.sq<|W.sq' ?_
    refine W.cnd q (fun hb9=>?_) (fun hb9=>?_)
    ·replace h:=cndT hb9 h
     refine W.sk<|Px.sq ?_
     refine W.sq' ?_
     obtain ⟨j10,hj,h⟩:=bnd h
     refine W.jn [(3,oR eRow_0 s1.1),(5,iR eAct x5),(6,oR eI j10),(13,iR (eM eAct) a0.Acts),(14,I64 (a0.Acts.length:Int)),(15,I64 s1.2),(19,iR eAct x5),(20,I64 (x5.length:Int)),(21,I64 s6.2)] ?_ ?_
     ·clear h; have h:=hj; clear hj
      refine W.bk<|W.sq' ?_
      obtain ⟨x11,hx11,h⟩:=bnd h
      refine W.rx [(3,_),(5,_),(6,_),(8,_),(13,_),(14,_),(15,_),(19,_),(20,_),(21,_)] (Rv (O.ixI (.imm q) (.lit q) sl54 hx11)<|Rv (O.ldIN (cs':=[I64 x11.Kind,I64 x11.N]) (.iptr q) at23 q q)<|Rv (O.al (cs:=[I64 0,I64 0]) ze23 q q)<|RunL.sO (G2:=[(3,_),(5,_),(6,_),(8,_),(13,_),(14,_),(15,_),(19,_),(20,_),(21,_)]) (cs2:=[I64 x11.Kind,I64 x11.N]) q (.obj q) (.aggF q q) q sz23 q q q q (.n q q (.n q q (.n q q (.b q (.n q q (.n q q (.n q q (.n q q (.n q q (.n q q .nil))))))))))<|Fi (tn10 q q q q q q q q q q)) ?_
      refine Px.sq<|W.sq' ?_
      refine W.rx [(3,_),(5,_),(6,_),(8,_),(13,_),(14,_),(15,_),(19,_),(20,_),(21,_),(27,_)] (Rv (O.fO q (.obj q) fd23_0 q)<|Rv (O.ldO (y:=I64 x11.Kind) q (.ptr q) ct3 q q)<|Rv (O.eql (.lit q) (.k q))<|Fi (tn11 q q q q q q q q q q q)) ?_
      refine Px.sq ?_
      obtain ⟨j12,hj,h⟩:=bnd h
      refine W.jn [(3,oR eRow_0 s1.1),(5,iR eAct x5),(6,oR eI j12),(13,iR (eM eAct) a0.Acts),(14,I64 (a0.Acts.length:Int)),(15,I64 s1.2),(19,iR eAct x5),(20,I64 (x5.length:Int)),(21,I64 s6.2)] ?_ ?_
      ·clear h; have h:=hj; clear hj
       refine W.cnd q (fun hb13=>?_) (fun hb13=>?_)
       ·replace h:=cndT hb13 h
        obtain ⟨x14,hx14,h⟩:=bnd h
        refine W.rx [(3,_),(5,_),(6,_),(13,_),(14,_),(15,_),(19,_),(20,_),(21,_)] (Rv (O.mv (.own q))<|Rv (O.fO q (.obj q) fd23_1 q)<|Rv (O.ldO (y:=I64 x11.N) q (.ptr q) ct3 q q)<|RunL.vi (x:=iR eI [x11.N]) (O.bs (ys:=[I64 x11.N]) eI [x11.N] sl29 q q q q q q zt3 q q) q q .none<|Rv (O.ap (en:=eI) (r:=x14) (.brw q) q (.imm q) .i ap29 q hx14)<|RunL.ea (G2:=[(3,oR eRow_0 s1.1),(5,iR eAct x5),(13,iR (eM eAct) a0.Acts),(14,I64 (a0.Acts.length:Int)),(15,I64 s1.2),(19,iR eAct x5),(20,I64 (x5.length:Int)),(21,I64 s6.2)]) q (EO.aP q q (.pend q) q q q (.n q q (.n q q (.n q q (.n q q (.n q q (.n q q (.n q q (.n q q .nil)))))))) q q)<|Fi (tn9 q q q q q q q q q)) ?_
        obtain rfl:=sm h
        exact Px.jn (tn9 q q q q q q q q q)
       ·replace h:=cndF hb13 h
        refine W.sk ?_
        obtain rfl:=sm h
        exact Px.jn (tn9 q q q q q q q q q)
      refine Px.bk ?_
      obtain rfl:=sm h
      exact Px.jn (tn9 q q q q q q q q q)
     refine Px.sq<|W.rx [(3,_),(5,_),(6,_),(13,_),(14,_),(15,_),(19,_),(20,_),(21,_)] (Rv (O.add (.lit q) (.k q))<|RunL.re (G1:=[(3,_),(5,_),(6,_),(13,_),(14,_),(15,_),(19,_),(20,_),(33,_)]) (tn9 q q q q q q q q q)<|Vm q<|Fi (tn9 q q q q q q q q q)) ?_
     obtain rfl:=sm h
     exact Px.go (tn9 q q q q q q q q q)
    ·replace h:=cndF hb9 h
     refine W.xi ?_
     refine Px.sqE ?_
     obtain rfl:=sm h
     exact Px.x1 (tn6 q q q q q q)
   refine Px.bkH ?_
   refine Px.sq<|W.sq' ?_
   obtain ⟨x15,hx15,h⟩:=bnd h
   refine W.rx [(3,_),(5,_),(9,_),(13,_),(14,_),(15,_)] (Rv (O.mv (.own q))<|Rc (PC.vw (ys:=[.brw eI.z ⟨6,[]⟩ x7.length]) q (.c (.row q) .nil) (con50 x7 _ hx15) call50 q)<|Rv (O.bu (cs:=[I64 x15,.nils]) sc59 ze59 q q q)<|Rv (O.al (cs:=[I64 0,.nils]) ze59 q q)<|RunL.sO (G2:=[(3,_),(5,_),(9,_),(13,_),(14,_),(15,_)]) (cs2:=[I64 x15,.nils]) q (.obj q) (.aggF q q) q sz59 q q q q (.n q q (.n q q (.b q (.n q q (.n q q (.n q q .nil))))))<|Fi (tn6 q q q q q q)) ?_
   refine Px.sq<|W.sq' ?_
   refine W.sq'<|W.rx [(3,_),(9,_),(13,_),(14,_),(15,_),(37,_),(38,_),(39,_)] (Rv (O.mv (.imm q))<|Rv (O.lenI (.imm q) sl54)<|Rv (O.mv (.k q))<|Fi (tn8 q q q q q q q q)) ?_
   refine Px.sq<|W.bk ?_
   obtain ⟨x17,hl,h⟩:=bnd h
   refine W.tr (G1:=[(3,_),(9,.obj [I64 x15,oR ePair ([]:List Pair)]),(13,_),(14,_),(15,_),(37,_),(38,_),(39,_)]) (.n q (.w q q (WkL.obj (.f (.o .nil))) (tn6 q q q q q q))) ?_
   refine W.lp1 (s:=(([]:List Pair),0)) (fun (s16:List Pair × Int)=>[(3,oR eRow_0 s1.1),(9,.obj [I64 x15,oR ePair s16.1]),(13,iR (eM eAct) a0.Acts),(14,I64 (a0.Acts.length:Int)),(15,I64 s1.2),(37,iR eAct x5),(38,I64 (x5.length:Int)),(39,I64 s16.2)]) 4 (fun (x17:List Pair)=>[(3,oR eRow_0 s1.1),(9,.obj [I64 x15,oR ePair x17]),(13,iR (eM eAct) a0.Acts),(14,I64 (a0.Acts.length:Int)),(15,I64 s1.2)]) hl (fun s16 o h=>?_) ?_
   ·clear hl
    refine W.sq'<|W.rx [(3,_),(9,_),(13,_),(14,_),(15,_),(37,_),(38,_),(39,_),(40,_)] (Rv (O.lss (.lit q) (.lit q))<|Fi (tn9 q q q q q q q q q)) ?_
    refine Px.sq<|W.sq' ?_
    refine W.cnd q (fun hb19=>?_) (fun hb19=>?_)
    ·replace h:=cndT hb19 h
     refine W.sk<|Px.sq ?_
     refine W.sq' ?_
     obtain ⟨j20,hj,h⟩:=bnd h
     refine W.jn [(3,oR eRow_0 s1.1),(9,.obj [I64 x15,oR ePair j20]),(13,iR (eM eAct) a0.Acts),(14,I64 (a0.Acts.length:Int)),(15,I64 s1.2),(37,iR eAct x5),(38,I64 (x5.length:Int)),(39,I64 s16.2)] ?_ ?_
     ·clear h; have h:=hj; clear hj
      refine W.bk<|W.sq' ?_
      obtain ⟨x21,hx21,h⟩:=bnd h
      refine W.rx [(3,_),(9,_),(10,_),(11,_),(13,_),(14,_),(15,_),(37,_),(38,_),(39,_)] (Vm q<|Rv (O.ixI (.imm q) (.lit q) sl54 hx21)<|Rv (O.ldIN (cs':=[I64 x21.Kind,I64 x21.N]) (.iptr q) at23 q q)<|Rv (O.al (cs:=[I64 0,I64 0]) ze23 q q)<|Va q<|RunL.sO (G2:=[(3,_),(9,_),(10,_),(11,_),(13,_),(14,_),(15,_),(37,_),(38,_),(39,_)]) (cs2:=[I64 x21.Kind,I64 x21.N]) q (.obj q) (.aggF q q) q sz23 q q q q (.n q q (.n q q (.n q q (.b q (.n q q (.n q q (.n q q (.n q q (.n q q (.n q q .nil))))))))))<|Fi (tn10 q q q q q q q q q q)) ?_
      refine Px.sq<|W.sq' ?_
      obtain ⟨c24,hj,h⟩:=bnd h
      refine W.rx [(3,oR eRow_0 s1.1),(9,.obj [I64 x15,oR ePair s16.1]),(10,I64 s16.2),(11,.obj [I64 x21.Kind,I64 x21.N]),(13,iR (eM eAct) a0.Acts),(14,I64 (a0.Acts.length:Int)),(15,I64 s1.2),(37,iR eAct x5),(38,I64 (x5.length:Int)),(39,I64 s16.2),(58,BB c24)] ?_ ?_
      ·refine Rv (O.fO q (.obj q) fd23_0 q)<|Rv (O.ldO (y:=I64 x21.Kind) q (.ptr q) ct3 q q)<|Rv (O.neq (.lit q) (.k q))<|Rv (O.mv (.lit q)) ?_
       rcases cnd hj with ⟨hb22,hj⟩ | ⟨hb22,hj⟩
       ·refine RunL.v (O.fO q (.obj q) fd23_0 q) q q (.yb q q hb22)<|RunL.v (O.ldO (y:=I64 x21.Kind) q (.ptr q) ct3 q q) q q (.yb q q hb22)<|RunL.v (O.neq (.lit q) (.k q)) q q (.yb q q hb22)<|RunL.v (O.mv (.lit q)) q q (.yb q q hb22) ?_
        rcases cnd hj with ⟨hb23,hj⟩ | ⟨hb23,hj⟩
        ·obtain rfl:=sm hj
         exact RunL.ps q q hb23 q q<|RunL.ps q q hb23 q q<|RunL.ps q q hb23 q q<|RunL.ps q q hb23 q q<|RunL.ps q q hb23 q q<|RunL.v (O.pkT (.lit q) hb23 (.k q)) q q (.yb q q hb22)<|Rv (O.pkT (.lit q) hb22 (.lit q))<|Fi (tn11 q q q q q q q q q q q)
        ·obtain rfl:=sm hj
         exact RunL.v (O.fO q (.obj q) fd23_1 q) q q (.yb q q hb23)<|RunL.v (O.ldO (y:=I64 x21.N) q (.ptr q) ct3 q q) q q (.yb q q hb23)<|RunL.v (O.fO q (.obj q) fd59_0 q) q q (.yb q q hb23)<|RunL.v (O.ldO (y:=I64 x15) q (.ptr q) ct3 q q) q q (.yb q q hb23)<|RunL.v (O.neq (.lit q) (.lit q)) q q (.yb q q hb23)<|RunL.v (O.pkF (.lit q) hb23 (.lit q)) q q (.yb q q hb22)<|Rv (O.pkT (.lit q) hb22 (.lit q))<|Fi (tn11 q q q q q q q q q q q)
       ·obtain rfl:=sm hj
        exact RunL.ps q q hb22 q q<|RunL.ps q q hb22 q q<|RunL.ps q q hb22 q q<|RunL.ps q q hb22 q q<|RunL.pu q q q q<|RunL.pu q q q q<|RunL.pu q q q q<|RunL.pu q q q q<|RunL.pu q q q q<|RunL.ps q q hb22 q q<|Rv (O.pkF (.lit q) hb22 (.k q))<|Fi (tn11 q q q q q q q q q q q)
      refine Px.sq ?_
      obtain ⟨j25,hj,h⟩:=bnd h
      refine W.jn [(3,oR eRow_0 s1.1),(9,.obj [I64 x15,oR ePair j25]),(13,iR (eM eAct) a0.Acts),(14,I64 (a0.Acts.length:Int)),(15,I64 s1.2),(37,iR eAct x5),(38,I64 (x5.length:Int)),(39,I64 s16.2)] ?_ ?_
      ·clear h; have h:=hj; clear hj
       refine W.cnd q (fun hb26=>?_) (fun hb26=>?_)
       ·replace h:=cndT hb26 h
        obtain ⟨x27,hx27,h⟩:=bnd h
        obtain ⟨x28,hx28,h⟩:=bnd h
        refine W.rd [[],[0],[],[],[3],[2,3,4],[2,3,4,5],rn 0 7 [],rn 0 8 [],rn 0 9 []] [(3,_),(9,_),(13,_),(14,_),(15,_),(37,_),(38,_),(39,_)] mixo (by kernel_rfl) (Dv 0 (O.fO q (.obj q) fd59_1 q)<|Dv 1 (O.ldO (y:=.brw ePair.z ⟨9,[1]⟩ s16.1.length) q (.ptr q) ct57 q q)<|Dv 2 (O.mv (.lit q))<|Dv 3 (O.ldON (cs':=[I64 x21.Kind,I64 x21.N]) q (.obj q) at23 q q)<|Dc 4 (PC.go (.cc (.aggF q q) .nil) (con15 x21 _ hx27) call15 q)<|Dv 5 (O.bu (cs:=[I64 s16.2,I64 x27]) sc62 ze62 q q q)<|DL.vi 6 (x:=iR ePair [(⟨s16.2,x27⟩:Pair)]) (O.bs (ys:=[.agg [I64 s16.2,I64 x27]]) ePair [(⟨s16.2,x27⟩:Pair)] sl57 q q q q q q zt62 q q) q q q q .none<|Dv 7 (O.ap (en:=ePair) (r:=x28) (.brw q) q (.imm q) .i ap57 q hx28)<|Dv 8 (O.fO q (.obj q) fd59_1 q)<|DL.bp 9 (G2:=[(3,oR eRow_0 s1.1),(9,.obj [I64 x15,oR ePair (s16.1++[(⟨s16.2,x27⟩:Pair)])]),(13,iR (eM eAct) a0.Acts),(14,I64 (a0.Acts.length:Int)),(15,I64 s1.2),(37,iR eAct x5),(38,I64 (x5.length:Int)),(39,I64 s16.2)]) (EO.stP (g1:=_) (en:=ePair) (M:=[(⟨s16.2,x27⟩:Pair)]) (cs2:=[I64 x15,oR ePair (s16.1++[(⟨s16.2,x27⟩:Pair)])]) q q (.ptr q) (.pend q) q q q .ns .rf q q sz57 q q q q (.n q q (.b q (.n q q (.n q q (.n q q (.n q q (.n q q (.n q q .nil))))))))) q q q q (by kernel_rfl) (by kernel_rfl)<|DL.fin q q q (tn8 q q q q q q q q)) ?_
        obtain rfl:=sm h
        exact Px.jn (tn8 q q q q q q q q)
       ·replace h:=cndF hb26 h
        refine W.sk ?_
        obtain rfl:=sm h
        exact Px.jn (tn8 q q q q q q q q)
      refine Px.bk ?_
      obtain rfl:=sm h
      exact Px.jn (tn8 q q q q q q q q)
     refine Px.sq<|W.rx [(3,_),(9,_),(13,_),(14,_),(15,_),(37,_),(38,_),(39,_)] (Rv (O.add (.lit q) (.k q))<|RunL.re (G1:=[(3,_),(9,_),(13,_),(14,_),(15,_),(37,_),(38,_),(68,_)]) (tn8 q q q q q q q q)<|Vm q<|Fi (tn8 q q q q q q q q)) ?_
     obtain rfl:=sm h
     exact Px.go (tn8 q q q q q q q q)
    ·replace h:=cndF hb19 h
     refine W.xi ?_
     refine Px.sqE ?_
     obtain rfl:=sm h
     exact Px.x1 (tn5 q q q q q)
   refine Px.bkH ?_
   refine Px.sq<|W.fz (G1:=[(3,_),(9,.obj [I64 x15,iR ePair x17]),(13,_),(14,_),(15,_)]) [9] (.n q q (.z q q (FzL.obj (.f (.z .nil))) (.n q q (.n q q (.n q q .nil))))) ?_
   obtain ⟨x29,hx29,h⟩:=bnd h
   refine W.rx [(3,_),(13,_),(14,_),(15,_)] (Rv (O.mv (.own q))<|Rv (O.ldON (cs':=[I64 x15,iR ePair x17]) q (.obj q) at59 q q)<|RunL.vi (x:=iR eRow_0 [(⟨x15,x17⟩:Row)]) (O.bs (ys:=[.agg [I64 x15,iR ePair x17]]) eRow_0 [(⟨x15,x17⟩:Row)] sl51 q q q q q q zt59 q q) q q .none<|Rv (O.ap (en:=eRow_0) (r:=x29) (.brw q) q (.imm q) .i ap51 q hx29)<|RunL.ea (G2:=[(13,iR (eM eAct) a0.Acts),(14,I64 (a0.Acts.length:Int)),(15,I64 s1.2)]) q (EO.aP q q (.pend q) q q q (.n q q (.n q q (.n q q .nil))) q q)<|Fi (tn4 q q q q)) ?_
   refine Px.bk ?_
   refine Px.sq<|W.rx [(3,_),(13,_),(14,_),(15,_)] (Rv (O.add (.lit q) (.k q))<|RunL.re (G1:=[(3,_),(13,_),(14,_),(73,_)]) (tn4 q q q q)<|Vm q<|Fi (tn4 q q q q)) ?_
   obtain rfl:=sm h
   exact Px.go (tn4 q q q q)
  ·replace h:=cndF hb4 h
   refine W.xi ?_
   refine Px.sqE ?_
   obtain rfl:=sm h
   exact Px.x1 (.n q .nil)
 refine Px.bkH ?_
 refine Px.sq<|W.sq' ?_
 refine W.rx [(2,_)] (Rv (O.mv (.own q))<|RunL.ea (G2:=[]) q (EO.aR q q (.brw q) q .nil q q)<|Fi (.n q .nil)) ?_
 refine Px.sq<|W.fz (G1:=[(2,iR eRow_0 x2)]) [2] (.z q q .zz .nil) ?_
 refine W.rt ?_
 obtain rfl:=sm h
 exact Px.fin (Fin.ro (.f q q .nil) q (ode (by kernel_rfl)) (.no .nil) q (.inr q))
theorem con25 (a0:Dense) (r:(List Row)) (h:pf25 a0=some r):Con Try.prog 25 [.agg [iR (eM eAct) a0.Acts,iR (eM eI) a0.Gotos]] [none] (iR eRow_0 r):=by
 unfold pf25 at h
 refine Con.go (N:=⟨86,[]⟩) Try.func25 q q q q (W.fin ?_)
 refine W.st [(0,.agg [iR (eM eAct) a0.Acts,iR (eM eI) a0.Gotos])] ?_
 refine W.sq'<|W.rx [(1,_)] (Rv (O.box (.aggF q q) q)<|Rv (O.az .knil)<|Fi (.n q .nil)) ?_
 refine Px.sq<|W.sq' ?_
 refine W.sq'<|W.rx [(1,_),(14,_)] (Rv (O.fO q (.obj q) fd47_1 q)<|Rv (O.ldO (y:=iR (eM eI) a0.Gotos) q (.ptr q) ct34 q q)<|Rv (O.lenI (.imm q) sl34)<|Rv (O.eql (.lit q) (.k q))<|Fi (tn2 q q)) ?_
 refine Px.sq<|W.cnd q (fun hb1=>?_) (fun hb1=>?_)
 ·replace h:=cndT hb1 h
  refine W.sq'<|W.rx [(2,_)] (Rv (O.az .knil)<|Fi (.n q .nil)) ?_
  refine Px.sq<|W.fz (G1:=[(2,iR eRow_0 ([]:List Row))]) [2] (.z q q .zz .nil) ?_
  refine W.rt ?_
  refine Px.sqR ?_
  obtain rfl:=sm h
  exact Px.fin (Fin.ro (.f q q .nil) q (ode (by kernel_rfl)) (.no .nil) q (.inr q))
 ·replace h:=cndF hb1 h
  refine W.sk<|Px.sq ?_
  refine W.sq'<|W.rx [(1,_),(3,_)] (Rv (O.az .knil)<|Fi (tn2 q q)) ?_
  refine Px.sq<|W.sq' ?_
  refine W.sq' ?_
  obtain ⟨x2,hx2,h⟩:=bnd h
  refine W.rx [(1,_),(3,_),(19,_),(20,_)] (Rv (O.fO q (.obj q) fd47_1 q)<|Rv (O.ldO (y:=iR (eM eI) a0.Gotos) q (.ptr q) ct34 q q)<|Rv (O.ixI (.imm q) (.k q) sl34 hx2)<|Rv (O.ldI (x:=iR eI x2) (.iptr q) ct29 q)<|Rv (O.lenI (.imm q) sl29)<|Rv (O.mv (.k q))<|Fi (tn4 q q q q)) ?_
  refine Px.sq<|W.bk ?_
  obtain ⟨x4,hl,h⟩:=bnd h
  refine W.tr (G1:=[(1,_),(3,oR eRow_0 ([]:List Row)),(19,_),(20,_)]) (.n q (.w q q .nilOwn (tn2 q q))) ?_
  refine W.lp1 (s:=(([]:List Row),0)) (fun (s3:List Row × Int)=>[(1,.obj [iR (eM eAct) a0.Acts,iR (eM eI) a0.Gotos]),(3,oR eRow_0 s3.1),(19,I64 (x2.length:Int)),(20,I64 s3.2)]) 0 (fun (x4:List Row)=>[(3,oR eRow_0 x4)]) hl (fun s3 o h=>?_) ?_
  ·clear hl
   refine W.sq'<|W.rx [(1,_),(3,_),(19,_),(20,_),(21,_)] (Rv (O.lss (.lit q) (.lit q))<|Fi (tn5 q q q q q)) ?_
   refine Px.sq<|W.sq' ?_
   refine W.cnd q (fun hb6=>?_) (fun hb6=>?_)
   ·replace h:=cndT hb6 h
    refine W.sk<|Px.sq ?_
    refine W.sq'<|W.bk ?_
    refine W.sq'<|W.rx [(1,_),(3,_),(4,_),(19,_),(20,_)] (Vm q<|Va q<|Fi (tn5 q q q q q)) ?_
    refine Px.sq<|W.sq' ?_
    refine W.rx [(1,_),(3,_),(4,_),(5,_),(19,_),(20,_)] (Rv (O.az .knil)<|Fi (tn6 q q q q q q)) ?_
    refine Px.sq<|W.sq' ?_
    refine W.sq'<|W.rx [(1,_),(3,_),(4,_),(5,_),(19,_),(20,_),(24,_),(25,_),(26,_)] (Rv (O.fO q (.obj q) fd47_1 q)<|Rv (O.ldO (y:=iR (eM eI) a0.Gotos) q (.ptr q) ct34 q q)<|Rv (O.lenI (.imm q) sl34)<|Rv (O.mv (.k q))<|Fi (tn9 q q q q q q q q q)) ?_
    refine Px.sq<|W.bk ?_
    obtain ⟨x8,hl,h⟩:=bnd h
    refine W.tr (G1:=[(1,_),(3,_),(4,_),(5,oR eI ([]:List Int)),(19,_),(20,_),(24,_),(25,_),(26,_)]) (.n q (.n q (.n q (.w q q .nilOwn (tn5 q q q q q))))) ?_
    refine W.lp1 (s:=(([]:List Int),0)) (fun (s7:List Int × Int)=>[(1,.obj [iR (eM eAct) a0.Acts,iR (eM eI) a0.Gotos]),(3,oR eRow_0 s3.1),(4,I64 s3.2),(5,oR eI s7.1),(19,I64 (x2.length:Int)),(20,I64 s3.2),(24,iR (eM eI) a0.Gotos),(25,I64 (a0.Gotos.length:Int)),(26,I64 s7.2)]) 2 (fun (x8:List Int)=>[(1,.obj [iR (eM eAct) a0.Acts,iR (eM eI) a0.Gotos]),(3,oR eRow_0 s3.1),(4,I64 s3.2),(5,oR eI x8),(19,I64 (x2.length:Int)),(20,I64 s3.2)]) hl (fun s7 o h=>?_) ?_
    ·clear hl
     refine W.sq'<|W.rx [(1,_),(3,_),(4,_),(5,_),(19,_),(20,_),(24,_),(25,_),(26,_),(27,_)] (Rv (O.lss (.lit q) (.lit q))<|Fi (tn10 q q q q q q q q q q)) ?_
     refine Px.sq<|W.sq' ?_
     refine W.cnd q (fun hb10=>?_) (fun hb10=>?_)
     ·replace h:=cndT hb10 h
      refine W.sk<|Px.sq ?_
      refine W.sq' ?_
      obtain ⟨j11,hj,h⟩:=bnd h
      refine W.jn [(1,.obj [iR (eM eAct) a0.Acts,iR (eM eI) a0.Gotos]),(3,oR eRow_0 s3.1),(4,I64 s3.2),(5,oR eI j11),(19,I64 (x2.length:Int)),(20,I64 s3.2),(24,iR (eM eI) a0.Gotos),(25,I64 (a0.Gotos.length:Int)),(26,I64 s7.2)] ?_ ?_
      ·clear h; have h:=hj; clear hj
       refine W.bk<|W.sq' ?_
       obtain ⟨x12,hx12,h⟩:=bnd h
       refine W.rx [(1,_),(3,_),(4,_),(5,_),(7,_),(19,_),(20,_),(24,_),(25,_),(26,_)] (Rv (O.ixI (.imm q) (.lit q) sl34 hx12)<|Rv (O.ldI (x:=iR eI x12) (.iptr q) ct29 q)<|Rv (O.az (.imm q))<|Fi (tn10 q q q q q q q q q q)) ?_
       refine Px.sq<|W.sq' ?_
       obtain ⟨x13,hx13,h⟩:=bnd h
       refine W.rx [(1,_),(3,_),(4,_),(5,_),(7,_),(19,_),(20,_),(24,_),(25,_),(26,_),(34,_)] (Rv (O.mv (.imm q))<|Vm q<|Rv (O.ixI (.imm q) (.lit q) sl29 hx13)<|Rv (O.ldI (x:=I64 x13) (.iptr q) ct3 q)<|Rv (O.geq (.lit q) (.k q))<|Fi (tn11 q q q q q q q q q q q)) ?_
       refine Px.sq ?_
       obtain ⟨j14,hj,h⟩:=bnd h
       refine W.jn [(1,.obj [iR (eM eAct) a0.Acts,iR (eM eI) a0.Gotos]),(3,oR eRow_0 s3.1),(4,I64 s3.2),(5,oR eI j14),(19,I64 (x2.length:Int)),(20,I64 s3.2),(24,iR (eM eI) a0.Gotos),(25,I64 (a0.Gotos.length:Int)),(26,I64 s7.2)] ?_ ?_
       ·clear h; have h:=hj; clear hj
        refine W.cnd q (fun hb15=>?_) (fun hb15=>?_)
        ·replace h:=cndT hb15 h
         obtain ⟨x16,hx16,h⟩:=bnd h
         obtain ⟨x17,hx17,h⟩:=bnd h
         refine W.rx [(1,_),(3,_),(4,_),(5,_),(19,_),(20,_),(24,_),(25,_),(26,_)] (Rv (O.mv (.own q))<|Rv (O.mv (.imm q))<|Vm q<|Rv (O.ixI (.imm q) (.lit q) sl29 hx16)<|Rv (O.ldI (x:=I64 x16) (.iptr q) ct3 q)<|RunL.vi (x:=iR eI [x16]) (O.bs (ys:=[I64 x16]) eI [x16] sl29 q q q q q q zt3 q q) q q .none<|Rv (O.ap (en:=eI) (r:=x17) (.brw q) q (.imm q) .i ap29 q hx17)<|RunL.ea (G2:=[(1,.obj [iR (eM eAct) a0.Acts,iR (eM eI) a0.Gotos]),(3,oR eRow_0 s3.1),(4,I64 s3.2),(19,I64 (x2.length:Int)),(20,I64 s3.2),(24,iR (eM eI) a0.Gotos),(25,I64 (a0.Gotos.length:Int)),(26,I64 s7.2)]) q (EO.aP q q (.pend q) q q q (.n q q (.n q q (.n q q (.n q q (.n q q (.n q q (.n q q (.n q q .nil)))))))) q q)<|Fi (tn9 q q q q q q q q q)) ?_
         obtain rfl:=sm h
         exact Px.jn (tn9 q q q q q q q q q)
        ·replace h:=cndF hb15 h
         refine W.sk ?_
         obtain rfl:=sm h
         exact Px.jn (tn9 q q q q q q q q q)
       refine Px.bk ?_
       obtain rfl:=sm h
       exact Px.jn (tn9 q q q q q q q q q)
      refine Px.sq<|W.rx [(1,_),(3,_),(4,_),(5,_),(19,_),(20,_),(24,_),(25,_),(26,_)] (Rv (O.add (.lit q) (.k q))<|RunL.re (G1:=[(1,_),(3,_),(4,_),(5,_),(19,_),(20,_),(24,_),(25,_),(42,_)]) (tn9 q q q q q q q q q)<|Vm q<|Fi (tn9 q q q q q q q q q)) ?_
      obtain rfl:=sm h
      exact Px.go (tn9 q q q q q q q q q)
     ·replace h:=cndF hb10 h
      refine W.xi ?_
      refine Px.sqE ?_
      obtain rfl:=sm h
      exact Px.x1 (tn6 q q q q q q)
    refine Px.bkH ?_
    refine Px.sq<|W.sq' ?_
    obtain ⟨x18,hx18,h⟩:=bnd h
    refine W.rx [(1,_),(3,_),(4,_),(8,_),(19,_),(20,_)] (Rv (O.mv (.own q))<|Rc (PC.vw (ys:=[.brw eI.z ⟨5,[]⟩ x8.length]) q (.c (.row q) .nil) (con50 x8 _ hx18) call50 q)<|Rv (O.bu (cs:=[I64 x18,.nils]) sc59 ze59 q q q)<|Rv (O.al (cs:=[I64 0,.nils]) ze59 q q)<|RunL.sO (G2:=[(1,_),(3,_),(4,_),(8,_),(19,_),(20,_)]) (cs2:=[I64 x18,.nils]) q (.obj q) (.aggF q q) q sz59 q q q q (.n q q (.n q q (.n q q (.b q (.n q q (.n q q .nil))))))<|Fi (tn6 q q q q q q)) ?_
    refine Px.sq<|W.sq' ?_
    refine W.sq'<|W.rx [(1,_),(3,_),(4,_),(8,_),(19,_),(20,_),(47,_),(48,_),(49,_)] (Rv (O.fO q (.obj q) fd47_1 q)<|Rv (O.ldO (y:=iR (eM eI) a0.Gotos) q (.ptr q) ct34 q q)<|Rv (O.lenI (.imm q) sl34)<|Rv (O.mv (.k q))<|Fi (tn9 q q q q q q q q q)) ?_
    refine Px.sq<|W.bk ?_
    obtain ⟨x20,hl,h⟩:=bnd h
    refine W.tr (G1:=[(1,_),(3,_),(4,_),(8,.obj [I64 x18,oR ePair ([]:List Pair)]),(19,_),(20,_),(47,_),(48,_),(49,_)]) (.n q (.n q (.n q (.w q q (WkL.obj (.f (.o .nil))) (tn5 q q q q q))))) ?_
    refine W.lp1 (s:=(([]:List Pair),0)) (fun (s19:List Pair × Int)=>[(1,.obj [iR (eM eAct) a0.Acts,iR (eM eI) a0.Gotos]),(3,oR eRow_0 s3.1),(4,I64 s3.2),(8,.obj [I64 x18,oR ePair s19.1]),(19,I64 (x2.length:Int)),(20,I64 s3.2),(47,iR (eM eI) a0.Gotos),(48,I64 (a0.Gotos.length:Int)),(49,I64 s19.2)]) 4 (fun (x20:List Pair)=>[(1,.obj [iR (eM eAct) a0.Acts,iR (eM eI) a0.Gotos]),(3,oR eRow_0 s3.1),(8,.obj [I64 x18,oR ePair x20]),(19,I64 (x2.length:Int)),(20,I64 s3.2)]) hl (fun s19 o h=>?_) ?_
    ·clear hl
     refine W.sq'<|W.rx [(1,_),(3,_),(4,_),(8,_),(19,_),(20,_),(47,_),(48,_),(49,_),(50,_)] (Rv (O.lss (.lit q) (.lit q))<|Fi (tn10 q q q q q q q q q q)) ?_
     refine Px.sq<|W.sq' ?_
     refine W.cnd q (fun hb22=>?_) (fun hb22=>?_)
     ·replace h:=cndT hb22 h
      refine W.sk<|Px.sq ?_
      refine W.sq' ?_
      obtain ⟨j23,hj,h⟩:=bnd h
      refine W.jn [(1,.obj [iR (eM eAct) a0.Acts,iR (eM eI) a0.Gotos]),(3,oR eRow_0 s3.1),(4,I64 s3.2),(8,.obj [I64 x18,oR ePair j23]),(19,I64 (x2.length:Int)),(20,I64 s3.2),(47,iR (eM eI) a0.Gotos),(48,I64 (a0.Gotos.length:Int)),(49,I64 s19.2)] ?_ ?_
      ·clear h; have h:=hj; clear hj
       refine W.bk<|W.sq' ?_
       obtain ⟨x24,hx24,h⟩:=bnd h
       refine W.rx [(1,_),(3,_),(4,_),(8,_),(9,_),(10,_),(19,_),(20,_),(47,_),(48,_),(49,_)] (Vm q<|Rv (O.ixI (.imm q) (.lit q) sl34 hx24)<|Rv (O.ldI (x:=iR eI x24) (.iptr q) ct29 q)<|Va q<|Rv (O.az (.imm q))<|Fi (tn11 q q q q q q q q q q q)) ?_
       refine Px.sq<|W.sq' ?_
       obtain ⟨c28,hj,h⟩:=bnd h
       refine W.rd [[],[],[0,1],[0,1,2],[0,1,2,3],rn 0 5 [],rn 0 6 [],rn 0 6 [],rn 0 8 [],rn 0 9 [],rn 0 6 [],rn 0 6 [10],rn 0 12 [],rn 0 13 []] [(1,.obj [iR (eM eAct) a0.Acts,iR (eM eI) a0.Gotos]),(3,oR eRow_0 s3.1),(4,I64 s3.2),(8,.obj [I64 x18,oR ePair s19.1]),(9,I64 s19.2),(10,iR eI x24),(19,I64 (x2.length:Int)),(20,I64 s3.2),(47,iR (eM eI) a0.Gotos),(48,I64 (a0.Gotos.length:Int)),(49,I64 s19.2),(67,BB c28)] mixo (by kernel_rfl) ?_ ?_
       ·refine Dv 0 (O.mv (.imm q))<|Dv 1 (O.mv (.lit q)) ?_
        obtain ⟨x25,hx25,hj⟩:=bnd hj
        refine Dv 2 (O.ixI (.imm q) (.lit q) sl29 hx25)<|Dv 3 (O.ldI (x:=I64 x25) (.iptr q) ct3 q)<|Dv 4 (O.geq (.lit q) (.k q))<|Dv 5 (O.mv (.lit q)) ?_
        rcases cnd hj with ⟨hb26,hj⟩ | ⟨hb26,hj⟩
        ·refine DL.v 6 (O.mv (.imm q)) q q q q (.yb q q hb26)<|DL.v 7 (O.mv (.lit q)) q q q q (.yb q q hb26) ?_
         obtain ⟨x27,hx27,hj⟩:=bnd hj
         obtain rfl:=sm hj
         exact DL.v 8 (O.ixI (.imm q) (.lit q) sl29 hx27) q q q q (.yb q q hb26)<|DL.v 9 (O.ldI (x:=I64 x27) (.iptr q) ct3 q) q q q q (.yb q q hb26)<|DL.v 10 (O.fO q (.obj q) fd59_0 q) q q q q (.yb q q hb26)<|DL.v 11 (O.ldO (y:=I64 x18) q (.ptr q) ct3 q q) q q q q (.yb q q hb26)<|DL.v 12 (O.neq (.lit q) (.lit q)) q q q q (.yb q q hb26)<|Dv 13 (O.pkT (.lit q) hb26 (.lit q))<|DL.fin q q q (.n q (.n q (.n q (.n q (.n q (.n q (.n q (.n q (.n q (.n q (.n q (.n q .nil))))))))))))
        ·obtain rfl:=sm hj
         exact DL.ps 6 q q hb26 q q q q<|DL.ps 7 q q hb26 q q q q<|DL.ps 8 q q hb26 q q q q<|DL.ps 9 q q hb26 q q q q<|DL.ps 10 q q hb26 q q q q<|DL.ps 11 q q hb26 q q q q<|DL.ps 12 q q hb26 q q q q<|Dv 13 (O.pkF (.lit q) hb26 (.k q))<|DL.fin q q q (.n q (.n q (.n q (.n q (.n q (.n q (.n q (.n q (.n q (.n q (.n q (.n q .nil))))))))))))
       refine Px.sq ?_
       obtain ⟨j29,hj,h⟩:=bnd h
       refine W.jn [(1,.obj [iR (eM eAct) a0.Acts,iR (eM eI) a0.Gotos]),(3,oR eRow_0 s3.1),(4,I64 s3.2),(8,.obj [I64 x18,oR ePair j29]),(19,I64 (x2.length:Int)),(20,I64 s3.2),(47,iR (eM eI) a0.Gotos),(48,I64 (a0.Gotos.length:Int)),(49,I64 s19.2)] ?_ ?_
       ·clear h; have h:=hj; clear hj
        refine W.cnd q (fun hb30=>?_) (fun hb30=>?_)
        ·replace h:=cndT hb30 h
         obtain ⟨x31,hx31,h⟩:=bnd h
         obtain ⟨x32,hx32,h⟩:=bnd h
         refine W.rd [[],[0],[],[],[],[3,4],[3,4,5],rn 2 5 [],rn 2 6 [],rn 0 9 [],rn 0 10 [],rn 0 11 []] [(1,_),(3,_),(4,_),(8,_),(19,_),(20,_),(47,_),(48,_),(49,_)] mixo (by kernel_rfl) (Dv 0 (O.fO q (.obj q) fd59_1 q)<|Dv 1 (O.ldO (y:=.brw ePair.z ⟨8,[1]⟩ s19.1.length) q (.ptr q) ct57 q q)<|Dv 2 (O.mv (.lit q))<|Dv 3 (O.mv (.imm q))<|Dv 4 (O.mv (.lit q))<|Dv 5 (O.ixI (.imm q) (.lit q) sl29 hx31)<|Dv 6 (O.ldI (x:=I64 x31) (.iptr q) ct3 q)<|Dv 7 (O.bu (cs:=[I64 s19.2,I64 x31]) sc62 ze62 q q q)<|DL.vi 8 (x:=iR ePair [(⟨s19.2,x31⟩:Pair)]) (O.bs (ys:=[.agg [I64 s19.2,I64 x31]]) ePair [(⟨s19.2,x31⟩:Pair)] sl57 q q q q q q zt62 q q) q q q q .none<|Dv 9 (O.ap (en:=ePair) (r:=x32) (.brw q) q (.imm q) .i ap57 q hx32)<|Dv 10 (O.fO q (.obj q) fd59_1 q)<|DL.bp 11 (G2:=[(1,.obj [iR (eM eAct) a0.Acts,iR (eM eI) a0.Gotos]),(3,oR eRow_0 s3.1),(4,I64 s3.2),(8,.obj [I64 x18,oR ePair (s19.1++[(⟨s19.2,x31⟩:Pair)])]),(19,I64 (x2.length:Int)),(20,I64 s3.2),(47,iR (eM eI) a0.Gotos),(48,I64 (a0.Gotos.length:Int)),(49,I64 s19.2)]) (EO.stP (g1:=_) (en:=ePair) (M:=[(⟨s19.2,x31⟩:Pair)]) (cs2:=[I64 x18,oR ePair (s19.1++[(⟨s19.2,x31⟩:Pair)])]) q q (.ptr q) (.pend q) q q q .ns .rf q q sz57 q q q q (.n q q (.n q q (.n q q (.b q (.n q q (.n q q (.n q q (.n q q (.n q q .nil)))))))))) q q q q (by kernel_rfl) (by kernel_rfl)<|DL.fin q q q (tn9 q q q q q q q q q)) ?_
         obtain rfl:=sm h
         exact Px.jn (tn9 q q q q q q q q q)
        ·replace h:=cndF hb30 h
         refine W.sk ?_
         obtain rfl:=sm h
         exact Px.jn (tn9 q q q q q q q q q)
       refine Px.bk ?_
       obtain rfl:=sm h
       exact Px.jn (tn9 q q q q q q q q q)
      refine Px.sq<|W.rx [(1,_),(3,_),(4,_),(8,_),(19,_),(20,_),(47,_),(48,_),(49,_)] (Rv (O.add (.lit q) (.k q))<|RunL.re (G1:=[(1,_),(3,_),(4,_),(8,_),(19,_),(20,_),(47,_),(48,_),(79,_)]) (tn9 q q q q q q q q q)<|Vm q<|Fi (tn9 q q q q q q q q q)) ?_
      obtain rfl:=sm h
      exact Px.go (tn9 q q q q q q q q q)
     ·replace h:=cndF hb22 h
      refine W.xi ?_
      refine Px.sqE ?_
      obtain rfl:=sm h
      exact Px.x1 (tn5 q q q q q)
    refine Px.bkH ?_
    refine Px.sq<|W.fz (G1:=[(1,_),(3,_),(8,.obj [I64 x18,iR ePair x20]),(19,_),(20,_)]) [8] (.n q q (.n q q (.z q q (FzL.obj (.f (.z .nil))) (.n q q (.n q q .nil))))) ?_
    obtain ⟨x33,hx33,h⟩:=bnd h
    refine W.rx [(1,_),(3,_),(19,_),(20,_)] (Rv (O.mv (.own q))<|Rv (O.ldON (cs':=[I64 x18,iR ePair x20]) q (.obj q) at59 q q)<|RunL.vi (x:=iR eRow_0 [(⟨x18,x20⟩:Row)]) (O.bs (ys:=[.agg [I64 x18,iR ePair x20]]) eRow_0 [(⟨x18,x20⟩:Row)] sl51 q q q q q q zt59 q q) q q .none<|Rv (O.ap (en:=eRow_0) (r:=x33) (.brw q) q (.imm q) .i ap51 q hx33)<|RunL.ea (G2:=[(1,.obj [iR (eM eAct) a0.Acts,iR (eM eI) a0.Gotos]),(19,I64 (x2.length:Int)),(20,I64 s3.2)]) q (EO.aP q q (.pend q) q q q (.n q q (.n q q (.n q q .nil))) q q)<|Fi (tn4 q q q q)) ?_
    refine Px.bk ?_
    refine Px.sq<|W.rx [(1,_),(3,_),(19,_),(20,_)] (Rv (O.add (.lit q) (.k q))<|RunL.re (G1:=[(1,_),(3,_),(19,_),(84,_)]) (tn4 q q q q)<|Vm q<|Fi (tn4 q q q q)) ?_
    obtain rfl:=sm h
    exact Px.go (tn4 q q q q)
   ·replace h:=cndF hb6 h
    refine W.xi ?_
    refine Px.sqE ?_
    obtain rfl:=sm h
    exact Px.x1 (.n q .nil)
  refine Px.bkH ?_
  refine Px.sq<|W.sq' ?_
  refine W.rx [(2,_)] (Rv (O.mv (.own q))<|RunL.ea (G2:=[]) q (EO.aR q q (.brw q) q .nil q q)<|Fi (.n q .nil)) ?_
  refine Px.sq<|W.fz (G1:=[(2,iR eRow_0 x4)]) [2] (.z q q .zz .nil) ?_
  refine W.rt ?_
  obtain rfl:=sm h
  exact Px.fin (Fin.ro (.f q q .nil) q (ode (by kernel_rfl)) (.no .nil) q (.inr q))
theorem con13  (r:Bool) (h:pf13 =some r):Con Try.prog 13 [] [] (BB r):=by
 unfold pf13 at h
 refine Con.go (N:=⟨71,[]⟩) Try.func13 q q q q (W.fin ?_)
 refine W.st [] ?_
 refine W.sq'<|W.rx [] (Vk q<|Fi .nil) ?_
 refine Px.sq<|W.sq' ?_
 refine W.rx [(1,_),(2,_),(3,_)] (Rv (O.bu (cs:=[SS ({ data:=#[101] }),BB false,I64 0,I64 0]) sc88 ze88 q q q)<|Rv (O.bu (cs:=[SS ({ data:=#[101] }),BB false,I64 0,I64 0,SS S0,I64 0]) sc90 ze90 q q q)<|Rv (O.bu (cs:=[SS ({ data:=#[120] }),BB true,I64 0,I64 0]) sc88 ze88 q q q)<|Rv (O.bu (cs:=[SS ({ data:=#[120] }),BB true,I64 0,I64 0,SS S0,I64 0]) sc90 ze90 q q q)<|Rv (O.bu (cs:=[SS ({ data:=#[43] }),BB true,I64 0,I64 0]) sc88 ze88 q q q)<|Rv (O.bu (cs:=[SS ({ data:=#[43] }),BB true,I64 0,I64 0,SS S0,I64 0]) sc90 ze90 q q q)<|Rv (O.al (cs:=[SS S0,BB false,I64 0,I64 0,SS S0,I64 0]) ze90 q q)<|Rv (O.al (cs:=[SS S0,BB false,I64 0,I64 0,SS S0,I64 0]) ze90 q q)<|Rv (O.al (cs:=[SS S0,BB false,I64 0,I64 0,SS S0,I64 0]) ze90 q q)<|RunL.sO (G2:=[(1,_),(2,_),(3,_),(12,_),(14,_)]) (cs2:=[SS ({ data:=#[101] }),BB false,I64 0,I64 0,SS S0,I64 0]) q (.obj q) (.aggF q q) q sz90 q q q q (.b q (.n q q (.n q q (.n q q (.n q q .nil)))))<|RunL.sO (G2:=[(1,_),(2,_),(3,_),(14,_)]) (cs2:=[SS ({ data:=#[120] }),BB true,I64 0,I64 0,SS S0,I64 0]) q (.obj q) (.aggF q q) q sz90 q q q q (.n q q (.b q (.n q q (.n q q .nil))))<|RunL.sO (G2:=[(1,_),(2,_),(3,_)]) (cs2:=[SS ({ data:=#[43] }),BB true,I64 0,I64 0,SS S0,I64 0]) q (.obj q) (.aggF q q) q sz90 q q q q (.n q q (.n q q (.b q .nil)))<|Fi (tn3 q q q)) ?_
 refine Px.sq<|W.sq' ?_
 obtain ⟨x1,hx1,h⟩:=bnd h
 refine W.rx [(5,_),(7,_)] (Rv (O.ldON (cs':=[SS ({ data:=#[101] }),BB false,I64 0,I64 0,SS S0,I64 0]) q (.obj q) at90 q q)<|Rv (O.ldON (cs':=[SS ({ data:=#[43] }),BB true,I64 0,I64 0,SS S0,I64 0]) q (.obj q) at90 q q)<|Rv (O.ldON (cs':=[SS ({ data:=#[120] }),BB true,I64 0,I64 0,SS S0,I64 0]) q (.obj q) at90 q q)<|RunL.vi (x:=iR ePart [(⟨(⟨{ data:=#[101] },false,0,0⟩:Sym),S0,0⟩:Part),(⟨(⟨{ data:=#[43] },true,0,0⟩:Sym),S0,0⟩:Part),(⟨(⟨{ data:=#[120] },true,0,0⟩:Sym),S0,0⟩:Part)]) (O.bs (ys:=[.agg [SS ({ data:=#[101] }),BB false,I64 0,I64 0,SS S0,I64 0],.agg [SS ({ data:=#[43] }),BB true,I64 0,I64 0,SS S0,I64 0],.agg [SS ({ data:=#[120] }),BB true,I64 0,I64 0,SS S0,I64 0]]) ePart [(⟨(⟨{ data:=#[101] },false,0,0⟩:Sym),S0,0⟩:Part),(⟨(⟨{ data:=#[43] },true,0,0⟩:Sym),S0,0⟩:Part),(⟨(⟨{ data:=#[120] },true,0,0⟩:Sym),S0,0⟩:Part)] sl91 q q q q q q zt90 q q) q q .none<|Rv (O.bu (cs:=[iR ePart [(⟨(⟨{ data:=#[101] },false,0,0⟩:Sym),S0,0⟩:Part),(⟨(⟨{ data:=#[43] },true,0,0⟩:Sym),S0,0⟩:Part),(⟨(⟨{ data:=#[120] },true,0,0⟩:Sym),S0,0⟩:Part)],SS S0,BB false,I64 0,I64 0,I64 0]) sc93 ze93 q q q)<|Rv (O.ldON (cs':=[SS ({ data:=#[120] }),BB true,I64 0,I64 0,SS S0,I64 0]) q (.obj q) at90 q q)<|RunL.vi (x:=iR ePart [(⟨(⟨{ data:=#[120] },true,0,0⟩:Sym),S0,0⟩:Part)]) (O.bs (ys:=[.agg [SS ({ data:=#[120] }),BB true,I64 0,I64 0,SS S0,I64 0]]) ePart [(⟨(⟨{ data:=#[120] },true,0,0⟩:Sym),S0,0⟩:Part)] sl91 q q q q q q zt90 q q) q q .none<|Rv (O.bu (cs:=[iR ePart [(⟨(⟨{ data:=#[120] },true,0,0⟩:Sym),S0,0⟩:Part)],SS S0,BB false,I64 0,I64 0,I64 0]) sc93 ze93 q q q)<|RunL.vi (x:=iR eAlt_0 [(⟨[(⟨(⟨{ data:=#[101] },false,0,0⟩:Sym),S0,0⟩:Part),(⟨(⟨{ data:=#[43] },true,0,0⟩:Sym),S0,0⟩:Part),(⟨(⟨{ data:=#[120] },true,0,0⟩:Sym),S0,0⟩:Part)],(⟨S0,false,0,0⟩:Sym),0⟩:Alt),(⟨[(⟨(⟨{ data:=#[120] },true,0,0⟩:Sym),S0,0⟩:Part)],(⟨S0,false,0,0⟩:Sym),0⟩:Alt)]) (O.bs (ys:=[.agg [iR ePart [(⟨(⟨{ data:=#[101] },false,0,0⟩:Sym),S0,0⟩:Part),(⟨(⟨{ data:=#[43] },true,0,0⟩:Sym),S0,0⟩:Part),(⟨(⟨{ data:=#[120] },true,0,0⟩:Sym),S0,0⟩:Part)],SS S0,BB false,I64 0,I64 0,I64 0],.agg [iR ePart [(⟨(⟨{ data:=#[120] },true,0,0⟩:Sym),S0,0⟩:Part)],SS S0,BB false,I64 0,I64 0,I64 0]]) eAlt_0 [(⟨[(⟨(⟨{ data:=#[101] },false,0,0⟩:Sym),S0,0⟩:Part),(⟨(⟨{ data:=#[43] },true,0,0⟩:Sym),S0,0⟩:Part),(⟨(⟨{ data:=#[120] },true,0,0⟩:Sym),S0,0⟩:Part)],(⟨S0,false,0,0⟩:Sym),0⟩:Alt),(⟨[(⟨(⟨{ data:=#[120] },true,0,0⟩:Sym),S0,0⟩:Part)],(⟨S0,false,0,0⟩:Sym),0⟩:Alt)] sl94 q q q q q q zt93 q q) q q .none<|Rv (O.bu (cs:=[SS ({ data:=#[101] }),iR eAlt_0 [(⟨[(⟨(⟨{ data:=#[101] },false,0,0⟩:Sym),S0,0⟩:Part),(⟨(⟨{ data:=#[43] },true,0,0⟩:Sym),S0,0⟩:Part),(⟨(⟨{ data:=#[120] },true,0,0⟩:Sym),S0,0⟩:Part)],(⟨S0,false,0,0⟩:Sym),0⟩:Alt),(⟨[(⟨(⟨{ data:=#[120] },true,0,0⟩:Sym),S0,0⟩:Part)],(⟨S0,false,0,0⟩:Sym),0⟩:Alt)],I64 0]) sc96 ze96 q q q)<|RunL.vi (x:=iR eRule_0 [(⟨{ data:=#[101] },[(⟨[(⟨(⟨{ data:=#[101] },false,0,0⟩:Sym),S0,0⟩:Part),(⟨(⟨{ data:=#[43] },true,0,0⟩:Sym),S0,0⟩:Part),(⟨(⟨{ data:=#[120] },true,0,0⟩:Sym),S0,0⟩:Part)],(⟨S0,false,0,0⟩:Sym),0⟩:Alt),(⟨[(⟨(⟨{ data:=#[120] },true,0,0⟩:Sym),S0,0⟩:Part)],(⟨S0,false,0,0⟩:Sym),0⟩:Alt)],0⟩:Rule)]) (O.bs (ys:=[.agg [SS ({ data:=#[101] }),iR eAlt_0 [(⟨[(⟨(⟨{ data:=#[101] },false,0,0⟩:Sym),S0,0⟩:Part),(⟨(⟨{ data:=#[43] },true,0,0⟩:Sym),S0,0⟩:Part),(⟨(⟨{ data:=#[120] },true,0,0⟩:Sym),S0,0⟩:Part)],(⟨S0,false,0,0⟩:Sym),0⟩:Alt),(⟨[(⟨(⟨{ data:=#[120] },true,0,0⟩:Sym),S0,0⟩:Part)],(⟨S0,false,0,0⟩:Sym),0⟩:Alt)],I64 0]]) eRule_0 [(⟨{ data:=#[101] },[(⟨[(⟨(⟨{ data:=#[101] },false,0,0⟩:Sym),S0,0⟩:Part),(⟨(⟨{ data:=#[43] },true,0,0⟩:Sym),S0,0⟩:Part),(⟨(⟨{ data:=#[120] },true,0,0⟩:Sym),S0,0⟩:Part)],(⟨S0,false,0,0⟩:Sym),0⟩:Alt),(⟨[(⟨(⟨{ data:=#[120] },true,0,0⟩:Sym),S0,0⟩:Part)],(⟨S0,false,0,0⟩:Sym),0⟩:Alt)],0⟩:Rule)] sl31 q q q q q q zt96 q q) q q .none<|RunL.vi (x:=.agg [SS S0,iR eDecl_0 ([]:List Decl),iR eRule_0 [(⟨{ data:=#[101] },[(⟨[(⟨(⟨{ data:=#[101] },false,0,0⟩:Sym),S0,0⟩:Part),(⟨(⟨{ data:=#[43] },true,0,0⟩:Sym),S0,0⟩:Part),(⟨(⟨{ data:=#[120] },true,0,0⟩:Sym),S0,0⟩:Part)],(⟨S0,false,0,0⟩:Sym),0⟩:Alt),(⟨[(⟨(⟨{ data:=#[120] },true,0,0⟩:Sym),S0,0⟩:Part)],(⟨S0,false,0,0⟩:Sym),0⟩:Alt)],0⟩:Rule)],SS S0]) (O.bu (cs:=[SS S0,.nils,iR eRule_0 [(⟨{ data:=#[101] },[(⟨[(⟨(⟨{ data:=#[101] },false,0,0⟩:Sym),S0,0⟩:Part),(⟨(⟨{ data:=#[43] },true,0,0⟩:Sym),S0,0⟩:Part),(⟨(⟨{ data:=#[120] },true,0,0⟩:Sym),S0,0⟩:Part)],(⟨S0,false,0,0⟩:Sym),0⟩:Alt),(⟨[(⟨(⟨{ data:=#[120] },true,0,0⟩:Sym),S0,0⟩:Part)],(⟨S0,false,0,0⟩:Sym),0⟩:Alt)],0⟩:Rule)],SS S0]) sc33 ze33 q q q) q q .none<|Rc (PC.go (.cc (.aggF q q) .nil) (con21 (⟨S0,([]:List Decl),[(⟨{ data:=#[101] },[(⟨[(⟨(⟨{ data:=#[101] },false,0,0⟩:Sym),S0,0⟩:Part),(⟨(⟨{ data:=#[43] },true,0,0⟩:Sym),S0,0⟩:Part),(⟨(⟨{ data:=#[120] },true,0,0⟩:Sym),S0,0⟩:Part)],(⟨S0,false,0,0⟩:Sym),0⟩:Alt),(⟨[(⟨(⟨{ data:=#[120] },true,0,0⟩:Sym),S0,0⟩:Part)],(⟨S0,false,0,0⟩:Sym),0⟩:Alt)],0⟩:Rule)],S0⟩:Source) _ hx1) call21 q)<|Rv (O.mv (.tup q q))<|Rv (O.ex (y:=.agg (eGrammar_0.cells x1.1)) q q q)<|Rv (O.ex (y:=.agg [iR (eM eAct) x1.2.1.Acts,iR (eM eI) x1.2.1.Gotos]) q q q)<|Rv (O.ex (y:=I64 x1.2.2.1) q q q)<|Rv (O.ex (y:=BB x1.2.2.2) q q q)<|Rv (O.al (cs:=[.nils,.nils,.nils,SS S0,SS S0]) ze44 q q)<|Rv (O.al (cs:=[.nils,.nils]) ze47 q q)<|RunL.sO (G2:=[(4,_),(5,_),(30,_),(31,_),(32,_)]) (cs2:=[iR eTok x1.1.Toks,iR eNon x1.1.Nons,iR eProd_0 x1.1.Prods,SS x1.1.Pro,SS x1.1.Tail]) q (.obj q) (.aggF q q) q sz44 q q q q (.b q (.n q q (.n q q (.n q q (.n q q .nil)))))<|RunL.sO (G2:=[(5,_),(31,_),(32,_)]) (cs2:=[iR (eM eAct) x1.2.1.Acts,iR (eM eI) x1.2.1.Gotos]) q (.obj q) (.aggF q q) q sz47 q q q q (.b q (.n q q (.n q q .nil)))<|Va q<|Va q<|Fi (tn2 q q)) ?_
 refine Px.sq<|W.sq' ?_
 refine W.rx [(5,_),(7,_),(8,_)] (Rv (O.bu (cs:=[I64 4,I64 2]) sc62 ze62 q q q)<|RunL.vi (x:=iR ePair [(⟨4,2⟩:Pair)]) (O.bs (ys:=[.agg [I64 4,I64 2]]) ePair [(⟨4,2⟩:Pair)] sl57 q q q q q q zt62 q q) q q .none<|Rv (O.bu (cs:=[I64 (-1),iR ePair [(⟨4,2⟩:Pair)]]) sc59 ze59 q q q)<|RunL.vi (x:=.agg [I64 2,iR ePair ([]:List Pair)]) (O.bu (cs:=[I64 2,.nils]) sc59 ze59 q q q) q q .none<|Rv (O.bu (cs:=[I64 0,I64 20001]) sc62 ze62 q q q)<|Rv (O.bu (cs:=[I64 3,I64 4]) sc62 ze62 q q q)<|RunL.vi (x:=iR ePair [(⟨0,20001⟩:Pair),(⟨3,4⟩:Pair)]) (O.bs (ys:=[.agg [I64 0,I64 20001],.agg [I64 3,I64 4]]) ePair [(⟨0,20001⟩:Pair),(⟨3,4⟩:Pair)] sl57 q q q q q q zt62 q q) q q .none<|Rv (O.bu (cs:=[I64 (-1),iR ePair [(⟨0,20001⟩:Pair),(⟨3,4⟩:Pair)]]) sc59 ze59 q q q)<|Rv (O.bu (cs:=[I64 4,I64 5]) sc62 ze62 q q q)<|RunL.vi (x:=iR ePair [(⟨4,5⟩:Pair)]) (O.bs (ys:=[.agg [I64 4,I64 5]]) ePair [(⟨4,5⟩:Pair)] sl57 q q q q q q zt62 q q) q q .none<|Rv (O.bu (cs:=[I64 (-1),iR ePair [(⟨4,5⟩:Pair)]]) sc59 ze59 q q q)<|RunL.vi (x:=.agg [I64 1,iR ePair ([]:List Pair)]) (O.bu (cs:=[I64 1,.nils]) sc59 ze59 q q q) q q .none<|Rv (O.bs (ys:=[.agg [I64 (-1),iR ePair [(⟨4,2⟩:Pair)]],.agg [I64 2,iR ePair ([]:List Pair)],.agg [I64 (-1),iR ePair [(⟨0,20001⟩:Pair),(⟨3,4⟩:Pair)]],.agg [I64 (-1),iR ePair [(⟨4,5⟩:Pair)]],.agg [I64 1,iR ePair ([]:List Pair)]]) eRow_0 [(⟨(-1),[(⟨4,2⟩:Pair)]⟩:Row),(⟨2,([]:List Pair)⟩:Row),(⟨(-1),[(⟨0,20001⟩:Pair),(⟨3,4⟩:Pair)]⟩:Row),(⟨(-1),[(⟨4,5⟩:Pair)]⟩:Row),(⟨1,([]:List Pair)⟩:Row)] sl51 q q q q q q zt59 q q)<|RunL.ea (G2:=[(5,.obj [iR (eM eAct) x1.2.1.Acts,iR (eM eI) x1.2.1.Gotos]),(7,BB x1.2.2.2)]) q (EO.aR q q (.own q) q (.n q q (.n q q .nil)) q q)<|Fi (tn3 q q q)) ?_
 refine Px.sq<|W.sq' ?_
 obtain ⟨c12,hj,h⟩:=bnd h
 refine W.rx [(0,BB c12)] ?_ ?_
 ·refine Vm q<|Rv (O.mv (.lit q)) ?_
  rcases cnd hj with ⟨hb2,hj⟩ | ⟨hb2,hj⟩
  ·refine RunL.v (O.ldON (cs':=[iR (eM eAct) x1.2.1.Acts,iR (eM eI) x1.2.1.Gotos]) q (.obj q) at47 q q) q q (.yb q q hb2) ?_
   obtain ⟨x3,hx3,hj⟩:=bnd hj
   refine RunL.c (PC.go (.cc (.aggF q q) .nil) (con23 x1.2.1 _ hx3) call23 q) q q (.yb q q hb2)<|RunL.v (O.mv (.own q)) q q (.yb q q hb2) ?_
   obtain ⟨x4,hx4,hj⟩:=bnd hj
   refine RunL.c (PC.vw (ys:=[iR eRow_0 x3,.brw eRow_0.z ⟨8,[]⟩ [(⟨(-1),[(⟨4,2⟩:Pair)]⟩:Row),(⟨2,([]:List Pair)⟩:Row),(⟨(-1),[(⟨0,20001⟩:Pair),(⟨3,4⟩:Pair)]⟩:Row),(⟨(-1),[(⟨4,5⟩:Pair)]⟩:Row),(⟨1,([]:List Pair)⟩:Row)].length]) q (.s (.c (.row q) .nil)) (con22 x3 [(⟨(-1),[(⟨4,2⟩:Pair)]⟩:Row),(⟨2,([]:List Pair)⟩:Row),(⟨(-1),[(⟨0,20001⟩:Pair),(⟨3,4⟩:Pair)]⟩:Row),(⟨(-1),[(⟨4,5⟩:Pair)]⟩:Row),(⟨1,([]:List Pair)⟩:Row)] _ hx4) call22 q) q q (.yb q q hb2)<|Rv (O.pkT (.lit q) hb2 (.lit q))<|Rv (O.mv (.lit q)) ?_
   rcases cnd hj with ⟨hb5,hj⟩ | ⟨hb5,hj⟩
   ·refine RunL.v (O.ldON (cs':=[iR (eM eAct) x1.2.1.Acts,iR (eM eI) x1.2.1.Gotos]) q (.obj q) at47 q q) q q (.yb q q hb5) ?_
    obtain ⟨x6,hx6,hj⟩:=bnd hj
    refine RunL.c (PC.go (.cc (.aggF q q) .nil) (con25 x1.2.1 _ hx6) call25 q) q q (.yb q q hb5)<|RunL.vi (x:=.agg [I64 (-1),iR ePair ([]:List Pair)]) (O.bu (cs:=[I64 (-1),.nils]) sc59 ze59 q q q) q q (.yb q q hb5)<|RunL.vi (x:=.agg [I64 2,iR ePair ([]:List Pair)]) (O.bu (cs:=[I64 2,.nils]) sc59 ze59 q q q) q q (.yb q q hb5)<|RunL.vi (x:=iR eRow_0 [(⟨(-1),([]:List Pair)⟩:Row),(⟨2,([]:List Pair)⟩:Row)]) (O.bs (ys:=[.agg [I64 (-1),iR ePair ([]:List Pair)],.agg [I64 2,iR ePair ([]:List Pair)]]) eRow_0 [(⟨(-1),([]:List Pair)⟩:Row),(⟨2,([]:List Pair)⟩:Row)] sl51 q q q q q q zt59 q q) q q (.yb q q hb5) ?_
    obtain ⟨x7,hx7,hj⟩:=bnd hj
    refine RunL.c (PC.go (.cc (.imm q) (.cc (.imm q) .nil)) (con22 x6 [(⟨(-1),([]:List Pair)⟩:Row),(⟨2,([]:List Pair)⟩:Row)] _ hx7) call22 q) q q (.yb q q hb5)<|Rv (O.pkT (.lit q) hb5 (.lit q))<|Rv (O.mv (.lit q)) ?_
    rcases cnd hj with ⟨hb8,hj⟩ | ⟨hb8,hj⟩
    ·refine RunL.v (O.bu (cs:=[I64 1,I64 4]) sc23 ze23 q q q) q q (.yb q q hb8) ?_
     obtain ⟨x9,hx9,hj⟩:=bnd hj
     refine RunL.c (PC.go (.cc (.aggF q q) .nil) (con15 (⟨1,4⟩:Act) _ hx9) call15 q) q q (.yb q q hb8)<|RunL.v (O.eql (.lit q) (.k q)) q q (.yb q q hb8)<|Rv (O.pkT (.lit q) hb8 (.lit q))<|Rv (O.mv (.lit q)) ?_
     rcases cnd hj with ⟨hb10,hj⟩ | ⟨hb10,hj⟩
     ·obtain ⟨x11,hx11,hj⟩:=bnd hj
      obtain rfl:=sm hj
      exact RunL.c (PC.go (.cc (.k q) .nil) (con17 (-3) _ hx11) call17 q) q q (.yb q q hb10)<|RunL.v (O.bu (cs:=[I64 2,I64 3]) sc23 ze23 q q q) q q (.yb q q hb10)<|RunL.v (O.eqlA (va:=[.int .i64 x11.Kind,.int .i64 x11.N]) (vb:=[.int .i64 2,.int .i64 3]) (.aggF q q) (.aggF q q) q q eq23) q q (.yb q q hb10)<|Rv (O.pkT (.lit q) hb10 (.lit q))<|Va q<|Fi (.n q .nil)
     ·obtain rfl:=sm hj
      exact RunL.ps q q hb10 q q<|RunL.ps q q hb10 q q<|RunL.ps q q hb10 q q<|Rv (O.pkF (.lit q) hb10 (.k q))<|Va q<|Fi (.n q .nil)
    ·obtain rfl:=sm hj
     exact RunL.ps q q hb8 q q<|RunL.ps q q hb8 q q<|RunL.ps q q hb8 q q<|Rv (O.pkF (.lit q) hb8 (.k q))<|Vm q<|RunL.ps q q q q q<|RunL.ps q q q q q<|RunL.ps q q q q q<|Rv (O.pkF (.lit q) q (.k q))<|Va q<|Fi (.n q .nil)
   ·obtain rfl:=sm hj
    exact RunL.ps q q hb5 q q<|RunL.ps q q hb5 q q<|RunL.ps q q hb5 q q<|RunL.ps q q hb5 q q<|RunL.ps q q hb5 q q<|RunL.ps q q hb5 q q<|Rv (O.pkF (.lit q) hb5 (.k q))<|Vm q<|RunL.ps q q q q q<|RunL.ps q q q q q<|RunL.ps q q q q q<|Rv (O.pkF (.lit q) q (.k q))<|Vm q<|RunL.ps q q q q q<|RunL.ps q q q q q<|RunL.ps q q q q q<|Rv (O.pkF (.lit q) q (.k q))<|Va q<|Fi (.n q .nil)
  ·obtain rfl:=sm hj
   exact RunL.ps q q hb2 q q<|RunL.ps q q hb2 q q<|RunL.ps q q hb2 q q<|RunL.ps q q hb2 q q<|Rv (O.pkF (.lit q) hb2 (.k q))<|Vm q<|RunL.ps q q q q q<|RunL.ps q q q q q<|RunL.ps q q q q q<|RunL.ps q q q q q<|RunL.ps q q q q q<|RunL.ps q q q q q<|Rv (O.pkF (.lit q) q (.k q))<|Vm q<|RunL.ps q q q q q<|RunL.ps q q q q q<|RunL.ps q q q q q<|Rv (O.pkF (.lit q) q (.k q))<|Vm q<|RunL.ps q q q q q<|RunL.ps q q q q q<|RunL.ps q q q q q<|Rv (O.pkF (.lit q) q (.k q))<|Va q<|Fi (.n q .nil)
 refine Px.sq<|W.rt ?_
 obtain rfl:=sm h
 exact Px.fin (Fin.ro (.f q q .nil) q (ode (by kernel_rfl)) .nil q (.inr q))
theorem con14 (a0:Int) (a1:Int) (r:Int) (h:pf14 a0 a1=some r):Con Try.prog 14 [I64 a0,I64 a1] [none,none] (I64 r):=by
 unfold pf14 at h
 refine Con.go (N:=⟨15,[]⟩) Try.func14 q q q q (W.fin ?_)
 refine W.st [(0,I64 a0),(1,I64 a1)] ?_
 refine W.sq'<|W.rx [(0,_),(1,_)] (Vk q<|Fi (tn2 q q)) ?_
 refine Px.sq<|W.sq' ?_
 obtain ⟨x1,hx1,h⟩:=bnd h
 refine W.rx [(1,_),(5,_)] (Vm q<|Vm q<|Rv (O.rem (.lit q) (.lit q) hx1)<|Va q<|Fi (tn2 q q)) ?_
 refine Px.sq<|W.sq' ?_
 refine W.sq'<|W.rx [(1,_),(5,_),(10,_)] (Vm q<|Rv (O.lss (.lit q) (.k q))<|Fi (tn3 q q q)) ?_
 refine Px.sq ?_
 obtain ⟨j2,hj,h⟩:=bnd h
 refine W.jn [(5,I64 j2)] ?_ ?_
 ·clear h; have h:=hj; clear hj
  refine W.cnd q (fun hb3=>?_) (fun hb3=>?_)
  ·replace h:=cndT hb3 h
   refine W.rx [(5,_)] (Vm q<|Vm q<|Rv (O.add (.lit q) (.lit q))<|RunL.re (G1:=[(13,_)]) (.n q .nil)<|Va q<|Fi (.n q .nil)) ?_
   obtain rfl:=sm h
   exact Px.jn (.n q .nil)
  ·replace h:=cndF hb3 h
   refine W.sk ?_
   obtain rfl:=sm h
   exact Px.jn (.n q .nil)
 refine Px.sq<|W.sq' ?_
 refine W.rx [(4,_)] (Vm q<|Va q<|Fi (.n q .nil)) ?_
 refine Px.sq<|W.rt ?_
 obtain rfl:=sm h
 exact Px.fin (Fin.ro (.f q q .nil) q (ode (by kernel_rfl)) (.no (.no .nil)) q (.inr q))
theorem con16 (a0:Act) (r:Int) (h:pf16 a0=some r):Con Try.prog 16 [.agg [I64 a0.Kind,I64 a0.N]] [none] (I64 r):=by
 unfold pf16 at h
 refine Con.go (N:=⟨55,[]⟩) Try.func16 q q q q (W.fin ?_)
 refine W.st [(0,.agg [I64 a0.Kind,I64 a0.N])] ?_
 refine W.sq'<|W.rx [(1,_)] (Rv (O.box (.aggF q q) q)<|Vk q<|Fi (.n q .nil)) ?_
 refine Px.sq<|W.sq' ?_
 refine W.bk<|W.sq' ?_
 obtain ⟨c3,hj,h⟩:=bnd h
 refine W.rx [(1,.obj [I64 a0.Kind,I64 a0.N]),(3,BB c3)] ?_ ?_
 ·refine Rv (O.fO q (.obj q) fd23_0 q)<|Rv (O.ldO (y:=I64 a0.Kind) q (.ptr q) ct3 q q)<|Rv (O.eql (.lit q) (.k q))<|Rv (O.mv (.lit q)) ?_
  rcases cnd hj with ⟨hb1,hj⟩ | ⟨hb1,hj⟩
  ·refine RunL.v (O.fO q (.obj q) fd23_1 q) q q (.yb q q hb1)<|RunL.v (O.ldO (y:=I64 a0.N) q (.ptr q) ct3 q q) q q (.yb q q hb1)<|RunL.v (O.geq (.lit q) (.k q)) q q (.yb q q hb1)<|Rv (O.pkT (.lit q) hb1 (.lit q))<|Rv (O.mv (.lit q)) ?_
   rcases cnd hj with ⟨hb2,hj⟩ | ⟨hb2,hj⟩
   ·obtain rfl:=sm hj
    exact RunL.v (O.fO q (.obj q) fd23_1 q) q q (.yb q q hb2)<|RunL.v (O.ldO (y:=I64 a0.N) q (.ptr q) ct3 q q) q q (.yb q q hb2)<|RunL.v (O.leq (.lit q) (.k q)) q q (.yb q q hb2)<|Rv (O.pkT (.lit q) hb2 (.lit q))<|Va q<|Fi (tn2 q q)
   ·obtain rfl:=sm hj
    exact RunL.ps q q hb2 q q<|RunL.ps q q hb2 q q<|RunL.ps q q hb2 q q<|Rv (O.pkF (.lit q) hb2 (.k q))<|Va q<|Fi (tn2 q q)
  ·obtain rfl:=sm hj
   exact RunL.ps q q hb1 q q<|RunL.ps q q hb1 q q<|RunL.ps q q hb1 q q<|Rv (O.pkF (.lit q) hb1 (.k q))<|Vm q<|RunL.ps q q q q q<|RunL.ps q q q q q<|RunL.ps q q q q q<|Rv (O.pkF (.lit q) q (.k q))<|Va q<|Fi (tn2 q q)
 refine Px.sq<|W.cnd q (fun hb4=>?_) (fun hb4=>?_)
 ·replace h:=cndT hb4 h
  refine W.sq'<|W.rx [(2,_)] (Rv (O.fO q (.obj q) fd23_1 q)<|Rv (O.ldO (y:=I64 a0.N) q (.ptr q) ct3 q q)<|Rv (O.add (.lit q) (.k q))<|Va q<|Fi (.n q .nil)) ?_
  refine Px.sq<|W.rt ?_
  refine Px.bkR ?_
  refine Px.sqR ?_
  obtain rfl:=sm h
  exact Px.fin (Fin.ro (.f q q .nil) q (ode (by kernel_rfl)) (.no .nil) q (.inr q))
 ·replace h:=cndF hb4 h
  refine W.sq' ?_
  obtain ⟨c7,hj,h⟩:=bnd h
  refine W.rx [(1,.obj [I64 a0.Kind,I64 a0.N]),(20,BB c7)] ?_ ?_
  ·refine Rv (O.fO q (.obj q) fd23_0 q)<|Rv (O.ldO (y:=I64 a0.Kind) q (.ptr q) ct3 q q)<|Rv (O.eql (.lit q) (.k q))<|Rv (O.mv (.lit q)) ?_
   rcases cnd hj with ⟨hb5,hj⟩ | ⟨hb5,hj⟩
   ·refine RunL.v (O.fO q (.obj q) fd23_1 q) q q (.yb q q hb5)<|RunL.v (O.ldO (y:=I64 a0.N) q (.ptr q) ct3 q q) q q (.yb q q hb5)<|RunL.v (O.geq (.lit q) (.k q)) q q (.yb q q hb5)<|Rv (O.pkT (.lit q) hb5 (.lit q))<|Rv (O.mv (.lit q)) ?_
    rcases cnd hj with ⟨hb6,hj⟩ | ⟨hb6,hj⟩
    ·obtain rfl:=sm hj
     exact RunL.v (O.fO q (.obj q) fd23_1 q) q q (.yb q q hb6)<|RunL.v (O.ldO (y:=I64 a0.N) q (.ptr q) ct3 q q) q q (.yb q q hb6)<|RunL.v (O.leq (.lit q) (.k q)) q q (.yb q q hb6)<|Rv (O.pkT (.lit q) hb6 (.lit q))<|Va q<|Fi (tn2 q q)
    ·obtain rfl:=sm hj
     exact RunL.ps q q hb6 q q<|RunL.ps q q hb6 q q<|RunL.ps q q hb6 q q<|Rv (O.pkF (.lit q) hb6 (.k q))<|Va q<|Fi (tn2 q q)
   ·obtain rfl:=sm hj
    exact RunL.ps q q hb5 q q<|RunL.ps q q hb5 q q<|RunL.ps q q hb5 q q<|Rv (O.pkF (.lit q) hb5 (.k q))<|Vm q<|RunL.ps q q q q q<|RunL.ps q q q q q<|RunL.ps q q q q q<|Rv (O.pkF (.lit q) q (.k q))<|Va q<|Fi (tn2 q q)
  refine Px.sq<|W.cnd q (fun hb8=>?_) (fun hb8=>?_)
  ·replace h:=cndT hb8 h
   refine W.sq'<|W.rx [(2,_)] (Rv (O.fO q (.obj q) fd23_1 q)<|Rv (O.ldO (y:=I64 a0.N) q (.ptr q) ct3 q q)<|Rv (O.neg (.lit q))<|Va q<|Fi (.n q .nil)) ?_
   refine Px.sq<|W.rt ?_
   refine Px.bkR ?_
   refine Px.sqR ?_
   obtain rfl:=sm h
   exact Px.fin (Fin.ro (.f q q .nil) q (ode (by kernel_rfl)) (.no .nil) q (.inr q))
  ·replace h:=cndF hb8 h
   refine W.sq' ?_
   obtain ⟨c10,hj,h⟩:=bnd h
   refine W.rx [(1,.obj [I64 a0.Kind,I64 a0.N]),(37,BB c10)] ?_ ?_
   ·refine Rv (O.fO q (.obj q) fd23_0 q)<|Rv (O.ldO (y:=I64 a0.Kind) q (.ptr q) ct3 q q)<|Rv (O.eql (.lit q) (.k q))<|Rv (O.mv (.lit q)) ?_
    rcases cnd hj with ⟨hb9,hj⟩ | ⟨hb9,hj⟩
    ·obtain rfl:=sm hj
     exact RunL.v (O.fO q (.obj q) fd23_1 q) q q (.yb q q hb9)<|RunL.v (O.ldO (y:=I64 a0.N) q (.ptr q) ct3 q q) q q (.yb q q hb9)<|RunL.v (O.eql (.lit q) (.k q)) q q (.yb q q hb9)<|Rv (O.pkT (.lit q) hb9 (.lit q))<|Va q<|Fi (tn2 q q)
    ·obtain rfl:=sm hj
     exact RunL.ps q q hb9 q q<|RunL.ps q q hb9 q q<|RunL.ps q q hb9 q q<|Rv (O.pkF (.lit q) hb9 (.k q))<|Va q<|Fi (tn2 q q)
   refine Px.sq<|W.cnd q (fun hb11=>?_) (fun hb11=>?_)
   ·replace h:=cndT hb11 h
    refine W.sq'<|W.rx [(2,_)] (Vk q<|Fi (.n q .nil)) ?_
    refine Px.sq<|W.rt ?_
    refine Px.bkR ?_
    refine Px.sqR ?_
    obtain rfl:=sm h
    exact Px.fin (Fin.ro (.f q q .nil) q (ode (by kernel_rfl)) (.no .nil) q (.inr q))
   ·replace h:=cndF hb11 h
    refine W.sq' ?_
    obtain ⟨c13,hj,h⟩:=bnd h
    refine W.rx [(46,BB c13)] ?_ ?_
    ·refine Rv (O.fO q (.obj q) fd23_0 q)<|Rv (O.ldO (y:=I64 a0.Kind) q (.ptr q) ct3 q q)<|Rv (O.eql (.lit q) (.k q))<|Rv (O.mv (.lit q)) ?_
     rcases cnd hj with ⟨hb12,hj⟩ | ⟨hb12,hj⟩
     ·obtain rfl:=sm hj
      exact RunL.v (O.fO q (.obj q) fd23_1 q) q q (.yb q q hb12)<|RunL.v (O.ldO (y:=I64 a0.N) q (.ptr q) ct3 q q) q q (.yb q q hb12)<|RunL.v (O.eql (.lit q) (.k q)) q q (.yb q q hb12)<|Rv (O.pkT (.lit q) hb12 (.lit q))<|Va q<|Fi (.n q .nil)
     ·obtain rfl:=sm hj
      exact RunL.ps q q hb12 q q<|RunL.ps q q hb12 q q<|RunL.ps q q hb12 q q<|Rv (O.pkF (.lit q) hb12 (.k q))<|Va q<|Fi (.n q .nil)
    refine Px.sq<|W.cnd q (fun hb14=>?_) (fun hb14=>?_)
    ·replace h:=cndT hb14 h
     refine W.sq'<|W.rx [(2,_)] (Vk q<|Fi (.n q .nil)) ?_
     refine Px.sq<|W.rt ?_
     refine Px.bkR ?_
     refine Px.sqR ?_
     obtain rfl:=sm h
     exact Px.fin (Fin.ro (.f q q .nil) q (ode (by kernel_rfl)) (.no .nil) q (.inr q))
    ·replace h:=cndF hb14 h
     refine W.sk<|Px.bk ?_
     refine Px.sq<|W.sq' ?_
     refine W.rx [(2,_)] (Vk q<|Fi (.n q .nil)) ?_
     refine Px.sq<|W.rt ?_
     obtain rfl:=sm h
     exact Px.fin (Fin.ro (.f q q .nil) q (ode (by kernel_rfl)) (.no .nil) q (.inr q))
theorem con18 (a0:Int) (r:Act) (h:pf18 a0=some r):Con Try.prog 18 [I64 a0] [none] (.agg [I64 r.Kind,I64 r.N]):=by
 unfold pf18 at h
 refine Con.go (N:=⟨32,[]⟩) Try.func18 q q q q (W.fin ?_)
 refine W.st [(0,I64 a0)] ?_
 refine W.sq'<|W.rx [(0,_),(2,_)] (Rv (O.al (cs:=[I64 0,I64 0]) ze23 q q)<|Fi (tn2 q q)) ?_
 refine Px.sq<|W.sq' ?_
 refine W.bk<|W.sq' ?_
 obtain ⟨c2,hj,h⟩:=bnd h
 refine W.rx [(0,I64 a0),(2,.obj [I64 0,I64 0]),(3,BB c2)] ?_ ?_
 ·refine Vm q<|Rv (O.geq (.lit q) (.k q))<|Rv (O.mv (.lit q)) ?_
  rcases cnd hj with ⟨hb1,hj⟩ | ⟨hb1,hj⟩
  ·obtain rfl:=sm hj
   exact RunL.v (O.mv (.lit q)) q q (.yb q q hb1)<|RunL.v (O.leq (.lit q) (.k q)) q q (.yb q q hb1)<|Rv (O.pkT (.lit q) hb1 (.lit q))<|Va q<|Fi (tn3 q q q)
  ·obtain rfl:=sm hj
   exact RunL.ps q q hb1 q q<|RunL.ps q q hb1 q q<|Rv (O.pkF (.lit q) hb1 (.k q))<|Va q<|Fi (tn3 q q q)
 refine Px.sq<|W.cnd q (fun hb3=>?_) (fun hb3=>?_)
 ·replace h:=cndT hb3 h
  refine W.sq'<|W.rx [(2,_)] (Vm q<|Rv (O.sub (.lit q) (.k q))<|Rv (O.bu (cs:=[I64 1,I64 (w64 (a0 - 1))]) sc23 ze23 q q q)<|RunL.sO (G2:=[(2,_)]) (cs2:=[I64 1,I64 (w64 (a0 - 1))]) q (.obj q) (.aggF q q) q sz23 q q q q (.b q .nil)<|Fi (.n q .nil)) ?_
  refine Px.sq<|W.rt ?_
  refine Px.bkR ?_
  refine Px.sqR ?_
  obtain rfl:=sm h
  exact Px.fin (Fin.ro (.c (ys0:=[I64 1,I64 (w64 (a0 - 1))]) q at23 q q q (.f q (.f q .nil)) .nil) q (ode (by kernel_rfl)) (.no .nil) q (.inr q))
 ·replace h:=cndF hb3 h
  refine W.sq' ?_
  obtain ⟨c5,hj,h⟩:=bnd h
  refine W.rx [(0,I64 a0),(2,.obj [I64 0,I64 0]),(13,BB c5)] ?_ ?_
  ·refine Vm q<|Rv (O.leq (.lit q) (.k q))<|Rv (O.mv (.lit q)) ?_
   rcases cnd hj with ⟨hb4,hj⟩ | ⟨hb4,hj⟩
   ·obtain rfl:=sm hj
    exact RunL.v (O.mv (.lit q)) q q (.yb q q hb4)<|RunL.v (O.geq (.lit q) (.k q)) q q (.yb q q hb4)<|Rv (O.pkT (.lit q) hb4 (.lit q))<|Va q<|Fi (tn3 q q q)
   ·obtain rfl:=sm hj
    exact RunL.ps q q hb4 q q<|RunL.ps q q hb4 q q<|Rv (O.pkF (.lit q) hb4 (.k q))<|Va q<|Fi (tn3 q q q)
  refine Px.sq<|W.cnd q (fun hb6=>?_) (fun hb6=>?_)
  ·replace h:=cndT hb6 h
   refine W.sq'<|W.rx [(2,_)] (Vm q<|Rv (O.neg (.lit q))<|Rv (O.bu (cs:=[I64 2,I64 (w64 (-a0))]) sc23 ze23 q q q)<|RunL.sO (G2:=[(2,_)]) (cs2:=[I64 2,I64 (w64 (-a0))]) q (.obj q) (.aggF q q) q sz23 q q q q (.b q .nil)<|Fi (.n q .nil)) ?_
   refine Px.sq<|W.rt ?_
   refine Px.bkR ?_
   refine Px.sqR ?_
   obtain rfl:=sm h
   exact Px.fin (Fin.ro (.c (ys0:=[I64 2,I64 (w64 (-a0))]) q at23 q q q (.f q (.f q .nil)) .nil) q (ode (by kernel_rfl)) (.no .nil) q (.inr q))
  ·replace h:=cndF hb6 h
   refine W.sq'<|W.rx [(0,_),(2,_),(23,_)] (Vm q<|Rv (O.eql (.lit q) (.k q))<|Va q<|Fi (tn3 q q q)) ?_
   refine Px.sq<|W.cnd q (fun hb7=>?_) (fun hb7=>?_)
   ·replace h:=cndT hb7 h
    refine W.sq'<|W.rx [(2,_)] (Rv (O.bu (cs:=[I64 3,I64 0]) sc23 ze23 q q q)<|RunL.sO (G2:=[(2,_)]) (cs2:=[I64 3,I64 0]) q (.obj q) (.aggF q q) q sz23 q q q q (.b q .nil)<|Fi (.n q .nil)) ?_
    refine Px.sq<|W.rt ?_
    refine Px.bkR ?_
    refine Px.sqR ?_
    obtain rfl:=sm h
    exact Px.fin (Fin.ro (.c (ys0:=[I64 3,I64 0]) q at23 q q q (.f q (.f q .nil)) .nil) q (ode (by kernel_rfl)) (.no .nil) q (.inr q))
   ·replace h:=cndF hb7 h
    refine W.sq'<|W.rx [(2,_),(27,_)] (Vm q<|Rv (O.eql (.lit q) (.k q))<|Va q<|Fi (tn2 q q)) ?_
    refine Px.sq<|W.cnd q (fun hb8=>?_) (fun hb8=>?_)
    ·replace h:=cndT hb8 h
     refine W.sq'<|W.rx [(2,_)] (Rv (O.bu (cs:=[I64 4,I64 0]) sc23 ze23 q q q)<|RunL.sO (G2:=[(2,_)]) (cs2:=[I64 4,I64 0]) q (.obj q) (.aggF q q) q sz23 q q q q (.b q .nil)<|Fi (.n q .nil)) ?_
     refine Px.sq<|W.rt ?_
     refine Px.bkR ?_
     refine Px.sqR ?_
     obtain rfl:=sm h
     exact Px.fin (Fin.ro (.c (ys0:=[I64 4,I64 0]) q at23 q q q (.f q (.f q .nil)) .nil) q (ode (by kernel_rfl)) (.no .nil) q (.inr q))
    ·replace h:=cndF hb8 h
     refine W.sk<|Px.bk ?_
     refine Px.sq<|W.sq' ?_
     refine W.rx [(2,_)] (Rv (O.bu (cs:=[I64 0,I64 0]) sc23 ze23 q q q)<|RunL.sO (G2:=[(2,_)]) (cs2:=[I64 0,I64 0]) q (.obj q) (.aggF q q) q sz23 q q q q (.b q .nil)<|Fi (.n q .nil)) ?_
     refine Px.sq<|W.rt ?_
     obtain rfl:=sm h
     exact Px.fin (Fin.ro (.c (ys0:=[I64 0,I64 0]) q at23 q q q (.f q (.f q .nil)) .nil) q (ode (by kernel_rfl)) (.no .nil) q (.inr q))
theorem con3 (a0:Act) (a1:Int) (a2:Int) (r:Bool) (h:pf3 a0 a1 a2=some r):Con Try.prog 3 [.agg [I64 a0.Kind,I64 a0.N],I64 a1,I64 a2] [none,none,none] (BB r):=by
 unfold pf3 at h
 refine Con.go (N:=⟨44,[]⟩) Try.func3 q q q q (W.fin ?_)
 refine W.st [(0,.agg [I64 a0.Kind,I64 a0.N]),(1,I64 a1),(2,I64 a2)] ?_
 refine W.sq'<|W.rx [(1,_),(2,_),(3,_)] (Rv (O.box (.aggF q q) q)<|Vk q<|Fi (tn3 q q q)) ?_
 refine Px.sq<|W.sq' ?_
 refine W.sq' ?_
 obtain ⟨x1,hx1,h⟩:=bnd h
 refine W.rx [(1,_),(2,_),(3,_),(9,_)] (Rc (PC.go .nil (con13  _ hx1) call13 q)<|Rv (O.not (.lit q))<|Fi (tn4 q q q q)) ?_
 refine Px.sq<|W.cnd q (fun hb2=>?_) (fun hb2=>?_)
 ·replace h:=cndT hb2 h
  refine W.sq'<|W.rx [(6,_)] (Vk q<|Fi (.n q .nil)) ?_
  refine Px.sq<|W.rt ?_
  refine Px.sqR ?_
  obtain rfl:=sm h
  exact Px.fin (Fin.ro (.f q q .nil) q (ode (by kernel_rfl)) (.no (.no (.no .nil))) q (.inr q))
 ·replace h:=cndF hb2 h
  refine W.sk<|Px.sq ?_
  refine W.sq' ?_
  obtain ⟨x3,hx3,h⟩:=bnd h
  refine W.rx [(1,_),(2,_),(3,_)] (Vm q<|Rc (PC.go (.cc (.lit q) (.cc (.k q) .nil)) (con14 a2 40100 _ hx3) call14 q)<|Rv (O.sub (.lit q) (.k q))<|RunL.re (G1:=[(1,_),(3,_),(12,_)]) (tn3 q q q)<|Va q<|Fi (tn3 q q q)) ?_
  refine Px.sq<|W.sq' ?_
  obtain ⟨x4,hx4,h⟩:=bnd h
  refine W.rx [(1,_),(2,_),(3,_),(7,_)] (Rv (O.fO q (.obj q) fd23_0 q)<|Rv (O.ldO (y:=I64 a0.Kind) q (.ptr q) ct3 q q)<|Rc (PC.go (.cc (.lit q) (.cc (.k q) .nil)) (con14 a0.Kind 6 _ hx4) call14 q)<|Vm q<|Rv (O.bu (cs:=[I64 x4,I64 (w64 (x3 - 20050))]) sc23 ze23 q q q)<|Rv (O.al (cs:=[I64 0,I64 0]) ze23 q q)<|RunL.sO (G2:=[(1,_),(2,_),(3,_),(7,_)]) (cs2:=[I64 x4,I64 (w64 (x3 - 20050))]) q (.obj q) (.aggF q q) q sz23 q q q q (.n q q (.n q q (.n q q (.b q .nil))))<|Fi (tn4 q q q q)) ?_
  refine Px.sq<|W.sq' ?_
  obtain ⟨c16,hj,h⟩:=bnd h
  refine W.rd [[],[0],[],[0,1,2],[0,1,2,3],rn 0 5 [],rn 0 6 [],rn 0 7 [],rn 0 6 [],rn 0 9 [],rn 0 10 [],rn 0 11 [],rn 0 12 [],rn 0 13 [],rn 0 14 [],rn 0 13 [],rn 0 16 [],rn 0 17 [],rn 0 18 [],rn 0 19 [],rn 0 20 [],rn 0 21 [],rn 0 20 [],rn 0 23 [],rn 0 24 [],rn 0 25 [],rn 0 26 []] [(6,BB c16)] mixo (by kernel_rfl) ?_ ?_
  ·refine Dv 0 (O.ldON (cs':=[I64 a0.Kind,I64 a0.N]) q (.obj q) at23 q q) ?_
   obtain ⟨x5,hx5,hj⟩:=bnd hj
   refine Dc 1 (PC.go (.cc (.aggF q q) .nil) (con15 a0 _ hx5) call15 q)<|Dv 2 (O.ldON (cs':=[I64 a0.Kind,I64 a0.N]) q (.obj q) at23 q q) ?_
   obtain ⟨x6,hx6,hj⟩:=bnd hj
   refine Dc 3 (PC.go (.cc (.aggF q q) .nil) (con16 a0 _ hx6) call16 q)<|Dv 4 (O.eql (.lit q) (.lit q))<|Dv 5 (O.mv (.lit q)) ?_
   rcases cnd hj with ⟨hb7,hj⟩ | ⟨hb7,hj⟩
   ·refine DL.v 6 (O.ldON (cs':=[I64 x4,I64 (w64 (x3 - 20050))]) q (.obj q) at23 q q) q q q q (.yb q q hb7) ?_
    obtain ⟨x8,hx8,hj⟩:=bnd hj
    refine DL.c 7 (PC.go (.cc (.aggF q q) .nil) (con15 (⟨x4,w64 (x3 - 20050)⟩:Act) _ hx8) call15 q) q q q q (.yb q q hb7)<|DL.v 8 (O.ldON (cs':=[I64 x4,I64 (w64 (x3 - 20050))]) q (.obj q) at23 q q) q q q q (.yb q q hb7) ?_
    obtain ⟨x9,hx9,hj⟩:=bnd hj
    refine DL.c 9 (PC.go (.cc (.aggF q q) .nil) (con16 (⟨x4,w64 (x3 - 20050)⟩:Act) _ hx9) call16 q) q q q q (.yb q q hb7)<|DL.v 10 (O.eql (.lit q) (.lit q)) q q q q (.yb q q hb7)<|Dv 11 (O.pkT (.lit q) hb7 (.lit q))<|Dv 12 (O.mv (.lit q)) ?_
    rcases cnd hj with ⟨hb10,hj⟩ | ⟨hb10,hj⟩
    ·refine DL.v 13 (O.mv (.lit q)) q q q q (.yb q q hb10) ?_
     obtain ⟨x11,hx11,hj⟩:=bnd hj
     refine DL.c 14 (PC.go (.cc (.lit q) .nil) (con17 a1 _ hx11) call17 q) q q q q (.yb q q hb10)<|DL.v 15 (O.mv (.lit q)) q q q q (.yb q q hb10) ?_
     obtain ⟨x12,hx12,hj⟩:=bnd hj
     refine DL.c 16 (PC.go (.cc (.lit q) .nil) (con18 a1 _ hx12) call18 q) q q q q (.yb q q hb10)<|DL.v 17 (O.eqlA (va:=[.int .i64 x11.Kind,.int .i64 x11.N]) (vb:=[.int .i64 x12.Kind,.int .i64 x12.N]) (.aggF q q) (.aggF q q) q q eq23) q q q q (.yb q q hb10)<|Dv 18 (O.pkT (.lit q) hb10 (.lit q))<|Dv 19 (O.mv (.lit q)) ?_
     rcases cnd hj with ⟨hb13,hj⟩ | ⟨hb13,hj⟩
     ·refine DL.v 20 (O.mv (.lit q)) q q q q (.yb q q hb13) ?_
      obtain ⟨x14,hx14,hj⟩:=bnd hj
      refine DL.c 21 (PC.go (.cc (.lit q) .nil) (con17 (w64 (x3 - 20050)) _ hx14) call17 q) q q q q (.yb q q hb13)<|DL.v 22 (O.mv (.lit q)) q q q q (.yb q q hb13) ?_
      obtain ⟨x15,hx15,hj⟩:=bnd hj
      obtain rfl:=sm hj
      exact DL.c 23 (PC.go (.cc (.lit q) .nil) (con18 (w64 (x3 - 20050)) _ hx15) call18 q) q q q q (.yb q q hb13)<|DL.v 24 (O.eqlA (va:=[.int .i64 x14.Kind,.int .i64 x14.N]) (vb:=[.int .i64 x15.Kind,.int .i64 x15.N]) (.aggF q q) (.aggF q q) q q eq23) q q q q (.yb q q hb13)<|Dv 25 (O.pkT (.lit q) hb13 (.lit q))<|Dv 26 (O.az (.lit q))<|DL.fin q q q (.n q .nil)
     ·obtain rfl:=sm hj
      exact DL.ps 20 q q hb13 q q q q<|DL.ps 21 q q hb13 q q q q<|DL.ps 22 q q hb13 q q q q<|DL.ps 23 q q hb13 q q q q<|DL.ps 24 q q hb13 q q q q<|Dv 25 (O.pkF (.lit q) hb13 (.k q))<|Dv 26 (O.az (.lit q))<|DL.fin q q q (.n q .nil)
    ·obtain rfl:=sm hj
     exact DL.ps 13 q q hb10 q q q q<|DL.ps 14 q q hb10 q q q q<|DL.ps 15 q q hb10 q q q q<|DL.ps 16 q q hb10 q q q q<|DL.ps 17 q q hb10 q q q q<|Dv 18 (O.pkF (.lit q) hb10 (.k q))<|Dv 19 (O.mv (.lit q))<|DL.ps 20 q q q q q q q<|DL.ps 21 q q q q q q q<|DL.ps 22 q q q q q q q<|DL.ps 23 q q q q q q q<|DL.ps 24 q q q q q q q<|Dv 25 (O.pkF (.lit q) q (.k q))<|Dv 26 (O.az (.lit q))<|DL.fin q q q (.n q .nil)
   ·obtain rfl:=sm hj
    exact DL.ps 6 q q hb7 q q q q<|DL.ps 7 q q hb7 q q q q<|DL.ps 8 q q hb7 q q q q<|DL.ps 9 q q hb7 q q q q<|DL.ps 10 q q hb7 q q q q<|Dv 11 (O.pkF (.lit q) hb7 (.k q))<|Dv 12 (O.mv (.lit q))<|DL.ps 13 q q q q q q q<|DL.ps 14 q q q q q q q<|DL.ps 15 q q q q q q q<|DL.ps 16 q q q q q q q<|DL.ps 17 q q q q q q q<|Dv 18 (O.pkF (.lit q) q (.k q))<|Dv 19 (O.mv (.lit q))<|DL.ps 20 q q q q q q q<|DL.ps 21 q q q q q q q<|DL.ps 22 q q q q q q q<|DL.ps 23 q q q q q q q<|DL.ps 24 q q q q q q q<|Dv 25 (O.pkF (.lit q) q (.k q))<|Dv 26 (O.az (.lit q))<|DL.fin q q q (.n q .nil)
  refine Px.sq<|W.rt ?_
  obtain rfl:=sm h
  exact Px.fin (Fin.ro (.f q q .nil) q (ode (by kernel_rfl)) (.no (.no (.no .nil))) q (.inr q))
theorem con4 (a0:Act) (a1:Int) (a2:Int) (r:Bool) (h:pf4 a0 a1 a2=some r):Con Try.prog 4 [.agg [I64 a0.Kind,I64 a0.N],I64 a1,I64 a2] [none,none,none] (BB r):=by
 unfold pf4 at h
 refine Con.go (N:=⟨57,[]⟩) Try.func4 q q q q (W.fin ?_)
 refine W.st [(0,.agg [I64 a0.Kind,I64 a0.N]),(1,I64 a1),(2,I64 a2)] ?_
 refine W.sq'<|W.rx [(1,_),(2,_),(3,_)] (Rv (O.box (.aggF q q) q)<|Vk q<|Fi (tn3 q q q)) ?_
 refine Px.sq<|W.sq' ?_
 refine W.sq' ?_
 obtain ⟨x1,hx1,h⟩:=bnd h
 refine W.rx [(1,_),(2,_),(3,_),(13,_)] (Rc (PC.go .nil (con13  _ hx1) call13 q)<|Rv (O.not (.lit q))<|Fi (tn4 q q q q)) ?_
 refine Px.sq<|W.cnd q (fun hb2=>?_) (fun hb2=>?_)
 ·replace h:=cndT hb2 h
  refine W.sq'<|W.rx [(6,_)] (Vk q<|Fi (.n q .nil)) ?_
  refine Px.sq<|W.rt ?_
  refine Px.sqR ?_
  obtain rfl:=sm h
  exact Px.fin (Fin.ro (.f q q .nil) q (ode (by kernel_rfl)) (.no (.no (.no .nil))) q (.inr q))
 ·replace h:=cndF hb2 h
  refine W.sk<|Px.sq ?_
  refine W.sq' ?_
  obtain ⟨x3,hx3,h⟩:=bnd h
  refine W.rx [(3,_),(7,_)] (Vm q<|Vm q<|Rc (PC.go (.cc (.lit q) (.cc (.k q) .nil)) (con14 a2 40100 _ hx3) call14 q)<|Rv (O.sub (.lit q) (.k q))<|Rv (O.bs (ys:=[I64 a1,I64 (w64 (x3 - 20050))]) eI [a1,w64 (x3 - 20050)] sl29 q q q q q q zt3 q q)<|RunL.ea (G2:=[(3,.obj [I64 a0.Kind,I64 a0.N])]) q (EO.aR q q (.own q) q (.n q q .nil) q q)<|Fi (tn2 q q)) ?_
  refine Px.sq<|W.sq' ?_
  refine W.sq'<|W.rx [(3,_),(7,_),(8,_)] (Vk q<|Fi (tn3 q q q)) ?_
  refine Px.sq<|W.bk ?_
  obtain ⟨x5,hl,h⟩:=bnd h
  refine W.tr (G1:=[(3,_),(7,_),(8,_)]) (tn3 q q q) ?_
  refine W.lp2 (s:=0) (fun (s4:Int)=>[(3,.obj [I64 a0.Kind,I64 a0.N]),(7,oR eI [a1,w64 (x3 - 20050)]),(8,I64 s4)]) 0 (fun (x6:Unit)=>[(3,.obj [I64 a0.Kind,I64 a0.N])]) (fun (x7:Bool)=>[(6,BB x7)]) hl (fun s4 o h=>?_) (fun x6 hx=>?_) (fun x7 hx=>?_)
  ·clear hl
   refine W.sq'<|W.sq' ?_
   refine W.rx [(3,_),(7,_),(8,_),(22,_)] (Vm q<|Rv (O.mv (.own q))<|Rv (O.lenO (.brw q) sl29)<|Rv (O.lss (.lit q) (.lit q))<|Fi (tn4 q q q q)) ?_
   refine Px.sq<|W.cnd q (fun hb8=>?_) (fun hb8=>?_)
   ·replace h:=cndT hb8 h
    refine W.sk<|Px.sq ?_
    refine W.sq'<|W.bk ?_
    refine W.sq' ?_
    obtain ⟨x9,hx9,h⟩:=bnd h
    obtain ⟨x10,hx10,h⟩:=bnd h
    refine W.rx [(3,_),(7,_),(8,_),(9,_)] (Rv (O.mv (.own q))<|Vm q<|Rv (O.ixO (en:=eI) q (.brw q) (.lit q) sl29 hx9 q)<|Rv (O.ldE (en:=eI) (x':=I64 x9) q (.ptr q) ct3 hx9 q q)<|Rc (PC.go (.cc (.lit q) .nil) (con17 x9 _ hx10) call17 q)<|Rv (O.al (cs:=[I64 0,I64 0]) ze23 q q)<|RunL.sO (G2:=[(3,_),(7,_),(8,_),(9,_)]) (cs2:=[I64 x10.Kind,I64 x10.N]) q (.obj q) (.aggF q q) q sz23 q q q q (.n q q (.n q q (.n q q (.b q .nil))))<|Fi (tn4 q q q q)) ?_
    refine Px.sq<|W.sq' ?_
    obtain ⟨x11,hx11,h⟩:=bnd h
    refine W.rx [(3,_),(7,_),(8,_),(9,_),(10,_)] (Rv (O.ldON (cs':=[I64 x10.Kind,I64 x10.N]) q (.obj q) at23 q q)<|Rc (PC.go (.cc (.aggF q q) .nil) (con15 x10 _ hx11) call15 q)<|Va q<|Fi (tn5 q q q q q)) ?_
    refine Px.sq<|W.sq' ?_
    obtain ⟨c15,hj,h⟩:=bnd h
    refine W.rx [(3,.obj [I64 a0.Kind,I64 a0.N]),(7,oR eI [a1,w64 (x3 - 20050)]),(8,I64 s4),(46,BB c15)] ?_ ?_
    ·refine Vm q<|Rv (O.mv (.own q))<|Rv (O.mv (.lit q)) ?_
     obtain ⟨x12,hx12,hj⟩:=bnd hj
     refine Rv (O.ixO (en:=eI) q (.brw q) (.lit q) sl29 hx12 q)<|Rv (O.ldE (en:=eI) (x':=I64 x12) q (.ptr q) ct3 hx12 q q)<|Rv (O.neq (.lit q) (.lit q))<|Rv (O.mv (.lit q)) ?_
     rcases cnd hj with ⟨hb13,hj⟩ | ⟨hb13,hj⟩
     ·refine RunL.v (O.mv (.lit q)) q q (.yb q q hb13)<|RunL.v (O.neq (.lit q) (.k q)) q q (.yb q q hb13)<|RunL.v (O.mv (.lit q)) q q (.yb q q hb13) ?_
      rcases cnd hj with ⟨hb14,hj⟩ | ⟨hb14,hj⟩
      ·obtain rfl:=sm hj
       exact RunL.ps q q hb14 q q<|RunL.ps q q hb14 q q<|RunL.ps q q hb14 q q<|RunL.v (O.pkT (.lit q) hb14 (.k q)) q q (.yb q q hb13)<|Rv (O.pkT (.lit q) hb13 (.lit q))<|Fi (tn4 q q q q)
      ·obtain rfl:=sm hj
       exact RunL.v (O.ldON (cs':=[I64 x10.Kind,I64 x10.N]) q (.obj q) at23 q q) q q (.yb q q hb14)<|RunL.v (O.bu (cs:=[I64 0,I64 0]) sc23 ze23 q q q) q q (.yb q q hb14)<|RunL.v (O.neqA (va:=[.int .i64 x10.Kind,.int .i64 x10.N]) (vb:=[.int .i64 0,.int .i64 0]) (.aggF q q) (.aggF q q) q q eq23) q q (.yb q q hb14)<|RunL.v (O.pkF (.lit q) hb14 (.lit q)) q q (.yb q q hb13)<|Rv (O.pkT (.lit q) hb13 (.lit q))<|Fi (tn4 q q q q)
     ·obtain rfl:=sm hj
      exact RunL.ps q q hb13 q q<|RunL.ps q q hb13 q q<|RunL.ps q q hb13 q q<|RunL.pu q q q q<|RunL.pu q q q q<|RunL.pu q q q q<|RunL.ps q q hb13 q q<|Rv (O.pkF (.lit q) hb13 (.k q))<|Fi (tn4 q q q q)
    refine Px.sq<|W.cnd q (fun hb16=>?_) (fun hb16=>?_)
    ·replace h:=cndT hb16 h
     refine W.sq'<|W.rx [(6,_)] (Vk q<|Fi (.n q .nil)) ?_
     refine Px.sq<|W.rt ?_
     refine Px.bkR ?_
     refine Px.sqR ?_
     obtain rfl:=sm h
     exact Px.r2 (.n q .nil)
    ·replace h:=cndF hb16 h
     refine W.sk<|Px.bk ?_
     refine Px.sq<|W.rx [(3,_),(7,_),(8,_)] (Vm q<|Rv (O.add (.lit q) (.k q))<|RunL.re (G1:=[(3,_),(7,_),(24,_)]) (tn3 q q q)<|Va q<|Fi (tn3 q q q)) ?_
     obtain rfl:=sm h
     exact Px.go (tn3 q q q)
   ·replace h:=cndF hb8 h
    refine W.xi ?_
    refine Px.sqE ?_
    obtain rfl:=sm h
    exact Px.x2 (.n q .nil)
  ·subst hx
   refine Px.bkH ?_
   refine Px.sq<|W.sq' ?_
   obtain ⟨x17,hx17,h⟩:=bnd h
   refine W.rx [(3,_),(11,_)] (Rv (O.ldON (cs':=[I64 a0.Kind,I64 a0.N]) q (.obj q) at23 q q)<|Rc (PC.go (.cc (.aggF q q) .nil) (con15 a0 _ hx17) call15 q)<|Va q<|Fi (tn2 q q)) ?_
   refine Px.sq<|W.sq' ?_
   obtain ⟨c20,hj,h⟩:=bnd h
   refine W.rd [[],[0],[0,1],[0,1,2],[0,1,2,3],[0,1,2],rn 0 6 [],rn 0 7 [],rn 0 8 []] [(6,BB c20)] mixo (by kernel_rfl) ?_ ?_
   ·refine Dv 0 (O.mv (.lit q))<|Dv 1 (O.eql (.lit q) (.k q))<|Dv 2 (O.mv (.lit q)) ?_
    rcases cnd hj with ⟨hb18,hj⟩ | ⟨hb18,hj⟩
    ·obtain rfl:=sm hj
     exact DL.ps 3 q q hb18 q q q q<|DL.ps 4 q q hb18 q q q q<|DL.ps 5 q q hb18 q q q q<|DL.ps 6 q q hb18 q q q q<|Dv 7 (O.pkT (.lit q) hb18 (.k q))<|Dv 8 (O.az (.lit q))<|DL.fin q q q (.n q .nil)
    ·refine DL.v 3 (O.mv (.lit q)) q q q q (.yb q q hb18) ?_
     obtain ⟨x19,hx19,hj⟩:=bnd hj
     obtain rfl:=sm hj
     exact DL.c 4 (PC.go (.cc (.lit q) .nil) (con17 x17 _ hx19) call17 q) q q q q (.yb q q hb18)<|DL.v 5 (O.ldON (cs':=[I64 a0.Kind,I64 a0.N]) q (.obj q) at23 q q) q q q q (.yb q q hb18)<|DL.v 6 (O.eqlA (va:=[.int .i64 x19.Kind,.int .i64 x19.N]) (vb:=[.int .i64 a0.Kind,.int .i64 a0.N]) (.aggF q q) (.aggF q q) q q eq23) q q q q (.yb q q hb18)<|Dv 7 (O.pkF (.lit q) hb18 (.lit q))<|Dv 8 (O.az (.lit q))<|DL.fin q q q (.n q .nil)
   refine Px.sq<|W.rt ?_
   obtain rfl:=sm h
   exact Px.fin (Fin.ro (.f q q .nil) q (ode (by kernel_rfl)) (.no (.no (.no .nil))) q (.inr q))
  ·subst hx
   refine Px.bkR ?_
   refine Px.sqR ?_
   obtain rfl:=sm h
   exact Px.fin (Fin.ro (.f q q .nil) q (ode (by kernel_rfl)) (.no (.no (.no .nil))) q (.inr q))
end Go.Proofs
namespace Go.Own
open Go Go.ChangeShapes Go.WideShapes Go.ChangeAt Go.RowKit
variable {H:Type}{enc:TypeId × Value->H}{P:Program}
theorem post_old {f:Func}{s:ChangeSpec}{apart fresh handsOn again:Bool}{W W':World}{args:Array Value}{v:Value}{ds gs:List (DataW H)}{before pa pv:List MemPlace}
  (hW:DataW.Whole enc P f.params.toList s.vars apart W args.toList ds gs before) (hk:Kp W W') (hps:before=pa++pv)
  (hres:∀ (b:Nat) (sp:Nat->Bool) (hd:Bool),DataW.TrodAll enc P W' b sp hd f.resultTypes.toList (v.resultList f.resultTypes.size) (s.fn H (ds++gs)).results [])
  (hargs:∀ sp:Nat->Bool,(∀ p∈before,sp p.block=true)->DataW.TrodAll enc P W' 0 sp true f.params.toList args.toList (s.fn H (ds++gs)).args pa)
  (hvars:∀ sp:Nat->Bool,(∀ p∈before,sp p.block=true)->DataW.TrodVars enc P W' sp s.vars (s.fn H (ds++gs)).vars pv)
  (hok:∀ (j:Nat) (t:TypeId) (r:Value),f.resultTypes[j]?=some t->(v.resultList f.resultTypes.size)[j]?=some r->Value.okWide P W' .any 0 t r) :
  s.post enc P f apart fresh handsOn again W args v W':=by
 subst hps
 have hlt:∀ p∈pa++pv,p.block<W.heap.size:=fun p hp=>hW.lt p hp
 have hsp:∀ p∈pa++pv,(fun b=>decide (b<W.heap.size)) p.block=true:=fun p hp=>decide_eq_true (hlt p hp)
 have hWh:=hW
 obtain ⟨_,_,_,_,_,hz,hn⟩:=hWh
 have ht:=trodAll_append (hargs (fun _=>true) (fun _ _=>rfl)) (hres 0 (fun _=>true) true)
 refine ⟨ds,gs,pa++pv,[],pa,pv,hW,hres _ _ _,hargs _ hsp,hvars _ hsp,hk.kept _,fun _=>⟨hok,_,_,pa++pv,⟨_,pv,ht,hvars _ (fun _ _=>rfl),rfl,fun b off hp=>?_,hn⟩,fun p hp _=>hp⟩⟩
 rw [hk.fz _ (hlt _ hp)]
 exact hz b off hp
end Go.Own
namespace Go.Proofs
open Go Go.Own
set_option maxRecDepth 100000
theorem uI:Try.prog.underlying 3=some (.int .i64):=by kernel_rfl
def okI (n:Int):Prop:=(Lit.int .i64 n).wf=true
theorem aI:Ar Try.prog eI 3 okI:=.int uI (by kernel_rfl) fun _=>rfl
def okAct (x:Act):Prop:=okI x.Kind/\okI x.N/\True
theorem sAct:strB Try.prog 23 [3,3]=true:=by kernel_rfl
theorem aAct:Ar Try.prog eAct 23 okAct:=.struct (t:=23) (.cons aI (.cons aI .nil)) (fun b=>(⟨b.1,b.2.1⟩:Act)) (fun x=>(x.Kind,x.N,())) (fun _=>rfl) (fun _=>rfl) sAct (by kernel_rfl)
theorem pLaid:laidOutB Try.prog=true:=by kernel_rfl
theorem pMaps:mapsRowed Try.prog=true:=by kernel_rfl
theorem pFull:((List.range Try.prog.types.size).all fun t=>match Try.prog.underlying t with | some (.slice e)=>decide (0<Try.prog.cellsOf e) | _=>true)=true:=by kernel_rfl
end Go.Proofs
