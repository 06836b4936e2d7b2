/-
  What is proved here: parts of the proof that the last text states: rules for walks through code, and of this program's functions what they answer. No condition of their own.
-/
import Derived.KernelRfl
import Derived.ProofKit
import Derived.RowKit3
import Derived.Test.YtmddbjglblcegaaRows
import Derived.Test.YtmddbjglblcegaaE6
namespace Go.Proofs
open Go Go.Own
set_option maxRecDepth 100000
set_option linter.unusedVariables false
theorem con74 (a0:(List Item)) (a1:Item) (r:(List Item)) (h:pf74 a0 a1=some r):Con Try.prog 74 [iR eItem a0,.agg [I64 a1.Prod,I64 a1.Dot]] [none,none] (iR eItem r):=by
 unfold pf74 at h
 refine Con.go (N:=⟨71,[]⟩) Try.func74 q q q q (W.fin ?_)
 refine W.st [(0,iR eItem a0),(1,.agg [I64 a1.Prod,I64 a1.Dot])] ?_
 refine W.sq'<|W.rx [(0,_),(3,_)] (Rv (O.box (.aggF q q) q)<|Rv (O.az .knil)<|Fi (tn2 q q)) ?_
 refine Px.sq<|W.sq' ?_
 refine W.rx [(0,_),(3,_),(5,_)] (Rv (O.mv (.imm q))<|Rv (O.lenI (.imm q) sl66)<|Va q<|Fi (tn3 q q q)) ?_
 refine Px.sq<|W.sq' ?_
 refine W.bk ?_
 obtain ⟨x2,hl,h⟩:=bnd h
 refine W.tr (G1:=[(0,iR eItem a0),(3,.obj [I64 a1.Prod,I64 a1.Dot]),(5,I64 (a0.length:Int))]) (tn3 q q q) ?_
 refine W.lp1 (s:=(a0.length:Int)) (fun (s1:Int)=>[(0,iR eItem a0),(3,.obj [I64 a1.Prod,I64 a1.Dot]),(5,I64 s1)]) 0 (fun (x2:Int)=>[(0,iR eItem a0),(3,.obj [I64 a1.Prod,I64 a1.Dot]),(5,I64 x2)]) hl (fun s1 o h=>?_) ?_
 ·clear hl
  refine W.sq'<|W.sq' ?_
  obtain ⟨c10,hj,h⟩:=bnd h
  refine W.rd [[],[0],[0,1],[0,1,2],[0,1,2],[0,1,2,4],rn 0 6 [],rn 0 7 [],rn 0 8 [],[0,1,2],[0,1,2,9],rn 0 11 [],rn 0 12 [],rn 0 13 [],rn 0 13 [],rn 0 13 [14],rn 0 16 [],rn 0 17 [],rn 0 18 [],rn 0 13 [],rn 0 13 [19],rn 0 21 [],rn 0 22 [],rn 0 23 [],rn 0 23 [],rn 0 23 [24],rn 0 26 [],rn 0 27 [],rn 0 28 [],rn 0 23 [],rn 0 23 [29],rn 0 31 [],rn 0 32 [],rn 0 33 [],rn 0 34 []] [(0,iR eItem a0),(3,.obj [I64 a1.Prod,I64 a1.Dot]),(5,I64 s1),(43,BB c10)] mixo (by kernel_rfl) ?_ ?_
  ·refine Dv 0 (O.mv (.lit q))<|Dv 1 (O.gtr (.lit q) (.k q))<|Dv 2 (O.mv (.lit q)) ?_
   rcases cnd hj with ⟨hb4,hj⟩ | ⟨hb4,hj⟩
   ·refine DL.v 3 (O.mv (.imm q)) q q q q (.yb q q hb4)<|DL.v 4 (O.mv (.lit q)) q q q q (.yb q q hb4)<|DL.v 5 (O.sub (.lit q) (.k q)) q q q q (.yb q q hb4) ?_
    obtain ⟨x5,hx5,hj⟩:=bnd hj
    refine DL.v 6 (O.ixI (.imm q) (.lit q) sl66 hx5) q q q q (.yb q q hb4)<|DL.v 7 (O.fI (.iptr q) fd72_0) q q q q (.yb q q hb4)<|DL.v 8 (O.ldI (x:=I64 x5.Prod) (.iptr q) ct3 q) q q q q (.yb q q hb4)<|DL.v 9 (O.fO q (.obj q) fd72_0 q) q q q q (.yb q q hb4)<|DL.v 10 (O.ldO (y:=I64 a1.Prod) q (.ptr q) ct3 q q) q q q q (.yb q q hb4)<|DL.v 11 (O.gtr (.lit q) (.lit q)) q q q q (.yb q q hb4)<|DL.v 12 (O.mv (.lit q)) q q q q (.yb q q hb4) ?_
    rcases cnd hj with ⟨hb6,hj⟩ | ⟨hb6,hj⟩
    ·obtain rfl:=sm hj
     exact DL.ps 13 q q hb6 q q q q<|DL.ps 14 q q hb6 q q q q<|DL.ps 15 q q hb6 q q q q<|DL.ps 16 q q hb6 q q q q<|DL.ps 17 q q hb6 q q q q<|DL.ps 18 q q hb6 q q q q<|DL.ps 19 q q hb6 q q q q<|DL.ps 20 q q hb6 q q q q<|DL.ps 21 q q hb6 q q q q<|DL.ps 22 q q hb6 q q q q<|DL.pu 23 q q q q q q<|DL.pu 24 q q q q q q<|DL.pu 25 q q q q q q<|DL.pu 26 q q q q q q<|DL.pu 27 q q q q q q<|DL.pu 28 q q q q q q<|DL.pu 29 q q q q q q<|DL.pu 30 q q q q q q<|DL.pu 31 q q q q q q<|DL.ps 32 q q hb6 q q q q<|DL.v 33 (O.pkT (.lit q) hb6 (.k q)) q q q q (.yb q q hb4)<|Dv 34 (O.pkT (.lit q) hb4 (.lit q))<|DL.fin q q q (tn4 q q q q)
    ·refine DL.v 13 (O.mv (.imm q)) q q q q (.yb q q hb6)<|DL.v 14 (O.mv (.lit q)) q q q q (.yb q q hb6)<|DL.v 15 (O.sub (.lit q) (.k q)) q q q q (.yb q q hb6) ?_
     obtain ⟨x7,hx7,hj⟩:=bnd hj
     refine DL.v 16 (O.ixI (.imm q) (.lit q) sl66 hx7) q q q q (.yb q q hb6)<|DL.v 17 (O.fI (.iptr q) fd72_0) q q q q (.yb q q hb6)<|DL.v 18 (O.ldI (x:=I64 x7.Prod) (.iptr q) ct3 q) q q q q (.yb q q hb6)<|DL.v 19 (O.fO q (.obj q) fd72_0 q) q q q q (.yb q q hb6)<|DL.v 20 (O.ldO (y:=I64 a1.Prod) q (.ptr q) ct3 q q) q q q q (.yb q q hb6)<|DL.v 21 (O.eql (.lit q) (.lit q)) q q q q (.yb q q hb6)<|DL.v 22 (O.mv (.lit q)) q q q q (.yb q q hb6) ?_
     rcases cnd hj with ⟨hb8,hj⟩ | ⟨hb8,hj⟩
     ·refine DL.v 23 (O.mv (.imm q)) q q q q (.yb q q hb8)<|DL.v 24 (O.mv (.lit q)) q q q q (.yb q q hb8)<|DL.v 25 (O.sub (.lit q) (.k q)) q q q q (.yb q q hb8) ?_
      obtain ⟨x9,hx9,hj⟩:=bnd hj
      obtain rfl:=sm hj
      exact DL.v 26 (O.ixI (.imm q) (.lit q) sl66 hx9) q q q q (.yb q q hb8)<|DL.v 27 (O.fI (.iptr q) fd72_1) q q q q (.yb q q hb8)<|DL.v 28 (O.ldI (x:=I64 x9.Dot) (.iptr q) ct3 q) q q q q (.yb q q hb8)<|DL.v 29 (O.fO q (.obj q) fd72_1 q) q q q q (.yb q q hb8)<|DL.v 30 (O.ldO (y:=I64 a1.Dot) q (.ptr q) ct3 q q) q q q q (.yb q q hb8)<|DL.v 31 (O.gtr (.lit q) (.lit q)) q q q q (.yb q q hb8)<|DL.v 32 (O.pkT (.lit q) hb8 (.lit q)) q q q q (.yb q q hb6)<|DL.v 33 (O.pkF (.lit q) hb6 (.lit q)) q q q q (.yb q q hb4)<|Dv 34 (O.pkT (.lit q) hb4 (.lit q))<|DL.fin q q q (tn4 q q q q)
     ·obtain rfl:=sm hj
      exact DL.ps 23 q q hb8 q q q q<|DL.ps 24 q q hb8 q q q q<|DL.ps 25 q q hb8 q q q q<|DL.ps 26 q q hb8 q q q q<|DL.ps 27 q q hb8 q q q q<|DL.ps 28 q q hb8 q q q q<|DL.ps 29 q q hb8 q q q q<|DL.ps 30 q q hb8 q q q q<|DL.ps 31 q q hb8 q q q q<|DL.v 32 (O.pkF (.lit q) hb8 (.k q)) q q q q (.yb q q hb6)<|DL.v 33 (O.pkF (.lit q) hb6 (.lit q)) q q q q (.yb q q hb4)<|Dv 34 (O.pkT (.lit q) hb4 (.lit q))<|DL.fin q q q (tn4 q q q q)
   ·obtain rfl:=sm hj
    exact DL.ps 3 q q hb4 q q q q<|DL.ps 4 q q hb4 q q q q<|DL.ps 5 q q hb4 q q q q<|DL.ps 6 q q hb4 q q q q<|DL.ps 7 q q hb4 q q q q<|DL.ps 8 q q hb4 q q q q<|DL.ps 9 q q hb4 q q q q<|DL.ps 10 q q hb4 q q q q<|DL.ps 11 q q hb4 q q q q<|DL.ps 12 q q hb4 q q q q<|DL.pu 13 q q q q q q<|DL.pu 14 q q q q q q<|DL.pu 15 q q q q q q<|DL.pu 16 q q q q q q<|DL.pu 17 q q q q q q<|DL.pu 18 q q q q q q<|DL.pu 19 q q q q q q<|DL.pu 20 q q q q q q<|DL.pu 21 q q q q q q<|DL.pu 22 q q q q q q<|DL.pu 23 q q q q q q<|DL.pu 24 q q q q q q<|DL.pu 25 q q q q q q<|DL.pu 26 q q q q q q<|DL.pu 27 q q q q q q<|DL.pu 28 q q q q q q<|DL.pu 29 q q q q q q<|DL.pu 30 q q q q q q<|DL.pu 31 q q q q q q<|DL.pu 32 q q q q q q<|DL.ps 33 q q hb4 q q q q<|Dv 34 (O.pkF (.lit q) hb4 (.k q))<|DL.fin q q q (tn4 q q q q)
  refine Px.sq<|W.cnd q (fun hb11=>?_) (fun hb11=>?_)
  ·replace h:=cndT hb11 h
   refine W.sk<|Px.sq ?_
   refine W.bk<|W.rx [(0,_),(3,_),(5,_)] (Vm q<|Rv (O.sub (.lit q) (.k q))<|RunL.re (G1:=[(0,iR eItem a0),(3,.obj [I64 a1.Prod,I64 a1.Dot]),(45,I64 (w64 (s1 - 1)))]) (tn3 q q q)<|Va q<|Fi (tn3 q q q)) ?_
   refine Px.bk ?_
   obtain rfl:=sm h
   exact Px.go (tn3 q q q)
  ·replace h:=cndF hb11 h
   refine W.xi ?_
   refine Px.sqE ?_
   obtain rfl:=sm h
   exact Px.x1 (tn3 q q q)
 refine Px.bkH ?_
 refine Px.sq<|W.sq' ?_
 refine W.sq' ?_
 obtain ⟨c14,hj,h⟩:=bnd h
 refine W.rd [[],[0],[0,1],[0,1,2],[0,1,2],[0,1,2,4],rn 0 6 [],rn 0 7 [],[0,1,2],rn 0 9 [],rn 0 10 []] [(0,iR eItem a0),(3,.obj [I64 a1.Prod,I64 a1.Dot]),(5,I64 x2),(56,BB c14)] mixo (by kernel_rfl) ?_ ?_
 ·refine Dv 0 (O.mv (.lit q))<|Dv 1 (O.gtr (.lit q) (.k q))<|Dv 2 (O.mv (.lit q)) ?_
  rcases cnd hj with ⟨hb12,hj⟩ | ⟨hb12,hj⟩
  ·refine DL.v 3 (O.mv (.imm q)) q q q q (.yb q q hb12)<|DL.v 4 (O.mv (.lit q)) q q q q (.yb q q hb12)<|DL.v 5 (O.sub (.lit q) (.k q)) q q q q (.yb q q hb12) ?_
   obtain ⟨x13,hx13,hj⟩:=bnd hj
   obtain rfl:=sm hj
   exact DL.v 6 (O.ixI (.imm q) (.lit q) sl66 hx13) q q q q (.yb q q hb12)<|DL.v 7 (O.ldIN (cs':=[I64 x13.Prod,I64 x13.Dot]) (.iptr q) at72 q q) q q q q (.yb q q hb12)<|DL.v 8 (O.ldON (cs':=[I64 a1.Prod,I64 a1.Dot]) q (.obj q) at72 q q) q q q q (.yb q q hb12)<|DL.v 9 (O.eqlA (va:=[.int .i64 x13.Prod,.int .i64 x13.Dot]) (vb:=[.int .i64 a1.Prod,.int .i64 a1.Dot]) (.aggF q q) (.aggF q q) q q eq72) q q q q (.yb q q hb12)<|Dv 10 (O.pkT (.lit q) hb12 (.lit q))<|DL.fin q q q (tn4 q q q q)
  ·obtain rfl:=sm hj
   exact DL.ps 3 q q hb12 q q q q<|DL.ps 4 q q hb12 q q q q<|DL.ps 5 q q hb12 q q q q<|DL.ps 6 q q hb12 q q q q<|DL.ps 7 q q hb12 q q q q<|DL.ps 8 q q hb12 q q q q<|DL.ps 9 q q hb12 q q q q<|Dv 10 (O.pkF (.lit q) hb12 (.k q))<|DL.fin q q q (tn4 q q q q)
 refine Px.sq<|W.cnd q (fun hb15=>?_) (fun hb15=>?_)
 ·replace h:=cndT hb15 h
  refine W.sq'<|W.rx [(4,_)] (Rv (O.mv (.imm q))<|Rv (O.az (.imm q))<|Fi (.n q .nil)) ?_
  refine Px.sq<|W.rt ?_
  refine Px.sqR ?_
  obtain rfl:=sm h
  exact Px.fin (Fin.ro (.f q q .nil) q (ode (by kernel_rfl)) (.no (.no .nil)) q (.inr q))
 ·replace h:=cndF hb15 h
  refine W.sk<|Px.sq ?_
  refine W.sq' ?_
  obtain ⟨x16,hx16,h⟩:=bnd h
  obtain ⟨x17,hx17,h⟩:=bnd h
  refine W.rx [(0,_),(3,_),(5,_),(6,_)] (Rv (O.bs (ys:=[]) eItem ([]:List Item) sl66 q q q q q q zt72 q q)<|Rv (O.mv (.imm q))<|Vm q<|Rv (O.slI0 (.imm q) (.lit q) sl66 hx16)<|Rv (O.ap (en:=eItem) (r:=x17) (.own q) q (.imm q) .i ap66 q hx17)<|RunL.ea (G2:=[(0,iR eItem a0),(3,.obj [I64 a1.Prod,I64 a1.Dot]),(5,I64 x2)]) q (EO.aP q q (.pend q) q q q (.n q q (.n q q (.n q q .nil))) q q)<|Fi (tn4 q q q q)) ?_
  refine Px.sq<|W.sq' ?_
  obtain ⟨x18,hx18,h⟩:=bnd h
  obtain ⟨x19,hx19,h⟩:=bnd h
  obtain ⟨x20,hx20,h⟩:=bnd h
  refine W.rd [[],[],[1],[0,1,2],[],[],[4,5],rn 0 7 [],rn 0 8 []] [(4,_)] mixo (by kernel_rfl) (Dv 0 (O.mv (.own q))<|Dv 1 (O.ldON (cs':=[I64 a1.Prod,I64 a1.Dot]) q (.obj q) at72 q q)<|DL.vi 2 (x:=iR eItem [a1]) (O.bs (ys:=[.agg [I64 a1.Prod,I64 a1.Dot]]) eItem [a1] sl66 q q q q q q zt72 q q) q q q q .none<|Dv 3 (O.ap (en:=eItem) (r:=x18) (.brw q) q (.imm q) .i ap66 q hx18)<|Dv 4 (O.mv (.imm q))<|Dv 5 (O.mv (.lit q))<|Dv 6 (O.slI1 (.imm q) (.lit q) sl66 hx19)<|Dv 7 (O.ap2 (en:=eItem) (r:=x20) (.pend q) q q (.imm q) .i ap66 q hx20)<|DL.bv 8 (G2:=[]) (EO.aP2 q q (.pend q) q q q q q q .nil q q) q q q q (by kernel_rfl) (by kernel_rfl)<|DL.fin q q q (.n q .nil)) ?_
  refine Px.sq<|W.fz (G1:=[(4,iR eItem ((([]:List Item)++x16)++[a1]++x19))]) [4] (.z q q .zz .nil) ?_
  refine W.rt ?_
  obtain rfl:=sm h
  exact Px.fin (Fin.ro (.f q q .nil) q (ode (by kernel_rfl)) (.no (.no .nil)) q (.inr q))
theorem con73 (a0:Grammar) (a1:(List Item)) (r:(List Item)) (h:pf73 a0 a1=some r):Con Try.prog 73 [.agg (eGrammar_0.cells a0),iR eItem a1] [none,none] (iR eItem r):=by
 unfold pf73 at h
 refine Con.go (N:=⟨26,[]⟩) Try.func73 q q q q (W.fin ?_)
 refine W.st [(0,.agg (eGrammar_0.cells a0)),(1,iR eItem a1)] ?_
 refine W.sq'<|W.rx [(1,_),(2,_)] (Rv (O.box (.aggF q q) q)<|Rv (O.az .knil)<|Fi (tn2 q q)) ?_
 refine Px.sq<|W.sq' ?_
 refine W.rx [(1,_),(2,_),(5,_)] (Rv (O.az .knil)<|Fi (tn3 q q q)) ?_
 refine Px.sq<|W.sq' ?_
 refine W.sq'<|W.rx [(1,_),(2,_),(5,_),(6,_)] (Vk q<|Fi (tn4 q q q q)) ?_
 refine Px.sq<|W.bk ?_
 obtain ⟨x2,hl,h⟩:=bnd h
 refine W.tr (G1:=[(1,iR eItem a1),(2,.obj (eGrammar_0.cells a0)),(5,iR eItem ([]:List Item)),(6,I64 0)]) (.n q (.n q (.w q q .nilImm (.n q .nil)))) ?_
 refine W.lp1 (s:=(([]:List Item),0)) (fun (s1:List Item × Int)=>[(1,iR eItem a1),(2,.obj (eGrammar_0.cells a0)),(5,iR eItem s1.1),(6,I64 s1.2)]) 0 (fun (x2:List Item)=>[(5,iR eItem x2)]) hl (fun s1 o h=>?_) ?_
 ·clear hl
  refine W.sq'<|W.sq' ?_
  refine W.rx [(1,_),(2,_),(5,_),(6,_),(10,_)] (Vm q<|Rv (O.mv (.imm q))<|Rv (O.lenI (.imm q) sl66)<|Rv (O.lss (.lit q) (.lit q))<|Fi (tn5 q q q q q)) ?_
  refine Px.sq<|W.cnd q (fun hb4=>?_) (fun hb4=>?_)
  ·replace h:=cndT hb4 h
   refine W.sk<|Px.sq ?_
   refine W.sq' ?_
   obtain ⟨j5,hj,h⟩:=bnd h
   refine W.jn [(1,iR eItem a1),(2,.obj (eGrammar_0.cells a0)),(5,iR eItem j5),(6,I64 s1.2)] ?_ ?_
   ·clear h; have h:=hj; clear hj
    refine W.bk<|W.sq' ?_
    obtain ⟨x6,hx6,h⟩:=bnd h
    obtain ⟨x7,hx7,h⟩:=bnd h
    refine W.rd [[],[],[],[1,2],[1,2,3],rn 0 5 []] [(1,_),(2,_),(5,_),(6,_),(18,_)] mixo (by kernel_rfl) (Dv 0 (O.ldON (cs':=[iR eTok a0.Toks,iR eNon a0.Nons,iR eProd_0 a0.Prods,SS a0.Pro,SS a0.Tail]) q (.obj q) at38 q q)<|Dv 1 (O.mv (.imm q))<|Dv 2 (O.mv (.lit q))<|Dv 3 (O.ixI (.imm q) (.lit q) sl66 hx6)<|Dv 4 (O.ldIN (cs':=[I64 x6.Prod,I64 x6.Dot]) (.iptr q) at72 q q)<|Dc 5 (PC.go (.cc (.aggF q q) (.cc (.aggF q q) .nil)) (con69 a0 x6 _ hx7) call69 q)<|DL.fin q q q (tn5 q q q q q)) ?_
    refine Px.sq ?_
    obtain ⟨j8,hj,h⟩:=bnd h
    refine W.jn [(1,iR eItem a1),(2,.obj (eGrammar_0.cells a0)),(5,iR eItem j8),(6,I64 s1.2)] ?_ ?_
    ·clear h; have h:=hj; clear hj
     refine W.cnd q (fun hb9=>?_) (fun hb9=>?_)
     ·replace h:=cndT hb9 h
      obtain ⟨x10,hx10,h⟩:=bnd h
      obtain ⟨x11,hx11,h⟩:=bnd h
      refine W.rx [(1,_),(2,_),(5,_),(6,_)] (Rv (O.mv (.imm q))<|Rv (O.mv (.imm q))<|Vm q<|Rv (O.ixI (.imm q) (.lit q) sl66 hx10)<|Rv (O.ldIN (cs':=[I64 x10.Prod,I64 x10.Dot]) (.iptr q) at72 q q)<|Rc (PC.go (.cc (.imm q) (.cc (.aggF q q) .nil)) (con74 s1.1 x10 _ hx11) call74 q)<|RunL.re (G1:=[(1,iR eItem a1),(2,.obj (eGrammar_0.cells a0)),(6,I64 s1.2),(24,iR eItem x11)]) (tn4 q q q q)<|Rv (O.az (.imm q))<|Fi (tn4 q q q q)) ?_
      obtain rfl:=sm h
      exact Px.jn (tn4 q q q q)
     ·replace h:=cndF hb9 h
      refine W.sk ?_
      obtain rfl:=sm h
      exact Px.jn (tn4 q q q q)
    refine Px.bk ?_
    obtain rfl:=sm h
    exact Px.jn (tn4 q q q q)
   refine Px.sq<|W.rx [(1,_),(2,_),(5,_),(6,_)] (Vm q<|Rv (O.add (.lit q) (.k q))<|RunL.re (G1:=[(1,iR eItem a1),(2,.obj (eGrammar_0.cells a0)),(5,iR eItem j5),(12,I64 (w64 (s1.2+1)))]) (tn4 q q q q)<|Va q<|Fi (tn4 q q q q)) ?_
   obtain rfl:=sm h
   exact Px.go (tn4 q q q q)
  ·replace h:=cndF hb4 h
   refine W.xi ?_
   refine Px.sqE ?_
   obtain rfl:=sm h
   exact Px.x1 (.n q .nil)
 refine Px.bkH ?_
 refine Px.sq<|W.sq' ?_
 refine W.rx [(4,_)] (Rv (O.mv (.imm q))<|Rv (O.az (.imm q))<|Fi (.n q .nil)) ?_
 refine Px.sq<|W.rt ?_
 obtain rfl:=sm h
 exact Px.fin (Fin.ro (.f q q .nil) q (ode (by kernel_rfl)) (.no (.no .nil)) q (.inr q))
theorem con37 (a0:Grammar) (a1:(List Item)) (r:(List Item)) (h:pf37 a0 a1=some r):Con Try.prog 37 [.agg (eGrammar_0.cells a0),iR eItem a1] [none,none] (iR eItem r):=by
 unfold pf37 at h
 refine Con.go (N:=⟨59,[]⟩) Try.func37 q q q q (W.fin ?_)
 refine W.st [(0,.agg (eGrammar_0.cells a0)),(1,iR eItem a1)] ?_
 refine W.sq'<|W.rx [(1,_),(2,_)] (Rv (O.box (.aggF q q) q)<|Rv (O.az .knil)<|Fi (tn2 q q)) ?_
 refine Px.sq<|W.sq' ?_
 obtain ⟨x1,hx1,h⟩:=bnd h
 refine W.rx [(2,_),(5,_)] (Rv (O.ldON (cs':=[iR eTok a0.Toks,iR eNon a0.Nons,iR eProd_0 a0.Prods,SS a0.Pro,SS a0.Tail]) q (.obj q) at38 q q)<|Rv (O.mv (.imm q))<|Rc (PC.go (.cc (.aggF q q) (.cc (.imm q) .nil)) (con73 a0 a1 _ hx1) call73 q)<|Rv (O.az (.imm q))<|Fi (tn2 q q)) ?_
 refine Px.sq<|W.sq' ?_
 refine W.sq'<|W.rx [(2,_),(5,_),(6,_)] (Vk q<|Fi (tn3 q q q)) ?_
 refine Px.sq<|W.bk ?_
 obtain ⟨x3,hl,h⟩:=bnd h
 refine W.tr (G1:=[(2,.obj (eGrammar_0.cells a0)),(5,iR eItem x1),(6,I64 (-1))]) (tn3 q q q) ?_
 refine W.lp1 (s:=(x1,(-1))) (fun (s2:List Item × Int)=>[(2,.obj (eGrammar_0.cells a0)),(5,iR eItem s2.1),(6,I64 s2.2)]) 0 (fun (x3:List Item)=>[(5,iR eItem x3)]) hl (fun s2 o h=>?_) ?_
 ·clear hl
  refine W.sq'<|W.sq' ?_
  refine W.rx [(2,_),(5,_),(16,_)] (Vm q<|Rv (O.mv (.imm q))<|Rv (O.lenI (.imm q) sl66)<|Rv (O.neq (.lit q) (.lit q))<|Fi (tn3 q q q)) ?_
  refine Px.sq<|W.cnd q (fun hb5=>?_) (fun hb5=>?_)
  ·replace h:=cndT hb5 h
   refine W.sk<|Px.sq ?_
   obtain ⟨j6,hj,h⟩:=bnd h
   refine W.jn [(2,.obj (eGrammar_0.cells a0)),(5,iR eItem j6.1),(6,I64 j6.2)] ?_ ?_
   ·clear h; have h:=hj; clear hj
    refine W.bk<|W.sq' ?_
    refine W.rx [(2,_),(5,_),(6,_)] (Rv (O.mv (.imm q))<|Rv (O.lenI (.imm q) sl66)<|Va q<|Fi (tn3 q q q)) ?_
    refine Px.sq<|W.sq' ?_
    refine W.rx [(2,_),(5,_),(6,_),(7,_)] (Vk q<|Fi (tn4 q q q q)) ?_
    refine Px.sq ?_
    obtain ⟨j7,hj,h⟩:=bnd h
    refine W.jn [(2,.obj (eGrammar_0.cells a0)),(5,iR eItem j7),(6,I64 (s2.1.length:Int))] ?_ ?_
    ·clear h; have h:=hj; clear hj
     refine W.bk ?_
     obtain ⟨x9,hl,h⟩:=bnd h
     refine W.tr (G1:=[(2,.obj (eGrammar_0.cells a0)),(5,iR eItem s2.1),(6,I64 (s2.1.length:Int)),(7,I64 0)]) (tn4 q q q q) ?_
     refine W.lp1 (s:=(s2.1,0)) (fun (s8:List Item × Int)=>[(2,.obj (eGrammar_0.cells a0)),(5,iR eItem s8.1),(6,I64 (s2.1.length:Int)),(7,I64 s8.2)]) 2 (fun (x9:List Item)=>[(2,.obj (eGrammar_0.cells a0)),(5,iR eItem x9),(6,I64 (s2.1.length:Int))]) hl (fun s8 o h=>?_) ?_
     ·clear hl
      refine W.sq'<|W.sq' ?_
      refine W.rx [(2,_),(5,_),(6,_),(7,_),(21,_)] (Vm q<|Vm q<|Rv (O.lss (.lit q) (.lit q))<|Fi (tn5 q q q q q)) ?_
      refine Px.sq<|W.cnd q (fun hb11=>?_) (fun hb11=>?_)
      ·replace h:=cndT hb11 h
       refine W.sk<|Px.sq ?_
       refine W.sq'<|W.bk ?_
       refine W.sq' ?_
       obtain ⟨x12,hx12,h⟩:=bnd h
       obtain ⟨x13,hx13,h⟩:=bnd h
       refine W.rd [[],[],[],[1,2],[1,2,3],rn 0 5 [],rn 0 6 []] [(2,_),(5,_),(6,_),(7,_),(8,_)] mixo (by kernel_rfl) (Dv 0 (O.ldON (cs':=[iR eTok a0.Toks,iR eNon a0.Nons,iR eProd_0 a0.Prods,SS a0.Pro,SS a0.Tail]) q (.obj q) at38 q q)<|Dv 1 (O.mv (.imm q))<|Dv 2 (O.mv (.lit q))<|Dv 3 (O.ixI (.imm q) (.lit q) sl66 hx12)<|Dv 4 (O.ldIN (cs':=[I64 x12.Prod,I64 x12.Dot]) (.iptr q) at72 q q)<|Dc 5 (PC.go (.cc (.aggF q q) (.cc (.aggF q q) .nil)) (con33 a0 x12 _ hx13) call33 q)<|Dv 6 (O.az (.lit q))<|DL.fin q q q (tn5 q q q q q)) ?_
       refine Px.sq<|W.sq' ?_
       refine W.sq'<|W.rx [(2,_),(5,_),(6,_),(7,_),(8,_),(9,_)] (Vk q<|Fi (tn6 q q q q q q)) ?_
       refine Px.sq<|W.bk ?_
       obtain ⟨x15,hl,h⟩:=bnd h
       refine W.tr (G1:=[(2,.obj (eGrammar_0.cells a0)),(5,iR eItem s8.1),(6,I64 (s2.1.length:Int)),(7,I64 s8.2),(8,I64 x13),(9,I64 0)]) (tn6 q q q q q q) ?_
       refine W.lp1 (s:=(s8.1,0)) (fun (s14:List Item × Int)=>[(2,.obj (eGrammar_0.cells a0)),(5,iR eItem s14.1),(6,I64 (s2.1.length:Int)),(7,I64 s8.2),(8,I64 x13),(9,I64 s14.2)]) 4 (fun (x15:List Item)=>[(2,.obj (eGrammar_0.cells a0)),(5,iR eItem x15),(6,I64 (s2.1.length:Int)),(7,I64 s8.2)]) hl (fun s14 o h=>?_) ?_
       ·clear hl
        refine W.sq'<|W.sq' ?_
        obtain ⟨c18,hj,h⟩:=bnd h
        refine W.rx [(2,.obj (eGrammar_0.cells a0)),(5,iR eItem s14.1),(6,I64 (s2.1.length:Int)),(7,I64 s8.2),(8,I64 x13),(9,I64 s14.2),(38,BB c18)] ?_ ?_
        ·refine Vm q<|Rv (O.fO q (.obj q) fd38_2 q)<|Rv (O.ldO (y:=iR eProd_0 a0.Prods) q (.ptr q) ct36 q q)<|Rv (O.lenI (.imm q) sl36)<|Rv (O.lss (.lit q) (.lit q))<|Rv (O.mv (.lit q)) ?_
         rcases cnd hj with ⟨hb17,hj⟩ | ⟨hb17,hj⟩
         ·obtain rfl:=sm hj
          exact RunL.v (O.mv (.lit q)) q q (.yb q q hb17)<|RunL.v (O.geq (.lit q) (.k q)) q q (.yb q q hb17)<|Rv (O.pkT (.lit q) hb17 (.lit q))<|Fi (tn7 q q q q q q q)
         ·obtain rfl:=sm hj
          exact RunL.ps q q hb17 q q<|RunL.ps q q hb17 q q<|Rv (O.pkF (.lit q) hb17 (.k q))<|Fi (tn7 q q q q q q q)
        refine Px.sq<|W.cnd q (fun hb19=>?_) (fun hb19=>?_)
        ·replace h:=cndT hb19 h
         refine W.sk<|Px.sq ?_
         refine W.sq' ?_
         obtain ⟨j20,hj,h⟩:=bnd h
         refine W.jn [(2,.obj (eGrammar_0.cells a0)),(5,iR eItem j20),(6,I64 (s2.1.length:Int)),(7,I64 s8.2),(8,I64 x13),(9,I64 s14.2)] ?_ ?_
         ·clear h; have h:=hj; clear hj
          refine W.bk<|W.sq' ?_
          obtain ⟨x21,hx21,h⟩:=bnd h
          refine W.rx [(2,_),(5,_),(6,_),(7,_),(8,_),(9,_),(49,_)] (Rv (O.fO q (.obj q) fd38_2 q)<|Rv (O.ldO (y:=iR eProd_0 a0.Prods) q (.ptr q) ct36 q q)<|Vm q<|Rv (O.ixI (.imm q) (.lit q) sl36 hx21)<|Rv (O.fI (.iptr q) fd83_0)<|Rv (O.ldI (x:=I64 x21.Left) (.iptr q) ct3 q)<|Vm q<|Rv (O.sub (.lit q) (.k q))<|Rv (O.eql (.lit q) (.lit q))<|Fi (tn7 q q q q q q q)) ?_
          refine Px.sq ?_
          obtain ⟨j22,hj,h⟩:=bnd h
          refine W.jn [(2,.obj (eGrammar_0.cells a0)),(5,iR eItem j22),(6,I64 (s2.1.length:Int)),(7,I64 s8.2),(8,I64 x13),(9,I64 s14.2)] ?_ ?_
          ·clear h; have h:=hj; clear hj
           refine W.cnd q (fun hb23=>?_) (fun hb23=>?_)
           ·replace h:=cndT hb23 h
            obtain ⟨x24,hx24,h⟩:=bnd h
            refine W.rx [(2,_),(5,_),(6,_),(7,_),(8,_),(9,_)] (Rv (O.mv (.imm q))<|Vm q<|Rv (O.bu (cs:=[I64 s14.2,I64 0]) sc72 ze72 q q q)<|Rc (PC.go (.cc (.imm q) (.cc (.aggF q q) .nil)) (con74 s14.1 (⟨s14.2,0⟩:Item) _ hx24) call74 q)<|RunL.re (G1:=[(2,.obj (eGrammar_0.cells a0)),(6,I64 (s2.1.length:Int)),(7,I64 s8.2),(8,I64 x13),(9,I64 s14.2),(53,iR eItem x24)]) (tn6 q q q q q q)<|Rv (O.az (.imm q))<|Fi (tn6 q q q q q q)) ?_
            obtain rfl:=sm h
            exact Px.jn (tn6 q q q q q q)
           ·replace h:=cndF hb23 h
            refine W.sk ?_
            obtain rfl:=sm h
            exact Px.jn (tn6 q q q q q q)
          refine Px.bk ?_
          obtain rfl:=sm h
          exact Px.jn (tn6 q q q q q q)
         refine Px.sq<|W.rx [(2,_),(5,_),(6,_),(7,_),(8,_),(9,_)] (Vm q<|Rv (O.add (.lit q) (.k q))<|RunL.re (G1:=[(2,.obj (eGrammar_0.cells a0)),(5,iR eItem j20),(6,I64 (s2.1.length:Int)),(7,I64 s8.2),(8,I64 x13),(40,I64 (w64 (s14.2+1)))]) (tn6 q q q q q q)<|Va q<|Fi (tn6 q q q q q q)) ?_
         obtain rfl:=sm h
         exact Px.go (tn6 q q q q q q)
        ·replace h:=cndF hb19 h
         refine W.xi ?_
         refine Px.sqE ?_
         obtain rfl:=sm h
         exact Px.x1 (tn4 q q q q)
       refine Px.bkH ?_
       refine Px.sq<|W.sq' ?_
       refine W.rx [(2,_),(5,_),(6,_),(7,_),(57,_)] (Rv (O.mv (.imm q))<|Rv (O.lenI (.imm q) sl66)<|Vm q<|Rv (O.neq (.lit q) (.lit q))<|Fi (tn5 q q q q q)) ?_
       refine Px.sq<|W.cnd q (fun hb25=>?_) (fun hb25=>?_)
       ·replace h:=cndT hb25 h
        refine W.xi ?_
        refine Px.bkM q ?_
        refine Px.sqE ?_
        obtain rfl:=sm h
        exact Px.x1 (tn3 q q q)
       ·replace h:=cndF hb25 h
        refine W.sk<|Px.bk ?_
        refine Px.sq<|W.rx [(2,_),(5,_),(6,_),(7,_)] (Vm q<|Rv (O.add (.lit q) (.k q))<|RunL.re (G1:=[(2,.obj (eGrammar_0.cells a0)),(5,iR eItem x15),(6,I64 (s2.1.length:Int)),(23,I64 (w64 (s8.2+1)))]) (tn4 q q q q)<|Va q<|Fi (tn4 q q q q)) ?_
        obtain rfl:=sm h
        exact Px.go (tn4 q q q q)
      ·replace h:=cndF hb11 h
       refine W.xi ?_
       refine Px.sqE ?_
       obtain rfl:=sm h
       exact Px.x1 (tn3 q q q)
     refine Px.bkH ?_
     obtain rfl:=sm h
     exact Px.jn (tn3 q q q)
    refine Px.bk ?_
    obtain rfl:=sm h
    exact Px.jn (tn3 q q q)
   obtain rfl:=sm h
   exact Px.go (tn3 q q q)
  ·replace h:=cndF hb5 h
   refine W.xi ?_
   refine Px.sqE ?_
   obtain rfl:=sm h
   exact Px.x1 (.n q .nil)
 refine Px.bkH ?_
 refine Px.sq<|W.sq' ?_
 refine W.rx [(4,_)] (Rv (O.mv (.imm q))<|Rv (O.az (.imm q))<|Fi (.n q .nil)) ?_
 refine Px.sq<|W.rt ?_
 obtain rfl:=sm h
 exact Px.fin (Fin.ro (.f q q .nil) q (ode (by kernel_rfl)) (.no (.no .nil)) q (.inr q))
theorem con39 (a0:Grammar) (a1:(List Item)) (a2:Int) (r:(List Item)) (h:pf39 a0 a1 a2=some r):Con Try.prog 39 [.agg (eGrammar_0.cells a0),iR eItem a1,I64 a2] [none,none,none] (iR eItem r):=by
 unfold pf39 at h
 refine Con.go (N:=⟨48,[]⟩) Try.func39 q q q q (W.fin ?_)
 refine W.st [(0,.agg (eGrammar_0.cells a0)),(1,iR eItem a1),(2,I64 a2)] ?_
 refine W.sq'<|W.rx [(1,_),(2,_),(3,_)] (Rv (O.box (.aggF q q) q)<|Rv (O.az .knil)<|Fi (tn3 q q q)) ?_
 refine Px.sq<|W.sq' ?_
 refine W.rx [(1,_),(2,_),(3,_),(7,_)] (Rv (O.az .knil)<|Fi (tn4 q q q q)) ?_
 refine Px.sq<|W.sq' ?_
 obtain ⟨x1,hx1,h⟩:=bnd h
 refine W.rx [(2,_),(3,_),(7,_),(8,_)] (Rv (O.ldON (cs':=[iR eTok a0.Toks,iR eNon a0.Nons,iR eProd_0 a0.Prods,SS a0.Pro,SS a0.Tail]) q (.obj q) at38 q q)<|Rv (O.mv (.imm q))<|Rc (PC.go (.cc (.aggF q q) (.cc (.imm q) .nil)) (con37 a0 a1 _ hx1) call37 q)<|Rv (O.az (.imm q))<|Fi (tn4 q q q q)) ?_
 refine Px.sq<|W.sq' ?_
 refine W.sq'<|W.rx [(2,_),(3,_),(7,_),(8,_),(9,_)] (Vk q<|Fi (tn5 q q q q q)) ?_
 refine Px.sq<|W.bk ?_
 obtain ⟨x3,hl,h⟩:=bnd h
 refine W.tr (G1:=[(2,I64 a2),(3,.obj (eGrammar_0.cells a0)),(7,iR eItem ([]:List Item)),(8,iR eItem x1),(9,I64 0)]) (.n q (.n q (.w q q .nilImm (tn2 q q)))) ?_
 refine W.lp1 (s:=(([]:List Item),0)) (fun (s2:List Item × Int)=>[(2,I64 a2),(3,.obj (eGrammar_0.cells a0)),(7,iR eItem s2.1),(8,iR eItem x1),(9,I64 s2.2)]) 0 (fun (x3:List Item)=>[(7,iR eItem x3)]) hl (fun s2 o h=>?_) ?_
 ·clear hl
  refine W.sq'<|W.sq' ?_
  refine W.rx [(2,_),(3,_),(7,_),(8,_),(9,_),(17,_)] (Vm q<|Rv (O.mv (.imm q))<|Rv (O.lenI (.imm q) sl66)<|Rv (O.lss (.lit q) (.lit q))<|Fi (tn6 q q q q q q)) ?_
  refine Px.sq<|W.cnd q (fun hb5=>?_) (fun hb5=>?_)
  ·replace h:=cndT hb5 h
   refine W.sk<|Px.sq ?_
   refine W.sq' ?_
   obtain ⟨j6,hj,h⟩:=bnd h
   refine W.jn [(2,I64 a2),(3,.obj (eGrammar_0.cells a0)),(7,iR eItem j6),(8,iR eItem x1),(9,I64 s2.2)] ?_ ?_
   ·clear h; have h:=hj; clear hj
    refine W.bk<|W.sq' ?_
    obtain ⟨x7,hx7,h⟩:=bnd h
    obtain ⟨x8,hx8,h⟩:=bnd h
    refine W.rd [[],[],[],[1,2],[1,2,3],rn 0 5 [],rn 0 6 []] [(2,_),(3,_),(7,_),(8,_),(9,_),(10,_)] mixo (by kernel_rfl) (Dv 0 (O.ldON (cs':=[iR eTok a0.Toks,iR eNon a0.Nons,iR eProd_0 a0.Prods,SS a0.Pro,SS a0.Tail]) q (.obj q) at38 q q)<|Dv 1 (O.mv (.imm q))<|Dv 2 (O.mv (.lit q))<|Dv 3 (O.ixI (.imm q) (.lit q) sl66 hx7)<|Dv 4 (O.ldIN (cs':=[I64 x7.Prod,I64 x7.Dot]) (.iptr q) at72 q q)<|Dc 5 (PC.go (.cc (.aggF q q) (.cc (.aggF q q) .nil)) (con33 a0 x7 _ hx8) call33 q)<|Dv 6 (O.az (.lit q))<|DL.fin q q q (tn6 q q q q q q)) ?_
    refine Px.sq<|W.sq' ?_
    obtain ⟨c10,hj,h⟩:=bnd h
    refine W.rx [(2,I64 a2),(3,.obj (eGrammar_0.cells a0)),(7,iR eItem s2.1),(8,iR eItem x1),(9,I64 s2.2),(32,BB c10)] ?_ ?_
    ·refine Vm q<|Rv (O.geq (.lit q) (.k q))<|Rv (O.mv (.lit q)) ?_
     rcases cnd hj with ⟨hb9,hj⟩ | ⟨hb9,hj⟩
     ·obtain rfl:=sm hj
      exact RunL.v (O.mv (.lit q)) q q (.yb q q hb9)<|RunL.v (O.mv (.lit q)) q q (.yb q q hb9)<|RunL.v (O.eql (.lit q) (.lit q)) q q (.yb q q hb9)<|Rv (O.pkT (.lit q) hb9 (.lit q))<|Fi (tn6 q q q q q q)
     ·obtain rfl:=sm hj
      exact RunL.ps q q hb9 q q<|RunL.ps q q hb9 q q<|RunL.ps q q hb9 q q<|Rv (O.pkF (.lit q) hb9 (.k q))<|Fi (tn6 q q q q q q)
    refine Px.sq ?_
    obtain ⟨j11,hj,h⟩:=bnd h
    refine W.jn [(2,I64 a2),(3,.obj (eGrammar_0.cells a0)),(7,iR eItem j11),(8,iR eItem x1),(9,I64 s2.2)] ?_ ?_
    ·clear h; have h:=hj; clear hj
     refine W.cnd q (fun hb12=>?_) (fun hb12=>?_)
     ·replace h:=cndT hb12 h
      refine W.tr (G1:=[(2,I64 a2),(3,.obj (eGrammar_0.cells a0)),(7,iR eItem s2.1),(8,iR eItem x1),(9,I64 s2.2)]) (tn5 q q q q q) ?_
      obtain ⟨x13,hx13,h⟩:=bnd h
      obtain ⟨x14,hx14,h⟩:=bnd h
      obtain ⟨x15,hx15,h⟩:=bnd h
      refine W.rd [[],[],[],[1,2],[1,2,3],[1,2,3,4],[],[],[6,7],[6,7,8],[6,7,8,9],rn 6 5 [],rn 1 11 [],rn 0 13 [],rn 0 14 []] [(2,_),(3,_),(7,_),(8,_),(9,_)] mixo (by kernel_rfl) (Dv 0 (O.mv (.imm q))<|Dv 1 (O.mv (.imm q))<|Dv 2 (O.mv (.lit q))<|Dv 3 (O.ixI (.imm q) (.lit q) sl66 hx13)<|Dv 4 (O.fI (.iptr q) fd72_0)<|Dv 5 (O.ldI (x:=I64 x13.Prod) (.iptr q) ct3 q)<|Dv 6 (O.mv (.imm q))<|Dv 7 (O.mv (.lit q))<|Dv 8 (O.ixI (.imm q) (.lit q) sl66 hx14)<|Dv 9 (O.fI (.iptr q) fd72_1)<|Dv 10 (O.ldI (x:=I64 x14.Dot) (.iptr q) ct3 q)<|Dv 11 (O.add (.lit q) (.k q))<|Dv 12 (O.bu (cs:=[I64 x13.Prod,I64 (w64 (x14.Dot+1))]) sc72 ze72 q q q)<|Dc 13 (PC.go (.cc (.imm q) (.cc (.aggF q q) .nil)) (con74 s2.1 (⟨x13.Prod,w64 (x14.Dot+1)⟩:Item) _ hx15) call74 q)<|DL.bv 14 (G2:=[(2,I64 a2),(3,.obj (eGrammar_0.cells a0)),(8,iR eItem x1),(9,I64 s2.2)]) (EO.aG (y':=iR eItem x15) q q (.imm q) (.f .nil) .refl (tn4 q q q q) q q) q q q q (by kernel_rfl) (by kernel_rfl)<|DL.fin q q q (tn5 q q q q q)) ?_
      obtain rfl:=sm h
      exact Px.jn (tn5 q q q q q)
     ·replace h:=cndF hb12 h
      refine W.sk ?_
      obtain rfl:=sm h
      exact Px.jn (tn5 q q q q q)
    refine Px.bk ?_
    obtain rfl:=sm h
    exact Px.jn (tn5 q q q q q)
   refine Px.sq<|W.rx [(2,_),(3,_),(7,_),(8,_),(9,_)] (Vm q<|Rv (O.add (.lit q) (.k q))<|RunL.re (G1:=[(2,I64 a2),(3,.obj (eGrammar_0.cells a0)),(7,iR eItem j6),(8,iR eItem x1),(19,I64 (w64 (s2.2+1)))]) (tn5 q q q q q)<|Va q<|Fi (tn5 q q q q q)) ?_
   obtain rfl:=sm h
   exact Px.go (tn5 q q q q q)
  ·replace h:=cndF hb5 h
   refine W.xi ?_
   refine Px.sqE ?_
   obtain rfl:=sm h
   exact Px.x1 (.n q .nil)
 refine Px.bkH ?_
 refine Px.sq<|W.sq' ?_
 refine W.rx [(6,_)] (Rv (O.mv (.imm q))<|Rv (O.az (.imm q))<|Fi (.n q .nil)) ?_
 refine Px.sq<|W.rt ?_
 obtain rfl:=sm h
 exact Px.fin (Fin.ro (.f q q .nil) q (ode (by kernel_rfl)) (.no (.no (.no .nil))) q (.inr q))
theorem con6 (a0:Source) (a1:yuccalaw0_Gr) (a2:(List Int)) (a3:(List Item)) (a4:Int) (r:Bool) (h:pf6 a0 a1 a2 a3 a4=some r):Con Try.prog 6 [.agg (eSource_0.cells a0),.agg [I64 a1.Nons,iR (eM eI) a1.Rules,iR eI a1.Levels,iR eI a1.Inner,BB a1.Bare],iR eI a2,iR eItem a3,I64 a4] [none,none,none,none,none] (BB r):=by
 unfold pf6 at h
 refine Con.go (N:=⟨111,[]⟩) Try.func6 q q q q (W.fin ?_)
 refine W.st [(0,.agg (eSource_0.cells a0)),(1,.agg [I64 a1.Nons,iR (eM eI) a1.Rules,iR eI a1.Levels,iR eI a1.Inner,BB a1.Bare]),(2,iR eI a2),(3,iR eItem a3),(4,I64 a4)] ?_
 refine W.sq'<|W.rx [(2,_),(3,_),(4,_),(5,_),(6,_)] (Rv (O.box (.aggF q q) q)<|Rv (O.box (.aggF q q) q)<|Vk q<|Fi (tn5 q q q q q)) ?_
 refine Px.sq<|W.sq' ?_
 refine W.sq' ?_
 obtain ⟨x1,hx1,h⟩:=bnd h
 refine W.rx [(2,_),(3,_),(4,_),(5,_),(6,_),(21,_)] (Rc (PC.go .nil (con29  _ hx1) call29 q)<|Rv (O.not (.lit q))<|Fi (tn6 q q q q q q)) ?_
 refine Px.sq<|W.cnd q (fun hb2=>?_) (fun hb2=>?_)
 ·replace h:=cndT hb2 h
  refine W.sq'<|W.rx [(10,_)] (Vk q<|Fi (.n q .nil)) ?_
  refine Px.sq<|W.rt ?_
  refine Px.sqR ?_
  obtain rfl:=sm h
  exact Px.fin (Fin.ro (.f q q .nil) q (ode (by kernel_rfl)) (.no (.no (.no (.no (.no .nil))))) q (.inr q))
 ·replace h:=cndF hb2 h
  refine W.sk<|Px.sq ?_
  refine W.sq' ?_
  obtain ⟨x3,hx3,h⟩:=bnd h
  obtain ⟨x4,hx4,h⟩:=bnd h
  refine W.rd [[],[0],[],[0,1,2],[0,1,2,3],rn 0 5 []] [(2,_),(3,_),(4,_),(11,_)] mixo (by kernel_rfl) (Dv 0 (O.ldON (cs':=[SS a0.Pro,iR eDecl_0 a0.Decls,iR eRule_0 a0.Rules,SS a0.Tail]) q (.obj q) at25 q q)<|Dc 1 (PC.go (.cc (.aggF q q) .nil) (con18 a0 _ hx3) call18 q)<|Dv 2 (O.ldON (cs':=[I64 a1.Nons,iR (eM eI) a1.Rules,iR eI a1.Levels,iR eI a1.Inner,BB a1.Bare]) q (.obj q) at29 q q)<|Dc 3 (PC.go (.cc (.aggF q q) .nil) (con19 a1 _ hx4) call19 q)<|Dv 4 (O.bs (ys:=[.agg (eSource_0.cells x3),.agg (eSource_0.cells x4)]) eSource_0 [x3,x4] sl33 q q q q q q zt25 q q)<|DL.bv 5 (G2:=[(2,iR eI a2),(3,iR eItem a3),(4,I64 a4)]) (EO.aR q q (.own q) q (.n q q (.n q q (.n q q .nil))) q q) q q q q (by kernel_rfl) (by kernel_rfl)<|DL.fin q q q (tn4 q q q q)) ?_
  refine Px.sq<|W.sq' ?_
  refine W.sq'<|W.rx [(2,_),(3,_),(4,_),(11,_),(12,_)] (Vk q<|Fi (tn5 q q q q q)) ?_
  refine Px.sq<|W.bk ?_
  obtain ⟨x6,hl,h⟩:=bnd h
  refine W.tr (G1:=[(2,iR eI a2),(3,iR eItem a3),(4,I64 a4),(11,oR eSource_0 [x3,x4]),(12,I64 0)]) (tn5 q q q q q) ?_
  refine W.lp2 (s:=0) (fun (s5:Int)=>[(2,iR eI a2),(3,iR eItem a3),(4,I64 a4),(11,oR eSource_0 [x3,x4]),(12,I64 s5)]) 0 (fun (x7:Unit)=>[]) (fun (x8:Bool)=>[(10,BB x8)]) hl (fun s5 o h=>?_) (fun x7 hx=>?_) (fun x8 hx=>?_)
  ·clear hl
   refine W.sq'<|W.sq' ?_
   refine W.rx [(2,_),(3,_),(4,_),(11,_),(12,_),(30,_)] (Vm q<|Rv (O.mv (.own q))<|Rv (O.lenO (.brw q) sl33)<|Rv (O.lss (.lit q) (.lit q))<|Fi (tn6 q q q q q q)) ?_
   refine Px.sq<|W.cnd q (fun hb9=>?_) (fun hb9=>?_)
   ·replace h:=cndT hb9 h
    refine W.sk<|Px.sq ?_
    refine W.sq'<|W.bk ?_
    refine W.sq' ?_
    obtain ⟨x10,hx10,h⟩:=bnd h
    obtain ⟨x11,hx11,h⟩:=bnd h
    refine W.rx [(2,_),(3,_),(4,_),(11,_),(12,_),(13,_),(14,_)] (Rv (O.mv (.own q))<|Vm q<|Rv (O.ixO (en:=eSource_0) q (.brw q) (.lit q) sl33 hx10 q)<|Rv (O.ldEN (en:=eSource_0) (cs':=[SS x10.Pro,iR eDecl_0 x10.Decls,iR eRule_0 x10.Rules,SS x10.Tail]) q (.ptr q) at25 hx10 q q)<|Rc (PC.go (.cc (.aggF q q) .nil) (con20 x10 _ hx11) call20 q)<|Rv (O.mv (.tup q q))<|Rv (O.ex (y:=.agg (eGrammar_0.cells x11.1)) q q q)<|Rv (O.ex (y:=BB x11.2) q q q)<|Rv (O.al (cs:=[.nils,.nils,.nils,SS S0,SS S0]) ze38 q q)<|RunL.sO (G2:=[(2,iR eI a2),(3,iR eItem a3),(4,I64 a4),(11,oR eSource_0 [x3,x4]),(12,I64 s5),(13,.obj (eGrammar_0.cells x11.1)),(40,BB x11.2)]) (cs2:=[iR eTok x11.1.Toks,iR eNon x11.1.Nons,iR eProd_0 x11.1.Prods,SS x11.1.Pro,SS x11.1.Tail]) q (.obj q) (.aggF q q) q sz38 q q q q (.n q q (.n q q (.n q q (.n q q (.n q q (.b q (.n q q .nil)))))))<|Va q<|Fi (tn7 q q q q q q q)) ?_
    refine Px.sq<|W.sq' ?_
    refine W.sq'<|W.rx [(2,_),(3,_),(4,_),(11,_),(12,_),(13,_),(42,_)] (Vm q<|Rv (O.not (.lit q))<|Fi (tn7 q q q q q q q)) ?_
    refine Px.sq<|W.cnd q (fun hb12=>?_) (fun hb12=>?_)
    ·replace h:=cndT hb12 h
     refine W.xi ?_
     refine Px.sqE ?_
     refine Px.bkH ?_
     refine Px.sq<|W.rx [(2,_),(3,_),(4,_),(11,_),(12,_)] (Vm q<|Rv (O.add (.lit q) (.k q))<|RunL.re (G1:=[(2,iR eI a2),(3,iR eItem a3),(4,I64 a4),(11,oR eSource_0 [x3,x4]),(32,I64 (w64 (s5+1)))]) (tn5 q q q q q)<|Va q<|Fi (tn5 q q q q q)) ?_
     obtain rfl:=sm h
     exact Px.go (tn5 q q q q q)
    ·replace h:=cndF hb12 h
     refine W.sk<|Px.sq ?_
     refine W.sq' ?_
     obtain ⟨x13,hx13,h⟩:=bnd h
     obtain ⟨x14,hx14,h⟩:=bnd h
     refine W.rx [(2,_),(3,_),(4,_),(11,_),(12,_),(13,_),(15,_)] (Rv (O.ldON (cs':=[iR eTok x11.1.Toks,iR eNon x11.1.Nons,iR eProd_0 x11.1.Prods,SS x11.1.Pro,SS x11.1.Tail]) q (.obj q) at38 q q)<|Rv (O.mv (.imm q))<|Rc (PC.go (.cc (.aggF q q) (.cc (.imm q) (.cc (.k q) .nil))) (con30 x11.1 a2 8 _ hx13) call30 q)<|Rv (O.mv (.imm q))<|Rc (PC.go (.cc (.imm q) (.cc (.k q) .nil)) (con31 a3 6 _ hx14) call31 q)<|Rv (O.bs (ys:=[iR eItem x13,iR eItem x14]) (eM eItem) [x13,x14] sl69 q q q q q q zt66 q q)<|RunL.ea (G2:=[(2,iR eI a2),(3,iR eItem a3),(4,I64 a4),(11,oR eSource_0 [x3,x4]),(12,I64 s5),(13,.obj (eGrammar_0.cells x11.1))]) q (EO.aR q q (.own q) q (.n q q (.n q q (.n q q (.n q q (.n q q (.n q q .nil)))))) q q)<|Fi (tn7 q q q q q q q)) ?_
     refine Px.sq<|W.sq' ?_
     refine W.rx [(2,_),(3,_),(4,_),(11,_),(12,_),(13,_),(15,_),(16,_)] (Vk q<|Fi (tn8 q q q q q q q q)) ?_
     refine Px.sq<|W.bk ?_
     obtain ⟨x16,hl,h⟩:=bnd h
     refine W.tr (G1:=[(2,iR eI a2),(3,iR eItem a3),(4,I64 a4),(11,oR eSource_0 [x3,x4]),(12,I64 s5),(13,.obj (eGrammar_0.cells x11.1)),(15,oR (eM eItem) [x13,x14]),(16,I64 0)]) (tn8 q q q q q q q q) ?_
     refine W.lp2 (s:=0) (fun (s15:Int)=>[(2,iR eI a2),(3,iR eItem a3),(4,I64 a4),(11,oR eSource_0 [x3,x4]),(12,I64 s5),(13,.obj (eGrammar_0.cells x11.1)),(15,oR (eM eItem) [x13,x14]),(16,I64 s15)]) 2 (fun (x17:Unit)=>[(2,iR eI a2),(3,iR eItem a3),(4,I64 a4),(11,oR eSource_0 [x3,x4]),(12,I64 s5)]) (fun (x18:Bool)=>[(10,BB x18)]) hl (fun s15 o h=>?_) (fun x17 hx=>?_) (fun x18 hx=>?_)
     ·clear hl
      refine W.sq'<|W.sq' ?_
      refine W.rx [(2,_),(3,_),(4,_),(11,_),(12,_),(13,_),(15,_),(16,_),(50,_)] (Vm q<|Rv (O.lss (.lit q) (.k q))<|Fi (tn9 q q q q q q q q q)) ?_
      refine Px.sq<|W.cnd q (fun hb19=>?_) (fun hb19=>?_)
      ·replace h:=cndT hb19 h
       refine W.sk<|Px.sq ?_
       refine W.sq'<|W.bk ?_
       refine W.sq' ?_
       obtain ⟨x20,hx20,h⟩:=bnd h
       refine W.rx [(2,_),(3,_),(4,_),(11,_),(12,_),(13,_),(15,_),(16,_),(17,_)] (Rv (O.mv (.own q))<|Vm q<|Rv (O.ixO (en:=(eM eItem)) q (.brw q) (.lit q) sl69 hx20 q)<|Rv (O.ldE (en:=(eM eItem)) (x':=iR eItem x20) q (.ptr q) ct66 hx20 q q)<|Rv (O.az (.imm q))<|Fi (tn9 q q q q q q q q q)) ?_
       refine Px.sq<|W.sq' ?_
       refine W.sq'<|W.rx [(2,_),(3,_),(4,_),(11,_),(12,_),(13,_),(15,_),(16,_),(17,_),(18,_)] (Vk q<|Fi (tn10 q q q q q q q q q q)) ?_
       refine Px.sq<|W.bk ?_
       obtain ⟨x22,hl,h⟩:=bnd h
       refine W.tr (G1:=[(2,iR eI a2),(3,iR eItem a3),(4,I64 a4),(11,oR eSource_0 [x3,x4]),(12,I64 s5),(13,.obj (eGrammar_0.cells x11.1)),(15,oR (eM eItem) [x13,x14]),(16,I64 s15),(17,iR eItem x20),(18,I64 0)]) (tn10 q q q q q q q q q q) ?_
       refine W.lp2 (s:=0) (fun (s21:Int)=>[(2,iR eI a2),(3,iR eItem a3),(4,I64 a4),(11,oR eSource_0 [x3,x4]),(12,I64 s5),(13,.obj (eGrammar_0.cells x11.1)),(15,oR (eM eItem) [x13,x14]),(16,I64 s15),(17,iR eItem x20),(18,I64 s21)]) 4 (fun (x23:Unit)=>[(2,iR eI a2),(3,iR eItem a3),(4,I64 a4),(11,oR eSource_0 [x3,x4]),(12,I64 s5),(13,.obj (eGrammar_0.cells x11.1)),(15,oR (eM eItem) [x13,x14]),(16,I64 s15),(17,iR eItem x20)]) (fun (x24:Bool)=>[(10,BB x24)]) hl (fun s21 o h=>?_) (fun x23 hx=>?_) (fun x24 hx=>?_)
       ·clear hl
        refine W.sq'<|W.sq' ?_
        refine W.rx [(2,_),(3,_),(4,_),(11,_),(12,_),(13,_),(15,_),(16,_),(17,_),(18,_),(60,_)] (Vm q<|Rv (O.mv (.imm q))<|Rv (O.lenI (.imm q) sl66)<|Rv (O.lss (.lit q) (.lit q))<|Fi (tn11 q q q q q q q q q q q)) ?_
        refine Px.sq<|W.cnd q (fun hb25=>?_) (fun hb25=>?_)
        ·replace h:=cndT hb25 h
         refine W.sk<|Px.sq ?_
         refine W.sq'<|W.bk ?_
         refine W.sq' ?_
         obtain ⟨x26,hx26,h⟩:=bnd h
         obtain ⟨x27,hx27,h⟩:=bnd h
         obtain ⟨x28,hx28,h⟩:=bnd h
         obtain ⟨x29,hx29,h⟩:=bnd h
         refine W.rd [[],[],[],[1,2],[1,2,3],rn 0 5 [],[],[],[],[7,8],[7,8,9],rn 0 11 [],rn 0 12 []] [(2,_),(3,_),(4,_),(11,_),(12,_),(13,_),(15,_),(16,_),(17,_),(18,_),(75,_)] mixo (by kernel_rfl) (Dv 0 (O.ldON (cs':=[iR eTok x11.1.Toks,iR eNon x11.1.Nons,iR eProd_0 x11.1.Prods,SS x11.1.Pro,SS x11.1.Tail]) q (.obj q) at38 q q)<|Dv 1 (O.mv (.imm q))<|Dv 2 (O.mv (.lit q))<|Dv 3 (O.ixI (.imm q) (.lit q) sl66 hx26)<|Dv 4 (O.ldIN (cs':=[I64 x26.Prod,I64 x26.Dot]) (.iptr q) at72 q q)<|Dc 5 (PC.go (.cc (.aggF q q) (.cc (.aggF q q) .nil)) (con32 x11.1 x26 _ hx27) call32 q)<|Dv 6 (O.ldON (cs':=[iR eTok x11.1.Toks,iR eNon x11.1.Nons,iR eProd_0 x11.1.Prods,SS x11.1.Pro,SS x11.1.Tail]) q (.obj q) at38 q q)<|Dv 7 (O.mv (.imm q))<|Dv 8 (O.mv (.lit q))<|Dv 9 (O.ixI (.imm q) (.lit q) sl66 hx28)<|Dv 10 (O.ldIN (cs':=[I64 x28.Prod,I64 x28.Dot]) (.iptr q) at72 q q)<|Dc 11 (PC.go (.cc (.aggF q q) (.cc (.aggF q q) .nil)) (con33 x11.1 x28 _ hx29) call33 q)<|Dv 12 (O.neq (.lit q) (.lit q))<|DL.fin q q q (tn11 q q q q q q q q q q q)) ?_
         refine Px.sq<|W.cnd q (fun hb30=>?_) (fun hb30=>?_)
         ·replace h:=cndT hb30 h
          refine W.sq'<|W.rx [(10,_)] (Vk q<|Fi (.n q .nil)) ?_
          refine Px.sq<|W.rt ?_
          refine Px.bkR ?_
          refine Px.sqR ?_
          obtain rfl:=sm h
          exact Px.r2 (.n q .nil)
         ·replace h:=cndF hb30 h
          refine W.sk<|Px.bk ?_
          refine Px.sq<|W.rx [(2,_),(3,_),(4,_),(11,_),(12,_),(13,_),(15,_),(16,_),(17,_),(18,_)] (Vm q<|Rv (O.add (.lit q) (.k q))<|RunL.re (G1:=[(2,iR eI a2),(3,iR eItem a3),(4,I64 a4),(11,oR eSource_0 [x3,x4]),(12,I64 s5),(13,.obj (eGrammar_0.cells x11.1)),(15,oR (eM eItem) [x13,x14]),(16,I64 s15),(17,iR eItem x20),(62,I64 (w64 (s21+1)))]) (tn10 q q q q q q q q q q)<|Va q<|Fi (tn10 q q q q q q q q q q)) ?_
          obtain rfl:=sm h
          exact Px.go (tn10 q q q q q q q q q q)
        ·replace h:=cndF hb25 h
         refine W.xi ?_
         refine Px.sqE ?_
         obtain rfl:=sm h
         exact Px.x2 (tn9 q q q q q q q q q)
       ·subst hx
        refine Px.bkH ?_
        refine Px.sq<|W.sq' ?_
        obtain ⟨x31,hx31,h⟩:=bnd h
        refine W.rx [(2,_),(3,_),(4,_),(11,_),(12,_),(13,_),(15,_),(16,_),(17,_),(19,_)] (Rv (O.ldON (cs':=[iR eTok x11.1.Toks,iR eNon x11.1.Nons,iR eProd_0 x11.1.Prods,SS x11.1.Pro,SS x11.1.Tail]) q (.obj q) at38 q q)<|Vm q<|Rc (PC.go (.cc (.aggF q q) (.cc (.lit q) .nil)) (con34 x11.1 a4 _ hx31) call34 q)<|Va q<|Fi (tn10 q q q q q q q q q q)) ?_
        refine Px.sq<|W.sq' ?_
        obtain ⟨c43,hj,h⟩:=bnd h
        refine W.rd [[],[],[0,1],[],[],rn 0 5 [],rn 0 6 [],rn 0 7 [],rn 0 8 [],rn 0 9 [],rn 0 9 [],rn 0 9 [],rn 0 12 [],rn 0 9 [],rn 0 9 [],rn 0 9 [],rn 0 16 [],rn 0 17 [],rn 0 18 [],rn 0 19 [],rn 0 20 [],rn 0 21 [],rn 0 21 [],rn 0 21 [],rn 0 24 [],rn 0 21 [],rn 0 21 [],rn 0 21 [],rn 0 28 [],rn 0 29 [],rn 0 30 [],rn 0 31 []] [(2,iR eI a2),(3,iR eItem a3),(4,I64 a4),(11,oR eSource_0 [x3,x4]),(12,I64 s5),(13,.obj (eGrammar_0.cells x11.1)),(15,oR (eM eItem) [x13,x14]),(16,I64 s15),(110,BB c43)] mixo (by kernel_rfl) ?_ ?_
        ·refine Dv 0 (O.ldON (cs':=[iR eTok x11.1.Toks,iR eNon x11.1.Nons,iR eProd_0 x11.1.Prods,SS x11.1.Pro,SS x11.1.Tail]) q (.obj q) at38 q q)<|Dv 1 (O.mv (.imm q)) ?_
         obtain ⟨x32,hx32,hj⟩:=bnd hj
         refine Dc 2 (PC.go (.cc (.aggF q q) (.cc (.imm q) .nil)) (con36 x11.1 x20 _ hx32) call36 q)<|Dv 3 (O.ldON (cs':=[iR eTok x11.1.Toks,iR eNon x11.1.Nons,iR eProd_0 x11.1.Prods,SS x11.1.Pro,SS x11.1.Tail]) q (.obj q) at38 q q)<|Dv 4 (O.mv (.imm q)) ?_
         obtain ⟨x33,hx33,hj⟩:=bnd hj
         refine Dc 5 (PC.go (.cc (.aggF q q) (.cc (.imm q) .nil)) (con37 x11.1 x20 _ hx33) call37 q) ?_
         obtain ⟨x34,hx34,hj⟩:=bnd hj
         refine Dc 6 (PC.vw (ys:=[.brw eItem.z ⟨81,[]⟩ x32.length,iR eItem x33]) q (.c (.row q) (.s .nil)) (con35 x32 x33 _ hx34) call35 q)<|Dv 7 (O.not (.lit q))<|Dv 8 (O.mv (.lit q)) ?_
         rcases cnd hj with ⟨hb35,hj⟩ | ⟨hb35,hj⟩
         ·obtain rfl:=sm hj
          exact DL.ps 9 q q hb35 q q q q<|DL.ps 10 q q hb35 q q q q<|DL.ps 11 q q hb35 q q q q<|DL.ps 12 q q hb35 q q q q<|DL.ps 13 q q hb35 q q q q<|DL.ps 14 q q hb35 q q q q<|DL.ps 15 q q hb35 q q q q<|DL.ps 16 q q hb35 q q q q<|DL.ps 17 q q hb35 q q q q<|DL.ps 18 q q hb35 q q q q<|Dv 19 (O.pkT (.lit q) hb35 (.k q))<|Dv 20 (O.mv (.lit q))<|DL.ps 21 q q q q q q q<|DL.ps 22 q q q q q q q<|DL.ps 23 q q q q q q q<|DL.ps 24 q q q q q q q<|DL.ps 25 q q q q q q q<|DL.ps 26 q q q q q q q<|DL.ps 27 q q q q q q q<|DL.ps 28 q q q q q q q<|DL.ps 29 q q q q q q q<|DL.ps 30 q q q q q q q<|Dv 31 (O.pkT (.lit q) q (.k q))<|DL.fin q q q (tn9 q q q q q q q q q)
         ·refine DL.v 9 (O.ldON (cs':=[iR eTok x11.1.Toks,iR eNon x11.1.Nons,iR eProd_0 x11.1.Prods,SS x11.1.Pro,SS x11.1.Tail]) q (.obj q) at38 q q) q q q q (.yb q q hb35)<|DL.v 10 (O.mv (.imm q)) q q q q (.yb q q hb35)<|DL.v 11 (O.mv (.lit q)) q q q q (.yb q q hb35) ?_
          obtain ⟨x36,hx36,hj⟩:=bnd hj
          refine DL.c 12 (PC.go (.cc (.aggF q q) (.cc (.imm q) (.cc (.lit q) .nil))) (con38 x11.1 x20 x31 _ hx36) call38 q) q q q q (.yb q q hb35)<|DL.v 13 (O.ldON (cs':=[iR eTok x11.1.Toks,iR eNon x11.1.Nons,iR eProd_0 x11.1.Prods,SS x11.1.Pro,SS x11.1.Tail]) q (.obj q) at38 q q) q q q q (.yb q q hb35)<|DL.v 14 (O.mv (.imm q)) q q q q (.yb q q hb35)<|DL.v 15 (O.mv (.lit q)) q q q q (.yb q q hb35) ?_
          obtain ⟨x37,hx37,hj⟩:=bnd hj
          refine DL.c 16 (PC.go (.cc (.aggF q q) (.cc (.imm q) (.cc (.lit q) .nil))) (con39 x11.1 x20 x31 _ hx37) call39 q) q q q q (.yb q q hb35) ?_
          obtain ⟨x38,hx38,hj⟩:=bnd hj
          refine DL.c 17 (PC.vw (ys:=[.brw eItem.z ⟨91,[]⟩ x36.length,iR eItem x37]) q (.c (.row q) (.s .nil)) (con35 x36 x37 _ hx38) call35 q) q q q q (.yb q q hb35)<|DL.v 18 (O.not (.lit q)) q q q q (.yb q q hb35)<|Dv 19 (O.pkF (.lit q) hb35 (.lit q))<|Dv 20 (O.mv (.lit q)) ?_
          rcases cnd hj with ⟨hb39,hj⟩ | ⟨hb39,hj⟩
          ·obtain rfl:=sm hj
           exact DL.ps 21 q q hb39 q q q q<|DL.ps 22 q q hb39 q q q q<|DL.ps 23 q q hb39 q q q q<|DL.ps 24 q q hb39 q q q q<|DL.ps 25 q q hb39 q q q q<|DL.ps 26 q q hb39 q q q q<|DL.ps 27 q q hb39 q q q q<|DL.ps 28 q q hb39 q q q q<|DL.ps 29 q q hb39 q q q q<|DL.ps 30 q q hb39 q q q q<|Dv 31 (O.pkT (.lit q) hb39 (.k q))<|DL.fin q q q (tn9 q q q q q q q q q)
          ·refine DL.v 21 (O.ldON (cs':=[iR eTok x11.1.Toks,iR eNon x11.1.Nons,iR eProd_0 x11.1.Prods,SS x11.1.Pro,SS x11.1.Tail]) q (.obj q) at38 q q) q q q q (.yb q q hb39)<|DL.v 22 (O.mv (.imm q)) q q q q (.yb q q hb39)<|DL.v 23 (O.mv (.lit q)) q q q q (.yb q q hb39) ?_
           obtain ⟨x40,hx40,hj⟩:=bnd hj
           refine DL.c 24 (PC.go (.cc (.aggF q q) (.cc (.imm q) (.cc (.lit q) .nil))) (con38 x11.1 x20 a4 _ hx40) call38 q) q q q q (.yb q q hb39)<|DL.v 25 (O.ldON (cs':=[iR eTok x11.1.Toks,iR eNon x11.1.Nons,iR eProd_0 x11.1.Prods,SS x11.1.Pro,SS x11.1.Tail]) q (.obj q) at38 q q) q q q q (.yb q q hb39)<|DL.v 26 (O.mv (.imm q)) q q q q (.yb q q hb39)<|DL.v 27 (O.mv (.lit q)) q q q q (.yb q q hb39) ?_
           obtain ⟨x41,hx41,hj⟩:=bnd hj
           refine DL.c 28 (PC.go (.cc (.aggF q q) (.cc (.imm q) (.cc (.lit q) .nil))) (con39 x11.1 x20 a4 _ hx41) call39 q) q q q q (.yb q q hb39) ?_
           obtain ⟨x42,hx42,hj⟩:=bnd hj
           obtain rfl:=sm hj
           exact DL.c 29 (PC.vw (ys:=[.brw eItem.z ⟨103,[]⟩ x40.length,iR eItem x41]) q (.c (.row q) (.s .nil)) (con35 x40 x41 _ hx42) call35 q) q q q q (.yb q q hb39)<|DL.v 30 (O.not (.lit q)) q q q q (.yb q q hb39)<|Dv 31 (O.pkF (.lit q) hb39 (.lit q))<|DL.fin q q q (tn9 q q q q q q q q q)
        refine Px.sq<|W.cnd q (fun hb44=>?_) (fun hb44=>?_)
        ·replace h:=cndT hb44 h
         refine W.sq'<|W.rx [(10,_)] (Vk q<|Fi (.n q .nil)) ?_
         refine Px.sq<|W.rt ?_
         refine Px.bkR ?_
         refine Px.sqR ?_
         obtain rfl:=sm h
         exact Px.r2 (.n q .nil)
        ·replace h:=cndF hb44 h
         refine W.sk<|Px.bk ?_
         refine Px.sq<|W.rx [(2,_),(3,_),(4,_),(11,_),(12,_),(13,_),(15,_),(16,_)] (Vm q<|Rv (O.add (.lit q) (.k q))<|RunL.re (G1:=[(2,iR eI a2),(3,iR eItem a3),(4,I64 a4),(11,oR eSource_0 [x3,x4]),(12,I64 s5),(13,.obj (eGrammar_0.cells x11.1)),(15,oR (eM eItem) [x13,x14]),(52,I64 (w64 (s15+1)))]) (tn8 q q q q q q q q)<|Va q<|Fi (tn8 q q q q q q q q)) ?_
         obtain rfl:=sm h
         exact Px.go (tn8 q q q q q q q q)
       ·subst hx
        refine Px.bkR ?_
        refine Px.sqR ?_
        refine Px.bkR ?_
        refine Px.sqR ?_
        obtain rfl:=sm h
        exact Px.r2 (.n q .nil)
      ·replace h:=cndF hb19 h
       refine W.xi ?_
       refine Px.sqE ?_
       obtain rfl:=sm h
       exact Px.x2 (tn5 q q q q q)
     ·subst hx
      refine Px.bkH ?_
      refine Px.bk ?_
      refine Px.sq<|W.rx [(2,_),(3,_),(4,_),(11,_),(12,_)] (Vm q<|Rv (O.add (.lit q) (.k q))<|RunL.re (G1:=[(2,iR eI a2),(3,iR eItem a3),(4,I64 a4),(11,oR eSource_0 [x3,x4]),(32,I64 (w64 (s5+1)))]) (tn5 q q q q q)<|Va q<|Fi (tn5 q q q q q)) ?_
      obtain rfl:=sm h
      exact Px.go (tn5 q q q q q)
     ·subst hx
      refine Px.bkR ?_
      refine Px.bkR ?_
      refine Px.sqR ?_
      obtain rfl:=sm h
      exact Px.r2 (.n q .nil)
   ·replace h:=cndF hb9 h
    refine W.xi ?_
    refine Px.sqE ?_
    obtain rfl:=sm h
    exact Px.x2 .nil
  ·subst hx
   refine Px.bkH ?_
   refine Px.sq<|W.sq' ?_
   refine W.rx [(10,_)] (Vk q<|Fi (.n q .nil)) ?_
   refine Px.sq<|W.rt ?_
   obtain rfl:=sm h
   exact Px.fin (Fin.ro (.f q q .nil) q (ode (by kernel_rfl)) (.no (.no (.no (.no (.no .nil))))) q (.inr q))
  ·subst hx
   refine Px.bkR ?_
   refine Px.sqR ?_
   obtain rfl:=sm h
   exact Px.fin (Fin.ro (.f q q .nil) q (ode (by kernel_rfl)) (.no (.no (.no (.no (.no .nil))))) q (.inr q))
end Go.Proofs
namespace Go.Own
open Go Go.ChangeShapes Go.WideShapes Go.ChangeAt Go.RowKit
variable {H:Type}{enc:TypeId × Value→H}{P:Program}
theorem post_old {f:Func}{s:ChangeSpec}{apart fresh handsOn again:Bool}{W W':World}{args:Array Value}{v:Value}{ds gs:List (DataW H)}{before pa pv:List MemPlace}
  (hW:DataW.Whole enc P f.params.toList s.vars apart W args.toList ds gs before) (hk:Kp W W') (hps:before=pa++pv)
  (hres:∀ (b:Nat) (sp:Nat→Bool) (hd:Bool),DataW.TrodAll enc P W' b sp hd f.resultTypes.toList (v.resultList f.resultTypes.size) (s.fn H (ds++gs)).results [])
  (hargs:∀ sp:Nat→Bool,(∀ p∈before,sp p.block=true)→DataW.TrodAll enc P W' 0 sp true f.params.toList args.toList (s.fn H (ds++gs)).args pa)
  (hvars:∀ sp:Nat→Bool,(∀ p∈before,sp p.block=true)→DataW.TrodVars enc P W' sp s.vars (s.fn H (ds++gs)).vars pv)
  (hok:∀ (j:Nat) (t:TypeId) (r:Value),f.resultTypes[j]?=some t→(v.resultList f.resultTypes.size)[j]?=some r→Value.okWide P W' .any 0 t r) :
  s.post enc P f apart fresh handsOn again W args v W':=by
 subst hps
 have hlt:∀ p∈pa++pv,p.block<W.heap.size:=fun p hp=>hW.lt p hp
 have hsp:∀ p∈pa++pv,(fun b=>decide (b<W.heap.size)) p.block=true:=fun p hp=>decide_eq_true (hlt p hp)
 have hWh:=hW
 obtain ⟨_,_,_,_,_,hz,hn⟩:=hWh
 have ht:=trodAll_append (hargs (fun _=>true) (fun _ _=>rfl)) (hres 0 (fun _=>true) true)
 refine ⟨ds,gs,pa++pv,[],pa,pv,hW,hres _ _ _,hargs _ hsp,hvars _ hsp,hk.kept _,fun _=>⟨hok,_,_,pa++pv,⟨_,pv,ht,hvars _ (fun _ _=>rfl),rfl,fun b off hp=>?_,hn⟩,fun p hp _=>hp⟩⟩
 rw [hk.fz _ (hlt _ hp)]
 exact hz b off hp
end Go.Own
namespace Go.Proofs
open Go Go.Own
set_option maxRecDepth 100000
theorem uI:Try.prog.underlying 3=some (.int .i64):=by kernel_rfl
theorem uB:Try.prog.underlying 4=some .bool:=by kernel_rfl
theorem uS:Try.prog.underlying 9=some .string:=by kernel_rfl
def okI (n:Int):Prop:=(Lit.int .i64 n).wf=true
def okB (_:Bool):Prop:=True
def okS (s:ByteArray):Prop:=s.size≤maxLen
def okL {α:Type}(p:α→Prop) (l:List α):Prop:=l.length≤maxLen∧∀ x∈l,p x
def okSym (x:Sym):Prop:=okS x.Name∧okB x.Lit∧okI x.Num∧okI x.At∧True
def okPart (x:Part):Prop:=okSym x.Sym∧okS x.Code∧okI x.At∧True
def okAlt (x:Alt):Prop:=okL okPart x.Parts∧okSym x.Prec∧okI x.At∧True
def okRule (x:Rule):Prop:=okS x.Left∧okL okAlt x.Alts∧okI x.At∧True
def okDecl (x:Decl):Prop:=okI x.Kind∧okS x.Tag∧okL okSym x.Syms∧okI x.At∧True
def okSource (x:Source):Prop:=okS x.Pro∧okL okDecl x.Decls∧okL okRule x.Rules∧okS x.Tail∧True
def okGr (x:yuccalaw0_Gr):Prop:=okI x.Nons∧okL (okL okI) x.Rules∧okL okI x.Levels∧okL okI x.Inner∧okB x.Bare∧True
theorem aI:Ar Try.prog eI 3 okI:=.int uI (by kernel_rfl) fun _=>rfl
theorem aB:Ar Try.prog eB 4 okB:=.bool uB (by kernel_rfl) fun _=>rfl
theorem aS:Ar Try.prog eS 9 okS:=.str uS (by kernel_rfl) fun _=>rfl
theorem uLI:Try.prog.underlying 27=some (.slice 3):=by kernel_rfl
theorem aLI:Ar Try.prog (eM eI) 27 (okL okI):=aI.slice (t:=27) uLI (by kernel_rfl) (by decide)
theorem aLLI:Ar Try.prog (eM (eM eI)) 26 (okL (okL okI)):=aLI.slice (t:=26) (by kernel_rfl) (by kernel_rfl) (by decide)
theorem aSym:Ar Try.prog eSym 59 okSym:=.struct (t:=59) (.cons aS (.cons aB (.cons aI (.cons aI .nil)))) (fun b=>(⟨b.1,b.2.1,b.2.2.1,b.2.2.2.1⟩:Sym)) (fun x=>(x.Name,x.Lit,x.Num,x.At,())) (fun _=>rfl) (fun _=>rfl) (by kernel_rfl) (by kernel_rfl)
theorem aPart:Ar Try.prog ePart 109 okPart:=.struct (t:=109) (.cons aSym (.cons aS (.cons aI .nil))) (fun b=>(⟨b.1,b.2.1,b.2.2.1⟩:Part)) (fun x=>(x.Sym,x.Code,x.At,())) (fun _=>rfl) (fun _=>rfl) (by kernel_rfl) (by kernel_rfl)
theorem aParts:Ar Try.prog (eM ePart) 60 (okL okPart):=aPart.slice (by kernel_rfl) (by kernel_rfl) (by decide)
theorem aAlt:Ar Try.prog eAlt_0 62 okAlt:=.struct (t:=62) (.cons aParts (.cons aSym (.cons aI .nil))) (fun b=>(⟨b.1,b.2.1,b.2.2.1⟩:Alt)) (fun x=>(x.Parts,x.Prec,x.At,())) (fun _=>rfl) (fun _=>rfl) (by kernel_rfl) (by kernel_rfl)
theorem aAlts:Ar Try.prog (eM eAlt_0) 63 (okL okAlt):=aAlt.slice (by kernel_rfl) (by kernel_rfl) (by decide)
theorem aRule:Ar Try.prog eRule_0 65 okRule:=.struct (t:=65) (.cons aS (.cons aAlts (.cons aI .nil))) (fun b=>(⟨b.1,b.2.1,b.2.2.1⟩:Rule)) (fun x=>(x.Left,x.Alts,x.At,())) (fun _=>rfl) (fun _=>rfl) (by kernel_rfl) (by kernel_rfl)
theorem aRules:Ar Try.prog (eM eRule_0) 23 (okL okRule):=aRule.slice (by kernel_rfl) (by kernel_rfl) (by decide)
theorem aSyms:Ar Try.prog (eM eSym) 53 (okL okSym):=aSym.slice (by kernel_rfl) (by kernel_rfl) (by decide)
theorem aDecl:Ar Try.prog eDecl_0 55 okDecl:=.struct (t:=55) (.cons aI (.cons aS (.cons aSyms (.cons aI .nil)))) (fun b=>(⟨b.1,b.2.1,b.2.2.1,b.2.2.2.1⟩:Decl)) (fun x=>(x.Kind,x.Tag,x.Syms,x.At,())) (fun _=>rfl) (fun _=>rfl) (by kernel_rfl) (by kernel_rfl)
theorem aDecls:Ar Try.prog (eM eDecl_0) 22 (okL okDecl):=aDecl.slice (by kernel_rfl) (by kernel_rfl) (by decide)
def eSource:En Source:=⟨4,fun x=>[SS x.Pro,iR eDecl_0 x.Decls,iR eRule_0 x.Rules,SS x.Tail],fun _=>rfl,fun _=>NRl.nr⟩
theorem sSource:strB Try.prog 25 [9,22,23,9]=true:=by kernel_rfl
theorem aSource:Ar Try.prog eSource 25 okSource:=.struct (t:=25) (.cons aS (.cons aDecls (.cons aRules (.cons aS .nil)))) (fun b=>(⟨b.1,b.2.1,b.2.2.1,b.2.2.2.1⟩:Source)) (fun x=>(x.Pro,x.Decls,x.Rules,x.Tail,())) (fun _=>rfl) (fun _=>rfl) sSource (by kernel_rfl)
def eGr:En yuccalaw0_Gr:=⟨5,fun x=>[I64 x.Nons,iR (eM eI) x.Rules,iR eI x.Levels,iR eI x.Inner,BB x.Bare],fun _=>rfl,fun _=>NRl.nr⟩
theorem sGr:strB Try.prog 29 [3,26,27,27,4]=true:=by kernel_rfl
theorem aGr:Ar Try.prog eGr 29 okGr:=.struct (t:=29) (.cons aI (.cons aLLI (.cons aLI (.cons aLI (.cons aB .nil))))) (fun b=>(⟨b.1,b.2.1,b.2.2.1,b.2.2.2.1,b.2.2.2.2.1⟩:yuccalaw0_Gr)) (fun x=>(x.Nons,x.Rules,x.Levels,x.Inner,x.Bare,())) (fun _=>rfl) (fun _=>rfl) sGr (by kernel_rfl)
def okItem (x:Item):Prop:=okI x.Prod∧okI x.Dot∧True
theorem sItem:strB Try.prog 72 [3,3]=true:=by kernel_rfl
theorem aItem:Ar Try.prog eItem 72 okItem:=.struct (t:=72) (.cons aI (.cons aI .nil)) (fun b=>(⟨b.1,b.2.1⟩:Item)) (fun x=>(x.Prod,x.Dot,())) (fun _=>rfl) (fun _=>rfl) sItem (by kernel_rfl)
theorem uLIt:Try.prog.underlying 66=some (.slice 72):=by kernel_rfl
theorem aLIt:Ar Try.prog (eM eItem) 66 (okL okItem):=aItem.slice uLIt (by kernel_rfl) (by decide)
theorem pLaid:laidOutB Try.prog=true:=by kernel_rfl
theorem pMaps:mapsRowed Try.prog=true:=by kernel_rfl
theorem pFull:((List.range Try.prog.types.size).all fun t=>match Try.prog.underlying t with | some (.slice e)=>decide (0<Try.prog.cellsOf e) | _=>true)=true:=by kernel_rfl
end Go.Proofs
