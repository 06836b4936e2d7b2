/-
  What is proved here: parts of the proof that the last text states: rules for walks through code, and of this program's functions what they answer. No condition of their own.
-/
import Derived.KernelRfl
import Derived.ProofKit
import Derived.RowKit3
import Derived.Test.YtmddbjglblcegaaRows
import Derived.Test.YtmddbjglblcegaaE6
namespace Go.Proofs
open Go Go.Own
set_option maxRecDepth 100000
set_option linter.unusedVariables false
theorem con100 (a0:Int) (r:ByteArray) (h:pf100 a0=some r):Con Try.prog 100 [U8 a0] [none] (SS r):=by
 unfold pf100 at h
 refine Con.go (N:=⟨21,[]⟩) Try.func100 q q q q (W.fin ?_)
 refine W.st [(0,U8 a0)] ?_
 refine W.sq'<|W.rx [(0,_)] (Vk q<|Fi (.n q .nil)) ?_
 refine Px.sq<|W.sq' ?_
 refine W.sq' ?_
 obtain ⟨x1,hx1,h⟩:=bnd h
 refine W.rx [(0,_),(5,_)] (Vm q<|Rc (PC.go (.cc (.lit q) .nil) (con128 a0 _ hx1) call128 q)<|Fi (tn2 q q)) ?_
 refine Px.sq<|W.cnd q (fun hb2=>?_) (fun hb2=>?_)
 ·replace h:=cndT hb2 h
  refine W.sq' ?_
  obtain ⟨x3,hx3,h⟩:=bnd h
  obtain ⟨x4,hx4,h⟩:=bnd h
  refine W.rx [(2,_)] (Vm q<|RunL.vi (x:=iR eU [a0]) (O.bs (ys:=[U8 a0]) eU [a0] sl107 q q q q q q zt5 q q) q q .none<|Rv (O.cvC (.imm q) by107_9)<|Rv (O.cat (.k q) (.lit q) hx3)<|Rv (O.cat (.lit q) (.k q) hx4)<|Va q<|Fi (.n q .nil)) ?_
  refine Px.sq<|W.rt ?_
  refine Px.sqR ?_
  obtain rfl:=sm h
  exact Px.fin (Fin.ro (.f q q .nil) q (ode (by kernel_rfl)) (.no .nil) q (.inr q))
 ·replace h:=cndF hb2 h
  refine W.sk<|Px.sq ?_
  refine W.sq'<|W.sq' ?_
  obtain ⟨x5,hx5,h⟩:=bnd h
  refine W.rx [(3,_)] (Vm q<|Rc (PC.go (.cc (.k q) (.cc (.lit q) .nil)) (con129 ({ data:=#[10,9,13,92,39] }) a0 _ hx5) call129 q)<|Va q<|Fi (.n q .nil)) ?_
  refine Px.sq<|W.sq' ?_
  refine W.rx [(3,_),(14,_)] (Vm q<|Rv (O.geq (.lit q) (.k q))<|Fi (tn2 q q)) ?_
  refine Px.sq<|W.cnd q (fun hb6=>?_) (fun hb6=>?_)
  ·replace h:=cndT hb6 h
   refine W.sq' ?_
   obtain ⟨x7,hx7,h⟩:=bnd h
   obtain ⟨x8,hx8,h⟩:=bnd h
   obtain ⟨x9,hx9,h⟩:=bnd h
   refine W.rx [(2,_)] (Vm q<|Vm q<|Rv (O.add (.lit q) (.k q))<|Rv (O.sl (.k q) (.lit q) (.lit q) st9 hx7)<|Rv (O.cat (.k q) (.lit q) hx8)<|Rv (O.cat (.lit q) (.k q) hx9)<|Va q<|Fi (.n q .nil)) ?_
   refine Px.sq<|W.rt ?_
   refine Px.sqR ?_
   obtain rfl:=sm h
   exact Px.fin (Fin.ro (.f q q .nil) q (ode (by kernel_rfl)) (.no .nil) q (.inr q))
  ·replace h:=cndF hb6 h
   refine W.sk<|Px.sq ?_
   refine W.sq'<|W.rx [(2,_)] (Vk q<|Fi (.n q .nil)) ?_
   refine Px.sq<|W.rt ?_
   obtain rfl:=sm h
   exact Px.fin (Fin.ro (.f q q .nil) q (ode (by kernel_rfl)) (.no .nil) q (.inr q))
theorem con76 (a0:Grammar) (a1:Int) (r:ByteArray) (h:pf76 a0 a1=some r):Con Try.prog 76 [.agg (eGrammar_0.cells a0),I64 a1] [none,none] (SS r):=by
 unfold pf76 at h
 refine Con.go (N:=⟨65,[]⟩) Try.func76 q q q q (W.fin ?_)
 refine W.st [(0,.agg (eGrammar_0.cells a0)),(1,I64 a1)] ?_
 refine W.sq'<|W.rx [(1,_),(2,_)] (Rv (O.box (.aggF q q) q)<|Vk q<|Fi (tn2 q q)) ?_
 refine Px.sq<|W.sq' ?_
 refine W.bk<|W.sq' ?_
 obtain ⟨c4,hj,h⟩:=bnd h
 refine W.rx [(1,I64 a1),(2,.obj (eGrammar_0.cells a0)),(5,BB c4)] ?_ ?_
 ·refine Vm q<|Rv (O.geq (.lit q) (.k q))<|Rv (O.mv (.lit q)) ?_
  rcases cnd hj with ⟨hb1,hj⟩ | ⟨hb1,hj⟩
  ·refine RunL.v (O.mv (.lit q)) q q (.yb q q hb1)<|RunL.v (O.fO q (.obj q) fd38_0 q) q q (.yb q q hb1)<|RunL.v (O.ldO (y:=iR eTok a0.Toks) q (.ptr q) ct34 q q) q q (.yb q q hb1)<|RunL.v (O.lenI (.imm q) sl34) q q (.yb q q hb1)<|RunL.v (O.lss (.lit q) (.lit q)) q q (.yb q q hb1)<|Rv (O.pkT (.lit q) hb1 (.lit q))<|Rv (O.mv (.lit q)) ?_
   rcases cnd hj with ⟨hb2,hj⟩ | ⟨hb2,hj⟩
   ·refine RunL.v (O.fO q (.obj q) fd38_0 q) q q (.yb q q hb2)<|RunL.v (O.ldO (y:=iR eTok a0.Toks) q (.ptr q) ct34 q q) q q (.yb q q hb2)<|RunL.v (O.mv (.lit q)) q q (.yb q q hb2) ?_
    obtain ⟨x3,hx3,hj⟩:=bnd hj
    obtain rfl:=sm hj
    exact RunL.v (O.ixI (.imm q) (.lit q) sl34 hx3) q q (.yb q q hb2)<|RunL.v (O.fI (.iptr q) fd51_1) q q (.yb q q hb2)<|RunL.v (O.ldI (x:=BB x3.Lit) (.iptr q) ct4 q) q q (.yb q q hb2)<|Rv (O.pkT (.lit q) hb2 (.lit q))<|Va q<|Fi (tn3 q q q)
   ·obtain rfl:=sm hj
    exact RunL.ps q q hb2 q q<|RunL.ps q q hb2 q q<|RunL.ps q q hb2 q q<|RunL.ps q q hb2 q q<|RunL.ps q q hb2 q q<|RunL.ps q q hb2 q q<|Rv (O.pkF (.lit q) hb2 (.k q))<|Va q<|Fi (tn3 q q q)
  ·obtain rfl:=sm hj
   exact RunL.ps q q hb1 q q<|RunL.ps q q hb1 q q<|RunL.ps q q hb1 q q<|RunL.ps q q hb1 q q<|RunL.ps q q hb1 q q<|Rv (O.pkF (.lit q) hb1 (.k q))<|Vm q<|RunL.ps q q q q q<|RunL.ps q q q q q<|RunL.ps q q q q q<|RunL.ps q q q q q<|RunL.ps q q q q q<|RunL.ps q q q q q<|Rv (O.pkF (.lit q) q (.k q))<|Va q<|Fi (tn3 q q q)
 refine Px.sq<|W.cnd q (fun hb5=>?_) (fun hb5=>?_)
 ·replace h:=cndT hb5 h
  refine W.sq' ?_
  obtain ⟨x6,hx6,h⟩:=bnd h
  obtain ⟨x7,hx7,h⟩:=bnd h
  obtain ⟨x8,hx8,h⟩:=bnd h
  refine W.rx [(4,_)] (Rv (O.fO q (.obj q) fd38_0 q)<|Rv (O.ldO (y:=iR eTok a0.Toks) q (.ptr q) ct34 q q)<|Vm q<|Rv (O.ixI (.imm q) (.lit q) sl34 hx6)<|Rv (O.fI (.iptr q) fd51_0)<|Rv (O.ldI (x:=SS x6.Name) (.iptr q) ct9 q)<|Rv (O.at' (.lit q) (.k q) st9 hx7)<|Rc (PC.go (.cc (.lit q) .nil) (con100 x7 _ hx8) call100 q)<|Va q<|Fi (.n q .nil)) ?_
  refine Px.sq<|W.rt ?_
  refine Px.bkR ?_
  refine Px.sqR ?_
  obtain rfl:=sm h
  exact Px.fin (Fin.ro (.f q q .nil) q (ode (by kernel_rfl)) (.no (.no .nil)) q (.inr q))
 ·replace h:=cndF hb5 h
  refine W.sq' ?_
  obtain ⟨c10,hj,h⟩:=bnd h
  refine W.rx [(1,I64 a1),(2,.obj (eGrammar_0.cells a0)),(31,BB c10)] ?_ ?_
  ·refine Vm q<|Rv (O.geq (.lit q) (.k q))<|Rv (O.mv (.lit q)) ?_
   rcases cnd hj with ⟨hb9,hj⟩ | ⟨hb9,hj⟩
   ·obtain rfl:=sm hj
    exact RunL.v (O.mv (.lit q)) q q (.yb q q hb9)<|RunL.v (O.fO q (.obj q) fd38_0 q) q q (.yb q q hb9)<|RunL.v (O.ldO (y:=iR eTok a0.Toks) q (.ptr q) ct34 q q) q q (.yb q q hb9)<|RunL.v (O.lenI (.imm q) sl34) q q (.yb q q hb9)<|RunL.v (O.lss (.lit q) (.lit q)) q q (.yb q q hb9)<|Rv (O.pkT (.lit q) hb9 (.lit q))<|Va q<|Fi (tn3 q q q)
   ·obtain rfl:=sm hj
    exact RunL.ps q q hb9 q q<|RunL.ps q q hb9 q q<|RunL.ps q q hb9 q q<|RunL.ps q q hb9 q q<|RunL.ps q q hb9 q q<|Rv (O.pkF (.lit q) hb9 (.k q))<|Va q<|Fi (tn3 q q q)
  refine Px.sq<|W.cnd q (fun hb11=>?_) (fun hb11=>?_)
  ·replace h:=cndT hb11 h
   refine W.sq' ?_
   obtain ⟨x12,hx12,h⟩:=bnd h
   refine W.rx [(4,_)] (Rv (O.fO q (.obj q) fd38_0 q)<|Rv (O.ldO (y:=iR eTok a0.Toks) q (.ptr q) ct34 q q)<|Vm q<|Rv (O.ixI (.imm q) (.lit q) sl34 hx12)<|Rv (O.fI (.iptr q) fd51_0)<|Rv (O.ldI (x:=SS x12.Name) (.iptr q) ct9 q)<|Va q<|Fi (.n q .nil)) ?_
   refine Px.sq<|W.rt ?_
   refine Px.bkR ?_
   refine Px.sqR ?_
   obtain rfl:=sm h
   exact Px.fin (Fin.ro (.f q q .nil) q (ode (by kernel_rfl)) (.no (.no .nil)) q (.inr q))
  ·replace h:=cndF hb11 h
   refine W.sq' ?_
   obtain ⟨c14,hj,h⟩:=bnd h
   refine W.rx [(1,I64 a1),(2,.obj (eGrammar_0.cells a0)),(47,BB c14)] ?_ ?_
   ·refine Vm q<|Rv (O.geq (.lit q) (.k q))<|Rv (O.mv (.lit q)) ?_
    rcases cnd hj with ⟨hb13,hj⟩ | ⟨hb13,hj⟩
    ·obtain rfl:=sm hj
     exact RunL.v (O.mv (.lit q)) q q (.yb q q hb13)<|RunL.v (O.sub (.lit q) (.k q)) q q (.yb q q hb13)<|RunL.v (O.fO q (.obj q) fd38_1 q) q q (.yb q q hb13)<|RunL.v (O.ldO (y:=iR eNon a0.Nons) q (.ptr q) ct35 q q) q q (.yb q q hb13)<|RunL.v (O.lenI (.imm q) sl35) q q (.yb q q hb13)<|RunL.v (O.lss (.lit q) (.lit q)) q q (.yb q q hb13)<|Rv (O.pkT (.lit q) hb13 (.lit q))<|Va q<|Fi (tn3 q q q)
    ·obtain rfl:=sm hj
     exact RunL.ps q q hb13 q q<|RunL.ps q q hb13 q q<|RunL.ps q q hb13 q q<|RunL.ps q q hb13 q q<|RunL.ps q q hb13 q q<|RunL.ps q q hb13 q q<|Rv (O.pkF (.lit q) hb13 (.k q))<|Va q<|Fi (tn3 q q q)
   refine Px.sq<|W.cnd q (fun hb15=>?_) (fun hb15=>?_)
   ·replace h:=cndT hb15 h
    refine W.sq' ?_
    obtain ⟨x16,hx16,h⟩:=bnd h
    refine W.rx [(4,_)] (Rv (O.fO q (.obj q) fd38_1 q)<|Rv (O.ldO (y:=iR eNon a0.Nons) q (.ptr q) ct35 q q)<|Vm q<|Rv (O.sub (.lit q) (.k q))<|Rv (O.ixI (.imm q) (.lit q) sl35 hx16)<|Rv (O.fI (.iptr q) fd134_0)<|Rv (O.ldI (x:=SS x16.Name) (.iptr q) ct9 q)<|Va q<|Fi (.n q .nil)) ?_
    refine Px.sq<|W.rt ?_
    refine Px.bkR ?_
    refine Px.sqR ?_
    obtain rfl:=sm h
    exact Px.fin (Fin.ro (.f q q .nil) q (ode (by kernel_rfl)) (.no (.no .nil)) q (.inr q))
   ·replace h:=cndF hb15 h
    refine W.sk<|Px.bk ?_
    refine Px.sq<|W.sq' ?_
    refine W.rx [(4,_)] (Vk q<|Fi (.n q .nil)) ?_
    refine Px.sq<|W.rt ?_
    obtain rfl:=sm h
    exact Px.fin (Fin.ro (.f q q .nil) q (ode (by kernel_rfl)) (.no (.no .nil)) q (.inr q))
theorem con40 (a0:Grammar) (a1:Item) (r:ByteArray) (h:pf40 a0 a1=some r):Con Try.prog 40 [.agg (eGrammar_0.cells a0),.agg [I64 a1.Prod,I64 a1.Dot]] [none,none] (SS r):=by
 unfold pf40 at h
 refine Con.go (N:=⟨55,[]⟩) Try.func40 q q q q (W.fin ?_)
 refine W.st [(0,.agg (eGrammar_0.cells a0)),(1,.agg [I64 a1.Prod,I64 a1.Dot])] ?_
 refine W.sq'<|W.rx [(2,_),(3,_)] (Rv (O.box (.aggF q q) q)<|Rv (O.box (.aggF q q) q)<|Vk q<|Fi (tn2 q q)) ?_
 refine Px.sq<|W.sq' ?_
 refine W.sq' ?_
 obtain ⟨x1,hx1,h⟩:=bnd h
 refine W.rx [(2,_),(3,_),(12,_)] (Rv (O.ldON (cs':=[iR eTok a0.Toks,iR eNon a0.Nons,iR eProd_0 a0.Prods,SS a0.Pro,SS a0.Tail]) q (.obj q) at38 q q)<|Rv (O.ldON (cs':=[I64 a1.Prod,I64 a1.Dot]) q (.obj q) at72 q q)<|Rc (PC.go (.cc (.aggF q q) (.cc (.aggF q q) .nil)) (con68 a0 a1 _ hx1) call68 q)<|Rv (O.not (.lit q))<|Fi (tn3 q q q)) ?_
 refine Px.sq<|W.cnd q (fun hb2=>?_) (fun hb2=>?_)
 ·replace h:=cndT hb2 h
  refine W.sq'<|W.rx [(4,_)] (Vk q<|Fi (.n q .nil)) ?_
  refine Px.sq<|W.rt ?_
  refine Px.sqR ?_
  obtain rfl:=sm h
  exact Px.fin (Fin.ro (.f q q .nil) q (ode (by kernel_rfl)) (.no (.no .nil)) q (.inr q))
 ·replace h:=cndF hb2 h
  refine W.sk<|Px.sq ?_
  refine W.sq' ?_
  obtain ⟨x3,hx3,h⟩:=bnd h
  refine W.rx [(2,_),(3,_),(5,_)] (Rv (O.fO q (.obj q) fd38_2 q)<|Rv (O.ldO (y:=iR eProd_0 a0.Prods) q (.ptr q) ct36 q q)<|Rv (O.fO q (.obj q) fd72_0 q)<|Rv (O.ldO (y:=I64 a1.Prod) q (.ptr q) ct3 q q)<|Rv (O.ixI (.imm q) (.lit q) sl36 hx3)<|Rv (O.ldIN (cs':=[I64 x3.Left,iR eI x3.Right,I64 x3.Prec,SS x3.Code,iR eI x3.Args,I64 x3.At]) (.iptr q) at83 q q)<|Rv (O.al (cs:=[I64 0,.nils,I64 0,SS S0,.nils,I64 0]) ze83 q q)<|RunL.sO (G2:=[(2,.obj (eGrammar_0.cells a0)),(3,.obj [I64 a1.Prod,I64 a1.Dot]),(5,.obj (eProd_0.cells x3))]) (cs2:=[I64 x3.Left,iR eI x3.Right,I64 x3.Prec,SS x3.Code,iR eI x3.Args,I64 x3.At]) q (.obj q) (.aggF q q) q sz83 q q q q (.n q q (.n q q (.b q .nil)))<|Fi (tn3 q q q)) ?_
  refine Px.sq<|W.sq' ?_
  obtain ⟨x4,hx4,h⟩:=bnd h
  obtain ⟨x5,hx5,h⟩:=bnd h
  refine W.rx [(2,_),(3,_),(5,_),(6,_)] (Rv (O.ldON (cs':=[iR eTok a0.Toks,iR eNon a0.Nons,iR eProd_0 a0.Prods,SS a0.Pro,SS a0.Tail]) q (.obj q) at38 q q)<|Rv (O.fO q (.obj q) fd83_0 q)<|Rv (O.ldO (y:=I64 x3.Left) q (.ptr q) ct3 q q)<|Rv (O.add (.k q) (.lit q))<|Rc (PC.go (.cc (.aggF q q) (.cc (.lit q) .nil)) (con76 a0 (w64 (1000+x3.Left)) _ hx4) call76 q)<|Rv (O.cat (.lit q) (.k q) hx5)<|Va q<|Fi (tn4 q q q q)) ?_
  refine Px.sq<|W.sq' ?_
  refine W.sq'<|W.rx [(2,_),(3,_),(5,_),(6,_),(26,_),(27,_),(28,_)] (Rv (O.fO q (.obj q) fd83_1 q)<|Rv (O.ldO (y:=iR eI x3.Right) q (.ptr q) ct27 q q)<|Rv (O.lenI (.imm q) sl27)<|Rv (O.mv (.k q))<|Fi (tn7 q q q q q q q)) ?_
  refine Px.sq<|W.bk ?_
  obtain ⟨x7,hl,h⟩:=bnd h
  refine W.tr (G1:=[(2,.obj (eGrammar_0.cells a0)),(3,.obj [I64 a1.Prod,I64 a1.Dot]),(5,.obj (eProd_0.cells x3)),(6,SS x5),(26,iR eI x3.Right),(27,I64 (x3.Right.length:Int)),(28,I64 0)]) (tn7 q q q q q q q) ?_
  refine W.lp1 (s:=(x5,0)) (fun (s6:ByteArray × Int)=>[(2,.obj (eGrammar_0.cells a0)),(3,.obj [I64 a1.Prod,I64 a1.Dot]),(5,.obj (eProd_0.cells x3)),(6,SS s6.1),(26,iR eI x3.Right),(27,I64 (x3.Right.length:Int)),(28,I64 s6.2)]) 0 (fun (x7:ByteArray)=>[(3,.obj [I64 a1.Prod,I64 a1.Dot]),(5,.obj (eProd_0.cells x3)),(6,SS x7)]) hl (fun s6 o h=>?_) ?_
  ·clear hl
   refine W.sq'<|W.rx [(2,_),(3,_),(5,_),(6,_),(26,_),(27,_),(28,_),(29,_)] (Rv (O.lss (.lit q) (.lit q))<|Fi (tn8 q q q q q q q q)) ?_
   refine Px.sq<|W.sq' ?_
   refine W.cnd q (fun hb9=>?_) (fun hb9=>?_)
   ·replace h:=cndT hb9 h
    refine W.sk<|Px.sq ?_
    refine W.sq'<|W.bk ?_
    refine W.sq' ?_
    obtain ⟨x10,hx10,h⟩:=bnd h
    refine W.rx [(2,_),(3,_),(5,_),(6,_),(7,_),(8,_),(26,_),(27,_),(28,_)] (Vm q<|Rv (O.ixI (.imm q) (.lit q) sl27 hx10)<|Rv (O.ldI (x:=I64 x10) (.iptr q) ct3 q)<|Va q<|Va q<|Fi (tn9 q q q q q q q q q)) ?_
    refine Px.sq<|W.sq' ?_
    refine W.sq'<|W.rx [(2,_),(3,_),(5,_),(6,_),(8,_),(26,_),(27,_),(28,_),(36,_)] (Vm q<|Rv (O.fO q (.obj q) fd72_1 q)<|Rv (O.ldO (y:=I64 a1.Dot) q (.ptr q) ct3 q q)<|Rv (O.eql (.lit q) (.lit q))<|Fi (tn9 q q q q q q q q q)) ?_
    refine Px.sq ?_
    obtain ⟨j11,hj,h⟩:=bnd h
    refine W.jn [(2,.obj (eGrammar_0.cells a0)),(3,.obj [I64 a1.Prod,I64 a1.Dot]),(5,.obj (eProd_0.cells x3)),(6,SS j11),(8,I64 x10),(26,iR eI x3.Right),(27,I64 (x3.Right.length:Int)),(28,I64 s6.2)] ?_ ?_
    ·clear h; have h:=hj; clear hj
     refine W.cnd q (fun hb12=>?_) (fun hb12=>?_)
     ·replace h:=cndT hb12 h
      obtain ⟨x13,hx13,h⟩:=bnd h
      refine W.rx [(2,_),(3,_),(5,_),(6,_),(8,_),(26,_),(27,_),(28,_)] (Vm q<|Rv (O.cat (.lit q) (.k q) hx13)<|RunL.re (G1:=[(2,.obj (eGrammar_0.cells a0)),(3,.obj [I64 a1.Prod,I64 a1.Dot]),(5,.obj (eProd_0.cells x3)),(8,I64 x10),(26,iR eI x3.Right),(27,I64 (x3.Right.length:Int)),(28,I64 s6.2),(38,SS x13)]) (tn8 q q q q q q q q)<|Va q<|Fi (tn8 q q q q q q q q)) ?_
      obtain rfl:=sm h
      exact Px.jn (tn8 q q q q q q q q)
     ·replace h:=cndF hb12 h
      refine W.sk ?_
      obtain rfl:=sm h
      exact Px.jn (tn8 q q q q q q q q)
    refine Px.sq ?_
    obtain ⟨x14,hx14,h⟩:=bnd h
    obtain ⟨x15,hx15,h⟩:=bnd h
    obtain ⟨x16,hx16,h⟩:=bnd h
    refine W.rx [(2,_),(3,_),(5,_),(6,_),(26,_),(27,_),(28,_)] (Vm q<|Rv (O.ldON (cs':=[iR eTok a0.Toks,iR eNon a0.Nons,iR eProd_0 a0.Prods,SS a0.Pro,SS a0.Tail]) q (.obj q) at38 q q)<|Vm q<|Rc (PC.go (.cc (.aggF q q) (.cc (.lit q) .nil)) (con76 a0 x10 _ hx14) call76 q)<|Rv (O.cat (.k q) (.lit q) hx15)<|Rv (O.cat (.lit q) (.lit q) hx16)<|RunL.re (G1:=[(2,.obj (eGrammar_0.cells a0)),(3,.obj [I64 a1.Prod,I64 a1.Dot]),(5,.obj (eProd_0.cells x3)),(26,iR eI x3.Right),(27,I64 (x3.Right.length:Int)),(28,I64 s6.2),(44,SS x16)]) (tn7 q q q q q q q)<|Va q<|Fi (tn7 q q q q q q q)) ?_
    refine Px.bk ?_
    refine Px.sq<|W.rx [(2,_),(3,_),(5,_),(6,_),(26,_),(27,_),(28,_)] (Rv (O.add (.lit q) (.k q))<|RunL.re (G1:=[(2,.obj (eGrammar_0.cells a0)),(3,.obj [I64 a1.Prod,I64 a1.Dot]),(5,.obj (eProd_0.cells x3)),(6,SS x16),(26,iR eI x3.Right),(27,I64 (x3.Right.length:Int)),(45,I64 (w64 (s6.2+1)))]) (tn7 q q q q q q q)<|Vm q<|Fi (tn7 q q q q q q q)) ?_
    obtain rfl:=sm h
    exact Px.go (tn7 q q q q q q q)
   ·replace h:=cndF hb9 h
    refine W.xi ?_
    refine Px.sqE ?_
    obtain rfl:=sm h
    exact Px.x1 (tn3 q q q)
  refine Px.bkH ?_
  refine Px.sq<|W.sq' ?_
  refine W.sq'<|W.rx [(6,_),(51,_)] (Rv (O.fO q (.obj q) fd72_1 q)<|Rv (O.ldO (y:=I64 a1.Dot) q (.ptr q) ct3 q q)<|Rv (O.fO q (.obj q) fd83_1 q)<|Rv (O.ldO (y:=iR eI x3.Right) q (.ptr q) ct27 q q)<|Rv (O.lenI (.imm q) sl27)<|Rv (O.eql (.lit q) (.lit q))<|Fi (tn2 q q)) ?_
  refine Px.sq ?_
  obtain ⟨j17,hj,h⟩:=bnd h
  refine W.jn [(6,SS j17)] ?_ ?_
  ·clear h; have h:=hj; clear hj
   refine W.cnd q (fun hb18=>?_) (fun hb18=>?_)
   ·replace h:=cndT hb18 h
    obtain ⟨x19,hx19,h⟩:=bnd h
    refine W.rx [(6,_)] (Vm q<|Rv (O.cat (.lit q) (.k q) hx19)<|RunL.re (G1:=[(53,SS x19)]) (.n q .nil)<|Va q<|Fi (.n q .nil)) ?_
    obtain rfl:=sm h
    exact Px.jn (.n q .nil)
   ·replace h:=cndF hb18 h
    refine W.sk ?_
    obtain rfl:=sm h
    exact Px.jn (.n q .nil)
  refine Px.sq<|W.sq' ?_
  refine W.rx [(4,_)] (Vm q<|Va q<|Fi (.n q .nil)) ?_
  refine Px.sq<|W.rt ?_
  obtain rfl:=sm h
  exact Px.fin (Fin.ro (.f q q .nil) q (ode (by kernel_rfl)) (.no (.no .nil)) q (.inr q))
theorem con29  (r:Bool) (h:pf29 =some r):Con Try.prog 29 [] [] (BB r):=by
 unfold pf29 at h
 refine Con.go (N:=⟨74,[]⟩) Try.func29 q q q q (W.fin ?_)
 refine W.st [] ?_
 refine W.sq'<|W.rx [] (Vk q<|Fi .nil) ?_
 refine Px.sq<|W.sq' ?_
 refine W.rx [(1,_),(2,_)] (Rv (O.bu (cs:=[SS ({ data:=#[101] }),BB false,I64 0,I64 0]) sc59 ze59 q q q)<|Rv (O.bu (cs:=[SS ({ data:=#[101] }),BB false,I64 0,I64 0,SS S0,I64 0]) sc109 ze109 q q q)<|Rv (O.bu (cs:=[SS ({ data:=#[120] }),BB true,I64 0,I64 0]) sc59 ze59 q q q)<|Rv (O.bu (cs:=[SS ({ data:=#[120] }),BB true,I64 0,I64 0,SS S0,I64 0]) sc109 ze109 q q q)<|Rv (O.al (cs:=[SS S0,BB false,I64 0,I64 0,SS S0,I64 0]) ze109 q q)<|Rv (O.al (cs:=[SS S0,BB false,I64 0,I64 0,SS S0,I64 0]) ze109 q q)<|RunL.sO (G2:=[(1,.obj [SS ({ data:=#[101] }),BB false,I64 0,I64 0,SS S0,I64 0]),(2,.obj [SS S0,BB false,I64 0,I64 0,SS S0,I64 0]),(9,.agg [SS ({ data:=#[120] }),BB true,I64 0,I64 0,SS S0,I64 0])]) (cs2:=[SS ({ data:=#[101] }),BB false,I64 0,I64 0,SS S0,I64 0]) q (.obj q) (.aggF q q) q sz109 q q q q (.b q (.n q q (.n q q .nil)))<|RunL.sO (G2:=[(1,.obj [SS ({ data:=#[101] }),BB false,I64 0,I64 0,SS S0,I64 0]),(2,.obj [SS ({ data:=#[120] }),BB true,I64 0,I64 0,SS S0,I64 0])]) (cs2:=[SS ({ data:=#[120] }),BB true,I64 0,I64 0,SS S0,I64 0]) q (.obj q) (.aggF q q) q sz109 q q q q (.n q q (.b q .nil))<|Fi (tn2 q q)) ?_
 refine Px.sq<|W.sq' ?_
 obtain ⟨x1,hx1,h⟩:=bnd h
 refine W.rx [(3,_),(4,_)] (Rv (O.ldON (cs':=[SS ({ data:=#[101] }),BB false,I64 0,I64 0,SS S0,I64 0]) q (.obj q) at109 q q)<|Rv (O.bu (cs:=[SS ({ data:=#[43] }),BB true,I64 0,I64 0]) sc59 ze59 q q q)<|Rv (O.bu (cs:=[SS ({ data:=#[43] }),BB true,I64 0,I64 0,SS S0,I64 0]) sc109 ze109 q q q)<|Rv (O.ldON (cs':=[SS ({ data:=#[101] }),BB false,I64 0,I64 0,SS S0,I64 0]) q (.obj q) at109 q q)<|RunL.vi (x:=iR ePart [(⟨(⟨{ data:=#[101] },false,0,0⟩:Sym),S0,0⟩:Part),(⟨(⟨{ data:=#[43] },true,0,0⟩:Sym),S0,0⟩:Part),(⟨(⟨{ data:=#[101] },false,0,0⟩:Sym),S0,0⟩:Part)]) (O.bs (ys:=[.agg [SS ({ data:=#[101] }),BB false,I64 0,I64 0,SS S0,I64 0],.agg [SS ({ data:=#[43] }),BB true,I64 0,I64 0,SS S0,I64 0],.agg [SS ({ data:=#[101] }),BB false,I64 0,I64 0,SS S0,I64 0]]) ePart [(⟨(⟨{ data:=#[101] },false,0,0⟩:Sym),S0,0⟩:Part),(⟨(⟨{ data:=#[43] },true,0,0⟩:Sym),S0,0⟩:Part),(⟨(⟨{ data:=#[101] },false,0,0⟩:Sym),S0,0⟩:Part)] sl60 q q q q q q zt109 q q) q q .none<|Rv (O.bu (cs:=[iR ePart [(⟨(⟨{ data:=#[101] },false,0,0⟩:Sym),S0,0⟩:Part),(⟨(⟨{ data:=#[43] },true,0,0⟩:Sym),S0,0⟩:Part),(⟨(⟨{ data:=#[101] },false,0,0⟩:Sym),S0,0⟩:Part)],SS S0,BB false,I64 0,I64 0,I64 0]) sc62 ze62 q q q)<|Rv (O.ldON (cs':=[SS ({ data:=#[120] }),BB true,I64 0,I64 0,SS S0,I64 0]) q (.obj q) at109 q q)<|RunL.vi (x:=iR ePart [(⟨(⟨{ data:=#[120] },true,0,0⟩:Sym),S0,0⟩:Part)]) (O.bs (ys:=[.agg [SS ({ data:=#[120] }),BB true,I64 0,I64 0,SS S0,I64 0]]) ePart [(⟨(⟨{ data:=#[120] },true,0,0⟩:Sym),S0,0⟩:Part)] sl60 q q q q q q zt109 q q) q q .none<|Rv (O.bu (cs:=[iR ePart [(⟨(⟨{ data:=#[120] },true,0,0⟩:Sym),S0,0⟩:Part)],SS S0,BB false,I64 0,I64 0,I64 0]) sc62 ze62 q q q)<|RunL.vi (x:=iR eAlt_0 [(⟨[(⟨(⟨{ data:=#[101] },false,0,0⟩:Sym),S0,0⟩:Part),(⟨(⟨{ data:=#[43] },true,0,0⟩:Sym),S0,0⟩:Part),(⟨(⟨{ data:=#[101] },false,0,0⟩:Sym),S0,0⟩:Part)],(⟨S0,false,0,0⟩:Sym),0⟩:Alt),(⟨[(⟨(⟨{ data:=#[120] },true,0,0⟩:Sym),S0,0⟩:Part)],(⟨S0,false,0,0⟩:Sym),0⟩:Alt)]) (O.bs (ys:=[.agg [iR ePart [(⟨(⟨{ data:=#[101] },false,0,0⟩:Sym),S0,0⟩:Part),(⟨(⟨{ data:=#[43] },true,0,0⟩:Sym),S0,0⟩:Part),(⟨(⟨{ data:=#[101] },false,0,0⟩:Sym),S0,0⟩:Part)],SS S0,BB false,I64 0,I64 0,I64 0],.agg [iR ePart [(⟨(⟨{ data:=#[120] },true,0,0⟩:Sym),S0,0⟩:Part)],SS S0,BB false,I64 0,I64 0,I64 0]]) eAlt_0 [(⟨[(⟨(⟨{ data:=#[101] },false,0,0⟩:Sym),S0,0⟩:Part),(⟨(⟨{ data:=#[43] },true,0,0⟩:Sym),S0,0⟩:Part),(⟨(⟨{ data:=#[101] },false,0,0⟩:Sym),S0,0⟩:Part)],(⟨S0,false,0,0⟩:Sym),0⟩:Alt),(⟨[(⟨(⟨{ data:=#[120] },true,0,0⟩:Sym),S0,0⟩:Part)],(⟨S0,false,0,0⟩:Sym),0⟩:Alt)] sl63 q q q q q q zt62 q q) q q .none<|Rv (O.bu (cs:=[SS ({ data:=#[101] }),iR eAlt_0 [(⟨[(⟨(⟨{ data:=#[101] },false,0,0⟩:Sym),S0,0⟩:Part),(⟨(⟨{ data:=#[43] },true,0,0⟩:Sym),S0,0⟩:Part),(⟨(⟨{ data:=#[101] },false,0,0⟩:Sym),S0,0⟩:Part)],(⟨S0,false,0,0⟩:Sym),0⟩:Alt),(⟨[(⟨(⟨{ data:=#[120] },true,0,0⟩:Sym),S0,0⟩:Part)],(⟨S0,false,0,0⟩:Sym),0⟩:Alt)],I64 0]) sc65 ze65 q q q)<|RunL.vi (x:=iR eRule_0 [(⟨{ data:=#[101] },[(⟨[(⟨(⟨{ data:=#[101] },false,0,0⟩:Sym),S0,0⟩:Part),(⟨(⟨{ data:=#[43] },true,0,0⟩:Sym),S0,0⟩:Part),(⟨(⟨{ data:=#[101] },false,0,0⟩:Sym),S0,0⟩:Part)],(⟨S0,false,0,0⟩:Sym),0⟩:Alt),(⟨[(⟨(⟨{ data:=#[120] },true,0,0⟩:Sym),S0,0⟩:Part)],(⟨S0,false,0,0⟩:Sym),0⟩:Alt)],0⟩:Rule)]) (O.bs (ys:=[.agg [SS ({ data:=#[101] }),iR eAlt_0 [(⟨[(⟨(⟨{ data:=#[101] },false,0,0⟩:Sym),S0,0⟩:Part),(⟨(⟨{ data:=#[43] },true,0,0⟩:Sym),S0,0⟩:Part),(⟨(⟨{ data:=#[101] },false,0,0⟩:Sym),S0,0⟩:Part)],(⟨S0,false,0,0⟩:Sym),0⟩:Alt),(⟨[(⟨(⟨{ data:=#[120] },true,0,0⟩:Sym),S0,0⟩:Part)],(⟨S0,false,0,0⟩:Sym),0⟩:Alt)],I64 0]]) eRule_0 [(⟨{ data:=#[101] },[(⟨[(⟨(⟨{ data:=#[101] },false,0,0⟩:Sym),S0,0⟩:Part),(⟨(⟨{ data:=#[43] },true,0,0⟩:Sym),S0,0⟩:Part),(⟨(⟨{ data:=#[101] },false,0,0⟩:Sym),S0,0⟩:Part)],(⟨S0,false,0,0⟩:Sym),0⟩:Alt),(⟨[(⟨(⟨{ data:=#[120] },true,0,0⟩:Sym),S0,0⟩:Part)],(⟨S0,false,0,0⟩:Sym),0⟩:Alt)],0⟩:Rule)] sl23 q q q q q q zt65 q q) q q .none<|RunL.vi (x:=.agg [SS S0,iR eDecl_0 ([]:List Decl),iR eRule_0 [(⟨{ data:=#[101] },[(⟨[(⟨(⟨{ data:=#[101] },false,0,0⟩:Sym),S0,0⟩:Part),(⟨(⟨{ data:=#[43] },true,0,0⟩:Sym),S0,0⟩:Part),(⟨(⟨{ data:=#[101] },false,0,0⟩:Sym),S0,0⟩:Part)],(⟨S0,false,0,0⟩:Sym),0⟩:Alt),(⟨[(⟨(⟨{ data:=#[120] },true,0,0⟩:Sym),S0,0⟩:Part)],(⟨S0,false,0,0⟩:Sym),0⟩:Alt)],0⟩:Rule)],SS S0]) (O.bu (cs:=[SS S0,.nils,iR eRule_0 [(⟨{ data:=#[101] },[(⟨[(⟨(⟨{ data:=#[101] },false,0,0⟩:Sym),S0,0⟩:Part),(⟨(⟨{ data:=#[43] },true,0,0⟩:Sym),S0,0⟩:Part),(⟨(⟨{ data:=#[101] },false,0,0⟩:Sym),S0,0⟩:Part)],(⟨S0,false,0,0⟩:Sym),0⟩:Alt),(⟨[(⟨(⟨{ data:=#[120] },true,0,0⟩:Sym),S0,0⟩:Part)],(⟨S0,false,0,0⟩:Sym),0⟩:Alt)],0⟩:Rule)],SS S0]) sc25 ze25 q q q) q q .none<|Rc (PC.go (.cc (.aggF q q) .nil) (con20 (⟨S0,([]:List Decl),[(⟨{ data:=#[101] },[(⟨[(⟨(⟨{ data:=#[101] },false,0,0⟩:Sym),S0,0⟩:Part),(⟨(⟨{ data:=#[43] },true,0,0⟩:Sym),S0,0⟩:Part),(⟨(⟨{ data:=#[101] },false,0,0⟩:Sym),S0,0⟩:Part)],(⟨S0,false,0,0⟩:Sym),0⟩:Alt),(⟨[(⟨(⟨{ data:=#[120] },true,0,0⟩:Sym),S0,0⟩:Part)],(⟨S0,false,0,0⟩:Sym),0⟩:Alt)],0⟩:Rule)],S0⟩:Source) _ hx1) call20 q)<|Rv (O.mv (.tup q q))<|Rv (O.ex (y:=.agg (eGrammar_0.cells x1.1)) q q q)<|Rv (O.ex (y:=BB x1.2) q q q)<|Rv (O.al (cs:=[.nils,.nils,.nils,SS S0,SS S0]) ze38 q q)<|RunL.sO (G2:=[(3,.obj (eGrammar_0.cells x1.1)),(26,BB x1.2)]) (cs2:=[iR eTok x1.1.Toks,iR eNon x1.1.Nons,iR eProd_0 x1.1.Prods,SS x1.1.Pro,SS x1.1.Tail]) q (.obj q) (.aggF q q) q sz38 q q q q (.b q (.n q q .nil))<|Va q<|Fi (tn2 q q)) ?_
 refine Px.sq<|W.sq' ?_
 refine W.rx [(3,_),(4,_),(5,_)] (Rv (O.bu (cs:=[I64 0,I64 0]) sc72 ze72 q q q)<|Rv (O.bu (cs:=[I64 9,I64 0]) sc72 ze72 q q q)<|Rv (O.bs (ys:=[.agg [I64 0,I64 0],.agg [I64 9,I64 0]]) eItem [(⟨0,0⟩:Item),(⟨9,0⟩:Item)] sl66 q q q q q q zt72 q q)<|RunL.ea (G2:=[(3,.obj (eGrammar_0.cells x1.1)),(4,BB x1.2)]) q (EO.aR q q (.own q) q (.n q q (.n q q .nil)) q q)<|Fi (tn3 q q q)) ?_
 refine Px.sq<|W.sq' ?_
 obtain ⟨c16,hj,h⟩:=bnd h
 refine W.rx [(0,BB c16)] ?_ ?_
 ·refine Vm q<|Rv (O.mv (.lit q)) ?_
  rcases cnd hj with ⟨hb2,hj⟩ | ⟨hb2,hj⟩
  ·refine RunL.v (O.ldON (cs':=[iR eTok x1.1.Toks,iR eNon x1.1.Nons,iR eProd_0 x1.1.Prods,SS x1.1.Pro,SS x1.1.Tail]) q (.obj q) at38 q q) q q (.yb q q hb2)<|RunL.v (O.bu (cs:=[I64 1,I64 1]) sc72 ze72 q q q) q q (.yb q q hb2) ?_
   obtain ⟨x3,hx3,hj⟩:=bnd hj
   refine RunL.c (PC.go (.cc (.aggF q q) (.cc (.aggF q q) .nil)) (con40 x1.1 (⟨1,1⟩:Item) _ hx3) call40 q) q q (.yb q q hb2)<|RunL.v (O.eqS (.lit q) (.k q)) q q (.yb q q hb2)<|Rv (O.pkT (.lit q) hb2 (.lit q))<|Rv (O.mv (.lit q)) ?_
   rcases cnd hj with ⟨hb4,hj⟩ | ⟨hb4,hj⟩
   ·refine RunL.v (O.ldON (cs':=[iR eTok x1.1.Toks,iR eNon x1.1.Nons,iR eProd_0 x1.1.Prods,SS x1.1.Pro,SS x1.1.Tail]) q (.obj q) at38 q q) q q (.yb q q hb4)<|RunL.v (O.bu (cs:=[I64 1,I64 1]) sc72 ze72 q q q) q q (.yb q q hb4) ?_
    obtain ⟨x5,hx5,hj⟩:=bnd hj
    refine RunL.c (PC.go (.cc (.aggF q q) (.cc (.aggF q q) .nil)) (con32 x1.1 (⟨1,1⟩:Item) _ hx5) call32 q) q q (.yb q q hb4)<|RunL.v (O.eql (.lit q) (.k q)) q q (.yb q q hb4)<|Rv (O.pkT (.lit q) hb4 (.lit q))<|Rv (O.mv (.lit q)) ?_
    rcases cnd hj with ⟨hb6,hj⟩ | ⟨hb6,hj⟩
    ·refine RunL.v (O.ldON (cs':=[iR eTok x1.1.Toks,iR eNon x1.1.Nons,iR eProd_0 x1.1.Prods,SS x1.1.Pro,SS x1.1.Tail]) q (.obj q) at38 q q) q q (.yb q q hb6)<|RunL.v (O.bu (cs:=[I64 1,I64 3]) sc72 ze72 q q q) q q (.yb q q hb6) ?_
     obtain ⟨x7,hx7,hj⟩:=bnd hj
     refine RunL.c (PC.go (.cc (.aggF q q) (.cc (.aggF q q) .nil)) (con32 x1.1 (⟨1,3⟩:Item) _ hx7) call32 q) q q (.yb q q hb6)<|RunL.v (O.eql (.lit q) (.k q)) q q (.yb q q hb6)<|Rv (O.pkT (.lit q) hb6 (.lit q))<|Rv (O.mv (.lit q)) ?_
     rcases cnd hj with ⟨hb8,hj⟩ | ⟨hb8,hj⟩
     ·refine RunL.v (O.ldON (cs':=[iR eTok x1.1.Toks,iR eNon x1.1.Nons,iR eProd_0 x1.1.Prods,SS x1.1.Pro,SS x1.1.Tail]) q (.obj q) at38 q q) q q (.yb q q hb8)<|RunL.v (O.bu (cs:=[I64 9,I64 0]) sc72 ze72 q q q) q q (.yb q q hb8) ?_
      obtain ⟨x9,hx9,hj⟩:=bnd hj
      refine RunL.c (PC.go (.cc (.aggF q q) (.cc (.aggF q q) .nil)) (con32 x1.1 (⟨9,0⟩:Item) _ hx9) call32 q) q q (.yb q q hb8)<|RunL.v (O.eql (.lit q) (.k q)) q q (.yb q q hb8)<|Rv (O.pkT (.lit q) hb8 (.lit q))<|Rv (O.mv (.lit q)) ?_
      rcases cnd hj with ⟨hb10,hj⟩ | ⟨hb10,hj⟩
      ·refine RunL.v (O.ldON (cs':=[iR eTok x1.1.Toks,iR eNon x1.1.Nons,iR eProd_0 x1.1.Prods,SS x1.1.Pro,SS x1.1.Tail]) q (.obj q) at38 q q) q q (.yb q q hb10)<|RunL.v (O.mv (.own q)) q q (.yb q q hb10) ?_
       obtain ⟨x11,hx11,hj⟩:=bnd hj
       refine RunL.c (PC.vw (ys:=[.agg (eGrammar_0.cells x1.1),.brw eItem.z ⟨5,[]⟩ [(⟨0,0⟩:Item),(⟨9,0⟩:Item)].length]) q (.c (.ag (.s (.s (.s (.s (.s .nil)))))) (.c (.row q) .nil)) (con36 x1.1 [(⟨0,0⟩:Item),(⟨9,0⟩:Item)] _ hx11) call36 q) q q (.yb q q hb10)<|RunL.v (O.bu (cs:=[I64 0,I64 0]) sc72 ze72 q q q) q q (.yb q q hb10)<|RunL.v (O.bu (cs:=[I64 1,I64 0]) sc72 ze72 q q q) q q (.yb q q hb10)<|RunL.v (O.bu (cs:=[I64 2,I64 0]) sc72 ze72 q q q) q q (.yb q q hb10)<|RunL.vi (x:=iR eItem [(⟨0,0⟩:Item),(⟨1,0⟩:Item),(⟨2,0⟩:Item)]) (O.bs (ys:=[.agg [I64 0,I64 0],.agg [I64 1,I64 0],.agg [I64 2,I64 0]]) eItem [(⟨0,0⟩:Item),(⟨1,0⟩:Item),(⟨2,0⟩:Item)] sl66 q q q q q q zt72 q q) q q (.yb q q hb10) ?_
       obtain ⟨x12,hx12,hj⟩:=bnd hj
       refine RunL.c (PC.vw (ys:=[.brw eItem.z ⟨58,[]⟩ x11.length,iR eItem [(⟨0,0⟩:Item),(⟨1,0⟩:Item),(⟨2,0⟩:Item)]]) q (.c (.row q) (.s .nil)) (con35 x11 [(⟨0,0⟩:Item),(⟨1,0⟩:Item),(⟨2,0⟩:Item)] _ hx12) call35 q) q q (.yb q q hb10)<|Rv (O.pkT (.lit q) hb10 (.lit q))<|Rv (O.mv (.lit q)) ?_
       rcases cnd hj with ⟨hb13,hj⟩ | ⟨hb13,hj⟩
       ·refine RunL.v (O.ldON (cs':=[iR eTok x1.1.Toks,iR eNon x1.1.Nons,iR eProd_0 x1.1.Prods,SS x1.1.Pro,SS x1.1.Tail]) q (.obj q) at38 q q) q q (.yb q q hb13)<|RunL.v (O.mv (.own q)) q q (.yb q q hb13) ?_
        obtain ⟨x14,hx14,hj⟩:=bnd hj
        refine RunL.c (PC.vw (ys:=[.agg (eGrammar_0.cells x1.1),.brw eItem.z ⟨5,[]⟩ [(⟨0,0⟩:Item),(⟨9,0⟩:Item)].length,I64 1001]) q (.c (.ag (.s (.s (.s (.s (.s .nil)))))) (.c (.row q) (.s .nil))) (con38 x1.1 [(⟨0,0⟩:Item),(⟨9,0⟩:Item)] 1001 _ hx14) call38 q) q q (.yb q q hb13)<|RunL.v (O.bu (cs:=[I64 0,I64 1]) sc72 ze72 q q q) q q (.yb q q hb13)<|RunL.v (O.bu (cs:=[I64 1,I64 1]) sc72 ze72 q q q) q q (.yb q q hb13)<|RunL.vi (x:=iR eItem [(⟨0,1⟩:Item),(⟨1,1⟩:Item)]) (O.bs (ys:=[.agg [I64 0,I64 1],.agg [I64 1,I64 1]]) eItem [(⟨0,1⟩:Item),(⟨1,1⟩:Item)] sl66 q q q q q q zt72 q q) q q (.yb q q hb13) ?_
        obtain ⟨x15,hx15,hj⟩:=bnd hj
        obtain rfl:=sm hj
        exact RunL.c (PC.vw (ys:=[.brw eItem.z ⟨68,[]⟩ x14.length,iR eItem [(⟨0,1⟩:Item),(⟨1,1⟩:Item)]]) q (.c (.row q) (.s .nil)) (con35 x14 [(⟨0,1⟩:Item),(⟨1,1⟩:Item)] _ hx15) call35 q) q q (.yb q q hb13)<|Rv (O.pkT (.lit q) hb13 (.lit q))<|Va q<|Fi (.n q .nil)
       ·obtain rfl:=sm hj
        exact RunL.ps q q hb13 q q<|RunL.ps q q hb13 q q<|RunL.ps q q hb13 q q<|RunL.ps q q hb13 q q<|RunL.ps q q hb13 q q<|RunL.ps q q hb13 q q<|RunL.ps q q hb13 q q<|Rv (O.pkF (.lit q) hb13 (.k q))<|Va q<|Fi (.n q .nil)
      ·obtain rfl:=sm hj
       exact RunL.ps q q hb10 q q<|RunL.ps q q hb10 q q<|RunL.ps q q hb10 q q<|RunL.ps q q hb10 q q<|RunL.ps q q hb10 q q<|RunL.ps q q hb10 q q<|RunL.ps q q hb10 q q<|RunL.ps q q hb10 q q<|Rv (O.pkF (.lit q) hb10 (.k q))<|Vm q<|RunL.ps q q q q q<|RunL.ps q q q q q<|RunL.ps q q q q q<|RunL.ps q q q q q<|RunL.ps q q q q q<|RunL.ps q q q q q<|RunL.ps q q q q q<|Rv (O.pkF (.lit q) q (.k q))<|Va q<|Fi (.n q .nil)
     ·obtain rfl:=sm hj
      exact RunL.ps q q hb8 q q<|RunL.ps q q hb8 q q<|RunL.ps q q hb8 q q<|RunL.ps q q hb8 q q<|Rv (O.pkF (.lit q) hb8 (.k q))<|Vm q<|RunL.ps q q q q q<|RunL.ps q q q q q<|RunL.ps q q q q q<|RunL.ps q q q q q<|RunL.ps q q q q q<|RunL.ps q q q q q<|RunL.ps q q q q q<|RunL.ps q q q q q<|Rv (O.pkF (.lit q) q (.k q))<|Vm q<|RunL.ps q q q q q<|RunL.ps q q q q q<|RunL.ps q q q q q<|RunL.ps q q q q q<|RunL.ps q q q q q<|RunL.ps q q q q q<|RunL.ps q q q q q<|Rv (O.pkF (.lit q) q (.k q))<|Va q<|Fi (.n q .nil)
    ·obtain rfl:=sm hj
     exact RunL.ps q q hb6 q q<|RunL.ps q q hb6 q q<|RunL.ps q q hb6 q q<|RunL.ps q q hb6 q q<|Rv (O.pkF (.lit q) hb6 (.k q))<|Vm q<|RunL.ps q q q q q<|RunL.ps q q q q q<|RunL.ps q q q q q<|RunL.ps q q q q q<|Rv (O.pkF (.lit q) q (.k q))<|Vm q<|RunL.ps q q q q q<|RunL.ps q q q q q<|RunL.ps q q q q q<|RunL.ps q q q q q<|RunL.ps q q q q q<|RunL.ps q q q q q<|RunL.ps q q q q q<|RunL.ps q q q q q<|Rv (O.pkF (.lit q) q (.k q))<|Vm q<|RunL.ps q q q q q<|RunL.ps q q q q q<|RunL.ps q q q q q<|RunL.ps q q q q q<|RunL.ps q q q q q<|RunL.ps q q q q q<|RunL.ps q q q q q<|Rv (O.pkF (.lit q) q (.k q))<|Va q<|Fi (.n q .nil)
   ·obtain rfl:=sm hj
    exact RunL.ps q q hb4 q q<|RunL.ps q q hb4 q q<|RunL.ps q q hb4 q q<|RunL.ps q q hb4 q q<|Rv (O.pkF (.lit q) hb4 (.k q))<|Vm q<|RunL.ps q q q q q<|RunL.ps q q q q q<|RunL.ps q q q q q<|RunL.ps q q q q q<|Rv (O.pkF (.lit q) q (.k q))<|Vm q<|RunL.ps q q q q q<|RunL.ps q q q q q<|RunL.ps q q q q q<|RunL.ps q q q q q<|Rv (O.pkF (.lit q) q (.k q))<|Vm q<|RunL.ps q q q q q<|RunL.ps q q q q q<|RunL.ps q q q q q<|RunL.ps q q q q q<|RunL.ps q q q q q<|RunL.ps q q q q q<|RunL.ps q q q q q<|RunL.ps q q q q q<|Rv (O.pkF (.lit q) q (.k q))<|Vm q<|RunL.ps q q q q q<|RunL.ps q q q q q<|RunL.ps q q q q q<|RunL.ps q q q q q<|RunL.ps q q q q q<|RunL.ps q q q q q<|RunL.ps q q q q q<|Rv (O.pkF (.lit q) q (.k q))<|Va q<|Fi (.n q .nil)
  ·obtain rfl:=sm hj
   exact RunL.ps q q hb2 q q<|RunL.ps q q hb2 q q<|RunL.ps q q hb2 q q<|RunL.ps q q hb2 q q<|Rv (O.pkF (.lit q) hb2 (.k q))<|Vm q<|RunL.ps q q q q q<|RunL.ps q q q q q<|RunL.ps q q q q q<|RunL.ps q q q q q<|Rv (O.pkF (.lit q) q (.k q))<|Vm q<|RunL.ps q q q q q<|RunL.ps q q q q q<|RunL.ps q q q q q<|RunL.ps q q q q q<|Rv (O.pkF (.lit q) q (.k q))<|Vm q<|RunL.ps q q q q q<|RunL.ps q q q q q<|RunL.ps q q q q q<|RunL.ps q q q q q<|Rv (O.pkF (.lit q) q (.k q))<|Vm q<|RunL.ps q q q q q<|RunL.ps q q q q q<|RunL.ps q q q q q<|RunL.ps q q q q q<|RunL.ps q q q q q<|RunL.ps q q q q q<|RunL.ps q q q q q<|RunL.ps q q q q q<|Rv (O.pkF (.lit q) q (.k q))<|Vm q<|RunL.ps q q q q q<|RunL.ps q q q q q<|RunL.ps q q q q q<|RunL.ps q q q q q<|RunL.ps q q q q q<|RunL.ps q q q q q<|RunL.ps q q q q q<|Rv (O.pkF (.lit q) q (.k q))<|Va q<|Fi (.n q .nil)
 refine Px.sq<|W.rt ?_
 obtain rfl:=sm h
 exact Px.fin (Fin.ro (.f q q .nil) q (ode (by kernel_rfl)) .nil q (.inr q))
theorem con69 (a0:Grammar) (a1:Item) (r:Bool) (h:pf69 a0 a1=some r):Con Try.prog 69 [.agg (eGrammar_0.cells a0),.agg [I64 a1.Prod,I64 a1.Dot]] [none,none] (BB r):=by
 unfold pf69 at h
 refine Con.go (N:=⟨34,[]⟩) Try.func69 q q q q (W.fin ?_)
 refine W.st [(0,.agg (eGrammar_0.cells a0)),(1,.agg [I64 a1.Prod,I64 a1.Dot])] ?_
 refine W.sq'<|W.rx [(2,_),(3,_)] (Rv (O.box (.aggF q q) q)<|Rv (O.box (.aggF q q) q)<|Vk q<|Fi (tn2 q q)) ?_
 refine Px.sq<|W.sq' ?_
 obtain ⟨c5,hj,h⟩:=bnd h
 refine W.rd [[],[0],[0,1],[0,1,2],[0,1,2,3],rn 0 5 [],[0,1,2,3],[0,1,2,3,6],[0,1,2,3,6,7],rn 0 9 [],rn 0 10 [],rn 0 11 [],rn 0 12 [],rn 0 13 [],rn 0 14 [],rn 0 15 [],rn 0 16 [],rn 0 17 [],rn 0 18 [],rn 0 17 [],rn 0 17 [19],rn 0 17 [],rn 0 17 [21],rn 0 17 [19,20,21,22],rn 0 17 (rn 19 5 []),rn 0 17 (rn 19 6 []),rn 0 17 (rn 19 7 []),rn 0 27 [],rn 0 28 [],rn 0 29 []] [(4,BB c5)] mixo (by kernel_rfl) ?_ ?_
 ·refine Dv 0 (O.fO q (.obj q) fd72_0 q)<|Dv 1 (O.ldO (y:=I64 a1.Prod) q (.ptr q) ct3 q q)<|Dv 2 (O.geq (.lit q) (.k q))<|Dv 3 (O.mv (.lit q)) ?_
  rcases cnd hj with ⟨hb1,hj⟩ | ⟨hb1,hj⟩
  ·refine DL.v 4 (O.fO q (.obj q) fd72_0 q) q q q q (.yb q q hb1)<|DL.v 5 (O.ldO (y:=I64 a1.Prod) q (.ptr q) ct3 q q) q q q q (.yb q q hb1)<|DL.v 6 (O.fO q (.obj q) fd38_2 q) q q q q (.yb q q hb1)<|DL.v 7 (O.ldO (y:=iR eProd_0 a0.Prods) q (.ptr q) ct36 q q) q q q q (.yb q q hb1)<|DL.v 8 (O.lenI (.imm q) sl36) q q q q (.yb q q hb1)<|DL.v 9 (O.lss (.lit q) (.lit q)) q q q q (.yb q q hb1)<|Dv 10 (O.pkT (.lit q) hb1 (.lit q))<|Dv 11 (O.mv (.lit q)) ?_
   rcases cnd hj with ⟨hb2,hj⟩ | ⟨hb2,hj⟩
   ·refine DL.v 12 (O.fO q (.obj q) fd72_1 q) q q q q (.yb q q hb2)<|DL.v 13 (O.ldO (y:=I64 a1.Dot) q (.ptr q) ct3 q q) q q q q (.yb q q hb2)<|DL.v 14 (O.geq (.lit q) (.k q)) q q q q (.yb q q hb2)<|Dv 15 (O.pkT (.lit q) hb2 (.lit q))<|Dv 16 (O.mv (.lit q)) ?_
    rcases cnd hj with ⟨hb3,hj⟩ | ⟨hb3,hj⟩
    ·refine DL.v 17 (O.fO q (.obj q) fd72_1 q) q q q q (.yb q q hb3)<|DL.v 18 (O.ldO (y:=I64 a1.Dot) q (.ptr q) ct3 q q) q q q q (.yb q q hb3)<|DL.v 19 (O.fO q (.obj q) fd38_2 q) q q q q (.yb q q hb3)<|DL.v 20 (O.ldO (y:=iR eProd_0 a0.Prods) q (.ptr q) ct36 q q) q q q q (.yb q q hb3)<|DL.v 21 (O.fO q (.obj q) fd72_0 q) q q q q (.yb q q hb3)<|DL.v 22 (O.ldO (y:=I64 a1.Prod) q (.ptr q) ct3 q q) q q q q (.yb q q hb3) ?_
     obtain ⟨x4,hx4,hj⟩:=bnd hj
     obtain rfl:=sm hj
     exact DL.v 23 (O.ixI (.imm q) (.lit q) sl36 hx4) q q q q (.yb q q hb3)<|DL.v 24 (O.fI (.iptr q) fd83_1) q q q q (.yb q q hb3)<|DL.v 25 (O.ldI (x:=iR eI x4.Right) (.iptr q) ct27 q) q q q q (.yb q q hb3)<|DL.v 26 (O.lenI (.imm q) sl27) q q q q (.yb q q hb3)<|DL.v 27 (O.leq (.lit q) (.lit q)) q q q q (.yb q q hb3)<|Dv 28 (O.pkT (.lit q) hb3 (.lit q))<|Dv 29 (O.az (.lit q))<|DL.fin q q q (.n q .nil)
    ·obtain rfl:=sm hj
     exact DL.ps 17 q q hb3 q q q q<|DL.ps 18 q q hb3 q q q q<|DL.ps 19 q q hb3 q q q q<|DL.ps 20 q q hb3 q q q q<|DL.ps 21 q q hb3 q q q q<|DL.ps 22 q q hb3 q q q q<|DL.ps 23 q q hb3 q q q q<|DL.ps 24 q q hb3 q q q q<|DL.ps 25 q q hb3 q q q q<|DL.ps 26 q q hb3 q q q q<|DL.ps 27 q q hb3 q q q q<|Dv 28 (O.pkF (.lit q) hb3 (.k q))<|Dv 29 (O.az (.lit q))<|DL.fin q q q (.n q .nil)
   ·obtain rfl:=sm hj
    exact DL.ps 12 q q hb2 q q q q<|DL.ps 13 q q hb2 q q q q<|DL.ps 14 q q hb2 q q q q<|Dv 15 (O.pkF (.lit q) hb2 (.k q))<|Dv 16 (O.mv (.lit q))<|DL.ps 17 q q q q q q q<|DL.ps 18 q q q q q q q<|DL.ps 19 q q q q q q q<|DL.ps 20 q q q q q q q<|DL.ps 21 q q q q q q q<|DL.ps 22 q q q q q q q<|DL.ps 23 q q q q q q q<|DL.ps 24 q q q q q q q<|DL.ps 25 q q q q q q q<|DL.ps 26 q q q q q q q<|DL.ps 27 q q q q q q q<|Dv 28 (O.pkF (.lit q) q (.k q))<|Dv 29 (O.az (.lit q))<|DL.fin q q q (.n q .nil)
  ·obtain rfl:=sm hj
   exact DL.ps 4 q q hb1 q q q q<|DL.ps 5 q q hb1 q q q q<|DL.ps 6 q q hb1 q q q q<|DL.ps 7 q q hb1 q q q q<|DL.ps 8 q q hb1 q q q q<|DL.ps 9 q q hb1 q q q q<|Dv 10 (O.pkF (.lit q) hb1 (.k q))<|Dv 11 (O.mv (.lit q))<|DL.ps 12 q q q q q q q<|DL.ps 13 q q q q q q q<|DL.ps 14 q q q q q q q<|Dv 15 (O.pkF (.lit q) q (.k q))<|Dv 16 (O.mv (.lit q))<|DL.ps 17 q q q q q q q<|DL.ps 18 q q q q q q q<|DL.ps 19 q q q q q q q<|DL.ps 20 q q q q q q q<|DL.ps 21 q q q q q q q<|DL.ps 22 q q q q q q q<|DL.ps 23 q q q q q q q<|DL.ps 24 q q q q q q q<|DL.ps 25 q q q q q q q<|DL.ps 26 q q q q q q q<|DL.ps 27 q q q q q q q<|Dv 28 (O.pkF (.lit q) q (.k q))<|Dv 29 (O.az (.lit q))<|DL.fin q q q (.n q .nil)
 refine Px.sq<|W.rt ?_
 obtain rfl:=sm h
 exact Px.fin (Fin.ro (.f q q .nil) q (ode (by kernel_rfl)) (.no (.no .nil)) q (.inr q))
theorem con101 (a0:Grammar) (a1:Int) (r:Bool) (h:pf101 a0 a1=some r):Con Try.prog 101 [.agg (eGrammar_0.cells a0),I64 a1] [none,none] (BB r):=by
 unfold pf101 at h
 refine Con.go (N:=⟨26,[]⟩) Try.func101 q q q q (W.fin ?_)
 refine W.st [(0,.agg (eGrammar_0.cells a0)),(1,I64 a1)] ?_
 refine W.sq'<|W.rx [(1,_),(2,_)] (Rv (O.box (.aggF q q) q)<|Vk q<|Fi (tn2 q q)) ?_
 refine Px.sq<|W.sq' ?_
 obtain ⟨c5,hj,h⟩:=bnd h
 refine W.rx [(4,BB c5)] ?_ ?_
 ·refine Vm q<|Rv (O.geq (.lit q) (.k q))<|Rv (O.mv (.lit q)) ?_
  rcases cnd hj with ⟨hb1,hj⟩ | ⟨hb1,hj⟩
  ·refine RunL.v (O.mv (.lit q)) q q (.yb q q hb1)<|RunL.v (O.fO q (.obj q) fd38_0 q) q q (.yb q q hb1)<|RunL.v (O.ldO (y:=iR eTok a0.Toks) q (.ptr q) ct34 q q) q q (.yb q q hb1)<|RunL.v (O.lenI (.imm q) sl34) q q (.yb q q hb1)<|RunL.v (O.lss (.lit q) (.lit q)) q q (.yb q q hb1)<|Rv (O.pkT (.lit q) hb1 (.lit q))<|Rv (O.mv (.lit q)) ?_
   rcases cnd hj with ⟨hb2,hj⟩ | ⟨hb2,hj⟩
   ·obtain rfl:=sm hj
    exact RunL.ps q q hb2 q q<|RunL.ps q q hb2 q q<|RunL.ps q q hb2 q q<|RunL.pu q q q q<|RunL.pu q q q q<|RunL.pu q q q q<|RunL.pu q q q q<|RunL.pu q q q q<|RunL.pu q q q q<|RunL.ps q q hb2 q q<|Rv (O.pkT (.lit q) hb2 (.k q))<|Va q<|Fi (.n q .nil)
   ·refine RunL.v (O.mv (.lit q)) q q (.yb q q hb2)<|RunL.v (O.geq (.lit q) (.k q)) q q (.yb q q hb2)<|RunL.v (O.mv (.lit q)) q q (.yb q q hb2) ?_
    rcases cnd hj with ⟨hb3,hj⟩ | ⟨hb3,hj⟩
    ·obtain rfl:=sm hj
     exact RunL.v (O.mv (.lit q)) q q (.yb q q hb3)<|RunL.v (O.fO q (.obj q) fd38_1 q) q q (.yb q q hb3)<|RunL.v (O.ldO (y:=iR eNon a0.Nons) q (.ptr q) ct35 q q) q q (.yb q q hb3)<|RunL.v (O.lenI (.imm q) sl35) q q (.yb q q hb3)<|RunL.v (O.add (.k q) (.lit q)) q q (.yb q q hb3)<|RunL.v (O.lss (.lit q) (.lit q)) q q (.yb q q hb3)<|RunL.v (O.pkT (.lit q) hb3 (.lit q)) q q (.yb q q hb2)<|Rv (O.pkF (.lit q) hb2 (.lit q))<|Va q<|Fi (.n q .nil)
    ·obtain rfl:=sm hj
     exact RunL.ps q q hb3 q q<|RunL.ps q q hb3 q q<|RunL.ps q q hb3 q q<|RunL.ps q q hb3 q q<|RunL.ps q q hb3 q q<|RunL.ps q q hb3 q q<|RunL.v (O.pkF (.lit q) hb3 (.k q)) q q (.yb q q hb2)<|Rv (O.pkF (.lit q) hb2 (.lit q))<|Va q<|Fi (.n q .nil)
  ·refine RunL.ps q q hb1 q q<|RunL.ps q q hb1 q q<|RunL.ps q q hb1 q q<|RunL.ps q q hb1 q q<|RunL.ps q q hb1 q q<|Rv (O.pkF (.lit q) hb1 (.k q))<|Vm q<|RunL.v (O.mv (.lit q)) q q (.yb q q q)<|RunL.v (O.geq (.lit q) (.k q)) q q (.yb q q q)<|RunL.v (O.mv (.lit q)) q q (.yb q q q) ?_
   rcases cnd hj with ⟨hb4,hj⟩ | ⟨hb4,hj⟩
   ·obtain rfl:=sm hj
    exact RunL.v (O.mv (.lit q)) q q (.yb q q hb4)<|RunL.v (O.fO q (.obj q) fd38_1 q) q q (.yb q q hb4)<|RunL.v (O.ldO (y:=iR eNon a0.Nons) q (.ptr q) ct35 q q) q q (.yb q q hb4)<|RunL.v (O.lenI (.imm q) sl35) q q (.yb q q hb4)<|RunL.v (O.add (.k q) (.lit q)) q q (.yb q q hb4)<|RunL.v (O.lss (.lit q) (.lit q)) q q (.yb q q hb4)<|RunL.v (O.pkT (.lit q) hb4 (.lit q)) q q (.yb q q q)<|Rv (O.pkF (.lit q) q (.lit q))<|Va q<|Fi (.n q .nil)
   ·obtain rfl:=sm hj
    exact RunL.ps q q hb4 q q<|RunL.ps q q hb4 q q<|RunL.ps q q hb4 q q<|RunL.ps q q hb4 q q<|RunL.ps q q hb4 q q<|RunL.ps q q hb4 q q<|RunL.v (O.pkF (.lit q) hb4 (.k q)) q q (.yb q q q)<|Rv (O.pkF (.lit q) q (.lit q))<|Va q<|Fi (.n q .nil)
 refine Px.sq<|W.rt ?_
 obtain rfl:=sm h
 exact Px.fin (Fin.ro (.f q q .nil) q (ode (by kernel_rfl)) (.no (.no .nil)) q (.inr q))
theorem con102 (a0:Int) (r:ByteArray) (h:pf102 a0=some r):Con Try.prog 102 [U8 a0] [none] (SS r):=by
 unfold pf102 at h
 refine Con.go (N:=⟨24,[]⟩) Try.func102 q q q q (W.fin ?_)
 refine W.st [(0,U8 a0)] ?_
 refine W.sq'<|W.rx [(0,_)] (Vk q<|Fi (.n q .nil)) ?_
 refine Px.sq<|W.sq' ?_
 obtain ⟨x1,hx1,h⟩:=bnd h
 refine W.rx [(0,_),(3,_),(4,_)] (Vm q<|Rc (PC.go (.cc (.lit q) .nil) (con130 a0 _ hx1) call130 q)<|Rv (O.mv (.tupF q q))<|Rv (O.ex (y:=U8 x1.1) q q q)<|Rv (O.ex (y:=BB x1.2) q q q)<|Va q<|Va q<|Fi (tn3 q q q)) ?_
 refine Px.sq<|W.sq' ?_
 refine W.sq'<|W.rx [(0,_),(3,_),(11,_)] (Vm q<|Rv (O.not (.lit q))<|Fi (tn3 q q q)) ?_
 refine Px.sq<|W.cnd q (fun hb2=>?_) (fun hb2=>?_)
 ·replace h:=cndT hb2 h
  refine W.sq'<|W.rx [(2,_)] (Vk q<|Fi (.n q .nil)) ?_
  refine Px.sq<|W.rt ?_
  refine Px.sqR ?_
  obtain rfl:=sm h
  exact Px.fin (Fin.ro (.f q q .nil) q (ode (by kernel_rfl)) (.no .nil) q (.inr q))
 ·replace h:=cndF hb2 h
  refine W.sk<|Px.sq ?_
  refine W.sq'<|W.sq' ?_
  refine W.rx [(0,_),(3,_),(13,_)] (Vm q<|Rv (O.neq (.lit q) (.k q))<|Fi (tn3 q q q)) ?_
  refine Px.sq<|W.cnd q (fun hb3=>?_) (fun hb3=>?_)
  ·replace h:=cndT hb3 h
   refine W.sq' ?_
   obtain ⟨x4,hx4,h⟩:=bnd h
   obtain ⟨x5,hx5,h⟩:=bnd h
   refine W.rx [(2,_)] (Vm q<|RunL.vi (x:=iR eU [x1.1]) (O.bs (ys:=[U8 x1.1]) eU [x1.1] sl107 q q q q q q zt5 q q) q q .none<|Rv (O.cvC (.imm q) by107_9)<|Rv (O.cat (.k q) (.lit q) hx4)<|Rv (O.cat (.lit q) (.k q) hx5)<|Va q<|Fi (.n q .nil)) ?_
   refine Px.sq<|W.rt ?_
   refine Px.sqR ?_
   obtain rfl:=sm h
   exact Px.fin (Fin.ro (.f q q .nil) q (ode (by kernel_rfl)) (.no .nil) q (.inr q))
  ·replace h:=cndF hb3 h
   refine W.sk<|Px.sq ?_
   refine W.sq' ?_
   obtain ⟨x6,hx6,h⟩:=bnd h
   obtain ⟨x7,hx7,h⟩:=bnd h
   refine W.rx [(2,_)] (Vm q<|RunL.vi (x:=iR eU [a0]) (O.bs (ys:=[U8 a0]) eU [a0] sl107 q q q q q q zt5 q q) q q .none<|Rv (O.cvC (.imm q) by107_9)<|Rv (O.cat (.k q) (.lit q) hx6)<|Rv (O.cat (.lit q) (.k q) hx7)<|Va q<|Fi (.n q .nil)) ?_
   refine Px.sq<|W.rt ?_
   obtain rfl:=sm h
   exact Px.fin (Fin.ro (.f q q .nil) q (ode (by kernel_rfl)) (.no .nil) q (.inr q))
theorem con77 (a0:Grammar) (a1:Int) (r:ByteArray) (h:pf77 a0 a1=some r):Con Try.prog 77 [.agg (eGrammar_0.cells a0),I64 a1] [none,none] (SS r):=by
 unfold pf77 at h
 refine Con.go (N:=⟨41,[]⟩) Try.func77 q q q q (W.fin ?_)
 refine W.st [(0,.agg (eGrammar_0.cells a0)),(1,I64 a1)] ?_
 refine W.sq'<|W.rx [(1,_),(2,_)] (Rv (O.box (.aggF q q) q)<|Vk q<|Fi (tn2 q q)) ?_
 refine Px.sq<|W.sq' ?_
 refine W.bk<|W.sq' ?_
 obtain ⟨x1,hx1,h⟩:=bnd h
 refine W.rx [(1,_),(2,_),(5,_)] (Rv (O.ldON (cs':=[iR eTok a0.Toks,iR eNon a0.Nons,iR eProd_0 a0.Prods,SS a0.Pro,SS a0.Tail]) q (.obj q) at38 q q)<|Vm q<|Rc (PC.go (.cc (.aggF q q) (.cc (.lit q) .nil)) (con101 a0 a1 _ hx1) call101 q)<|Rv (O.not (.lit q))<|Va q<|Fi (tn3 q q q)) ?_
 refine Px.sq<|W.cnd q (fun hb2=>?_) (fun hb2=>?_)
 ·replace h:=cndT hb2 h
  refine W.sq'<|W.rx [(4,_)] (Vk q<|Fi (.n q .nil)) ?_
  refine Px.sq<|W.rt ?_
  refine Px.bkR ?_
  refine Px.sqR ?_
  obtain rfl:=sm h
  exact Px.fin (Fin.ro (.f q q .nil) q (ode (by kernel_rfl)) (.no (.no .nil)) q (.inr q))
 ·replace h:=cndF hb2 h
  refine W.sq'<|W.rx [(1,_),(2,_),(10,_)] (Vm q<|Rv (O.geq (.lit q) (.k q))<|Va q<|Fi (tn3 q q q)) ?_
  refine Px.sq<|W.cnd q (fun hb3=>?_) (fun hb3=>?_)
  ·replace h:=cndT hb3 h
   refine W.sq' ?_
   obtain ⟨x4,hx4,h⟩:=bnd h
   refine W.rx [(4,_)] (Rv (O.fO q (.obj q) fd38_1 q)<|Rv (O.ldO (y:=iR eNon a0.Nons) q (.ptr q) ct35 q q)<|Vm q<|Rv (O.sub (.lit q) (.k q))<|Rv (O.ixI (.imm q) (.lit q) sl35 hx4)<|Rv (O.fI (.iptr q) fd134_0)<|Rv (O.ldI (x:=SS x4.Name) (.iptr q) ct9 q)<|Va q<|Fi (.n q .nil)) ?_
   refine Px.sq<|W.rt ?_
   refine Px.bkR ?_
   refine Px.sqR ?_
   obtain rfl:=sm h
   exact Px.fin (Fin.ro (.f q q .nil) q (ode (by kernel_rfl)) (.no (.no .nil)) q (.inr q))
  ·replace h:=cndF hb3 h
   refine W.sq' ?_
   obtain ⟨x5,hx5,h⟩:=bnd h
   refine W.rx [(1,_),(2,_),(20,_)] (Rv (O.fO q (.obj q) fd38_0 q)<|Rv (O.ldO (y:=iR eTok a0.Toks) q (.ptr q) ct34 q q)<|Vm q<|Rv (O.ixI (.imm q) (.lit q) sl34 hx5)<|Rv (O.fI (.iptr q) fd51_1)<|Rv (O.ldI (x:=BB x5.Lit) (.iptr q) ct4 q)<|Va q<|Fi (tn3 q q q)) ?_
   refine Px.sq<|W.cnd q (fun hb6=>?_) (fun hb6=>?_)
   ·replace h:=cndT hb6 h
    refine W.sq' ?_
    obtain ⟨x7,hx7,h⟩:=bnd h
    obtain ⟨x8,hx8,h⟩:=bnd h
    obtain ⟨x9,hx9,h⟩:=bnd h
    refine W.rx [(4,_)] (Rv (O.fO q (.obj q) fd38_0 q)<|Rv (O.ldO (y:=iR eTok a0.Toks) q (.ptr q) ct34 q q)<|Vm q<|Rv (O.ixI (.imm q) (.lit q) sl34 hx7)<|Rv (O.fI (.iptr q) fd51_0)<|Rv (O.ldI (x:=SS x7.Name) (.iptr q) ct9 q)<|Rv (O.at' (.lit q) (.k q) st9 hx8)<|Rc (PC.go (.cc (.lit q) .nil) (con102 x8 _ hx9) call102 q)<|Va q<|Fi (.n q .nil)) ?_
    refine Px.sq<|W.rt ?_
    refine Px.bkR ?_
    refine Px.sqR ?_
    obtain rfl:=sm h
    exact Px.fin (Fin.ro (.f q q .nil) q (ode (by kernel_rfl)) (.no (.no .nil)) q (.inr q))
   ·replace h:=cndF hb6 h
    refine W.sk<|Px.bk ?_
    refine Px.sq<|W.sq' ?_
    obtain ⟨x10,hx10,h⟩:=bnd h
    refine W.rx [(4,_)] (Rv (O.fO q (.obj q) fd38_0 q)<|Rv (O.ldO (y:=iR eTok a0.Toks) q (.ptr q) ct34 q q)<|Vm q<|Rv (O.ixI (.imm q) (.lit q) sl34 hx10)<|Rv (O.fI (.iptr q) fd51_0)<|Rv (O.ldI (x:=SS x10.Name) (.iptr q) ct9 q)<|Va q<|Fi (.n q .nil)) ?_
    refine Px.sq<|W.rt ?_
    obtain rfl:=sm h
    exact Px.fin (Fin.ro (.f q q .nil) q (ode (by kernel_rfl)) (.no (.no .nil)) q (.inr q))
theorem con41 (a0:Grammar) (a1:Item) (r:ByteArray) (h:pf41 a0 a1=some r):Con Try.prog 41 [.agg (eGrammar_0.cells a0),.agg [I64 a1.Prod,I64 a1.Dot]] [none,none] (SS r):=by
 unfold pf41 at h
 refine Con.go (N:=⟨58,[]⟩) Try.func41 q q q q (W.fin ?_)
 refine W.st [(0,.agg (eGrammar_0.cells a0)),(1,.agg [I64 a1.Prod,I64 a1.Dot])] ?_
 refine W.sq'<|W.rx [(2,_),(3,_)] (Rv (O.box (.aggF q q) q)<|Rv (O.box (.aggF q q) q)<|Vk q<|Fi (tn2 q q)) ?_
 refine Px.sq<|W.sq' ?_
 refine W.sq' ?_
 obtain ⟨x1,hx1,h⟩:=bnd h
 refine W.rx [(2,_),(3,_),(11,_)] (Rv (O.ldON (cs':=[iR eTok a0.Toks,iR eNon a0.Nons,iR eProd_0 a0.Prods,SS a0.Pro,SS a0.Tail]) q (.obj q) at38 q q)<|Rv (O.ldON (cs':=[I64 a1.Prod,I64 a1.Dot]) q (.obj q) at72 q q)<|Rc (PC.go (.cc (.aggF q q) (.cc (.aggF q q) .nil)) (con69 a0 a1 _ hx1) call69 q)<|Rv (O.not (.lit q))<|Fi (tn3 q q q)) ?_
 refine Px.sq<|W.cnd q (fun hb2=>?_) (fun hb2=>?_)
 ·replace h:=cndT hb2 h
  refine W.sq'<|W.rx [(4,_)] (Vk q<|Fi (.n q .nil)) ?_
  refine Px.sq<|W.rt ?_
  refine Px.sqR ?_
  obtain rfl:=sm h
  exact Px.fin (Fin.ro (.f q q .nil) q (ode (by kernel_rfl)) (.no (.no .nil)) q (.inr q))
 ·replace h:=cndF hb2 h
  refine W.sk<|Px.sq ?_
  refine W.sq' ?_
  obtain ⟨x3,hx3,h⟩:=bnd h
  refine W.rx [(2,_),(3,_),(5,_)] (Rv (O.fO q (.obj q) fd38_2 q)<|Rv (O.ldO (y:=iR eProd_0 a0.Prods) q (.ptr q) ct36 q q)<|Rv (O.fO q (.obj q) fd72_0 q)<|Rv (O.ldO (y:=I64 a1.Prod) q (.ptr q) ct3 q q)<|Rv (O.ixI (.imm q) (.lit q) sl36 hx3)<|Rv (O.ldIN (cs':=[I64 x3.Left,iR eI x3.Right,I64 x3.Prec,SS x3.Code,iR eI x3.Args,I64 x3.At]) (.iptr q) at83 q q)<|Rv (O.al (cs:=[I64 0,.nils,I64 0,SS S0,.nils,I64 0]) ze83 q q)<|RunL.sO (G2:=[(2,.obj (eGrammar_0.cells a0)),(3,.obj [I64 a1.Prod,I64 a1.Dot]),(5,.obj (eProd_0.cells x3))]) (cs2:=[I64 x3.Left,iR eI x3.Right,I64 x3.Prec,SS x3.Code,iR eI x3.Args,I64 x3.At]) q (.obj q) (.aggF q q) q sz83 q q q q (.n q q (.n q q (.b q .nil)))<|Fi (tn3 q q q)) ?_
  refine Px.sq<|W.sq' ?_
  obtain ⟨x4,hx4,h⟩:=bnd h
  obtain ⟨x5,hx5,h⟩:=bnd h
  refine W.rx [(2,_),(3,_),(5,_),(6,_)] (Rv (O.fO q (.obj q) fd38_1 q)<|Rv (O.ldO (y:=iR eNon a0.Nons) q (.ptr q) ct35 q q)<|Rv (O.fO q (.obj q) fd83_0 q)<|Rv (O.ldO (y:=I64 x3.Left) q (.ptr q) ct3 q q)<|Rv (O.ixI (.imm q) (.lit q) sl35 hx4)<|Rv (O.fI (.iptr q) fd134_0)<|Rv (O.ldI (x:=SS x4.Name) (.iptr q) ct9 q)<|Rv (O.cat (.lit q) (.k q) hx5)<|Va q<|Fi (tn4 q q q q)) ?_
  refine Px.sq<|W.sq' ?_
  refine W.sq'<|W.rx [(2,_),(3,_),(5,_),(6,_),(7,_)] (Vk q<|Fi (tn5 q q q q q)) ?_
  refine Px.sq<|W.bk ?_
  obtain ⟨x7,hl,h⟩:=bnd h
  refine W.tr (G1:=[(2,.obj (eGrammar_0.cells a0)),(3,.obj [I64 a1.Prod,I64 a1.Dot]),(5,.obj (eProd_0.cells x3)),(6,SS x5),(7,I64 0)]) (tn5 q q q q q) ?_
  refine W.lp1 (s:=(x5,0)) (fun (s6:ByteArray × Int)=>[(2,.obj (eGrammar_0.cells a0)),(3,.obj [I64 a1.Prod,I64 a1.Dot]),(5,.obj (eProd_0.cells x3)),(6,SS s6.1),(7,I64 s6.2)]) 0 (fun (x7:ByteArray)=>[(3,.obj [I64 a1.Prod,I64 a1.Dot]),(5,.obj (eProd_0.cells x3)),(6,SS x7)]) hl (fun s6 o h=>?_) ?_
  ·clear hl
   refine W.sq'<|W.sq' ?_
   refine W.rx [(2,_),(3,_),(5,_),(6,_),(7,_),(30,_)] (Vm q<|Rv (O.fO q (.obj q) fd83_1 q)<|Rv (O.ldO (y:=iR eI x3.Right) q (.ptr q) ct27 q q)<|Rv (O.lenI (.imm q) sl27)<|Rv (O.lss (.lit q) (.lit q))<|Fi (tn6 q q q q q q)) ?_
   refine Px.sq<|W.cnd q (fun hb9=>?_) (fun hb9=>?_)
   ·replace h:=cndT hb9 h
    refine W.sk<|Px.sq ?_
    refine W.sq'<|W.bk ?_
    refine W.sq'<|W.sq' ?_
    refine W.rx [(2,_),(3,_),(5,_),(6,_),(7,_),(36,_)] (Vm q<|Rv (O.fO q (.obj q) fd72_1 q)<|Rv (O.ldO (y:=I64 a1.Dot) q (.ptr q) ct3 q q)<|Rv (O.eql (.lit q) (.lit q))<|Fi (tn6 q q q q q q)) ?_
    refine Px.sq ?_
    obtain ⟨j10,hj,h⟩:=bnd h
    refine W.jn [(2,.obj (eGrammar_0.cells a0)),(3,.obj [I64 a1.Prod,I64 a1.Dot]),(5,.obj (eProd_0.cells x3)),(6,SS j10),(7,I64 s6.2)] ?_ ?_
    ·clear h; have h:=hj; clear hj
     refine W.cnd q (fun hb11=>?_) (fun hb11=>?_)
     ·replace h:=cndT hb11 h
      obtain ⟨x12,hx12,h⟩:=bnd h
      refine W.rx [(2,_),(3,_),(5,_),(6,_),(7,_)] (Vm q<|Rv (O.cat (.lit q) (.k q) hx12)<|RunL.re (G1:=[(2,.obj (eGrammar_0.cells a0)),(3,.obj [I64 a1.Prod,I64 a1.Dot]),(5,.obj (eProd_0.cells x3)),(7,I64 s6.2),(38,SS x12)]) (tn5 q q q q q)<|Va q<|Fi (tn5 q q q q q)) ?_
      obtain rfl:=sm h
      exact Px.jn (tn5 q q q q q)
     ·replace h:=cndF hb11 h
      refine W.sk ?_
      obtain rfl:=sm h
      exact Px.jn (tn5 q q q q q)
    refine Px.sq<|W.tr (G1:=[(2,.obj (eGrammar_0.cells a0)),(3,.obj [I64 a1.Prod,I64 a1.Dot]),(5,.obj (eProd_0.cells x3)),(6,SS j10),(7,I64 s6.2)]) (tn5 q q q q q) ?_
    obtain ⟨x13,hx13,h⟩:=bnd h
    obtain ⟨x14,hx14,h⟩:=bnd h
    obtain ⟨x15,hx15,h⟩:=bnd h
    obtain ⟨x16,hx16,h⟩:=bnd h
    refine W.rd [[],[0],[],[],[3],[],[3,4,5],[3,4,5,6],rn 2 6 [],rn 0 9 [],rn 0 10 []] [(2,_),(3,_),(5,_),(6,_),(7,_)] mixo (by kernel_rfl) (Dv 0 (O.mv (.lit q))<|Dv 1 (O.cat (.lit q) (.k q) hx13)<|Dv 2 (O.ldON (cs':=[iR eTok a0.Toks,iR eNon a0.Nons,iR eProd_0 a0.Prods,SS a0.Pro,SS a0.Tail]) q (.obj q) at38 q q)<|Dv 3 (O.fO q (.obj q) fd83_1 q)<|Dv 4 (O.ldO (y:=iR eI x3.Right) q (.ptr q) ct27 q q)<|Dv 5 (O.mv (.lit q))<|Dv 6 (O.ixI (.imm q) (.lit q) sl27 hx14)<|Dv 7 (O.ldI (x:=I64 x14) (.iptr q) ct3 q)<|Dc 8 (PC.go (.cc (.aggF q q) (.cc (.lit q) .nil)) (con77 a0 x14 _ hx15) call77 q)<|Dv 9 (O.cat (.lit q) (.lit q) hx16)<|DL.bv 10 (G2:=[(2,.obj (eGrammar_0.cells a0)),(3,.obj [I64 a1.Prod,I64 a1.Dot]),(5,.obj (eProd_0.cells x3)),(7,I64 s6.2)]) (EO.aG (y':=SS x16) q q (.lit q) (.f .nil) .refl (tn4 q q q q) q q) q q q q (by kernel_rfl) (by kernel_rfl)<|DL.fin q q q (tn5 q q q q q)) ?_
    refine Px.bk ?_
    refine Px.sq<|W.rx [(2,_),(3,_),(5,_),(6,_),(7,_)] (Vm q<|Rv (O.add (.lit q) (.k q))<|RunL.re (G1:=[(2,.obj (eGrammar_0.cells a0)),(3,.obj [I64 a1.Prod,I64 a1.Dot]),(5,.obj (eProd_0.cells x3)),(6,SS x16),(32,I64 (w64 (s6.2+1)))]) (tn5 q q q q q)<|Va q<|Fi (tn5 q q q q q)) ?_
    obtain rfl:=sm h
    exact Px.go (tn5 q q q q q)
   ·replace h:=cndF hb9 h
    refine W.xi ?_
    refine Px.sqE ?_
    obtain rfl:=sm h
    exact Px.x1 (tn3 q q q)
  refine Px.bkH ?_
  refine Px.sq<|W.sq' ?_
  refine W.sq'<|W.rx [(6,_),(54,_)] (Rv (O.fO q (.obj q) fd72_1 q)<|Rv (O.ldO (y:=I64 a1.Dot) q (.ptr q) ct3 q q)<|Rv (O.fO q (.obj q) fd83_1 q)<|Rv (O.ldO (y:=iR eI x3.Right) q (.ptr q) ct27 q q)<|Rv (O.lenI (.imm q) sl27)<|Rv (O.eql (.lit q) (.lit q))<|Fi (tn2 q q)) ?_
  refine Px.sq ?_
  obtain ⟨j17,hj,h⟩:=bnd h
  refine W.jn [(6,SS j17)] ?_ ?_
  ·clear h; have h:=hj; clear hj
   refine W.cnd q (fun hb18=>?_) (fun hb18=>?_)
   ·replace h:=cndT hb18 h
    obtain ⟨x19,hx19,h⟩:=bnd h
    refine W.rx [(6,_)] (Vm q<|Rv (O.cat (.lit q) (.k q) hx19)<|RunL.re (G1:=[(56,SS x19)]) (.n q .nil)<|Va q<|Fi (.n q .nil)) ?_
    obtain rfl:=sm h
    exact Px.jn (.n q .nil)
   ·replace h:=cndF hb18 h
    refine W.sk ?_
    obtain rfl:=sm h
    exact Px.jn (.n q .nil)
  refine Px.sq<|W.sq' ?_
  refine W.rx [(4,_)] (Vm q<|Va q<|Fi (.n q .nil)) ?_
  refine Px.sq<|W.rt ?_
  obtain rfl:=sm h
  exact Px.fin (Fin.ro (.f q q .nil) q (ode (by kernel_rfl)) (.no (.no .nil)) q (.inr q))
theorem con7 (a0:Source) (a1:yuccalaw0_Gr) (a2:Item) (r:Bool) (h:pf7 a0 a1 a2=some r):Con Try.prog 7 [.agg (eSource_0.cells a0),.agg [I64 a1.Nons,iR (eM eI) a1.Rules,iR eI a1.Levels,iR eI a1.Inner,BB a1.Bare],.agg [I64 a2.Prod,I64 a2.Dot]] [none,none,none] (BB r):=by
 unfold pf7 at h
 refine Con.go (N:=⟨65,[]⟩) Try.func7 q q q q (W.fin ?_)
 refine W.st [(0,.agg (eSource_0.cells a0)),(1,.agg [I64 a1.Nons,iR (eM eI) a1.Rules,iR eI a1.Levels,iR eI a1.Inner,BB a1.Bare]),(2,.agg [I64 a2.Prod,I64 a2.Dot])] ?_
 refine W.sq'<|W.rx [(3,_),(4,_),(5,_)] (Rv (O.box (.aggF q q) q)<|Rv (O.box (.aggF q q) q)<|Rv (O.box (.aggF q q) q)<|Vk q<|Fi (tn3 q q q)) ?_
 refine Px.sq<|W.sq' ?_
 refine W.sq' ?_
 obtain ⟨x1,hx1,h⟩:=bnd h
 refine W.rx [(3,_),(4,_),(5,_),(14,_)] (Rc (PC.go .nil (con29  _ hx1) call29 q)<|Rv (O.not (.lit q))<|Fi (tn4 q q q q)) ?_
 refine Px.sq<|W.cnd q (fun hb2=>?_) (fun hb2=>?_)
 ·replace h:=cndT hb2 h
  refine W.sq'<|W.rx [(6,_)] (Vk q<|Fi (.n q .nil)) ?_
  refine Px.sq<|W.rt ?_
  refine Px.sqR ?_
  obtain rfl:=sm h
  exact Px.fin (Fin.ro (.f q q .nil) q (ode (by kernel_rfl)) (.no (.no (.no .nil))) q (.inr q))
 ·replace h:=cndF hb2 h
  refine W.sk<|Px.sq ?_
  refine W.sq' ?_
  obtain ⟨x3,hx3,h⟩:=bnd h
  obtain ⟨x4,hx4,h⟩:=bnd h
  refine W.rd [[],[0],[],[0,1,2],[0,1,2,3],rn 0 5 []] [(5,_),(7,_)] mixo (by kernel_rfl) (Dv 0 (O.ldON (cs':=[SS a0.Pro,iR eDecl_0 a0.Decls,iR eRule_0 a0.Rules,SS a0.Tail]) q (.obj q) at25 q q)<|Dc 1 (PC.go (.cc (.aggF q q) .nil) (con18 a0 _ hx3) call18 q)<|Dv 2 (O.ldON (cs':=[I64 a1.Nons,iR (eM eI) a1.Rules,iR eI a1.Levels,iR eI a1.Inner,BB a1.Bare]) q (.obj q) at29 q q)<|Dc 3 (PC.go (.cc (.aggF q q) .nil) (con19 a1 _ hx4) call19 q)<|Dv 4 (O.bs (ys:=[.agg (eSource_0.cells x3),.agg (eSource_0.cells x4)]) eSource_0 [x3,x4] sl33 q q q q q q zt25 q q)<|DL.bv 5 (G2:=[(5,.obj [I64 a2.Prod,I64 a2.Dot])]) (EO.aR q q (.own q) q (.n q q .nil) q q) q q q q (by kernel_rfl) (by kernel_rfl)<|DL.fin q q q (tn2 q q)) ?_
  refine Px.sq<|W.sq' ?_
  refine W.sq'<|W.rx [(5,_),(7,_),(8,_)] (Vk q<|Fi (tn3 q q q)) ?_
  refine Px.sq<|W.bk ?_
  obtain ⟨x6,hl,h⟩:=bnd h
  refine W.tr (G1:=[(5,.obj [I64 a2.Prod,I64 a2.Dot]),(7,oR eSource_0 [x3,x4]),(8,I64 0)]) (tn3 q q q) ?_
  refine W.lp2 (s:=0) (fun (s5:Int)=>[(5,.obj [I64 a2.Prod,I64 a2.Dot]),(7,oR eSource_0 [x3,x4]),(8,I64 s5)]) 0 (fun (x7:Unit)=>[]) (fun (x8:Bool)=>[(6,BB x8)]) hl (fun s5 o h=>?_) (fun x7 hx=>?_) (fun x8 hx=>?_)
  ·clear hl
   refine W.sq'<|W.sq' ?_
   refine W.rx [(5,_),(7,_),(8,_),(23,_)] (Vm q<|Rv (O.mv (.own q))<|Rv (O.lenO (.brw q) sl33)<|Rv (O.lss (.lit q) (.lit q))<|Fi (tn4 q q q q)) ?_
   refine Px.sq<|W.cnd q (fun hb9=>?_) (fun hb9=>?_)
   ·replace h:=cndT hb9 h
    refine W.sk<|Px.sq ?_
    refine W.sq'<|W.bk ?_
    refine W.sq' ?_
    obtain ⟨x10,hx10,h⟩:=bnd h
    obtain ⟨x11,hx11,h⟩:=bnd h
    refine W.rx [(5,_),(7,_),(8,_),(9,_),(10,_)] (Rv (O.mv (.own q))<|Vm q<|Rv (O.ixO (en:=eSource_0) q (.brw q) (.lit q) sl33 hx10 q)<|Rv (O.ldEN (en:=eSource_0) (cs':=[SS x10.Pro,iR eDecl_0 x10.Decls,iR eRule_0 x10.Rules,SS x10.Tail]) q (.ptr q) at25 hx10 q q)<|Rc (PC.go (.cc (.aggF q q) .nil) (con20 x10 _ hx11) call20 q)<|Rv (O.mv (.tup q q))<|Rv (O.ex (y:=.agg (eGrammar_0.cells x11.1)) q q q)<|Rv (O.ex (y:=BB x11.2) q q q)<|Rv (O.al (cs:=[.nils,.nils,.nils,SS S0,SS S0]) ze38 q q)<|RunL.sO (G2:=[(5,.obj [I64 a2.Prod,I64 a2.Dot]),(7,oR eSource_0 [x3,x4]),(8,I64 s5),(9,.obj (eGrammar_0.cells x11.1)),(33,BB x11.2)]) (cs2:=[iR eTok x11.1.Toks,iR eNon x11.1.Nons,iR eProd_0 x11.1.Prods,SS x11.1.Pro,SS x11.1.Tail]) q (.obj q) (.aggF q q) q sz38 q q q q (.n q q (.n q q (.n q q (.b q (.n q q .nil)))))<|Va q<|Fi (tn5 q q q q q)) ?_
    refine Px.sq<|W.sq' ?_
    refine W.sq'<|W.rx [(5,_),(7,_),(8,_),(9,_),(35,_)] (Vm q<|Rv (O.not (.lit q))<|Fi (tn5 q q q q q)) ?_
    refine Px.sq<|W.cnd q (fun hb12=>?_) (fun hb12=>?_)
    ·replace h:=cndT hb12 h
     refine W.xi ?_
     refine Px.sqE ?_
     refine Px.bkH ?_
     refine Px.sq<|W.rx [(5,_),(7,_),(8,_)] (Vm q<|Rv (O.add (.lit q) (.k q))<|RunL.re (G1:=[(5,.obj [I64 a2.Prod,I64 a2.Dot]),(7,oR eSource_0 [x3,x4]),(25,I64 (w64 (s5+1)))]) (tn3 q q q)<|Va q<|Fi (tn3 q q q)) ?_
     obtain rfl:=sm h
     exact Px.go (tn3 q q q)
    ·replace h:=cndF hb12 h
     refine W.sk<|Px.sq ?_
     refine W.sq'<|W.sq' ?_
     refine W.rx [(5,_),(7,_),(8,_),(9,_),(11,_)] (Vk q<|Fi (tn5 q q q q q)) ?_
     refine Px.sq<|W.bk ?_
     obtain ⟨x14,hl,h⟩:=bnd h
     refine W.tr (G1:=[(5,.obj [I64 a2.Prod,I64 a2.Dot]),(7,oR eSource_0 [x3,x4]),(8,I64 s5),(9,.obj (eGrammar_0.cells x11.1)),(11,I64 (-1))]) (tn5 q q q q q) ?_
     refine W.lp2 (s:=(-1)) (fun (s13:Int)=>[(5,.obj [I64 a2.Prod,I64 a2.Dot]),(7,oR eSource_0 [x3,x4]),(8,I64 s5),(9,.obj (eGrammar_0.cells x11.1)),(11,I64 s13)]) 2 (fun (x15:Unit)=>[(5,.obj [I64 a2.Prod,I64 a2.Dot]),(7,oR eSource_0 [x3,x4]),(8,I64 s5),(9,.obj (eGrammar_0.cells x11.1))]) (fun (x16:Bool)=>[(6,BB x16)]) hl (fun s13 o h=>?_) (fun x15 hx=>?_) (fun x16 hx=>?_)
     ·clear hl
      refine W.sq'<|W.sq' ?_
      refine W.rx [(5,_),(7,_),(8,_),(9,_),(11,_),(40,_)] (Vm q<|Rv (O.fO q (.obj q) fd38_2 q)<|Rv (O.ldO (y:=iR eProd_0 x11.1.Prods) q (.ptr q) ct36 q q)<|Rv (O.lenI (.imm q) sl36)<|Rv (O.leq (.lit q) (.lit q))<|Fi (tn6 q q q q q q)) ?_
      refine Px.sq<|W.cnd q (fun hb17=>?_) (fun hb17=>?_)
      ·replace h:=cndT hb17 h
       refine W.sk<|Px.sq ?_
       refine W.sq'<|W.bk ?_
       refine W.sq'<|W.rx [(5,_),(7,_),(8,_),(9,_),(11,_),(12,_)] (Vk q<|Fi (tn6 q q q q q q)) ?_
       refine Px.sq<|W.bk ?_
       obtain ⟨x19,hl,h⟩:=bnd h
       refine W.tr (G1:=[(5,.obj [I64 a2.Prod,I64 a2.Dot]),(7,oR eSource_0 [x3,x4]),(8,I64 s5),(9,.obj (eGrammar_0.cells x11.1)),(11,I64 s13),(12,I64 (-1))]) (tn6 q q q q q q) ?_
       refine W.lp2 (s:=(-1)) (fun (s18:Int)=>[(5,.obj [I64 a2.Prod,I64 a2.Dot]),(7,oR eSource_0 [x3,x4]),(8,I64 s5),(9,.obj (eGrammar_0.cells x11.1)),(11,I64 s13),(12,I64 s18)]) 4 (fun (x20:Unit)=>[(5,.obj [I64 a2.Prod,I64 a2.Dot]),(7,oR eSource_0 [x3,x4]),(8,I64 s5),(9,.obj (eGrammar_0.cells x11.1)),(11,I64 s13)]) (fun (x21:Bool)=>[(6,BB x21)]) hl (fun s18 o h=>?_) (fun x20 hx=>?_) (fun x21 hx=>?_)
       ·clear hl
        refine W.sq'<|W.sq' ?_
        refine W.rx [(5,_),(7,_),(8,_),(9,_),(11,_),(12,_),(44,_)] (Vm q<|Rv (O.lss (.lit q) (.k q))<|Fi (tn7 q q q q q q q)) ?_
        refine Px.sq<|W.cnd q (fun hb22=>?_) (fun hb22=>?_)
        ·replace h:=cndT hb22 h
         refine W.sk<|Px.sq ?_
         refine W.sq'<|W.bk ?_
         refine W.sq' ?_
         obtain ⟨x23,hx23,h⟩:=bnd h
         obtain ⟨x24,hx24,h⟩:=bnd h
         refine W.rd [[],[],[],[1,2],[0,1,2,3],[],[],[],[6,7],rn 0 9 [],rn 0 10 []] [(5,_),(7,_),(8,_),(9,_),(11,_),(12,_),(57,_)] mixo (by kernel_rfl) (Dv 0 (O.ldON (cs':=[iR eTok x11.1.Toks,iR eNon x11.1.Nons,iR eProd_0 x11.1.Prods,SS x11.1.Pro,SS x11.1.Tail]) q (.obj q) at38 q q)<|Dv 1 (O.mv (.lit q))<|Dv 2 (O.mv (.lit q))<|Dv 3 (O.bu (cs:=[I64 s13,I64 s18]) sc72 ze72 q q q)<|Dc 4 (PC.go (.cc (.aggF q q) (.cc (.aggF q q) .nil)) (con40 x11.1 (⟨s13,s18⟩:Item) _ hx23) call40 q)<|Dv 5 (O.ldON (cs':=[iR eTok x11.1.Toks,iR eNon x11.1.Nons,iR eProd_0 x11.1.Prods,SS x11.1.Pro,SS x11.1.Tail]) q (.obj q) at38 q q)<|Dv 6 (O.mv (.lit q))<|Dv 7 (O.mv (.lit q))<|Dv 8 (O.bu (cs:=[I64 s13,I64 s18]) sc72 ze72 q q q)<|Dc 9 (PC.go (.cc (.aggF q q) (.cc (.aggF q q) .nil)) (con41 x11.1 (⟨s13,s18⟩:Item) _ hx24) call41 q)<|Dv 10 (O.neS (.lit q) (.lit q))<|DL.fin q q q (tn7 q q q q q q q)) ?_
         refine Px.sq<|W.cnd q (fun hb25=>?_) (fun hb25=>?_)
         ·replace h:=cndT hb25 h
          refine W.sq'<|W.rx [(6,_)] (Vk q<|Fi (.n q .nil)) ?_
          refine Px.sq<|W.rt ?_
          refine Px.bkR ?_
          refine Px.sqR ?_
          obtain rfl:=sm h
          exact Px.r2 (.n q .nil)
         ·replace h:=cndF hb25 h
          refine W.sk<|Px.bk ?_
          refine Px.sq<|W.rx [(5,_),(7,_),(8,_),(9,_),(11,_),(12,_)] (Vm q<|Rv (O.add (.lit q) (.k q))<|RunL.re (G1:=[(5,.obj [I64 a2.Prod,I64 a2.Dot]),(7,oR eSource_0 [x3,x4]),(8,I64 s5),(9,.obj (eGrammar_0.cells x11.1)),(11,I64 s13),(46,I64 (w64 (s18+1)))]) (tn6 q q q q q q)<|Va q<|Fi (tn6 q q q q q q)) ?_
          obtain rfl:=sm h
          exact Px.go (tn6 q q q q q q)
        ·replace h:=cndF hb22 h
         refine W.xi ?_
         refine Px.sqE ?_
         obtain rfl:=sm h
         exact Px.x2 (tn5 q q q q q)
       ·subst hx
        refine Px.bkH ?_
        refine Px.bk ?_
        refine Px.sq<|W.rx [(5,_),(7,_),(8,_),(9,_),(11,_)] (Vm q<|Rv (O.add (.lit q) (.k q))<|RunL.re (G1:=[(5,.obj [I64 a2.Prod,I64 a2.Dot]),(7,oR eSource_0 [x3,x4]),(8,I64 s5),(9,.obj (eGrammar_0.cells x11.1)),(42,I64 (w64 (s13+1)))]) (tn5 q q q q q)<|Va q<|Fi (tn5 q q q q q)) ?_
        obtain rfl:=sm h
        exact Px.go (tn5 q q q q q)
       ·subst hx
        refine Px.bkR ?_
        refine Px.bkR ?_
        refine Px.sqR ?_
        obtain rfl:=sm h
        exact Px.r2 (.n q .nil)
      ·replace h:=cndF hb17 h
       refine W.xi ?_
       refine Px.sqE ?_
       obtain rfl:=sm h
       exact Px.x2 (tn4 q q q q)
     ·subst hx
      refine Px.bkH ?_
      refine Px.sq<|W.sq' ?_
      obtain ⟨x26,hx26,h⟩:=bnd h
      obtain ⟨x27,hx27,h⟩:=bnd h
      refine W.rd [[],[],[0,1],[],[],rn 0 5 [],rn 0 6 []] [(5,_),(7,_),(8,_),(64,_)] mixo (by kernel_rfl) (Dv 0 (O.ldON (cs':=[iR eTok x11.1.Toks,iR eNon x11.1.Nons,iR eProd_0 x11.1.Prods,SS x11.1.Pro,SS x11.1.Tail]) q (.obj q) at38 q q)<|Dv 1 (O.ldON (cs':=[I64 a2.Prod,I64 a2.Dot]) q (.obj q) at72 q q)<|Dc 2 (PC.go (.cc (.aggF q q) (.cc (.aggF q q) .nil)) (con40 x11.1 a2 _ hx26) call40 q)<|Dv 3 (O.ldON (cs':=[iR eTok x11.1.Toks,iR eNon x11.1.Nons,iR eProd_0 x11.1.Prods,SS x11.1.Pro,SS x11.1.Tail]) q (.obj q) at38 q q)<|Dv 4 (O.ldON (cs':=[I64 a2.Prod,I64 a2.Dot]) q (.obj q) at72 q q)<|Dc 5 (PC.go (.cc (.aggF q q) (.cc (.aggF q q) .nil)) (con41 x11.1 a2 _ hx27) call41 q)<|Dv 6 (O.neS (.lit q) (.lit q))<|DL.fin q q q (tn4 q q q q)) ?_
      refine Px.sq<|W.cnd q (fun hb28=>?_) (fun hb28=>?_)
      ·replace h:=cndT hb28 h
       refine W.sq'<|W.rx [(6,_)] (Vk q<|Fi (.n q .nil)) ?_
       refine Px.sq<|W.rt ?_
       refine Px.bkR ?_
       refine Px.sqR ?_
       obtain rfl:=sm h
       exact Px.r2 (.n q .nil)
      ·replace h:=cndF hb28 h
       refine W.sk<|Px.bk ?_
       refine Px.sq<|W.rx [(5,_),(7,_),(8,_)] (Vm q<|Rv (O.add (.lit q) (.k q))<|RunL.re (G1:=[(5,.obj [I64 a2.Prod,I64 a2.Dot]),(7,oR eSource_0 [x3,x4]),(25,I64 (w64 (s5+1)))]) (tn3 q q q)<|Va q<|Fi (tn3 q q q)) ?_
       obtain rfl:=sm h
       exact Px.go (tn3 q q q)
     ·subst hx
      refine Px.bkR ?_
      refine Px.sqR ?_
      refine Px.bkR ?_
      refine Px.sqR ?_
      obtain rfl:=sm h
      exact Px.r2 (.n q .nil)
   ·replace h:=cndF hb9 h
    refine W.xi ?_
    refine Px.sqE ?_
    obtain rfl:=sm h
    exact Px.x2 .nil
  ·subst hx
   refine Px.bkH ?_
   refine Px.sq<|W.sq' ?_
   refine W.rx [(6,_)] (Vk q<|Fi (.n q .nil)) ?_
   refine Px.sq<|W.rt ?_
   obtain rfl:=sm h
   exact Px.fin (Fin.ro (.f q q .nil) q (ode (by kernel_rfl)) (.no (.no (.no .nil))) q (.inr q))
  ·subst hx
   refine Px.bkR ?_
   refine Px.sqR ?_
   obtain rfl:=sm h
   exact Px.fin (Fin.ro (.f q q .nil) q (ode (by kernel_rfl)) (.no (.no (.no .nil))) q (.inr q))
end Go.Proofs
namespace Go.Own
open Go Go.ChangeShapes Go.WideShapes Go.ChangeAt Go.RowKit
variable {H:Type}{enc:TypeId × Value→H}{P:Program}
theorem post_old {f:Func}{s:ChangeSpec}{apart fresh handsOn again:Bool}{W W':World}{args:Array Value}{v:Value}{ds gs:List (DataW H)}{before pa pv:List MemPlace}
  (hW:DataW.Whole enc P f.params.toList s.vars apart W args.toList ds gs before) (hk:Kp W W') (hps:before=pa++pv)
  (hres:∀ (b:Nat) (sp:Nat→Bool) (hd:Bool),DataW.TrodAll enc P W' b sp hd f.resultTypes.toList (v.resultList f.resultTypes.size) (s.fn H (ds++gs)).results [])
  (hargs:∀ sp:Nat→Bool,(∀ p∈before,sp p.block=true)→DataW.TrodAll enc P W' 0 sp true f.params.toList args.toList (s.fn H (ds++gs)).args pa)
  (hvars:∀ sp:Nat→Bool,(∀ p∈before,sp p.block=true)→DataW.TrodVars enc P W' sp s.vars (s.fn H (ds++gs)).vars pv)
  (hok:∀ (j:Nat) (t:TypeId) (r:Value),f.resultTypes[j]?=some t→(v.resultList f.resultTypes.size)[j]?=some r→Value.okWide P W' .any 0 t r) :
  s.post enc P f apart fresh handsOn again W args v W':=by
 subst hps
 have hlt:∀ p∈pa++pv,p.block<W.heap.size:=fun p hp=>hW.lt p hp
 have hsp:∀ p∈pa++pv,(fun b=>decide (b<W.heap.size)) p.block=true:=fun p hp=>decide_eq_true (hlt p hp)
 have hWh:=hW
 obtain ⟨_,_,_,_,_,hz,hn⟩:=hWh
 have ht:=trodAll_append (hargs (fun _=>true) (fun _ _=>rfl)) (hres 0 (fun _=>true) true)
 refine ⟨ds,gs,pa++pv,[],pa,pv,hW,hres _ _ _,hargs _ hsp,hvars _ hsp,hk.kept _,fun _=>⟨hok,_,_,pa++pv,⟨_,pv,ht,hvars _ (fun _ _=>rfl),rfl,fun b off hp=>?_,hn⟩,fun p hp _=>hp⟩⟩
 rw [hk.fz _ (hlt _ hp)]
 exact hz b off hp
end Go.Own
namespace Go.Proofs
open Go Go.Own
set_option maxRecDepth 100000
theorem uI:Try.prog.underlying 3=some (.int .i64):=by kernel_rfl
theorem uB:Try.prog.underlying 4=some .bool:=by kernel_rfl
theorem uS:Try.prog.underlying 9=some .string:=by kernel_rfl
def okI (n:Int):Prop:=(Lit.int .i64 n).wf=true
def okB (_:Bool):Prop:=True
def okS (s:ByteArray):Prop:=s.size≤maxLen
def okL {α:Type}(p:α→Prop) (l:List α):Prop:=l.length≤maxLen∧∀ x∈l,p x
def okSym (x:Sym):Prop:=okS x.Name∧okB x.Lit∧okI x.Num∧okI x.At∧True
def okPart (x:Part):Prop:=okSym x.Sym∧okS x.Code∧okI x.At∧True
def okAlt (x:Alt):Prop:=okL okPart x.Parts∧okSym x.Prec∧okI x.At∧True
def okRule (x:Rule):Prop:=okS x.Left∧okL okAlt x.Alts∧okI x.At∧True
def okDecl (x:Decl):Prop:=okI x.Kind∧okS x.Tag∧okL okSym x.Syms∧okI x.At∧True
def okSource (x:Source):Prop:=okS x.Pro∧okL okDecl x.Decls∧okL okRule x.Rules∧okS x.Tail∧True
def okGr (x:yuccalaw0_Gr):Prop:=okI x.Nons∧okL (okL okI) x.Rules∧okL okI x.Levels∧okL okI x.Inner∧okB x.Bare∧True
theorem aI:Ar Try.prog eI 3 okI:=.int uI (by kernel_rfl) fun _=>rfl
theorem aB:Ar Try.prog eB 4 okB:=.bool uB (by kernel_rfl) fun _=>rfl
theorem aS:Ar Try.prog eS 9 okS:=.str uS (by kernel_rfl) fun _=>rfl
theorem uLI:Try.prog.underlying 27=some (.slice 3):=by kernel_rfl
theorem aLI:Ar Try.prog (eM eI) 27 (okL okI):=aI.slice (t:=27) uLI (by kernel_rfl) (by decide)
theorem aLLI:Ar Try.prog (eM (eM eI)) 26 (okL (okL okI)):=aLI.slice (t:=26) (by kernel_rfl) (by kernel_rfl) (by decide)
theorem aSym:Ar Try.prog eSym 59 okSym:=.struct (t:=59) (.cons aS (.cons aB (.cons aI (.cons aI .nil)))) (fun b=>(⟨b.1,b.2.1,b.2.2.1,b.2.2.2.1⟩:Sym)) (fun x=>(x.Name,x.Lit,x.Num,x.At,())) (fun _=>rfl) (fun _=>rfl) (by kernel_rfl) (by kernel_rfl)
theorem aPart:Ar Try.prog ePart 109 okPart:=.struct (t:=109) (.cons aSym (.cons aS (.cons aI .nil))) (fun b=>(⟨b.1,b.2.1,b.2.2.1⟩:Part)) (fun x=>(x.Sym,x.Code,x.At,())) (fun _=>rfl) (fun _=>rfl) (by kernel_rfl) (by kernel_rfl)
theorem aParts:Ar Try.prog (eM ePart) 60 (okL okPart):=aPart.slice (by kernel_rfl) (by kernel_rfl) (by decide)
theorem aAlt:Ar Try.prog eAlt_0 62 okAlt:=.struct (t:=62) (.cons aParts (.cons aSym (.cons aI .nil))) (fun b=>(⟨b.1,b.2.1,b.2.2.1⟩:Alt)) (fun x=>(x.Parts,x.Prec,x.At,())) (fun _=>rfl) (fun _=>rfl) (by kernel_rfl) (by kernel_rfl)
theorem aAlts:Ar Try.prog (eM eAlt_0) 63 (okL okAlt):=aAlt.slice (by kernel_rfl) (by kernel_rfl) (by decide)
theorem aRule:Ar Try.prog eRule_0 65 okRule:=.struct (t:=65) (.cons aS (.cons aAlts (.cons aI .nil))) (fun b=>(⟨b.1,b.2.1,b.2.2.1⟩:Rule)) (fun x=>(x.Left,x.Alts,x.At,())) (fun _=>rfl) (fun _=>rfl) (by kernel_rfl) (by kernel_rfl)
theorem aRules:Ar Try.prog (eM eRule_0) 23 (okL okRule):=aRule.slice (by kernel_rfl) (by kernel_rfl) (by decide)
theorem aSyms:Ar Try.prog (eM eSym) 53 (okL okSym):=aSym.slice (by kernel_rfl) (by kernel_rfl) (by decide)
theorem aDecl:Ar Try.prog eDecl_0 55 okDecl:=.struct (t:=55) (.cons aI (.cons aS (.cons aSyms (.cons aI .nil)))) (fun b=>(⟨b.1,b.2.1,b.2.2.1,b.2.2.2.1⟩:Decl)) (fun x=>(x.Kind,x.Tag,x.Syms,x.At,())) (fun _=>rfl) (fun _=>rfl) (by kernel_rfl) (by kernel_rfl)
theorem aDecls:Ar Try.prog (eM eDecl_0) 22 (okL okDecl):=aDecl.slice (by kernel_rfl) (by kernel_rfl) (by decide)
def eSource:En Source:=⟨4,fun x=>[SS x.Pro,iR eDecl_0 x.Decls,iR eRule_0 x.Rules,SS x.Tail],fun _=>rfl,fun _=>NRl.nr⟩
theorem sSource:strB Try.prog 25 [9,22,23,9]=true:=by kernel_rfl
theorem aSource:Ar Try.prog eSource 25 okSource:=.struct (t:=25) (.cons aS (.cons aDecls (.cons aRules (.cons aS .nil)))) (fun b=>(⟨b.1,b.2.1,b.2.2.1,b.2.2.2.1⟩:Source)) (fun x=>(x.Pro,x.Decls,x.Rules,x.Tail,())) (fun _=>rfl) (fun _=>rfl) sSource (by kernel_rfl)
def eGr:En yuccalaw0_Gr:=⟨5,fun x=>[I64 x.Nons,iR (eM eI) x.Rules,iR eI x.Levels,iR eI x.Inner,BB x.Bare],fun _=>rfl,fun _=>NRl.nr⟩
theorem sGr:strB Try.prog 29 [3,26,27,27,4]=true:=by kernel_rfl
theorem aGr:Ar Try.prog eGr 29 okGr:=.struct (t:=29) (.cons aI (.cons aLLI (.cons aLI (.cons aLI (.cons aB .nil))))) (fun b=>(⟨b.1,b.2.1,b.2.2.1,b.2.2.2.1,b.2.2.2.2.1⟩:yuccalaw0_Gr)) (fun x=>(x.Nons,x.Rules,x.Levels,x.Inner,x.Bare,())) (fun _=>rfl) (fun _=>rfl) sGr (by kernel_rfl)
def okItem (x:Item):Prop:=okI x.Prod∧okI x.Dot∧True
theorem sItem:strB Try.prog 72 [3,3]=true:=by kernel_rfl
theorem aItem:Ar Try.prog eItem 72 okItem:=.struct (t:=72) (.cons aI (.cons aI .nil)) (fun b=>(⟨b.1,b.2.1⟩:Item)) (fun x=>(x.Prod,x.Dot,())) (fun _=>rfl) (fun _=>rfl) sItem (by kernel_rfl)
theorem pLaid:laidOutB Try.prog=true:=by kernel_rfl
theorem pMaps:mapsRowed Try.prog=true:=by kernel_rfl
theorem pFull:((List.range Try.prog.types.size).all fun t=>match Try.prog.underlying t with | some (.slice e)=>decide (0<Try.prog.cellsOf e) | _=>true)=true:=by kernel_rfl
end Go.Proofs
