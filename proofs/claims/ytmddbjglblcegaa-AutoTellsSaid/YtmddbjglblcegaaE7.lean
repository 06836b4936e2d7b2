/-
  What is proved here: parts of the proof that the last text states: rules for walks through code, and of this program's functions what they answer. No condition of their own.
-/
import Derived.Test.YtmddbjglblcegaaRows
import Derived.Test.YtmddbjglblcegaaE6
namespace Go.Proofs
open Go Go.Own
set_option maxRecDepth 100000
set_option linter.unusedVariables false
theorem fd97_0:fldT Try.prog 97 0 0 66=true:=by kernel_rfl
theorem call84:callT Try.prog 84=true:=by kernel_rfl
theorem call81:callT Try.prog 81=true:=by kernel_rfl
theorem ze66:(Try.prog.info? 66).bind (·.zero)=some (.slice none 0 0):=by kernel_rfl
theorem sz66:sizeT Try.prog 66 1=true:=by kernel_rfl
theorem sl85:slT Try.prog 85 97 2=true:=by kernel_rfl
theorem at97:aggT Try.prog 97 2=true:=by kernel_rfl
theorem call83:callT Try.prog 83=true:=by kernel_rfl
theorem call82:callT Try.prog 82=true:=by kernel_rfl
theorem ze97:(Try.prog.info? 97).bind (·.zero)=some (.agg #[.slice none 0 0,.slice none 0 0]):=by kernel_rfl
theorem sc97:structT Try.prog 97 [(0,1),(1,1)]=true:=by kernel_rfl
theorem zt97:zeroT Try.prog 97 2=true:=by kernel_rfl
theorem call79:callT Try.prog 79=true:=by kernel_rfl
theorem call48:callT Try.prog 48=true:=by kernel_rfl
theorem ap85:appT Try.prog 85 97 2 48=true:=by kernel_rfl
theorem fd97_1:fldT Try.prog 97 1 1 95=true:=by kernel_rfl
theorem ct95:cellT Try.prog 95=true:=by kernel_rfl
theorem ze106:(Try.prog.info? 106).bind (·.zero)=some (.agg #[.int .i64 0,.int .i64 0]):=by kernel_rfl
theorem sc106:structT Try.prog 106 [(0,1),(1,1)]=true:=by kernel_rfl
theorem zt106:zeroT Try.prog 106 2=true:=by kernel_rfl
theorem sl95:slT Try.prog 95 106 2=true:=by kernel_rfl
theorem ap95:appT Try.prog 95 106 2 16=true:=by kernel_rfl
theorem sz95:sizeT Try.prog 95 1=true:=by kernel_rfl
theorem at106:aggT Try.prog 106 2=true:=by kernel_rfl
theorem sz106:sizeT Try.prog 106 2=true:=by kernel_rfl
theorem fd106_0:fldT Try.prog 106 0 0 3=true:=by kernel_rfl
theorem fd106_1:fldT Try.prog 106 1 1 3=true:=by kernel_rfl
theorem call103:callT Try.prog 103=true:=by kernel_rfl
theorem call85:callT Try.prog 85=true:=by kernel_rfl
theorem eq106:eqAT Try.prog 106 [.i .i64,.i .i64]=true:=by kernel_rfl
theorem call44:callT Try.prog 44=true:=by kernel_rfl
theorem call78:callT Try.prog 78=true:=by kernel_rfl
theorem call52:callT Try.prog 52=true:=by kernel_rfl
theorem call54:callT Try.prog 54=true:=by kernel_rfl
theorem call80:callT Try.prog 80=true:=by kernel_rfl
theorem call43:callT Try.prog 43=true:=by kernel_rfl
theorem call45:callT Try.prog 45=true:=by kernel_rfl
theorem call46:callT Try.prog 46=true:=by kernel_rfl
theorem con81 (a0:List Item) (r:List Item) (h:pf81 a0=some r):Con Try.prog 81 [iR eItem a0] [none] (oR eItem r):=Con.cloneS (fun w ad n c news h1 h2 h3 h4=>clS81 w ad n c news h1 h2 h3 h4) (fun w n c=>clN81 w n c) h
theorem con84 (a0:(List Item)) (a1:(List Item)) (r:Bool) (h:pf84 a0 a1=some r):Con Try.prog 84 [iR eItem a0,iR eItem a1] [none,none] (BB r):=by
 unfold pf84 at h
 refine Con.go (N:=⟨26,[]⟩) Try.func84 q q q q (W.fin ?_)
 refine W.st [(0,iR eItem a0),(1,iR eItem a1)] ?_
 refine W.sq'<|W.rx [(0,_),(1,_)] (Vk q<|Fi (tn2 q q)) ?_
 refine Px.sq<|W.sq' ?_
 refine W.sq'<|W.rx [(0,_),(1,_),(10,_)] (Rv (O.mv (.imm q))<|Rv (O.lenI (.imm q) sl66)<|Rv (O.mv (.imm q))<|Rv (O.lenI (.imm q) sl66)<|Rv (O.neq (.lit q) (.lit q))<|Fi (tn3 q q q)) ?_
 refine Px.sq<|W.cnd q (fun hb1=>?_) (fun hb1=>?_)
 ·replace h:=cndT hb1 h
  refine W.sq'<|W.rx [(4,_)] (Vk q<|Fi (.n q .nil)) ?_
  refine Px.sq<|W.rt ?_
  refine Px.sqR ?_
  obtain rfl:=sm h
  exact Px.fin (Fin.ro (.f q q .nil) q (ode (by kernel_rfl)) (.no (.no .nil)) q (.inr q))
 ·replace h:=cndF hb1 h
  refine W.sk<|Px.sq ?_
  refine W.sq'<|W.sq' ?_
  refine W.rx [(0,_),(1,_),(12,_),(13,_)] (Rv (O.mv (.imm q))<|Rv (O.lenI (.imm q) sl66)<|Rv (O.mv (.k q))<|Fi (tn4 q q q q)) ?_
  refine Px.sq<|W.bk ?_
  obtain ⟨x3,hl,h⟩:=bnd h
  refine W.tr (G1:=[(0,_),(1,_),(12,_),(13,_)]) (tn4 q q q q) ?_
  refine W.lp2 (s:=0) (fun (s2:Int)=>[(0,iR eItem a0),(1,iR eItem a1),(12,I64 (a0.length:Int)),(13,I64 s2)]) 0 (fun (x4:Unit)=>[]) (fun (x5:Bool)=>[(4,BB x5)]) hl (fun s2 o h=>?_) (fun x4 hx=>?_) (fun x5 hx=>?_)
  ·clear hl
   refine W.sq'<|W.rx [(0,_),(1,_),(12,_),(13,_),(14,_)] (Rv (O.lss (.lit q) (.lit q))<|Fi (tn5 q q q q q)) ?_
   refine Px.sq<|W.sq' ?_
   refine W.cnd q (fun hb6=>?_) (fun hb6=>?_)
   ·replace h:=cndT hb6 h
    refine W.sk<|Px.sq ?_
    refine W.sq'<|W.bk ?_
    refine W.sq'<|W.rx [(0,_),(1,_),(5,_),(12,_),(13,_)] (Vm q<|Va q<|Fi (tn5 q q q q q)) ?_
    refine Px.sq<|W.sq' ?_
    obtain ⟨x7,hx7,h⟩:=bnd h
    obtain ⟨x8,hx8,h⟩:=bnd h
    refine W.rd [[],[],[0,1],[0,1,2],[],[],[4,5],[4,5,6],rn 0 8 []] [(0,_),(1,_),(12,_),(13,_),(24,_)] mixo (by kernel_rfl) (Dv 0 (O.mv (.imm q))<|Dv 1 (O.mv (.lit q))<|Dv 2 (O.ixI (.imm q) (.lit q) sl66 hx7)<|Dv 3 (O.ldIN (cs':=[I64 x7.Prod,I64 x7.Dot]) (.iptr q) at72 q q)<|Dv 4 (O.mv (.imm q))<|Dv 5 (O.mv (.lit q))<|Dv 6 (O.ixI (.imm q) (.lit q) sl66 hx8)<|Dv 7 (O.ldIN (cs':=[I64 x8.Prod,I64 x8.Dot]) (.iptr q) at72 q q)<|Dv 8 (O.neqA (va:=[.int .i64 x7.Prod,.int .i64 x7.Dot]) (vb:=[.int .i64 x8.Prod,.int .i64 x8.Dot]) (.aggF q q) (.aggF q q) q q eq72)<|DL.fin q q q (tn5 q q q q q)) ?_
    refine Px.sq<|W.cnd q (fun hb9=>?_) (fun hb9=>?_)
    ·replace h:=cndT hb9 h
     refine W.sq'<|W.rx [(4,_)] (Vk q<|Fi (.n q .nil)) ?_
     refine Px.sq<|W.rt ?_
     refine Px.bkR ?_
     refine Px.sqR ?_
     obtain rfl:=sm h
     exact Px.r2 (.n q .nil)
    ·replace h:=cndF hb9 h
     refine W.sk<|Px.bk ?_
     refine Px.sq<|W.rx [(0,_),(1,_),(12,_),(13,_)] (Rv (O.add (.lit q) (.k q))<|RunL.re (G1:=[(0,_),(1,_),(12,_),(25,_)]) (tn4 q q q q)<|Vm q<|Fi (tn4 q q q q)) ?_
     obtain rfl:=sm h
     exact Px.go (tn4 q q q q)
   ·replace h:=cndF hb6 h
    refine W.xi ?_
    refine Px.sqE ?_
    obtain rfl:=sm h
    exact Px.x2 .nil
  ·subst hx
   refine Px.bkH ?_
   refine Px.sq<|W.sq' ?_
   refine W.rx [(4,_)] (Vk q<|Fi (.n q .nil)) ?_
   refine Px.sq<|W.rt ?_
   obtain rfl:=sm h
   exact Px.fin (Fin.ro (.f q q .nil) q (ode (by kernel_rfl)) (.no (.no .nil)) q (.inr q))
  ·subst hx
   refine Px.bkR ?_
   refine Px.sqR ?_
   obtain rfl:=sm h
   exact Px.fin (Fin.ro (.f q q .nil) q (ode (by kernel_rfl)) (.no (.no .nil)) q (.inr q))
theorem con83 (a0:State) (c0:(List Item)) (r:Bool) (h:pf83 a0 c0=some r):Con Try.prog 83 [.agg [iR eItem a0.Kernel,iR eMove a0.Moves],.iptr ([iR eItem c0])] [none,none] (BB r):=by
 unfold pf83 at h
 refine Con.go (N:=⟨8,[]⟩) Try.func83 q q q q (W.fin ?_)
 refine W.st [(0,.agg [iR eItem a0.Kernel,iR eMove a0.Moves]),(1,.iptr ([iR eItem c0]))] ?_
 refine W.sq'<|W.rx [(1,_),(2,_)] (Rv (O.box (.aggF q q) q)<|Vk q<|Fi (tn2 q q)) ?_
 refine Px.sq<|W.sq' ?_
 obtain ⟨x1,hx1,h⟩:=bnd h
 refine W.rx [(3,_)] (Rv (O.fO q (.obj q) fd97_0 q)<|Rv (O.ldO (y:=iR eItem a0.Kernel) q (.ptr q) ct66 q q)<|Rv (O.ldI (x:=iR eItem c0) (.iptr q) ct66 q)<|Rc (PC.go (.cc (.imm q) (.cc (.imm q) .nil)) (con84 a0.Kernel c0 _ hx1) call84 q)<|Va q<|Fi (.n q .nil)) ?_
 refine Px.sq<|W.rt ?_
 obtain rfl:=sm h
 exact Px.fin (Fin.ro (.f q q .nil) q (ode (by kernel_rfl)) (.no (.no .nil)) q (.inr q))
theorem con82_83 (a0:(List State)) (a1_0:(List Item)) (r:Int) (h:pf82_83 a0 a1_0=some r):Con Try.prog 82 [iR eState_0 a0,.clo (.func 83) [] [.iptr ([iR eItem a1_0])]] [none,none] (I64 r):=by
 unfold pf82_83 at h
 refine Con.go (N:=⟨19,[]⟩) Try.func82 q q q q (W.fin ?_)
 refine W.st [(0,iR eState_0 a0),(1,.clo (.func 83) [] [.iptr ([iR eItem a1_0])])] ?_
 refine W.sq'<|W.rx [(0,_),(1,_)] (Vk q<|Fi (tn2 q q)) ?_
 refine Px.sq<|W.sq' ?_
 refine W.sq'<|W.rx [(0,_),(1,_),(7,_),(8,_)] (Rv (O.mv (.imm q))<|Rv (O.lenI (.imm q) sl85)<|Rv (O.mv (.k q))<|Fi (tn4 q q q q)) ?_
 refine Px.sq<|W.bk ?_
 obtain ⟨x2,hl,h⟩:=bnd h
 refine W.tr (G1:=[(0,_),(1,_),(7,_),(8,_)]) (tn4 q q q q) ?_
 refine W.lp2 (s:=0) (fun (s1:Int)=>[(0,iR eState_0 a0),(1,.clo (.func 83) [] [.iptr ([iR eItem a1_0])]),(7,I64 (a0.length:Int)),(8,I64 s1)]) 0 (fun (x3:Unit)=>[]) (fun (x4:Int)=>[(4,I64 x4)]) hl (fun s1 o h=>?_) (fun x3 hx=>?_) (fun x4 hx=>?_)
 ·clear hl
  refine W.sq'<|W.rx [(0,_),(1,_),(7,_),(8,_),(9,_)] (Rv (O.lss (.lit q) (.lit q))<|Fi (tn5 q q q q q)) ?_
  refine Px.sq<|W.sq' ?_
  refine W.cnd q (fun hb5=>?_) (fun hb5=>?_)
  ·replace h:=cndT hb5 h
   refine W.sk<|Px.sq ?_
   refine W.sq'<|W.bk ?_
   refine W.sq'<|W.rx [(0,_),(1,_),(5,_),(7,_),(8,_)] (Vm q<|Va q<|Fi (tn5 q q q q q)) ?_
   refine Px.sq<|W.sq' ?_
   obtain ⟨x6,hx6,h⟩:=bnd h
   obtain ⟨x7,hx7,h⟩:=bnd h
   refine W.rx [(0,_),(1,_),(5,_),(7,_),(8,_),(16,_)] (Rv (O.mv (.clo q))<|Rv (O.mv (.imm q))<|Vm q<|Rv (O.ixI (.imm q) (.lit q) sl85 hx6)<|Rv (O.ldIN (cs':=[iR eItem x6.Kernel,iR eMove x6.Moves]) (.iptr q) at97 q q)<|Rc (PC.gc (.clo q) (.cc (.aggF q q) .nil) (con83 x6 a1_0 _ hx7) call83 q)<|Fi (tn6 q q q q q q)) ?_
   refine Px.sq<|W.cnd q (fun hb8=>?_) (fun hb8=>?_)
   ·replace h:=cndT hb8 h
    refine W.sq'<|W.rx [(4,_)] (Vm q<|Va q<|Fi (.n q .nil)) ?_
    refine Px.sq<|W.rt ?_
    refine Px.bkR ?_
    refine Px.sqR ?_
    obtain rfl:=sm h
    exact Px.r2 (.n q .nil)
   ·replace h:=cndF hb8 h
    refine W.sk<|Px.bk ?_
    refine Px.sq<|W.rx [(0,_),(1,_),(7,_),(8,_)] (Rv (O.add (.lit q) (.k q))<|RunL.re (G1:=[(0,_),(1,_),(7,_),(18,_)]) (tn4 q q q q)<|Vm q<|Fi (tn4 q q q q)) ?_
    obtain rfl:=sm h
    exact Px.go (tn4 q q q q)
  ·replace h:=cndF hb5 h
   refine W.xi ?_
   refine Px.sqE ?_
   obtain rfl:=sm h
   exact Px.x2 .nil
 ·subst hx
  refine Px.bkH ?_
  refine Px.sq<|W.sq' ?_
  refine W.rx [(4,_)] (Vk q<|Fi (.n q .nil)) ?_
  refine Px.sq<|W.rt ?_
  obtain rfl:=sm h
  exact Px.fin (Fin.ro (.f q q .nil) q (ode (by kernel_rfl)) (.no (.no .nil)) q (.inr q))
 ·subst hx
  refine Px.bkR ?_
  refine Px.sqR ?_
  obtain rfl:=sm h
  exact Px.fin (Fin.ro (.f q q .nil) q (ode (by kernel_rfl)) (.no (.no .nil)) q (.inr q))
theorem con48 (a0:(List State)) (a1:(List Item)) (r:Int) (h:pf48 a0 a1=some r):Con Try.prog 48 [iR eState_0 a0,iR eItem a1] [none,none] (I64 r):=by
 unfold pf48 at h
 refine Con.go (N:=⟨15,[]⟩) Try.func48 q q q q (W.fin ?_)
 refine W.st [(0,iR eState_0 a0),(1,iR eItem a1)] ?_
 refine W.sq'<|W.rx [(0,_),(1,_)] (Vk q<|Fi (tn2 q q)) ?_
 refine Px.sq<|W.sq' ?_
 obtain ⟨x1,hx1,h⟩:=bnd h
 refine W.rx [(0,_),(5,_)] (Rv (O.mv (.imm q))<|Rc (PC.go (.cc (.imm q) .nil) (con81 a1 _ hx1) call81 q)<|Rv (O.al (cs:=[.nils]) ze66 q q)<|RunL.ef (G2:=[(0,iR eState_0 a0),(5,.obj [oR eItem x1])]) q (EO.stB (y':=oR eItem x1) (cs2:=[oR eItem x1]) q q (.obj q) (.own q) (.r q .nil) .refl q sz66 q q q q q (.n q q (.b q .nil)))<|Fi (tn2 q q)) ?_
 refine Px.sq<|W.sq' ?_
 obtain ⟨x2,hx2,h⟩:=bnd h
 refine W.rx [(0,_),(5,_)] (Rv (O.ldO (y:=.brw eItem.z ⟨5,[0]⟩ x1.length) q (.obj q) ct66 q q)<|RunL.ef (G2:=[(9,.tup []),(5,.obj [oR eItem x2]),(0,iR eState_0 a0)]) q (EO.call q q (CallOk.lc (en:=eItem) (L:=x1) (L':=x2) (G2:=[(0,iR eState_0 a0)]) (ys:=[.clo (.func 71) [] []]) (args:=[.clo (.func 71) [] []]) q q q q (.c (View.cl .nil) .nil) (sort70 call71 hx2 (fun a b v h=>con71 a b v h)) call70 (.n q .nil) q q (.n q .nil) q))<|Fi (tn2 q q)) ?_
 refine Px.sq<|W.sq' ?_
 obtain ⟨x3,hx3,h⟩:=bnd h
 refine W.rx [(0,_),(5,_)] (Rv (O.ldO (y:=.brw eItem.z ⟨5,[0]⟩ x2.length) q (.obj q) ct66 q q)<|RunL.ef (G2:=[(11,oR eItem x3),(0,iR eState_0 a0),(5,.obj [.dead])]) q (EO.call q q (CallOk.tc (en:=eItem) (L:=x2) (G2:=[(0,iR eState_0 a0),(5,.obj [.dead])]) q q q q (comp72 hx3) call72 (tn2 q q) q q))<|RunL.ef (G2:=[(0,iR eState_0 a0),(5,.obj [oR eItem x3])]) q (EO.stB (y':=oR eItem x3) (cs2:=[oR eItem x3]) q q (.obj q) (.own q) (.r q .nil) .refl q sz66 q q q q q (.n q q (.b q .nil)))<|Fi (tn2 q q)) ?_
 refine Px.sq<|W.sq' ?_
 obtain ⟨x4,hx4,h⟩:=bnd h
 refine W.rx [(4,_)] (Rv (O.mv (.imm q))<|Rv (O.mf q)<|Rc (PC.vw (ys:=[iR eState_0 a0,.clo (.func 83) [] [.ptr ⟨5,[]⟩ 0]]) q (.s (.c (View.cl (.c (View.p0 q q) .nil)) .nil)) (con82_83 a0 x3 _ hx4) call82 q)<|Va q<|Fi (.n q .nil)) ?_
 refine Px.sq<|W.rt ?_
 obtain rfl:=sm h
 exact Px.fin (Fin.ro (.f q q .nil) q (ode (by kernel_rfl)) (.no (.no .nil)) q (.inr q))
theorem con79 (a0:Grammar) (r:(List Int)) (h:pf79 a0=some r):Con Try.prog 79 [.agg (eGrammar_0.cells a0)] [none] (iR eI r):=by
 unfold pf79 at h
 refine Con.go (N:=⟨30,[]⟩) Try.func79 q q q q (W.fin ?_)
 refine W.st [(0,.agg (eGrammar_0.cells a0))] ?_
 refine W.sq'<|W.rx [(1,_)] (Rv (O.box (.aggF q q) q)<|Rv (O.az .knil)<|Fi (.n q .nil)) ?_
 refine Px.sq<|W.sq' ?_
 refine W.rx [(1,_),(3,_)] (Rv (O.az .knil)<|Fi (tn2 q q)) ?_
 refine Px.sq<|W.sq' ?_
 refine W.sq'<|W.rx [(1,_),(3,_),(8,_),(9,_)] (Rv (O.fO q (.obj q) fd38_0 q)<|Rv (O.ldO (y:=iR eTok a0.Toks) q (.ptr q) ct34 q q)<|Rv (O.lenI (.imm q) sl34)<|Rv (O.mv (.k q))<|Fi (tn4 q q q q)) ?_
 refine Px.sq<|W.bk ?_
 obtain ⟨x2,hl,h⟩:=bnd h
 refine W.tr (G1:=[(1,_),(3,oR eI ([]:List Int)),(8,_),(9,_)]) (.n q (.w q q .nilOwn (tn2 q q))) ?_
 refine W.lp1 (s:=(([]:List Int),0)) (fun (s1:List Int × Int)=>[(1,.obj (eGrammar_0.cells a0)),(3,oR eI s1.1),(8,I64 (a0.Toks.length:Int)),(9,I64 s1.2)]) 0 (fun (x2:List Int)=>[(1,.obj (eGrammar_0.cells a0)),(3,oR eI x2)]) hl (fun s1 o h=>?_) ?_
 ·clear hl
  refine W.sq'<|W.rx [(1,_),(3,_),(8,_),(9,_),(10,_)] (Rv (O.lss (.lit q) (.lit q))<|Fi (tn5 q q q q q)) ?_
  refine Px.sq<|W.sq' ?_
  refine W.cnd q (fun hb4=>?_) (fun hb4=>?_)
  ·replace h:=cndT hb4 h
   refine W.sk<|Px.sq ?_
   refine W.sq'<|W.bk ?_
   refine W.sq'<|W.rx [(1,_),(3,_),(4,_),(8,_),(9,_)] (Vm q<|Va q<|Fi (tn5 q q q q q)) ?_
   refine Px.sq ?_
   obtain ⟨x5,hx5,h⟩:=bnd h
   refine W.rx [(1,_),(3,_),(8,_),(9,_)] (Rv (O.mv (.own q))<|Vm q<|RunL.vi (x:=iR eI [s1.2]) (O.bs (ys:=[I64 s1.2]) eI [s1.2] sl27 q q q q q q zt3 q q) q q .none<|Rv (O.ap (en:=eI) (r:=x5) (.brw q) q (.imm q) .i ap27 q hx5)<|RunL.ea (G2:=[(1,.obj (eGrammar_0.cells a0)),(8,I64 (a0.Toks.length:Int)),(9,I64 s1.2)]) q (EO.aP q q (.pend q) q q q (.n q q (.n q q (.n q q .nil))) q q)<|Fi (tn4 q q q q)) ?_
   refine Px.bk ?_
   refine Px.sq<|W.rx [(1,_),(3,_),(8,_),(9,_)] (Rv (O.add (.lit q) (.k q))<|RunL.re (G1:=[(1,_),(3,_),(8,_),(16,_)]) (tn4 q q q q)<|Vm q<|Fi (tn4 q q q q)) ?_
   obtain rfl:=sm h
   exact Px.go (tn4 q q q q)
  ·replace h:=cndF hb4 h
   refine W.xi ?_
   refine Px.sqE ?_
   obtain rfl:=sm h
   exact Px.x1 (tn2 q q)
 refine Px.bkH ?_
 refine Px.sq<|W.sq' ?_
 refine W.sq'<|W.rx [(3,_),(19,_),(20,_)] (Rv (O.fO q (.obj q) fd38_1 q)<|Rv (O.ldO (y:=iR eNon a0.Nons) q (.ptr q) ct35 q q)<|Rv (O.lenI (.imm q) sl35)<|Rv (O.mv (.k q))<|Fi (tn3 q q q)) ?_
 refine Px.sq<|W.bk ?_
 obtain ⟨x7,hl,h⟩:=bnd h
 refine W.tr (G1:=[(3,_),(19,_),(20,_)]) (tn3 q q q) ?_
 refine W.lp1 (s:=(x2,0)) (fun (s6:List Int × Int)=>[(3,oR eI s6.1),(19,I64 (a0.Nons.length:Int)),(20,I64 s6.2)]) 2 (fun (x7:List Int)=>[(3,oR eI x7)]) hl (fun s6 o h=>?_) ?_
 ·clear hl
  refine W.sq'<|W.rx [(3,_),(19,_),(20,_),(21,_)] (Rv (O.lss (.lit q) (.lit q))<|Fi (tn4 q q q q)) ?_
  refine Px.sq<|W.sq' ?_
  refine W.cnd q (fun hb9=>?_) (fun hb9=>?_)
  ·replace h:=cndT hb9 h
   refine W.sk<|Px.sq ?_
   refine W.sq'<|W.bk ?_
   refine W.sq'<|W.rx [(3,_),(5,_),(19,_),(20,_)] (Vm q<|Va q<|Fi (tn4 q q q q)) ?_
   refine Px.sq ?_
   obtain ⟨x10,hx10,h⟩:=bnd h
   refine W.rx [(3,_),(19,_),(20,_)] (Rv (O.mv (.own q))<|Vm q<|Rv (O.add (.k q) (.lit q))<|RunL.vi (x:=iR eI [w64 (1000+s6.2)]) (O.bs (ys:=[I64 (w64 (1000+s6.2))]) eI [w64 (1000+s6.2)] sl27 q q q q q q zt3 q q) q q .none<|Rv (O.ap (en:=eI) (r:=x10) (.brw q) q (.imm q) .i ap27 q hx10)<|RunL.ea (G2:=[(19,I64 (a0.Nons.length:Int)),(20,I64 s6.2)]) q (EO.aP q q (.pend q) q q q (.n q q (.n q q .nil)) q q)<|Fi (tn3 q q q)) ?_
   refine Px.bk ?_
   refine Px.sq<|W.rx [(3,_),(19,_),(20,_)] (Rv (O.add (.lit q) (.k q))<|RunL.re (G1:=[(3,_),(19,_),(28,_)]) (tn3 q q q)<|Vm q<|Fi (tn3 q q q)) ?_
   obtain rfl:=sm h
   exact Px.go (tn3 q q q)
  ·replace h:=cndF hb9 h
   refine W.xi ?_
   refine Px.sqE ?_
   obtain rfl:=sm h
   exact Px.x1 (.n q .nil)
 refine Px.bkH ?_
 refine Px.sq<|W.sq' ?_
 refine W.rx [(2,_)] (Rv (O.mv (.own q))<|RunL.ea (G2:=[]) q (EO.aR q q (.brw q) q .nil q q)<|Fi (.n q .nil)) ?_
 refine Px.sq<|W.fz (G1:=[(2,iR eI x7)]) [2] (.z q q .zz .nil) ?_
 refine W.rt ?_
 obtain rfl:=sm h
 exact Px.fin (Fin.ro (.f q q .nil) q (ode (by kernel_rfl)) (.no .nil) q (.inr q))
theorem con44 (a0:Grammar) (r:(List State) × Int) (h:pf44 a0=some r):Con Try.prog 44 [.agg (eGrammar_0.cells a0)] [none] (.tup [iR eState_0 r.1,I64 r.2]):=by
 unfold pf44 at h
 refine Con.go (N:=⟨74,[]⟩) Try.func44 q q q q (W.fin ?_)
 refine W.st [(0,.agg (eGrammar_0.cells a0))] ?_
 refine W.sq'<|W.rx [(1,_)] (Rv (O.box (.aggF q q) q)<|Rv (O.az .knil)<|Vk q<|Fi (.n q .nil)) ?_
 refine Px.sq<|W.sq' ?_
 refine W.rx [(1,_),(4,_)] (Rv (O.bu (cs:=[I64 0,I64 0]) sc72 ze72 q q q)<|Rv (O.bsL (ys:=[.agg [I64 0,I64 0]]) (cs:=[I64 0,I64 0]) sl66 q q q q q zt72 q q)<|Rv (O.bu (cs:=[.brw 2 ⟨13,[]⟩ 1,.nils]) sc97 ze97 q q q)<|Rv (O.bsL (ys:=[.agg [.brw 2 ⟨13,[]⟩ 1,.nils]]) (cs:=[.brw 2 ⟨13,[]⟩ 1,.nils]) sl85 q q q q q zt97 q q)<|RunL.ea (G2:=[(1,.obj (eGrammar_0.cells a0))]) q (EO.aG (y':=oR eState_m [(⟨[(⟨0,0⟩:Item)],([]:List Move)⟩:State)]) q q (.own q) (.l q q (.l q q (.f (.f .nil)) (.f .nil)) .nil) (FzL.own (.z (hv:=Vw.rl (en:=eItem) (L:=[(⟨0,0⟩:Item)]) (cs':=[I64 0,I64 0]) q q) (.o .nil))) (.n q .nil) q q)<|Fi (tn2 q q)) ?_
 refine Px.sq<|W.sq' ?_
 obtain ⟨x1,hx1,h⟩:=bnd h
 refine W.rx [(1,_),(4,_),(5,_)] (Rv (O.ldON (cs':=[iR eTok a0.Toks,iR eNon a0.Nons,iR eProd_0 a0.Prods,SS a0.Pro,SS a0.Tail]) q (.obj q) at38 q q)<|Rc (PC.go (.cc (.aggF q q) .nil) (con79 a0 _ hx1) call79 q)<|Rv (O.az (.imm q))<|Fi (tn3 q q q)) ?_
 refine Px.sq<|W.sq' ?_
 refine W.sq'<|W.rx [(1,_),(4,_),(5,_),(6,_)] (Vk q<|Fi (tn4 q q q q)) ?_
 refine Px.sq<|W.bk ?_
 obtain ⟨x3,hl,h⟩:=bnd h
 refine W.tr (G1:=[(1,_),(4,_),(5,_),(6,_)]) (tn4 q q q q) ?_
 refine W.lp2 (s:=([(⟨[(⟨0,0⟩:Item)],([]:List Move)⟩:State)],0)) (fun (s2:List State × Int)=>[(1,.obj (eGrammar_0.cells a0)),(4,oR eState_m s2.1),(5,iR eI x1),(6,I64 s2.2)]) 0 (fun (x4:List State)=>[(4,oR eState_m x4)]) (fun (x5:List State × Int)=>[(2,iR eState_0 x5.1),(3,I64 x5.2)]) hl (fun s2 o h=>?_) (fun x4 hx=>?_) (fun x5 hx=>?_)
 ·clear hl
  refine W.sq'<|W.sq' ?_
  refine W.rx [(1,_),(4,_),(5,_),(6,_),(21,_)] (Vm q<|Rv (O.mv (.own q))<|Rv (O.lenO (.brw q) sl85)<|Rv (O.lss (.lit q) (.lit q))<|Fi (tn5 q q q q q)) ?_
  refine Px.sq<|W.cnd q (fun hb6=>?_) (fun hb6=>?_)
  ·replace h:=cndT hb6 h
   refine W.sk<|Px.sq ?_
   refine W.sq'<|W.bk ?_
   refine W.sq' ?_
   obtain ⟨x7,hx7,h⟩:=bnd h
   obtain ⟨x8,hx8,h⟩:=bnd h
   refine W.rd [[],[],[],[1,2],[1,2,3],[1,2,3,4],rn 0 6 [],rn 0 7 []] [(1,_),(4,_),(5,_),(6,_),(7,_)] mixo (by kernel_rfl) (Dv 0 (O.ldON (cs':=[iR eTok a0.Toks,iR eNon a0.Nons,iR eProd_0 a0.Prods,SS a0.Pro,SS a0.Tail]) q (.obj q) at38 q q)<|Dv 1 (O.mv (.own q))<|Dv 2 (O.mv (.lit q))<|Dv 3 (O.ixO (en:=eState_m) q (.brw q) (.lit q) sl85 hx7 q)<|Dv 4 (O.fE (en:=eState_m) q (.ptr q) fd97_0 hx7 q q)<|Dv 5 (O.ldE (en:=eState_m) (x':=iR eItem x7.Kernel) q (.ptr q) ct66 hx7 q q)<|Dc 6 (PC.go (.cc (.aggF q q) (.cc (.imm q) .nil)) (con36 a0 x7.Kernel _ hx8) call36 q)<|DL.bv 7 (G2:=[(1,.obj (eGrammar_0.cells a0)),(4,oR eState_m s2.1),(5,iR eI x1),(6,I64 s2.2)]) (EO.aR q q (.own q) q (.n q q (.n q q (.n q q (.n q q .nil)))) q q) q q q q (by kernel_rfl) (by kernel_rfl)<|DL.fin q q q (tn5 q q q q q)) ?_
   refine Px.sq<|W.sq' ?_
   refine W.rx [(1,_),(4,_),(5,_),(6,_),(7,_),(31,_),(32,_),(33,_)] (Rv (O.mv (.imm q))<|Rv (O.lenI (.imm q) sl27)<|Rv (O.mv (.k q))<|Fi (tn8 q q q q q q q q)) ?_
   refine Px.sq<|W.bk ?_
   obtain ⟨x10,hl,h⟩:=bnd h
   refine W.tr (G1:=[(1,_),(4,_),(5,_),(6,_),(7,_),(31,_),(32,_),(33,_)]) (tn8 q q q q q q q q) ?_
   refine W.lp2 (s:=(s2.1,0)) (fun (s9:List State × Int)=>[(1,.obj (eGrammar_0.cells a0)),(4,oR eState_m s9.1),(5,iR eI x1),(6,I64 s2.2),(7,oR eItem x8),(31,iR eI x1),(32,I64 (x1.length:Int)),(33,I64 s9.2)]) 2 (fun (x11:List State)=>[(1,.obj (eGrammar_0.cells a0)),(4,oR eState_m x11),(5,iR eI x1),(6,I64 s2.2)]) (fun (x12:List State × Int)=>[(2,iR eState_0 x12.1),(3,I64 x12.2)]) hl (fun s9 o h=>?_) (fun x11 hx=>?_) (fun x12 hx=>?_)
   ·clear hl
    refine W.sq'<|W.rx [(1,_),(4,_),(5,_),(6,_),(7,_),(31,_),(32,_),(33,_),(34,_)] (Rv (O.lss (.lit q) (.lit q))<|Fi (tn9 q q q q q q q q q)) ?_
    refine Px.sq<|W.sq' ?_
    refine W.cnd q (fun hb13=>?_) (fun hb13=>?_)
    ·replace h:=cndT hb13 h
     refine W.sk<|Px.sq ?_
     refine W.sq'<|W.bk ?_
     refine W.sq' ?_
     obtain ⟨x14,hx14,h⟩:=bnd h
     refine W.rx [(1,_),(4,_),(5,_),(6,_),(7,_),(9,_),(31,_),(32,_),(33,_)] (Rv (O.ixI (.imm q) (.lit q) sl27 hx14)<|Rv (O.ldI (x:=I64 x14) (.iptr q) ct3 q)<|Va q<|Fi (tn9 q q q q q q q q q)) ?_
     refine Px.sq<|W.sq' ?_
     obtain ⟨x15,hx15,h⟩:=bnd h
     refine W.rx [(1,_),(4,_),(5,_),(6,_),(7,_),(9,_),(10,_),(31,_),(32,_),(33,_)] (Rv (O.ldON (cs':=[iR eTok a0.Toks,iR eNon a0.Nons,iR eProd_0 a0.Prods,SS a0.Pro,SS a0.Tail]) q (.obj q) at38 q q)<|Rv (O.mv (.own q))<|Vm q<|Rc (PC.vw (ys:=[.agg (eGrammar_0.cells a0),.brw eItem.z ⟨7,[]⟩ x8.length,I64 x14]) q (.c (.ag (.s (.s (.s (.s (.s .nil)))))) (.c (.row q) (.s .nil))) (con75 a0 x8 x14 _ hx15) call75 q)<|RunL.ea (G2:=[(1,.obj (eGrammar_0.cells a0)),(4,oR eState_m s9.1),(5,iR eI x1),(6,I64 s2.2),(7,oR eItem x8),(9,I64 x14),(31,iR eI x1),(32,I64 (x1.length:Int)),(33,I64 s9.2)]) q (EO.aR q q (.own q) q (.n q q (.n q q (.n q q (.n q q (.n q q (.n q q (.n q q (.n q q (.n q q .nil))))))))) q q)<|Fi (tn10 q q q q q q q q q q)) ?_
     refine Px.sq<|W.sq' ?_
     refine W.sq'<|W.rx [(1,_),(4,_),(5,_),(6,_),(7,_),(9,_),(10,_),(31,_),(32,_),(33,_),(43,_)] (Rv (O.mv (.own q))<|Rv (O.lenO (.brw q) sl66)<|Rv (O.eql (.lit q) (.k q))<|Fi (tn11 q q q q q q q q q q q)) ?_
     refine Px.sq<|W.cnd q (fun hb16=>?_) (fun hb16=>?_)
     ·replace h:=cndT hb16 h
      refine W.xi ?_
      refine Px.sqE ?_
      refine Px.bkH ?_
      refine Px.sq<|W.rx [(1,_),(4,_),(5,_),(6,_),(7,_),(31,_),(32,_),(33,_)] (Rv (O.add (.lit q) (.k q))<|RunL.re (G1:=[(1,_),(4,_),(5,_),(6,_),(7,_),(31,_),(32,_),(72,_)]) (tn8 q q q q q q q q)<|Vm q<|Fi (tn8 q q q q q q q q)) ?_
      obtain rfl:=sm h
      exact Px.go (tn8 q q q q q q q q)
     ·replace h:=cndF hb16 h
      refine W.sk<|Px.sq ?_
      refine W.sq' ?_
      obtain ⟨x17,hx17,h⟩:=bnd h
      refine W.rx [(1,_),(4,_),(5,_),(6,_),(7,_),(9,_),(10,_),(11,_),(31,_),(32,_),(33,_)] (Rv (O.mv (.own q))<|Rv (O.mv (.own q))<|Rc (PC.vw (ys:=[.brw eState_m.z ⟨4,[]⟩ s9.1.length,.brw eItem.z ⟨10,[]⟩ x15.length]) q (.c (.row q) (.c (.row q) .nil)) (con48 s9.1 x15 _ hx17) call48 q)<|Va q<|Fi (tn11 q q q q q q q q q q q)) ?_
      refine Px.sq<|W.sq' ?_
      refine W.sq'<|W.rx [(1,_),(4,_),(5,_),(6,_),(7,_),(9,_),(10,_),(11,_),(31,_),(32,_),(33,_),(48,_)] (Vm q<|Rv (O.lss (.lit q) (.k q))<|Fi (.n q (.n q (.n q (.n q (.n q (.n q (.n q (.n q (.n q (.n q (.n q (.n q .nil))))))))))))) ?_
      refine Px.sq ?_
      obtain ⟨j18,hj,h⟩:=bnd h
      refine W.jn [(1,.obj (eGrammar_0.cells a0)),(4,oR eState_m j18.1),(5,iR eI x1),(6,I64 s2.2),(7,oR eItem x8),(9,I64 x14),(11,I64 j18.2),(31,iR eI x1),(32,I64 (x1.length:Int)),(33,I64 s9.2)] ?_ ?_
      ·clear h; have h:=hj; clear hj
       refine W.cnd q (fun hb19=>?_) (fun hb19=>?_)
       ·replace h:=cndT hb19 h
        refine W.sq'<|W.rx [(1,_),(4,_),(5,_),(6,_),(7,_),(9,_),(10,_),(11,_),(31,_),(32,_),(33,_)] (Rv (O.mv (.own q))<|Rv (O.lenO (.brw q) sl85)<|RunL.re (G1:=[(1,_),(4,_),(5,_),(6,_),(7,_),(9,_),(10,_),(31,_),(32,_),(33,_),(50,_)]) (tn11 q q q q q q q q q q q)<|Va q<|Fi (tn11 q q q q q q q q q q q)) ?_
        refine Px.sq ?_
        obtain ⟨x20,hx20,h⟩:=bnd h
        refine W.rx [(1,_),(4,_),(5,_),(6,_),(7,_),(9,_),(11,_),(31,_),(32,_),(33,_)] (Rv (O.mv (.own q))<|Rv (O.mv (.own q))<|Rv (O.bu (cs:=[.brw eItem.z ⟨10,[]⟩ x15.length,.nils]) sc97 ze97 q q q)<|Rv (O.bsL (ys:=[.agg [.brw eItem.z ⟨10,[]⟩ x15.length,.nils]]) (cs:=[.brw eItem.z ⟨10,[]⟩ x15.length,.nils]) sl85 q q q q q zt97 q q)<|Rv (O.apL (en:=eState_m) (M:=[(⟨x15,([]:List Move)⟩:State)]) (r:=x20) (.brw q) q (.own q) q q q q ap85 q hx20)<|RunL.ea (G2:=[(1,.obj (eGrammar_0.cells a0)),(5,iR eI x1),(6,I64 s2.2),(7,oR eItem x8),(9,I64 x14),(11,I64 (s9.1.length:Int)),(31,iR eI x1),(32,I64 (x1.length:Int)),(33,I64 s9.2)]) q (EO.apG (M:=[(⟨x15,([]:List Move)⟩:State)]) q q (.pend q) q q q (.r q (.f .nil)) (.z (.o .nil)) q q (tn9 q q q q q q q q q) q q)<|Fi (tn10 q q q q q q q q q q)) ?_
        obtain rfl:=sm h
        exact Px.jn (tn10 q q q q q q q q q q)
       ·replace h:=cndF hb19 h
        refine W.sk ?_
        obtain rfl:=sm h
        exact Px.jn (tn10 q q q q q q q q q q)
      refine Px.sq<|W.sq' ?_
      refine W.sq'<|W.rx [(1,_),(4,_),(5,_),(6,_),(7,_),(9,_),(11,_),(31,_),(32,_),(33,_),(57,_)] (Vm q<|Rv (O.geq (.lit q) (.k q))<|Fi (tn11 q q q q q q q q q q q)) ?_
      refine Px.sq<|W.cnd q (fun hb21=>?_) (fun hb21=>?_)
      ·replace h:=cndT hb21 h
       refine W.sq'<|W.rx [(2,_),(3,_)] (Rv (O.az .knil)<|Vk q<|Fi (tn2 q q)) ?_
       refine Px.sq<|W.fz (G1:=[(2,iR eState_0 ([]:List State)),(3,_)]) [2] (.z q q .zz (.n q q .nil)) ?_
       refine W.rt ?_
       refine Px.sqR ?_
       refine Px.bkR ?_
       refine Px.sqR ?_
       obtain rfl:=sm h
       exact Px.r2 (tn2 q q)
      ·replace h:=cndF hb21 h
       refine W.sk<|Px.sq ?_
       obtain ⟨x22,hx22,h⟩:=bnd h
       obtain ⟨x23,hx23,h⟩:=bnd h
       refine W.rx [(1,_),(4,_),(5,_),(6,_),(7,_),(31,_),(32,_),(33,_)] (Rv (O.mv (.own q))<|Vm q<|Rv (O.mv (.own q))<|Vm q<|Rv (O.ixO (en:=eState_m) q (.brw q) (.lit q) sl85 hx22 q)<|Rv (O.fE (en:=eState_m) q (.ptr q) fd97_1 hx22 q q)<|Rv (O.ldE (en:=eState_m) (x':=.brw eMove.z ⟨4,[s2.2.toNat * eState_m.z+1]⟩ x22.Moves.length) q (.ptr q) ct95 hx22 q q)<|Vm q<|Vm q<|Rv (O.bu (cs:=[I64 x14,I64 j18.2]) sc106 ze106 q q q)<|RunL.vi (x:=iR eMove [(⟨x14,j18.2⟩:Move)]) (O.bs (ys:=[.agg [I64 x14,I64 j18.2]]) eMove [(⟨x14,j18.2⟩:Move)] sl95 q q q q q q zt106 q q) q q .none<|Rv (O.ap (en:=eMove) (r:=x23) (.brw q) (atP_el (r:=4) (path:=[]) (o:=1) (en:=eState_m) q hx22 q) (.imm q) .i ap95 q hx23)<|Rv (O.ixO (en:=eState_m) q (.brw q) (.lit q) sl85 hx22 q)<|Rv (O.fE (en:=eState_m) q (.ptr q) fd97_1 hx22 q q)<|RunL.ef (G2:=[(1,.obj (eGrammar_0.cells a0)),(4,oR eState_m (j18.1.set s2.2.toNat (⟨x22.Kernel,x22.Moves++[(⟨x14,j18.2⟩:Move)]⟩:State))),(5,iR eI x1),(6,I64 s2.2),(7,oR eItem x8),(31,iR eI x1),(32,I64 (x1.length:Int)),(33,I64 s9.2)]) q (EO.stEP (en:=eState_m) (en2:=eMove) (M:=[(⟨x14,j18.2⟩:Move)]) (y2:=(⟨x22.Kernel,x22.Moves++[(⟨x14,j18.2⟩:Move)]⟩:State)) (x2:=oR eState_m (j18.1.set s2.2.toNat (⟨x22.Kernel,x22.Moves++[(⟨x14,j18.2⟩:Move)]⟩:State))) (y0:=.own eState_m.z j18.1.length ((rowc eState_m j18.1).set (s2.2.toNat * eState_m.z+1) .dead)) q q (.ptr q) (.pend q) q q hx22 q q .ns .rf q q sz95 q q q q q q (.n q q (.b q (.n q q (.n q q (.n q q (.n q q (.n q q (.n q q .nil)))))))))<|Fi (tn8 q q q q q q q q)) ?_
       refine Px.bk ?_
       refine Px.sq<|W.rx [(1,_),(4,_),(5,_),(6,_),(7,_),(31,_),(32,_),(33,_)] (Rv (O.add (.lit q) (.k q))<|RunL.re (G1:=[(1,_),(4,_),(5,_),(6,_),(7,_),(31,_),(32,_),(72,_)]) (tn8 q q q q q q q q)<|Vm q<|Fi (tn8 q q q q q q q q)) ?_
       obtain rfl:=sm h
       exact Px.go (tn8 q q q q q q q q)
    ·replace h:=cndF hb13 h
     refine W.xi ?_
     refine Px.sqE ?_
     obtain rfl:=sm h
     exact Px.x2 (tn4 q q q q)
   ·subst hx
    refine Px.bkH ?_
    refine Px.bk ?_
    refine Px.sq<|W.rx [(1,_),(4,_),(5,_),(6,_)] (Vm q<|Rv (O.add (.lit q) (.k q))<|RunL.re (G1:=[(1,_),(4,_),(5,_),(23,_)]) (tn4 q q q q)<|Va q<|Fi (tn4 q q q q)) ?_
    obtain rfl:=sm h
    exact Px.go (tn4 q q q q)
   ·subst hx
    refine Px.bkR ?_
    refine Px.bkR ?_
    refine Px.sqR ?_
    obtain rfl:=sm h
    exact Px.r2 (tn2 q q)
  ·replace h:=cndF hb6 h
   refine W.xi ?_
   refine Px.sqE ?_
   obtain rfl:=sm h
   exact Px.x2 (.n q .nil)
 ·subst hx
  refine Px.bkH ?_
  refine Px.sq<|W.sq' ?_
  refine W.rx [(2,_),(3,_)] (Rv (O.mv (.own q))<|RunL.ea (G2:=[]) q (EO.aR q q (.brw q) q .nil q q)<|Vk q<|Fi (tn2 q q)) ?_
  refine Px.sq<|W.fz (G1:=[(2,iR eState_0 x4),(3,_)]) [2] (.z q q .zz (.n q q .nil)) ?_
  refine W.rt ?_
  obtain rfl:=sm h
  exact Px.fin (Fin.ro (.f q q (.f q q .nil)) q (ode (by kernel_rfl)) (.no .nil) q (.inr q))
 ·subst hx
  refine Px.bkR ?_
  refine Px.sqR ?_
  obtain rfl:=sm h
  exact Px.fin (Fin.ro (.f q q (.f q q .nil)) q (ode (by kernel_rfl)) (.no .nil) q (.inr q))
theorem con103 (a0:(List State)) (a1:Int) (a2:Int) (r:Int) (h:pf103 a0 a1 a2=some r):Con Try.prog 103 [iR eState_0 a0,I64 a1,I64 a2] [none,none,none] (I64 r):=by
 unfold pf103 at h
 refine Con.go (N:=⟨26,[]⟩) Try.func103 q q q q (W.fin ?_)
 refine W.st [(0,iR eState_0 a0),(1,I64 a1),(2,I64 a2)] ?_
 refine W.sq'<|W.rx [(0,_),(1,_),(2,_)] (Vk q<|Fi (tn3 q q q)) ?_
 refine Px.sq<|W.sq' ?_
 refine W.sq' ?_
 obtain ⟨x1,hx1,h⟩:=bnd h
 refine W.rx [(2,_),(13,_),(14,_),(15,_)] (Rv (O.mv (.imm q))<|Vm q<|Rv (O.ixI (.imm q) (.lit q) sl85 hx1)<|Rv (O.fI (.iptr q) fd97_1)<|Rv (O.ldI (x:=iR eMove x1.Moves) (.iptr q) ct95 q)<|Rv (O.lenI (.imm q) sl95)<|Rv (O.mv (.k q))<|Fi (tn4 q q q q)) ?_
 refine Px.sq<|W.bk ?_
 obtain ⟨x3,hl,h⟩:=bnd h
 refine W.tr (G1:=[(2,_),(13,_),(14,_),(15,_)]) (tn4 q q q q) ?_
 refine W.lp2 (s:=0) (fun (s2:Int)=>[(2,I64 a2),(13,iR eMove x1.Moves),(14,I64 (x1.Moves.length:Int)),(15,I64 s2)]) 0 (fun (x4:Unit)=>[]) (fun (x5:Int)=>[(6,I64 x5)]) hl (fun s2 o h=>?_) (fun x4 hx=>?_) (fun x5 hx=>?_)
 ·clear hl
  refine W.sq'<|W.rx [(2,_),(13,_),(14,_),(15,_),(16,_)] (Rv (O.lss (.lit q) (.lit q))<|Fi (tn5 q q q q q)) ?_
  refine Px.sq<|W.sq' ?_
  refine W.cnd q (fun hb6=>?_) (fun hb6=>?_)
  ·replace h:=cndT hb6 h
   refine W.sk<|Px.sq ?_
   refine W.sq'<|W.bk ?_
   refine W.sq' ?_
   obtain ⟨x7,hx7,h⟩:=bnd h
   refine W.rx [(2,_),(8,_),(13,_),(14,_),(15,_)] (Rv (O.ixI (.imm q) (.lit q) sl95 hx7)<|Rv (O.ldIN (cs':=[I64 x7.Sym,I64 x7.To]) (.iptr q) at106 q q)<|Rv (O.al (cs:=[I64 0,I64 0]) ze106 q q)<|RunL.sO (G2:=[(2,I64 a2),(8,.obj [I64 x7.Sym,I64 x7.To]),(13,iR eMove x1.Moves),(14,I64 (x1.Moves.length:Int)),(15,I64 s2)]) (cs2:=[I64 x7.Sym,I64 x7.To]) q (.obj q) (.aggF q q) q sz106 q q q q (.n q q (.b q (.n q q (.n q q (.n q q .nil)))))<|Fi (tn5 q q q q q)) ?_
   refine Px.sq<|W.sq' ?_
   refine W.rx [(2,_),(8,_),(13,_),(14,_),(15,_),(22,_)] (Rv (O.fO q (.obj q) fd106_0 q)<|Rv (O.ldO (y:=I64 x7.Sym) q (.ptr q) ct3 q q)<|Vm q<|Rv (O.eql (.lit q) (.lit q))<|Fi (tn6 q q q q q q)) ?_
   refine Px.sq<|W.cnd q (fun hb8=>?_) (fun hb8=>?_)
   ·replace h:=cndT hb8 h
    refine W.sq'<|W.rx [(6,_)] (Rv (O.fO q (.obj q) fd106_1 q)<|Rv (O.ldO (y:=I64 x7.To) q (.ptr q) ct3 q q)<|Va q<|Fi (.n q .nil)) ?_
    refine Px.sq<|W.rt ?_
    refine Px.bkR ?_
    refine Px.sqR ?_
    obtain rfl:=sm h
    exact Px.r2 (.n q .nil)
   ·replace h:=cndF hb8 h
    refine W.sk<|Px.bk ?_
    refine Px.sq<|W.rx [(2,_),(13,_),(14,_),(15,_)] (Rv (O.add (.lit q) (.k q))<|RunL.re (G1:=[(2,_),(13,_),(14,_),(25,_)]) (tn4 q q q q)<|Vm q<|Fi (tn4 q q q q)) ?_
    obtain rfl:=sm h
    exact Px.go (tn4 q q q q)
  ·replace h:=cndF hb6 h
   refine W.xi ?_
   refine Px.sqE ?_
   obtain rfl:=sm h
   exact Px.x2 .nil
 ·subst hx
  refine Px.bkH ?_
  refine Px.sq<|W.sq' ?_
  refine W.rx [(6,_)] (Vk q<|Fi (.n q .nil)) ?_
  refine Px.sq<|W.rt ?_
  obtain rfl:=sm h
  exact Px.fin (Fin.ro (.f q q .nil) q (ode (by kernel_rfl)) (.no (.no (.no .nil))) q (.inr q))
 ·subst hx
  refine Px.bkR ?_
  refine Px.sqR ?_
  obtain rfl:=sm h
  exact Px.fin (Fin.ro (.f q q .nil) q (ode (by kernel_rfl)) (.no (.no (.no .nil))) q (.inr q))
theorem con85 (a0:(List State)) (a1:Int) (a2:(List Int)) (r:Int) (h:pf85 a0 a1 a2=some r):Con Try.prog 85 [iR eState_0 a0,I64 a1,iR eI a2] [none,none,none] (I64 r):=by
 unfold pf85 at h
 refine Con.go (N:=⟨23,[]⟩) Try.func85 q q q q (W.fin ?_)
 refine W.st [(0,iR eState_0 a0),(1,I64 a1),(2,iR eI a2)] ?_
 refine W.sq'<|W.rx [(0,_),(1,_),(2,_)] (Vk q<|Fi (tn3 q q q)) ?_
 refine Px.sq<|W.sq' ?_
 refine W.sq'<|W.rx [(0,_),(1,_),(9,_),(10,_),(11,_)] (Rv (O.mv (.imm q))<|Rv (O.lenI (.imm q) sl27)<|Rv (O.mv (.k q))<|Fi (tn5 q q q q q)) ?_
 refine Px.sq<|W.bk ?_
 obtain ⟨x2,hl,h⟩:=bnd h
 refine W.tr (G1:=[(0,_),(1,_),(9,_),(10,_),(11,_)]) (tn5 q q q q q) ?_
 refine W.lp2 (s:=(a1,0)) (fun (s1:Int × Int)=>[(0,iR eState_0 a0),(1,I64 s1.1),(9,iR eI a2),(10,I64 (a2.length:Int)),(11,I64 s1.2)]) 0 (fun (x3:Int)=>[(1,I64 x3)]) (fun (x4:Int)=>[(6,I64 x4)]) hl (fun s1 o h=>?_) (fun x3 hx=>?_) (fun x4 hx=>?_)
 ·clear hl
  refine W.sq'<|W.rx [(0,_),(1,_),(9,_),(10,_),(11,_),(12,_)] (Rv (O.lss (.lit q) (.lit q))<|Fi (tn6 q q q q q q)) ?_
  refine Px.sq<|W.sq' ?_
  refine W.cnd q (fun hb5=>?_) (fun hb5=>?_)
  ·replace h:=cndT hb5 h
   refine W.sk<|Px.sq ?_
   refine W.sq'<|W.bk ?_
   refine W.sq' ?_
   obtain ⟨x6,hx6,h⟩:=bnd h
   refine W.rx [(0,_),(1,_),(8,_),(9,_),(10,_),(11,_)] (Rv (O.ixI (.imm q) (.lit q) sl27 hx6)<|Rv (O.ldI (x:=I64 x6) (.iptr q) ct3 q)<|Va q<|Fi (tn6 q q q q q q)) ?_
   refine Px.sq<|W.sq' ?_
   obtain ⟨x7,hx7,h⟩:=bnd h
   refine W.rx [(0,_),(1,_),(9,_),(10,_),(11,_)] (Rv (O.mv (.imm q))<|Vm q<|Vm q<|Rc (PC.go (.cc (.imm q) (.cc (.lit q) (.cc (.lit q) .nil))) (con103 a0 s1.1 x6 _ hx7) call103 q)<|RunL.re (G1:=[(0,_),(9,_),(10,_),(11,_),(18,_)]) (tn5 q q q q q)<|Va q<|Fi (tn5 q q q q q)) ?_
   refine Px.sq<|W.sq' ?_
   refine W.rx [(0,_),(1,_),(9,_),(10,_),(11,_),(20,_)] (Vm q<|Rv (O.lss (.lit q) (.k q))<|Fi (tn6 q q q q q q)) ?_
   refine Px.sq<|W.cnd q (fun hb8=>?_) (fun hb8=>?_)
   ·replace h:=cndT hb8 h
    refine W.sq'<|W.rx [(6,_)] (Vk q<|Fi (.n q .nil)) ?_
    refine Px.sq<|W.rt ?_
    refine Px.bkR ?_
    refine Px.sqR ?_
    obtain rfl:=sm h
    exact Px.r2 (.n q .nil)
   ·replace h:=cndF hb8 h
    refine W.sk<|Px.bk ?_
    refine Px.sq<|W.rx [(0,_),(1,_),(9,_),(10,_),(11,_)] (Rv (O.add (.lit q) (.k q))<|RunL.re (G1:=[(0,_),(1,_),(9,_),(10,_),(21,_)]) (tn5 q q q q q)<|Vm q<|Fi (tn5 q q q q q)) ?_
    obtain rfl:=sm h
    exact Px.go (tn5 q q q q q)
  ·replace h:=cndF hb5 h
   refine W.xi ?_
   refine Px.sqE ?_
   obtain rfl:=sm h
   exact Px.x2 (.n q .nil)
 ·subst hx
  refine Px.bkH ?_
  refine Px.sq<|W.sq' ?_
  refine W.rx [(6,_)] (Vm q<|Va q<|Fi (.n q .nil)) ?_
  refine Px.sq<|W.rt ?_
  obtain rfl:=sm h
  exact Px.fin (Fin.ro (.f q q .nil) q (ode (by kernel_rfl)) (.no (.no (.no .nil))) q (.inr q))
 ·subst hx
  refine Px.bkR ?_
  refine Px.sqR ?_
  obtain rfl:=sm h
  exact Px.fin (Fin.ro (.f q q .nil) q (ode (by kernel_rfl)) (.no (.no (.no .nil))) q (.inr q))
theorem con52 (a0:(List State)) (a1:(List Int)) (r:Int) (h:pf52 a0 a1=some r):Con Try.prog 52 [iR eState_0 a0,iR eI a1] [none,none] (I64 r):=by
 unfold pf52 at h
 refine Con.go (N:=⟨8,[]⟩) Try.func52 q q q q (W.fin ?_)
 refine W.st [(0,iR eState_0 a0),(1,iR eI a1)] ?_
 refine W.sq'<|W.rx [(0,_),(1,_)] (Vk q<|Fi (tn2 q q)) ?_
 refine Px.sq<|W.sq' ?_
 obtain ⟨x1,hx1,h⟩:=bnd h
 refine W.rx [(4,_)] (Rv (O.mv (.imm q))<|Rv (O.mv (.imm q))<|Rc (PC.go (.cc (.imm q) (.cc (.k q) (.cc (.imm q) .nil))) (con85 a0 0 a1 _ hx1) call85 q)<|Va q<|Fi (.n q .nil)) ?_
 refine Px.sq<|W.rt ?_
 obtain rfl:=sm h
 exact Px.fin (Fin.ro (.f q q .nil) q (ode (by kernel_rfl)) (.no (.no .nil)) q (.inr q))
theorem con78 (a0:(List Move)) (a1:(List Move)) (r:Bool) (h:pf78 a0 a1=some r):Con Try.prog 78 [iR eMove a0,iR eMove a1] [none,none] (BB r):=by
 unfold pf78 at h
 refine Con.go (N:=⟨26,[]⟩) Try.func78 q q q q (W.fin ?_)
 refine W.st [(0,iR eMove a0),(1,iR eMove a1)] ?_
 refine W.sq'<|W.rx [(0,_),(1,_)] (Vk q<|Fi (tn2 q q)) ?_
 refine Px.sq<|W.sq' ?_
 refine W.sq'<|W.rx [(0,_),(1,_),(10,_)] (Rv (O.mv (.imm q))<|Rv (O.lenI (.imm q) sl95)<|Rv (O.mv (.imm q))<|Rv (O.lenI (.imm q) sl95)<|Rv (O.neq (.lit q) (.lit q))<|Fi (tn3 q q q)) ?_
 refine Px.sq<|W.cnd q (fun hb1=>?_) (fun hb1=>?_)
 ·replace h:=cndT hb1 h
  refine W.sq'<|W.rx [(4,_)] (Vk q<|Fi (.n q .nil)) ?_
  refine Px.sq<|W.rt ?_
  refine Px.sqR ?_
  obtain rfl:=sm h
  exact Px.fin (Fin.ro (.f q q .nil) q (ode (by kernel_rfl)) (.no (.no .nil)) q (.inr q))
 ·replace h:=cndF hb1 h
  refine W.sk<|Px.sq ?_
  refine W.sq'<|W.sq' ?_
  refine W.rx [(0,_),(1,_),(5,_)] (Vk q<|Fi (tn3 q q q)) ?_
  refine Px.sq<|W.bk ?_
  obtain ⟨x3,hl,h⟩:=bnd h
  refine W.tr (G1:=[(0,_),(1,_),(5,_)]) (tn3 q q q) ?_
  refine W.lp2 (s:=0) (fun (s2:Int)=>[(0,iR eMove a0),(1,iR eMove a1),(5,I64 s2)]) 0 (fun (x4:Unit)=>[]) (fun (x5:Bool)=>[(4,BB x5)]) hl (fun s2 o h=>?_) (fun x4 hx=>?_) (fun x5 hx=>?_)
  ·clear hl
   refine W.sq'<|W.sq' ?_
   refine W.rx [(0,_),(1,_),(5,_),(14,_)] (Vm q<|Rv (O.mv (.imm q))<|Rv (O.lenI (.imm q) sl95)<|Rv (O.lss (.lit q) (.lit q))<|Fi (tn4 q q q q)) ?_
   refine Px.sq<|W.cnd q (fun hb6=>?_) (fun hb6=>?_)
   ·replace h:=cndT hb6 h
    refine W.sk<|Px.sq ?_
    refine W.sq'<|W.bk ?_
    refine W.sq' ?_
    obtain ⟨x7,hx7,h⟩:=bnd h
    obtain ⟨x8,hx8,h⟩:=bnd h
    refine W.rd [[],[],[0,1],[0,1,2],[],[],[4,5],[4,5,6],rn 0 8 []] [(0,_),(1,_),(5,_),(25,_)] mixo (by kernel_rfl) (Dv 0 (O.mv (.imm q))<|Dv 1 (O.mv (.lit q))<|Dv 2 (O.ixI (.imm q) (.lit q) sl95 hx7)<|Dv 3 (O.ldIN (cs':=[I64 x7.Sym,I64 x7.To]) (.iptr q) at106 q q)<|Dv 4 (O.mv (.imm q))<|Dv 5 (O.mv (.lit q))<|Dv 6 (O.ixI (.imm q) (.lit q) sl95 hx8)<|Dv 7 (O.ldIN (cs':=[I64 x8.Sym,I64 x8.To]) (.iptr q) at106 q q)<|Dv 8 (O.neqA (va:=[.int .i64 x7.Sym,.int .i64 x7.To]) (vb:=[.int .i64 x8.Sym,.int .i64 x8.To]) (.aggF q q) (.aggF q q) q q eq106)<|DL.fin q q q (tn4 q q q q)) ?_
    refine Px.sq<|W.cnd q (fun hb9=>?_) (fun hb9=>?_)
    ·replace h:=cndT hb9 h
     refine W.sq'<|W.rx [(4,_)] (Vk q<|Fi (.n q .nil)) ?_
     refine Px.sq<|W.rt ?_
     refine Px.bkR ?_
     refine Px.sqR ?_
     obtain rfl:=sm h
     exact Px.r2 (.n q .nil)
    ·replace h:=cndF hb9 h
     refine W.sk<|Px.bk ?_
     refine Px.sq<|W.rx [(0,_),(1,_),(5,_)] (Vm q<|Rv (O.add (.lit q) (.k q))<|RunL.re (G1:=[(0,_),(1,_),(16,_)]) (tn3 q q q)<|Va q<|Fi (tn3 q q q)) ?_
     obtain rfl:=sm h
     exact Px.go (tn3 q q q)
   ·replace h:=cndF hb6 h
    refine W.xi ?_
    refine Px.sqE ?_
    obtain rfl:=sm h
    exact Px.x2 .nil
  ·subst hx
   refine Px.bkH ?_
   refine Px.sq<|W.sq' ?_
   refine W.rx [(4,_)] (Vk q<|Fi (.n q .nil)) ?_
   refine Px.sq<|W.rt ?_
   obtain rfl:=sm h
   exact Px.fin (Fin.ro (.f q q .nil) q (ode (by kernel_rfl)) (.no (.no .nil)) q (.inr q))
  ·subst hx
   refine Px.bkR ?_
   refine Px.sqR ?_
   obtain rfl:=sm h
   exact Px.fin (Fin.ro (.f q q .nil) q (ode (by kernel_rfl)) (.no (.no .nil)) q (.inr q))
theorem con43  (r:Bool) (h:pf43 =some r):Con Try.prog 43 [] [] (BB r):=by
 unfold pf43 at h
 refine Con.go (N:=⟨81,[]⟩) Try.func43 q q q q (W.fin ?_)
 refine W.st [] ?_
 refine W.sq'<|W.rx [] (Vk q<|Fi .nil) ?_
 refine Px.sq<|W.sq' ?_
 obtain ⟨x1,hx1,h⟩:=bnd h
 refine W.rx [(1,_),(2,_)] (Rv (O.bu (cs:=[SS ({ data:=#[120] }),BB true,I64 0,I64 0]) sc59 ze59 q q q)<|Rv (O.bu (cs:=[SS ({ data:=#[120] }),BB true,I64 0,I64 0,SS S0,I64 0]) sc109 ze109 q q q)<|RunL.vi (x:=iR ePart [(⟨(⟨{ data:=#[120] },true,0,0⟩:Sym),S0,0⟩:Part)]) (O.bs (ys:=[.agg [SS ({ data:=#[120] }),BB true,I64 0,I64 0,SS S0,I64 0]]) ePart [(⟨(⟨{ data:=#[120] },true,0,0⟩:Sym),S0,0⟩:Part)] sl60 q q q q q q zt109 q q) q q .none<|Rv (O.bu (cs:=[iR ePart [(⟨(⟨{ data:=#[120] },true,0,0⟩:Sym),S0,0⟩:Part)],SS S0,BB false,I64 0,I64 0,I64 0]) sc62 ze62 q q q)<|RunL.vi (x:=iR eAlt_0 [(⟨[(⟨(⟨{ data:=#[120] },true,0,0⟩:Sym),S0,0⟩:Part)],(⟨S0,false,0,0⟩:Sym),0⟩:Alt)]) (O.bs (ys:=[.agg [iR ePart [(⟨(⟨{ data:=#[120] },true,0,0⟩:Sym),S0,0⟩:Part)],SS S0,BB false,I64 0,I64 0,I64 0]]) eAlt_0 [(⟨[(⟨(⟨{ data:=#[120] },true,0,0⟩:Sym),S0,0⟩:Part)],(⟨S0,false,0,0⟩:Sym),0⟩:Alt)] sl63 q q q q q q zt62 q q) q q .none<|Rv (O.bu (cs:=[SS ({ data:=#[115] }),iR eAlt_0 [(⟨[(⟨(⟨{ data:=#[120] },true,0,0⟩:Sym),S0,0⟩:Part)],(⟨S0,false,0,0⟩:Sym),0⟩:Alt)],I64 0]) sc65 ze65 q q q)<|RunL.vi (x:=iR eRule_0 [(⟨{ data:=#[115] },[(⟨[(⟨(⟨{ data:=#[120] },true,0,0⟩:Sym),S0,0⟩:Part)],(⟨S0,false,0,0⟩:Sym),0⟩:Alt)],0⟩:Rule)]) (O.bs (ys:=[.agg [SS ({ data:=#[115] }),iR eAlt_0 [(⟨[(⟨(⟨{ data:=#[120] },true,0,0⟩:Sym),S0,0⟩:Part)],(⟨S0,false,0,0⟩:Sym),0⟩:Alt)],I64 0]]) eRule_0 [(⟨{ data:=#[115] },[(⟨[(⟨(⟨{ data:=#[120] },true,0,0⟩:Sym),S0,0⟩:Part)],(⟨S0,false,0,0⟩:Sym),0⟩:Alt)],0⟩:Rule)] sl23 q q q q q q zt65 q q) q q .none<|RunL.vi (x:=.agg [SS S0,iR eDecl_0 ([]:List Decl),iR eRule_0 [(⟨{ data:=#[115] },[(⟨[(⟨(⟨{ data:=#[120] },true,0,0⟩:Sym),S0,0⟩:Part)],(⟨S0,false,0,0⟩:Sym),0⟩:Alt)],0⟩:Rule)],SS S0]) (O.bu (cs:=[SS S0,.nils,iR eRule_0 [(⟨{ data:=#[115] },[(⟨[(⟨(⟨{ data:=#[120] },true,0,0⟩:Sym),S0,0⟩:Part)],(⟨S0,false,0,0⟩:Sym),0⟩:Alt)],0⟩:Rule)],SS S0]) sc25 ze25 q q q) q q .none<|Rc (PC.go (.cc (.aggF q q) .nil) (con20 (⟨S0,([]:List Decl),[(⟨{ data:=#[115] },[(⟨[(⟨(⟨{ data:=#[120] },true,0,0⟩:Sym),S0,0⟩:Part)],(⟨S0,false,0,0⟩:Sym),0⟩:Alt)],0⟩:Rule)],S0⟩:Source) _ hx1) call20 q)<|Rv (O.mv (.tup q q))<|Rv (O.ex (y:=.agg (eGrammar_0.cells x1.1)) q q q)<|Rv (O.ex (y:=BB x1.2) q q q)<|Rv (O.al (cs:=[.nils,.nils,.nils,SS S0,SS S0]) ze38 q q)<|RunL.sO (G2:=[(1,.obj (eGrammar_0.cells x1.1)),(16,BB x1.2)]) (cs2:=[iR eTok x1.1.Toks,iR eNon x1.1.Nons,iR eProd_0 x1.1.Prods,SS x1.1.Pro,SS x1.1.Tail]) q (.obj q) (.aggF q q) q sz38 q q q q (.b q (.n q q .nil))<|Va q<|Fi (tn2 q q)) ?_
 refine Px.sq<|W.sq' ?_
 obtain ⟨x2,hx2,h⟩:=bnd h
 refine W.rx [(2,_),(3,_),(4,_)] (Rv (O.ldON (cs':=[iR eTok x1.1.Toks,iR eNon x1.1.Nons,iR eProd_0 x1.1.Prods,SS x1.1.Pro,SS x1.1.Tail]) q (.obj q) at38 q q)<|Rc (PC.go (.cc (.aggF q q) .nil) (con44 x1.1 _ hx2) call44 q)<|Rv (O.mv (.tupF q q))<|Rv (O.ex (y:=iR eState_0 x2.1) q q q)<|Rv (O.ex (y:=I64 x2.2) q q q)<|Rv (O.az (.imm q))<|Va q<|Fi (tn3 q q q)) ?_
 refine Px.sq<|W.sq' ?_
 obtain ⟨c21,hj,h⟩:=bnd h
 refine W.rx [(0,BB c21)] ?_ ?_
 ·refine Vm q<|Rv (O.mv (.lit q)) ?_
  rcases cnd hj with ⟨hb3,hj⟩ | ⟨hb3,hj⟩
  ·refine RunL.v (O.mv (.lit q)) q q (.yb q q hb3)<|RunL.v (O.eql (.lit q) (.k q)) q q (.yb q q hb3)<|Rv (O.pkT (.lit q) hb3 (.lit q))<|Rv (O.mv (.lit q)) ?_
   rcases cnd hj with ⟨hb4,hj⟩ | ⟨hb4,hj⟩
   ·refine RunL.v (O.mv (.imm q)) q q (.yb q q hb4)<|RunL.v (O.lenI (.imm q) sl85) q q (.yb q q hb4)<|RunL.v (O.eql (.lit q) (.k q)) q q (.yb q q hb4)<|Rv (O.pkT (.lit q) hb4 (.lit q))<|Rv (O.mv (.lit q)) ?_
    rcases cnd hj with ⟨hb5,hj⟩ | ⟨hb5,hj⟩
    ·refine RunL.v (O.mv (.imm q)) q q (.yb q q hb5) ?_
     obtain ⟨x6,hx6,hj⟩:=bnd hj
     refine RunL.v (O.ixI (.imm q) (.k q) sl85 hx6) q q (.yb q q hb5)<|RunL.v (O.fI (.iptr q) fd97_1) q q (.yb q q hb5)<|RunL.v (O.ldI (x:=iR eMove x6.Moves) (.iptr q) ct95 q) q q (.yb q q hb5)<|RunL.v (O.bu (cs:=[I64 3,I64 1]) sc106 ze106 q q q) q q (.yb q q hb5)<|RunL.v (O.bu (cs:=[I64 1001,I64 2]) sc106 ze106 q q q) q q (.yb q q hb5)<|RunL.vi (x:=iR eMove [(⟨3,1⟩:Move),(⟨1001,2⟩:Move)]) (O.bs (ys:=[.agg [I64 3,I64 1],.agg [I64 1001,I64 2]]) eMove [(⟨3,1⟩:Move),(⟨1001,2⟩:Move)] sl95 q q q q q q zt106 q q) q q (.yb q q hb5) ?_
     obtain ⟨x7,hx7,hj⟩:=bnd hj
     refine RunL.c (PC.go (.cc (.imm q) (.cc (.imm q) .nil)) (con78 x6.Moves [(⟨3,1⟩:Move),(⟨1001,2⟩:Move)] _ hx7) call78 q) q q (.yb q q hb5)<|Rv (O.pkT (.lit q) hb5 (.lit q))<|Rv (O.mv (.lit q)) ?_
     rcases cnd hj with ⟨hb8,hj⟩ | ⟨hb8,hj⟩
     ·refine RunL.v (O.mv (.imm q)) q q (.yb q q hb8) ?_
      obtain ⟨x9,hx9,hj⟩:=bnd hj
      refine RunL.v (O.ixI (.imm q) (.k q) sl85 hx9) q q (.yb q q hb8)<|RunL.v (O.fI (.iptr q) fd97_0) q q (.yb q q hb8)<|RunL.v (O.ldI (x:=iR eItem x9.Kernel) (.iptr q) ct66 q) q q (.yb q q hb8)<|RunL.v (O.bu (cs:=[I64 0,I64 1]) sc72 ze72 q q q) q q (.yb q q hb8)<|RunL.vi (x:=iR eItem [(⟨0,1⟩:Item)]) (O.bs (ys:=[.agg [I64 0,I64 1]]) eItem [(⟨0,1⟩:Item)] sl66 q q q q q q zt72 q q) q q (.yb q q hb8) ?_
      obtain ⟨x10,hx10,hj⟩:=bnd hj
      refine RunL.c (PC.go (.cc (.imm q) (.cc (.imm q) .nil)) (con35 x9.Kernel [(⟨0,1⟩:Item)] _ hx10) call35 q) q q (.yb q q hb8)<|Rv (O.pkT (.lit q) hb8 (.lit q))<|Rv (O.mv (.lit q)) ?_
      rcases cnd hj with ⟨hb11,hj⟩ | ⟨hb11,hj⟩
      ·refine RunL.v (O.mv (.imm q)) q q (.yb q q hb11)<|RunL.v (O.bu (cs:=[I64 1,I64 1]) sc72 ze72 q q q) q q (.yb q q hb11)<|RunL.v (O.bu (cs:=[I64 1,I64 1]) sc72 ze72 q q q) q q (.yb q q hb11)<|RunL.vi (x:=iR eItem [(⟨1,1⟩:Item),(⟨1,1⟩:Item)]) (O.bs (ys:=[.agg [I64 1,I64 1],.agg [I64 1,I64 1]]) eItem [(⟨1,1⟩:Item),(⟨1,1⟩:Item)] sl66 q q q q q q zt72 q q) q q (.yb q q hb11) ?_
       obtain ⟨x12,hx12,hj⟩:=bnd hj
       refine RunL.c (PC.go (.cc (.imm q) (.cc (.imm q) .nil)) (con48 x2.1 [(⟨1,1⟩:Item),(⟨1,1⟩:Item)] _ hx12) call48 q) q q (.yb q q hb11)<|RunL.v (O.eql (.lit q) (.k q)) q q (.yb q q hb11)<|Rv (O.pkT (.lit q) hb11 (.lit q))<|Rv (O.mv (.lit q)) ?_
       rcases cnd hj with ⟨hb13,hj⟩ | ⟨hb13,hj⟩
       ·refine RunL.v (O.mv (.imm q)) q q (.yb q q hb13) ?_
        obtain ⟨x14,hx14,hj⟩:=bnd hj
        refine RunL.c (PC.vw (ys:=[iR eState_0 x2.1,.nils]) q (.s (.c .nilI .nil)) (con48 x2.1 ([]:List Item) _ hx14) call48 q) q q (.yb q q hb13)<|RunL.v (O.eql (.lit q) (.k q)) q q (.yb q q hb13)<|Rv (O.pkT (.lit q) hb13 (.lit q))<|Rv (O.mv (.lit q)) ?_
        rcases cnd hj with ⟨hb15,hj⟩ | ⟨hb15,hj⟩
        ·refine RunL.v (O.mv (.imm q)) q q (.yb q q hb15)<|RunL.vi (x:=iR eI [1001]) (O.bs (ys:=[I64 1001]) eI [1001] sl27 q q q q q q zt3 q q) q q (.yb q q hb15) ?_
         obtain ⟨x16,hx16,hj⟩:=bnd hj
         refine RunL.c (PC.go (.cc (.imm q) (.cc (.imm q) .nil)) (con52 x2.1 [1001] _ hx16) call52 q) q q (.yb q q hb15)<|RunL.v (O.eql (.lit q) (.k q)) q q (.yb q q hb15)<|Rv (O.pkT (.lit q) hb15 (.lit q))<|Rv (O.mv (.lit q)) ?_
         rcases cnd hj with ⟨hb17,hj⟩ | ⟨hb17,hj⟩
         ·refine RunL.v (O.mv (.imm q)) q q (.yb q q hb17)<|RunL.vi (x:=iR eI [3,3]) (O.bs (ys:=[I64 3,I64 3]) eI [3,3] sl27 q q q q q q zt3 q q) q q (.yb q q hb17) ?_
          obtain ⟨x18,hx18,hj⟩:=bnd hj
          refine RunL.c (PC.go (.cc (.imm q) (.cc (.imm q) .nil)) (con52 x2.1 [3,3] _ hx18) call52 q) q q (.yb q q hb17)<|RunL.v (O.eql (.lit q) (.k q)) q q (.yb q q hb17)<|Rv (O.pkT (.lit q) hb17 (.lit q))<|Rv (O.mv (.lit q)) ?_
          rcases cnd hj with ⟨hb19,hj⟩ | ⟨hb19,hj⟩
          ·refine RunL.v (O.mv (.imm q)) q q (.yb q q hb19) ?_
           obtain ⟨x20,hx20,hj⟩:=bnd hj
           obtain rfl:=sm hj
           exact RunL.c (PC.vw (ys:=[iR eState_0 x2.1,.nils]) q (.s (.c .nilI .nil)) (con52 x2.1 ([]:List Int) _ hx20) call52 q) q q (.yb q q hb19)<|RunL.v (O.eql (.lit q) (.k q)) q q (.yb q q hb19)<|Rv (O.pkT (.lit q) hb19 (.lit q))<|Va q<|Fi (.n q .nil)
          ·obtain rfl:=sm hj
           exact RunL.ps q q hb19 q q<|RunL.ps q q hb19 q q<|RunL.ps q q hb19 q q<|Rv (O.pkF (.lit q) hb19 (.k q))<|Va q<|Fi (.n q .nil)
         ·obtain rfl:=sm hj
          exact RunL.ps q q hb17 q q<|RunL.ps q q hb17 q q<|RunL.ps q q hb17 q q<|RunL.ps q q hb17 q q<|Rv (O.pkF (.lit q) hb17 (.k q))<|Vm q<|RunL.ps q q q q q<|RunL.ps q q q q q<|RunL.ps q q q q q<|Rv (O.pkF (.lit q) q (.k q))<|Va q<|Fi (.n q .nil)
        ·obtain rfl:=sm hj
         exact RunL.ps q q hb15 q q<|RunL.ps q q hb15 q q<|RunL.ps q q hb15 q q<|RunL.ps q q hb15 q q<|Rv (O.pkF (.lit q) hb15 (.k q))<|Vm q<|RunL.ps q q q q q<|RunL.ps q q q q q<|RunL.ps q q q q q<|RunL.ps q q q q q<|Rv (O.pkF (.lit q) q (.k q))<|Vm q<|RunL.ps q q q q q<|RunL.ps q q q q q<|RunL.ps q q q q q<|Rv (O.pkF (.lit q) q (.k q))<|Va q<|Fi (.n q .nil)
       ·obtain rfl:=sm hj
        exact RunL.ps q q hb13 q q<|RunL.ps q q hb13 q q<|RunL.ps q q hb13 q q<|Rv (O.pkF (.lit q) hb13 (.k q))<|Vm q<|RunL.ps q q q q q<|RunL.ps q q q q q<|RunL.ps q q q q q<|RunL.ps q q q q q<|Rv (O.pkF (.lit q) q (.k q))<|Vm q<|RunL.ps q q q q q<|RunL.ps q q q q q<|RunL.ps q q q q q<|RunL.ps q q q q q<|Rv (O.pkF (.lit q) q (.k q))<|Vm q<|RunL.ps q q q q q<|RunL.ps q q q q q<|RunL.ps q q q q q<|Rv (O.pkF (.lit q) q (.k q))<|Va q<|Fi (.n q .nil)
      ·obtain rfl:=sm hj
       exact RunL.ps q q hb11 q q<|RunL.ps q q hb11 q q<|RunL.ps q q hb11 q q<|RunL.ps q q hb11 q q<|RunL.ps q q hb11 q q<|RunL.ps q q hb11 q q<|Rv (O.pkF (.lit q) hb11 (.k q))<|Vm q<|RunL.ps q q q q q<|RunL.ps q q q q q<|RunL.ps q q q q q<|Rv (O.pkF (.lit q) q (.k q))<|Vm q<|RunL.ps q q q q q<|RunL.ps q q q q q<|RunL.ps q q q q q<|RunL.ps q q q q q<|Rv (O.pkF (.lit q) q (.k q))<|Vm q<|RunL.ps q q q q q<|RunL.ps q q q q q<|RunL.ps q q q q q<|RunL.ps q q q q q<|Rv (O.pkF (.lit q) q (.k q))<|Vm q<|RunL.ps q q q q q<|RunL.ps q q q q q<|RunL.ps q q q q q<|Rv (O.pkF (.lit q) q (.k q))<|Va q<|Fi (.n q .nil)
     ·obtain rfl:=sm hj
      exact RunL.ps q q hb8 q q<|RunL.ps q q hb8 q q<|RunL.ps q q hb8 q q<|RunL.ps q q hb8 q q<|RunL.ps q q hb8 q q<|RunL.ps q q hb8 q q<|RunL.ps q q hb8 q q<|Rv (O.pkF (.lit q) hb8 (.k q))<|Vm q<|RunL.ps q q q q q<|RunL.ps q q q q q<|RunL.ps q q q q q<|RunL.ps q q q q q<|RunL.ps q q q q q<|RunL.ps q q q q q<|Rv (O.pkF (.lit q) q (.k q))<|Vm q<|RunL.ps q q q q q<|RunL.ps q q q q q<|RunL.ps q q q q q<|Rv (O.pkF (.lit q) q (.k q))<|Vm q<|RunL.ps q q q q q<|RunL.ps q q q q q<|RunL.ps q q q q q<|RunL.ps q q q q q<|Rv (O.pkF (.lit q) q (.k q))<|Vm q<|RunL.ps q q q q q<|RunL.ps q q q q q<|RunL.ps q q q q q<|RunL.ps q q q q q<|Rv (O.pkF (.lit q) q (.k q))<|Vm q<|RunL.ps q q q q q<|RunL.ps q q q q q<|RunL.ps q q q q q<|Rv (O.pkF (.lit q) q (.k q))<|Va q<|Fi (.n q .nil)
    ·obtain rfl:=sm hj
     exact RunL.ps q q hb5 q q<|RunL.ps q q hb5 q q<|RunL.ps q q hb5 q q<|RunL.ps q q hb5 q q<|RunL.ps q q hb5 q q<|RunL.ps q q hb5 q q<|RunL.ps q q hb5 q q<|RunL.ps q q hb5 q q<|Rv (O.pkF (.lit q) hb5 (.k q))<|Vm q<|RunL.ps q q q q q<|RunL.ps q q q q q<|RunL.ps q q q q q<|RunL.ps q q q q q<|RunL.ps q q q q q<|RunL.ps q q q q q<|RunL.ps q q q q q<|Rv (O.pkF (.lit q) q (.k q))<|Vm q<|RunL.ps q q q q q<|RunL.ps q q q q q<|RunL.ps q q q q q<|RunL.ps q q q q q<|RunL.ps q q q q q<|RunL.ps q q q q q<|Rv (O.pkF (.lit q) q (.k q))<|Vm q<|RunL.ps q q q q q<|RunL.ps q q q q q<|RunL.ps q q q q q<|Rv (O.pkF (.lit q) q (.k q))<|Vm q<|RunL.ps q q q q q<|RunL.ps q q q q q<|RunL.ps q q q q q<|RunL.ps q q q q q<|Rv (O.pkF (.lit q) q (.k q))<|Vm q<|RunL.ps q q q q q<|RunL.ps q q q q q<|RunL.ps q q q q q<|RunL.ps q q q q q<|Rv (O.pkF (.lit q) q (.k q))<|Vm q<|RunL.ps q q q q q<|RunL.ps q q q q q<|RunL.ps q q q q q<|Rv (O.pkF (.lit q) q (.k q))<|Va q<|Fi (.n q .nil)
   ·obtain rfl:=sm hj
    exact RunL.ps q q hb4 q q<|RunL.ps q q hb4 q q<|RunL.ps q q hb4 q q<|Rv (O.pkF (.lit q) hb4 (.k q))<|Vm q<|RunL.ps q q q q q<|RunL.ps q q q q q<|RunL.ps q q q q q<|RunL.ps q q q q q<|RunL.ps q q q q q<|RunL.ps q q q q q<|RunL.ps q q q q q<|RunL.ps q q q q q<|Rv (O.pkF (.lit q) q (.k q))<|Vm q<|RunL.ps q q q q q<|RunL.ps q q q q q<|RunL.ps q q q q q<|RunL.ps q q q q q<|RunL.ps q q q q q<|RunL.ps q q q q q<|RunL.ps q q q q q<|Rv (O.pkF (.lit q) q (.k q))<|Vm q<|RunL.ps q q q q q<|RunL.ps q q q q q<|RunL.ps q q q q q<|RunL.ps q q q q q<|RunL.ps q q q q q<|RunL.ps q q q q q<|Rv (O.pkF (.lit q) q (.k q))<|Vm q<|RunL.ps q q q q q<|RunL.ps q q q q q<|RunL.ps q q q q q<|Rv (O.pkF (.lit q) q (.k q))<|Vm q<|RunL.ps q q q q q<|RunL.ps q q q q q<|RunL.ps q q q q q<|RunL.ps q q q q q<|Rv (O.pkF (.lit q) q (.k q))<|Vm q<|RunL.ps q q q q q<|RunL.ps q q q q q<|RunL.ps q q q q q<|RunL.ps q q q q q<|Rv (O.pkF (.lit q) q (.k q))<|Vm q<|RunL.ps q q q q q<|RunL.ps q q q q q<|RunL.ps q q q q q<|Rv (O.pkF (.lit q) q (.k q))<|Va q<|Fi (.n q .nil)
  ·obtain rfl:=sm hj
   exact RunL.ps q q hb3 q q<|RunL.ps q q hb3 q q<|Rv (O.pkF (.lit q) hb3 (.k q))<|Vm q<|RunL.ps q q q q q<|RunL.ps q q q q q<|RunL.ps q q q q q<|Rv (O.pkF (.lit q) q (.k q))<|Vm q<|RunL.ps q q q q q<|RunL.ps q q q q q<|RunL.ps q q q q q<|RunL.ps q q q q q<|RunL.ps q q q q q<|RunL.ps q q q q q<|RunL.ps q q q q q<|RunL.ps q q q q q<|Rv (O.pkF (.lit q) q (.k q))<|Vm q<|RunL.ps q q q q q<|RunL.ps q q q q q<|RunL.ps q q q q q<|RunL.ps q q q q q<|RunL.ps q q q q q<|RunL.ps q q q q q<|RunL.ps q q q q q<|Rv (O.pkF (.lit q) q (.k q))<|Vm q<|RunL.ps q q q q q<|RunL.ps q q q q q<|RunL.ps q q q q q<|RunL.ps q q q q q<|RunL.ps q q q q q<|RunL.ps q q q q q<|Rv (O.pkF (.lit q) q (.k q))<|Vm q<|RunL.ps q q q q q<|RunL.ps q q q q q<|RunL.ps q q q q q<|Rv (O.pkF (.lit q) q (.k q))<|Vm q<|RunL.ps q q q q q<|RunL.ps q q q q q<|RunL.ps q q q q q<|RunL.ps q q q q q<|Rv (O.pkF (.lit q) q (.k q))<|Vm q<|RunL.ps q q q q q<|RunL.ps q q q q q<|RunL.ps q q q q q<|RunL.ps q q q q q<|Rv (O.pkF (.lit q) q (.k q))<|Vm q<|RunL.ps q q q q q<|RunL.ps q q q q q<|RunL.ps q q q q q<|Rv (O.pkF (.lit q) q (.k q))<|Va q<|Fi (.n q .nil)
 refine Px.sq<|W.rt ?_
 obtain rfl:=sm h
 exact Px.fin (Fin.ro (.f q q .nil) q (ode (by kernel_rfl)) .nil q (.inr q))
theorem con54 (a0:Grammar) (r:(List Int)) (h:pf54 a0=some r):Con Try.prog 54 [.agg (eGrammar_0.cells a0)] [none] (iR eI r):=by
 unfold pf54 at h
 refine Con.go (N:=⟨30,[]⟩) Try.func54 q q q q (W.fin ?_)
 refine W.st [(0,.agg (eGrammar_0.cells a0))] ?_
 refine W.sq'<|W.rx [(1,_)] (Rv (O.box (.aggF q q) q)<|Rv (O.az .knil)<|Fi (.n q .nil)) ?_
 refine Px.sq<|W.sq' ?_
 refine W.rx [(1,_),(3,_)] (Rv (O.az .knil)<|Fi (tn2 q q)) ?_
 refine Px.sq<|W.sq' ?_
 refine W.sq'<|W.rx [(1,_),(3,_),(4,_)] (Vk q<|Fi (tn3 q q q)) ?_
 refine Px.sq<|W.bk ?_
 obtain ⟨x2,hl,h⟩:=bnd h
 refine W.tr (G1:=[(1,_),(3,oR eI ([]:List Int)),(4,_)]) (.n q (.w q q .nilOwn (.n q .nil))) ?_
 refine W.lp1 (s:=(([]:List Int),0)) (fun (s1:List Int × Int)=>[(1,.obj (eGrammar_0.cells a0)),(3,oR eI s1.1),(4,I64 s1.2)]) 0 (fun (x2:List Int)=>[(1,.obj (eGrammar_0.cells a0)),(3,oR eI x2)]) hl (fun s1 o h=>?_) ?_
 ·clear hl
  refine W.sq'<|W.sq' ?_
  refine W.rx [(1,_),(3,_),(4,_),(10,_)] (Vm q<|Rv (O.fO q (.obj q) fd38_0 q)<|Rv (O.ldO (y:=iR eTok a0.Toks) q (.ptr q) ct34 q q)<|Rv (O.lenI (.imm q) sl34)<|Rv (O.lss (.lit q) (.lit q))<|Fi (tn4 q q q q)) ?_
  refine Px.sq<|W.cnd q (fun hb4=>?_) (fun hb4=>?_)
  ·replace h:=cndT hb4 h
   refine W.sk<|Px.sq ?_
   refine W.sq'<|W.bk ?_
   obtain ⟨x5,hx5,h⟩:=bnd h
   refine W.rx [(1,_),(3,_),(4,_)] (Rv (O.mv (.own q))<|Vm q<|RunL.vi (x:=iR eI [s1.2]) (O.bs (ys:=[I64 s1.2]) eI [s1.2] sl27 q q q q q q zt3 q q) q q .none<|Rv (O.ap (en:=eI) (r:=x5) (.brw q) q (.imm q) .i ap27 q hx5)<|RunL.ea (G2:=[(1,.obj (eGrammar_0.cells a0)),(4,I64 s1.2)]) q (EO.aP q q (.pend q) q q q (.n q q (.n q q .nil)) q q)<|Fi (tn3 q q q)) ?_
   refine Px.bk ?_
   refine Px.sq<|W.rx [(1,_),(3,_),(4,_)] (Vm q<|Rv (O.add (.lit q) (.k q))<|RunL.re (G1:=[(1,_),(3,_),(12,_)]) (tn3 q q q)<|Va q<|Fi (tn3 q q q)) ?_
   obtain rfl:=sm h
   exact Px.go (tn3 q q q)
  ·replace h:=cndF hb4 h
   refine W.xi ?_
   refine Px.sqE ?_
   obtain rfl:=sm h
   exact Px.x1 (tn2 q q)
 refine Px.bkH ?_
 refine Px.sq<|W.sq' ?_
 refine W.sq'<|W.rx [(1,_),(3,_),(5,_)] (Vk q<|Fi (tn3 q q q)) ?_
 refine Px.sq<|W.bk ?_
 obtain ⟨x7,hl,h⟩:=bnd h
 refine W.tr (G1:=[(1,_),(3,_),(5,_)]) (tn3 q q q) ?_
 refine W.lp1 (s:=(x2,0)) (fun (s6:List Int × Int)=>[(1,.obj (eGrammar_0.cells a0)),(3,oR eI s6.1),(5,I64 s6.2)]) 2 (fun (x7:List Int)=>[(3,oR eI x7)]) hl (fun s6 o h=>?_) ?_
 ·clear hl
  refine W.sq'<|W.sq' ?_
  refine W.rx [(1,_),(3,_),(5,_),(21,_)] (Vm q<|Rv (O.fO q (.obj q) fd38_1 q)<|Rv (O.ldO (y:=iR eNon a0.Nons) q (.ptr q) ct35 q q)<|Rv (O.lenI (.imm q) sl35)<|Rv (O.lss (.lit q) (.lit q))<|Fi (tn4 q q q q)) ?_
  refine Px.sq<|W.cnd q (fun hb9=>?_) (fun hb9=>?_)
  ·replace h:=cndT hb9 h
   refine W.sk<|Px.sq ?_
   refine W.sq'<|W.bk ?_
   obtain ⟨x10,hx10,h⟩:=bnd h
   refine W.rx [(1,_),(3,_),(5,_)] (Rv (O.mv (.own q))<|Vm q<|Rv (O.add (.k q) (.lit q))<|RunL.vi (x:=iR eI [w64 (1000+s6.2)]) (O.bs (ys:=[I64 (w64 (1000+s6.2))]) eI [w64 (1000+s6.2)] sl27 q q q q q q zt3 q q) q q .none<|Rv (O.ap (en:=eI) (r:=x10) (.brw q) q (.imm q) .i ap27 q hx10)<|RunL.ea (G2:=[(1,.obj (eGrammar_0.cells a0)),(5,I64 s6.2)]) q (EO.aP q q (.pend q) q q q (.n q q (.n q q .nil)) q q)<|Fi (tn3 q q q)) ?_
   refine Px.bk ?_
   refine Px.sq<|W.rx [(1,_),(3,_),(5,_)] (Vm q<|Rv (O.add (.lit q) (.k q))<|RunL.re (G1:=[(1,_),(3,_),(23,_)]) (tn3 q q q)<|Va q<|Fi (tn3 q q q)) ?_
   obtain rfl:=sm h
   exact Px.go (tn3 q q q)
  ·replace h:=cndF hb9 h
   refine W.xi ?_
   refine Px.sqE ?_
   obtain rfl:=sm h
   exact Px.x1 (.n q .nil)
 refine Px.bkH ?_
 refine Px.sq<|W.sq' ?_
 refine W.rx [(2,_)] (Rv (O.mv (.own q))<|RunL.ea (G2:=[]) q (EO.aR q q (.brw q) q .nil q q)<|Fi (.n q .nil)) ?_
 refine Px.sq<|W.fz (G1:=[(2,iR eI x7)]) [2] (.z q q .zz .nil) ?_
 refine W.rt ?_
 obtain rfl:=sm h
 exact Px.fin (Fin.ro (.f q q .nil) q (ode (by kernel_rfl)) (.no .nil) q (.inr q))
theorem con80 (a0:(List State)) (a1:(List Item)) (r:Int) (h:pf80 a0 a1=some r):Con Try.prog 80 [iR eState_0 a0,iR eItem a1] [none,none] (I64 r):=by
 unfold pf80 at h
 refine Con.go (N:=⟨20,[]⟩) Try.func80 q q q q (W.fin ?_)
 refine W.st [(0,iR eState_0 a0),(1,iR eItem a1)] ?_
 refine W.sq'<|W.rx [(0,_),(1,_)] (Vk q<|Fi (tn2 q q)) ?_
 refine Px.sq<|W.sq' ?_
 refine W.sq'<|W.rx [(0,_),(1,_),(5,_)] (Vk q<|Fi (tn3 q q q)) ?_
 refine Px.sq<|W.bk ?_
 obtain ⟨x2,hl,h⟩:=bnd h
 refine W.tr (G1:=[(0,_),(1,_),(5,_)]) (tn3 q q q) ?_
 refine W.lp2 (s:=0) (fun (s1:Int)=>[(0,iR eState_0 a0),(1,iR eItem a1),(5,I64 s1)]) 0 (fun (x3:Unit)=>[]) (fun (x4:Int)=>[(4,I64 x4)]) hl (fun s1 o h=>?_) (fun x3 hx=>?_) (fun x4 hx=>?_)
 ·clear hl
  refine W.sq'<|W.sq' ?_
  refine W.rx [(0,_),(1,_),(5,_),(9,_)] (Vm q<|Rv (O.mv (.imm q))<|Rv (O.lenI (.imm q) sl85)<|Rv (O.lss (.lit q) (.lit q))<|Fi (tn4 q q q q)) ?_
  refine Px.sq<|W.cnd q (fun hb5=>?_) (fun hb5=>?_)
  ·replace h:=cndT hb5 h
   refine W.sk<|Px.sq ?_
   refine W.sq'<|W.bk ?_
   refine W.sq' ?_
   obtain ⟨x6,hx6,h⟩:=bnd h
   obtain ⟨x7,hx7,h⟩:=bnd h
   refine W.rx [(0,_),(1,_),(5,_),(18,_)] (Rv (O.mv (.imm q))<|Vm q<|Rv (O.ixI (.imm q) (.lit q) sl85 hx6)<|Rv (O.fI (.iptr q) fd97_0)<|Rv (O.ldI (x:=iR eItem x6.Kernel) (.iptr q) ct66 q)<|Rv (O.mv (.imm q))<|Rc (PC.go (.cc (.imm q) (.cc (.imm q) .nil)) (con35 x6.Kernel a1 _ hx7) call35 q)<|Fi (tn4 q q q q)) ?_
   refine Px.sq<|W.cnd q (fun hb8=>?_) (fun hb8=>?_)
   ·replace h:=cndT hb8 h
    refine W.sq'<|W.rx [(4,_)] (Vm q<|Va q<|Fi (.n q .nil)) ?_
    refine Px.sq<|W.rt ?_
    refine Px.bkR ?_
    refine Px.sqR ?_
    obtain rfl:=sm h
    exact Px.r2 (.n q .nil)
   ·replace h:=cndF hb8 h
    refine W.sk<|Px.bk ?_
    refine Px.sq<|W.rx [(0,_),(1,_),(5,_)] (Vm q<|Rv (O.add (.lit q) (.k q))<|RunL.re (G1:=[(0,_),(1,_),(11,_)]) (tn3 q q q)<|Va q<|Fi (tn3 q q q)) ?_
    obtain rfl:=sm h
    exact Px.go (tn3 q q q)
  ·replace h:=cndF hb5 h
   refine W.xi ?_
   refine Px.sqE ?_
   obtain rfl:=sm h
   exact Px.x2 .nil
 ·subst hx
  refine Px.bkH ?_
  refine Px.sq<|W.sq' ?_
  refine W.rx [(4,_)] (Vk q<|Fi (.n q .nil)) ?_
  refine Px.sq<|W.rt ?_
  obtain rfl:=sm h
  exact Px.fin (Fin.ro (.f q q .nil) q (ode (by kernel_rfl)) (.no (.no .nil)) q (.inr q))
 ·subst hx
  refine Px.bkR ?_
  refine Px.sqR ?_
  obtain rfl:=sm h
  exact Px.fin (Fin.ro (.f q q .nil) q (ode (by kernel_rfl)) (.no (.no .nil)) q (.inr q))
theorem con45 (a0:Grammar) (r:(List State) × Int) (h:pf45 a0=some r):Con Try.prog 45 [.agg (eGrammar_0.cells a0)] [none] (.tup [iR eState_0 r.1,I64 r.2]):=by
 unfold pf45 at h
 refine Con.go (N:=⟨106,[]⟩) Try.func45 q q q q (W.fin ?_)
 refine W.st [(0,.agg (eGrammar_0.cells a0))] ?_
 refine W.sq'<|W.rx [(1,_)] (Rv (O.box (.aggF q q) q)<|Rv (O.az .knil)<|Vk q<|Fi (.n q .nil)) ?_
 refine Px.sq<|W.sq' ?_
 refine W.rx [(1,_),(4,_)] (Rv (O.bu (cs:=[I64 0,I64 0]) sc72 ze72 q q q)<|Rv (O.bsL (ys:=[.agg [I64 0,I64 0]]) (cs:=[I64 0,I64 0]) sl66 q q q q q zt72 q q)<|Rv (O.bu (cs:=[.brw 2 ⟨15,[]⟩ 1,.nils]) sc97 ze97 q q q)<|Rv (O.bsL (ys:=[.agg [.brw 2 ⟨15,[]⟩ 1,.nils]]) (cs:=[.brw 2 ⟨15,[]⟩ 1,.nils]) sl85 q q q q q zt97 q q)<|RunL.ea (G2:=[(1,.obj (eGrammar_0.cells a0))]) q (EO.aG (y':=oR eState_m [(⟨[(⟨0,0⟩:Item)],([]:List Move)⟩:State)]) q q (.own q) (.l q q (.l q q (.f (.f .nil)) (.f .nil)) .nil) (FzL.own (.z (hv:=Vw.rl (en:=eItem) (L:=[(⟨0,0⟩:Item)]) (cs':=[I64 0,I64 0]) q q) (.o .nil))) (.n q .nil) q q)<|Fi (tn2 q q)) ?_
 refine Px.sq<|W.sq' ?_
 obtain ⟨x1,hx1,h⟩:=bnd h
 refine W.rx [(1,_),(4,_),(5,_)] (Rv (O.ldON (cs':=[iR eTok a0.Toks,iR eNon a0.Nons,iR eProd_0 a0.Prods,SS a0.Pro,SS a0.Tail]) q (.obj q) at38 q q)<|Rc (PC.go (.cc (.aggF q q) .nil) (con54 a0 _ hx1) call54 q)<|Rv (O.az (.imm q))<|Fi (tn3 q q q)) ?_
 refine Px.sq<|W.sq' ?_
 refine W.sq'<|W.rx [(1,_),(4,_),(5,_),(6,_)] (Vk q<|Fi (tn4 q q q q)) ?_
 refine Px.sq<|W.bk ?_
 obtain ⟨x3,hl,h⟩:=bnd h
 refine W.tr (G1:=[(1,_),(4,_),(5,_),(6,_)]) (tn4 q q q q) ?_
 refine W.lp2 (s:=([(⟨[(⟨0,0⟩:Item)],([]:List Move)⟩:State)],0)) (fun (s2:List State × Int)=>[(1,.obj (eGrammar_0.cells a0)),(4,oR eState_m s2.1),(5,iR eI x1),(6,I64 s2.2)]) 0 (fun (x4:List State)=>[(4,oR eState_m x4)]) (fun (x5:List State × Int)=>[(2,iR eState_0 x5.1),(3,I64 x5.2)]) hl (fun s2 o h=>?_) (fun x4 hx=>?_) (fun x5 hx=>?_)
 ·clear hl
  refine W.sq'<|W.sq' ?_
  refine W.rx [(1,_),(4,_),(5,_),(6,_),(23,_)] (Vm q<|Rv (O.mv (.own q))<|Rv (O.lenO (.brw q) sl85)<|Rv (O.lss (.lit q) (.lit q))<|Fi (tn5 q q q q q)) ?_
  refine Px.sq<|W.cnd q (fun hb6=>?_) (fun hb6=>?_)
  ·replace h:=cndT hb6 h
   refine W.sk<|Px.sq ?_
   refine W.sq'<|W.bk ?_
   refine W.sq' ?_
   obtain ⟨x7,hx7,h⟩:=bnd h
   obtain ⟨x8,hx8,h⟩:=bnd h
   refine W.rd [[],[],[],[1,2],[1,2,3],[1,2,3,4],rn 0 6 [],rn 0 7 []] [(1,_),(4,_),(5,_),(6,_),(7,_)] mixo (by kernel_rfl) (Dv 0 (O.ldON (cs':=[iR eTok a0.Toks,iR eNon a0.Nons,iR eProd_0 a0.Prods,SS a0.Pro,SS a0.Tail]) q (.obj q) at38 q q)<|Dv 1 (O.mv (.own q))<|Dv 2 (O.mv (.lit q))<|Dv 3 (O.ixO (en:=eState_m) q (.brw q) (.lit q) sl85 hx7 q)<|Dv 4 (O.fE (en:=eState_m) q (.ptr q) fd97_0 hx7 q q)<|Dv 5 (O.ldE (en:=eState_m) (x':=iR eItem x7.Kernel) q (.ptr q) ct66 hx7 q q)<|Dc 6 (PC.go (.cc (.aggF q q) (.cc (.imm q) .nil)) (con37 a0 x7.Kernel _ hx8) call37 q)<|Dv 7 (O.az (.imm q))<|DL.fin q q q (tn5 q q q q q)) ?_
   refine Px.sq<|W.sq' ?_
   refine W.rx [(1,_),(4,_),(5,_),(6,_),(7,_),(8,_)] (Rv (O.az .knil)<|Fi (tn6 q q q q q q)) ?_
   refine Px.sq<|W.sq' ?_
   refine W.sq'<|W.rx [(1,_),(4,_),(5,_),(6,_),(7,_),(8,_),(9,_)] (Vk q<|Fi (tn7 q q q q q q q)) ?_
   refine Px.sq<|W.bk ?_
   obtain ⟨x10,hl,h⟩:=bnd h
   refine W.tr (G1:=[(1,_),(4,_),(5,_),(6,_),(7,_),(8,iR eI ([]:List Int)),(9,_)]) (.n q (.n q (.n q (.n q (.n q (.w q q .nilImm (.n q .nil))))))) ?_
   refine W.lp1 (s:=(([]:List Int),0)) (fun (s9:List Int × Int)=>[(1,.obj (eGrammar_0.cells a0)),(4,oR eState_m s2.1),(5,iR eI x1),(6,I64 s2.2),(7,iR eItem x8),(8,iR eI s9.1),(9,I64 s9.2)]) 2 (fun (x10:List Int)=>[(1,.obj (eGrammar_0.cells a0)),(4,oR eState_m s2.1),(5,iR eI x1),(6,I64 s2.2),(8,iR eI x10)]) hl (fun s9 o h=>?_) ?_
   ·clear hl
    refine W.sq'<|W.sq' ?_
    refine W.rx [(1,_),(4,_),(5,_),(6,_),(7,_),(8,_),(9,_),(36,_)] (Vm q<|Rv (O.mv (.imm q))<|Rv (O.lenI (.imm q) sl66)<|Rv (O.lss (.lit q) (.lit q))<|Fi (tn8 q q q q q q q q)) ?_
    refine Px.sq<|W.cnd q (fun hb12=>?_) (fun hb12=>?_)
    ·replace h:=cndT hb12 h
     refine W.sk<|Px.sq ?_
     refine W.sq' ?_
     obtain ⟨j13,hj,h⟩:=bnd h
     refine W.jn [(1,.obj (eGrammar_0.cells a0)),(4,oR eState_m s2.1),(5,iR eI x1),(6,I64 s2.2),(7,iR eItem x8),(8,iR eI j13),(9,I64 s9.2)] ?_ ?_
     ·clear h; have h:=hj; clear hj
      refine W.bk<|W.sq' ?_
      obtain ⟨x14,hx14,h⟩:=bnd h
      obtain ⟨x15,hx15,h⟩:=bnd h
      refine W.rd [[],[],[],[1,2],[1,2,3],rn 0 5 [],rn 0 6 []] [(1,_),(4,_),(5,_),(6,_),(7,_),(8,_),(9,_),(10,_)] mixo (by kernel_rfl) (Dv 0 (O.ldON (cs':=[iR eTok a0.Toks,iR eNon a0.Nons,iR eProd_0 a0.Prods,SS a0.Pro,SS a0.Tail]) q (.obj q) at38 q q)<|Dv 1 (O.mv (.imm q))<|Dv 2 (O.mv (.lit q))<|Dv 3 (O.ixI (.imm q) (.lit q) sl66 hx14)<|Dv 4 (O.ldIN (cs':=[I64 x14.Prod,I64 x14.Dot]) (.iptr q) at72 q q)<|Dc 5 (PC.go (.cc (.aggF q q) (.cc (.aggF q q) .nil)) (con33 a0 x14 _ hx15) call33 q)<|Dv 6 (O.az (.lit q))<|DL.fin q q q (tn8 q q q q q q q q)) ?_
      refine Px.sq<|W.sq' ?_
      refine W.rx [(1,_),(4,_),(5,_),(6,_),(7,_),(8,_),(9,_),(10,_),(46,_)] (Vm q<|Rv (O.geq (.lit q) (.k q))<|Fi (tn9 q q q q q q q q q)) ?_
      refine Px.sq ?_
      obtain ⟨j16,hj,h⟩:=bnd h
      refine W.jn [(1,.obj (eGrammar_0.cells a0)),(4,oR eState_m s2.1),(5,iR eI x1),(6,I64 s2.2),(7,iR eItem x8),(8,iR eI j16),(9,I64 s9.2)] ?_ ?_
      ·clear h; have h:=hj; clear hj
       refine W.cnd q (fun hb17=>?_) (fun hb17=>?_)
       ·replace h:=cndT hb17 h
        obtain ⟨x18,hx18,h⟩:=bnd h
        refine W.rx [(1,_),(4,_),(5,_),(6,_),(7,_),(8,_),(9,_)] (Rv (O.mv (.imm q))<|Vm q<|Rc (PC.go (.cc (.imm q) (.cc (.lit q) .nil)) (con62 s9.1 x15 _ hx18) call62 q)<|RunL.re (G1:=[(1,_),(4,_),(5,_),(6,_),(7,_),(9,_),(49,_)]) (tn7 q q q q q q q)<|Rv (O.az (.imm q))<|Fi (tn7 q q q q q q q)) ?_
        obtain rfl:=sm h
        exact Px.jn (tn7 q q q q q q q)
       ·replace h:=cndF hb17 h
        refine W.sk ?_
        obtain rfl:=sm h
        exact Px.jn (tn7 q q q q q q q)
      refine Px.bk ?_
      obtain rfl:=sm h
      exact Px.jn (tn7 q q q q q q q)
     refine Px.sq<|W.rx [(1,_),(4,_),(5,_),(6,_),(7,_),(8,_),(9,_)] (Vm q<|Rv (O.add (.lit q) (.k q))<|RunL.re (G1:=[(1,_),(4,_),(5,_),(6,_),(7,_),(8,_),(38,_)]) (tn7 q q q q q q q)<|Va q<|Fi (tn7 q q q q q q q)) ?_
     obtain rfl:=sm h
     exact Px.go (tn7 q q q q q q q)
    ·replace h:=cndF hb12 h
     refine W.xi ?_
     refine Px.sqE ?_
     obtain rfl:=sm h
     exact Px.x1 (tn5 q q q q q)
   refine Px.bkH ?_
   refine Px.sq<|W.sq' ?_
   refine W.rx [(1,_),(4,_),(5,_),(6,_),(8,_),(11,_)] (Vk q<|Fi (tn6 q q q q q q)) ?_
   refine Px.sq<|W.bk ?_
   obtain ⟨x20,hl,h⟩:=bnd h
   refine W.tr (G1:=[(1,_),(4,_),(5,_),(6,_),(8,_),(11,_)]) (tn6 q q q q q q) ?_
   refine W.lp2 (s:=(s2.1,0)) (fun (s19:List State × Int)=>[(1,.obj (eGrammar_0.cells a0)),(4,oR eState_m s19.1),(5,iR eI x1),(6,I64 s2.2),(8,iR eI x10),(11,I64 s19.2)]) 4 (fun (x21:List State)=>[(1,.obj (eGrammar_0.cells a0)),(4,oR eState_m x21),(5,iR eI x1),(6,I64 s2.2)]) (fun (x22:List State × Int)=>[(2,iR eState_0 x22.1),(3,I64 x22.2)]) hl (fun s19 o h=>?_) (fun x21 hx=>?_) (fun x22 hx=>?_)
   ·clear hl
    refine W.sq'<|W.sq' ?_
    refine W.rx [(1,_),(4,_),(5,_),(6,_),(8,_),(11,_),(53,_)] (Vm q<|Rv (O.mv (.imm q))<|Rv (O.lenI (.imm q) sl27)<|Rv (O.lss (.lit q) (.lit q))<|Fi (tn7 q q q q q q q)) ?_
    refine Px.sq<|W.cnd q (fun hb23=>?_) (fun hb23=>?_)
    ·replace h:=cndT hb23 h
     refine W.sk<|Px.sq ?_
     refine W.sq'<|W.bk ?_
     refine W.sq'<|W.sq' ?_
     obtain ⟨x24,hx24,h⟩:=bnd h
     obtain ⟨x25,hx25,h⟩:=bnd h
     refine W.rx [(1,_),(4,_),(5,_),(6,_),(8,_),(11,_),(62,_)] (Rv (O.mv (.imm q))<|Rv (O.mv (.imm q))<|Vm q<|Rv (O.ixI (.imm q) (.lit q) sl27 hx24)<|Rv (O.ldI (x:=I64 x24) (.iptr q) ct3 q)<|Rc (PC.go (.cc (.imm q) (.cc (.lit q) .nil)) (con27 x10 x24 _ hx25) call27 q)<|Rv (O.not (.lit q))<|Fi (tn7 q q q q q q q)) ?_
     refine Px.sq<|W.cnd q (fun hb26=>?_) (fun hb26=>?_)
     ·replace h:=cndT hb26 h
      refine W.xi ?_
      refine Px.sqE ?_
      refine Px.bkH ?_
      refine Px.sq<|W.rx [(1,_),(4,_),(5,_),(6,_),(8,_),(11,_)] (Vm q<|Rv (O.add (.lit q) (.k q))<|RunL.re (G1:=[(1,_),(4,_),(5,_),(6,_),(8,_),(55,_)]) (tn6 q q q q q q)<|Va q<|Fi (tn6 q q q q q q)) ?_
      obtain rfl:=sm h
      exact Px.go (tn6 q q q q q q)
     ·replace h:=cndF hb26 h
      refine W.sk<|Px.sq ?_
      refine W.sq' ?_
      obtain ⟨x27,hx27,h⟩:=bnd h
      obtain ⟨x28,hx28,h⟩:=bnd h
      obtain ⟨x29,hx29,h⟩:=bnd h
      refine W.rd [[],[],[],[1,2],[1,2,3],[1,2,3,4],[],[],[6,7],[6,7,8],rn 0 10 [],rn 0 11 []] [(1,_),(4,_),(5,_),(6,_),(8,_),(11,_),(12,_)] mixo (by kernel_rfl) (Dv 0 (O.ldON (cs':=[iR eTok a0.Toks,iR eNon a0.Nons,iR eProd_0 a0.Prods,SS a0.Pro,SS a0.Tail]) q (.obj q) at38 q q)<|Dv 1 (O.mv (.own q))<|Dv 2 (O.mv (.lit q))<|Dv 3 (O.ixO (en:=eState_m) q (.brw q) (.lit q) sl85 hx27 q)<|Dv 4 (O.fE (en:=eState_m) q (.ptr q) fd97_0 hx27 q q)<|Dv 5 (O.ldE (en:=eState_m) (x':=iR eItem x27.Kernel) q (.ptr q) ct66 hx27 q q)<|Dv 6 (O.mv (.imm q))<|Dv 7 (O.mv (.lit q))<|Dv 8 (O.ixI (.imm q) (.lit q) sl27 hx28)<|Dv 9 (O.ldI (x:=I64 x28) (.iptr q) ct3 q)<|Dc 10 (PC.go (.cc (.aggF q q) (.cc (.imm q) (.cc (.lit q) .nil))) (con39 a0 x27.Kernel x28 _ hx29) call39 q)<|Dv 11 (O.az (.imm q))<|DL.fin q q q (tn7 q q q q q q q)) ?_
      refine Px.sq<|W.sq' ?_
      obtain ⟨x30,hx30,h⟩:=bnd h
      refine W.rx [(1,_),(4,_),(5,_),(6,_),(8,_),(11,_),(12,_),(13,_)] (Rv (O.mv (.own q))<|Rv (O.mv (.imm q))<|Rc (PC.vw (ys:=[.brw eState_m.z ⟨4,[]⟩ s19.1.length,iR eItem x29]) q (.c (.row q) (.s .nil)) (con80 s19.1 x29 _ hx30) call80 q)<|Va q<|Fi (tn8 q q q q q q q q)) ?_
      refine Px.sq<|W.sq' ?_
      refine W.sq'<|W.rx [(1,_),(4,_),(5,_),(6,_),(8,_),(11,_),(12,_),(13,_),(78,_)] (Vm q<|Rv (O.lss (.lit q) (.k q))<|Fi (tn9 q q q q q q q q q)) ?_
      refine Px.sq<|W.cnd q (fun hb31=>?_) (fun hb31=>?_)
      ·replace h:=cndT hb31 h
       refine W.sq'<|W.rx [(1,_),(4,_),(5,_),(6,_),(8,_),(11,_),(12,_),(13,_)] (Rv (O.mv (.own q))<|Rv (O.lenO (.brw q) sl85)<|RunL.re (G1:=[(1,_),(4,_),(5,_),(6,_),(8,_),(11,_),(12,_),(80,_)]) (tn8 q q q q q q q q)<|Va q<|Fi (tn8 q q q q q q q q)) ?_
       refine Px.sq<|W.sq' ?_
       refine W.sq'<|W.rx [(1,_),(4,_),(5,_),(6,_),(8,_),(11,_),(12,_),(13,_),(82,_)] (Vm q<|Rv (O.eql (.lit q) (.k q))<|Fi (tn9 q q q q q q q q q)) ?_
       refine Px.sq<|W.cnd q (fun hb32=>?_) (fun hb32=>?_)
       ·replace h:=cndT hb32 h
        refine W.sq'<|W.rx [(2,_),(3,_)] (Rv (O.az .knil)<|Vk q<|Fi (tn2 q q)) ?_
        refine Px.sq<|W.fz (G1:=[(2,iR eState_0 ([]:List State)),(3,_)]) [2] (.z q q .zz (.n q q .nil)) ?_
        refine W.rt ?_
        refine Px.sqR ?_
        refine Px.sqR ?_
        refine Px.bkR ?_
        refine Px.sqR ?_
        obtain rfl:=sm h
        exact Px.r2 (tn2 q q)
       ·replace h:=cndF hb32 h
        refine W.sk<|Px.sq ?_
        obtain ⟨x33,hx33,h⟩:=bnd h
        refine W.rx [(1,_),(4,_),(5,_),(6,_),(8,_),(11,_),(13,_)] (Rv (O.mv (.own q))<|Rv (O.mv (.imm q))<|Rv (O.bu (cs:=[iR eItem x29,.nils]) sc97 ze97 q q q)<|Rv (O.bsL (ys:=[.agg [iR eItem x29,.nils]]) (cs:=[iR eItem x29,.nils]) sl85 q q q q q zt97 q q)<|Rv (O.apL (en:=eState_m) (M:=[(⟨x29,([]:List Move)⟩:State)]) (r:=x33) (.brw q) q (.own q) q q q q ap85 q hx33)<|RunL.ea (G2:=[(1,.obj (eGrammar_0.cells a0)),(5,iR eI x1),(6,I64 s2.2),(8,iR eI x10),(11,I64 s19.2),(13,I64 (s19.1.length:Int))]) q (EO.apG (M:=[(⟨x29,([]:List Move)⟩:State)]) q q (.pend q) q q q (.f (.f .nil)) (.f (.o .nil)) q q (tn6 q q q q q q) q q)<|Fi (tn7 q q q q q q q)) ?_
        refine Px.sq ?_
        obtain ⟨x34,hx34,h⟩:=bnd h
        obtain ⟨x35,hx35,h⟩:=bnd h
        obtain ⟨x36,hx36,h⟩:=bnd h
        refine W.rd [[],[],[],[],[2,3],[2,3,4],[2,3,4,5],[],[],[7,8],[7,8,9],[],rn 7 5 [],rn 7 6 [],rn 2 12 [],rn 0 15 [],rn 0 16 [],rn 0 17 []] [(1,_),(4,_),(5,_),(6,_),(8,_),(11,_)] mixo (by kernel_rfl) (Dv 0 (O.mv (.own q))<|Dv 1 (O.mv (.lit q))<|Dv 2 (O.mv (.own q))<|Dv 3 (O.mv (.lit q))<|Dv 4 (O.ixO (en:=eState_m) q (.brw q) (.lit q) sl85 hx34 q)<|Dv 5 (O.fE (en:=eState_m) q (.ptr q) fd97_1 hx34 q q)<|Dv 6 (O.ldE (en:=eState_m) (x':=.brw eMove.z ⟨4,[s2.2.toNat * eState_m.z+1]⟩ x34.Moves.length) q (.ptr q) ct95 hx34 q q)<|Dv 7 (O.mv (.imm q))<|Dv 8 (O.mv (.lit q))<|Dv 9 (O.ixI (.imm q) (.lit q) sl27 hx35)<|Dv 10 (O.ldI (x:=I64 x35) (.iptr q) ct3 q)<|Dv 11 (O.mv (.lit q))<|Dv 12 (O.bu (cs:=[I64 x35,I64 (s19.1.length:Int)]) sc106 ze106 q q q)<|DL.vi 13 (x:=iR eMove [(⟨x35,(s19.1.length:Int)⟩:Move)]) (O.bs (ys:=[.agg [I64 x35,I64 (s19.1.length:Int)]]) eMove [(⟨x35,(s19.1.length:Int)⟩:Move)] sl95 q q q q q q zt106 q q) q q q q .none<|Dv 14 (O.ap (en:=eMove) (r:=x36) (.brw q) (atP_el (r:=4) (path:=[]) (o:=1) (en:=eState_m) q hx34 q) (.imm q) .i ap95 q hx36)<|Dv 15 (O.ixO (en:=eState_m) q (.brw q) (.lit q) sl85 hx34 q)<|Dv 16 (O.fE (en:=eState_m) q (.ptr q) fd97_1 hx34 q q)<|DL.bp 17 (G2:=[(1,.obj (eGrammar_0.cells a0)),(4,oR eState_m ((s19.1++[(⟨x29,([]:List Move)⟩:State)]).set s2.2.toNat (⟨x34.Kernel,x34.Moves++[(⟨x35,(s19.1.length:Int)⟩:Move)]⟩:State))),(5,iR eI x1),(6,I64 s2.2),(8,iR eI x10),(11,I64 s19.2)]) (EO.stEP (en:=eState_m) (en2:=eMove) (M:=[(⟨x35,(s19.1.length:Int)⟩:Move)]) (y2:=(⟨x34.Kernel,x34.Moves++[(⟨x35,(s19.1.length:Int)⟩:Move)]⟩:State)) (x2:=oR eState_m ((s19.1++[(⟨x29,([]:List Move)⟩:State)]).set s2.2.toNat (⟨x34.Kernel,x34.Moves++[(⟨x35,(s19.1.length:Int)⟩:Move)]⟩:State))) (y0:=.own eState_m.z (s19.1++[(⟨x29,([]:List Move)⟩:State)]).length ((rowc eState_m (s19.1++[(⟨x29,([]:List Move)⟩:State)])).set (s2.2.toNat * eState_m.z+1) .dead)) q q (.ptr q) (.pend q) q q hx34 q q .ns .rf q q sz95 q q q q q q (.n q q (.b q (.n q q (.n q q (.n q q (.n q q .nil))))))) q q q q (by kernel_rfl) (by kernel_rfl)<|DL.fin q q q (tn6 q q q q q q)) ?_
        refine Px.bk ?_
        refine Px.sq<|W.rx [(1,_),(4,_),(5,_),(6,_),(8,_),(11,_)] (Vm q<|Rv (O.add (.lit q) (.k q))<|RunL.re (G1:=[(1,_),(4,_),(5,_),(6,_),(8,_),(55,_)]) (tn6 q q q q q q)<|Va q<|Fi (tn6 q q q q q q)) ?_
        obtain rfl:=sm h
        exact Px.go (tn6 q q q q q q)
      ·replace h:=cndF hb31 h
       refine W.sk<|Px.sq ?_
       obtain ⟨x37,hx37,h⟩:=bnd h
       obtain ⟨x38,hx38,h⟩:=bnd h
       obtain ⟨x39,hx39,h⟩:=bnd h
       refine W.rd [[],[],[],[],[2,3],[2,3,4],[2,3,4,5],[],[],[7,8],[7,8,9],[],rn 7 5 [],rn 7 6 [],rn 2 12 [],rn 0 15 [],rn 0 16 [],rn 0 17 []] [(1,_),(4,_),(5,_),(6,_),(8,_),(11,_)] mixo (by kernel_rfl) (Dv 0 (O.mv (.own q))<|Dv 1 (O.mv (.lit q))<|Dv 2 (O.mv (.own q))<|Dv 3 (O.mv (.lit q))<|Dv 4 (O.ixO (en:=eState_m) q (.brw q) (.lit q) sl85 hx37 q)<|Dv 5 (O.fE (en:=eState_m) q (.ptr q) fd97_1 hx37 q q)<|Dv 6 (O.ldE (en:=eState_m) (x':=.brw eMove.z ⟨4,[s2.2.toNat * eState_m.z+1]⟩ x37.Moves.length) q (.ptr q) ct95 hx37 q q)<|Dv 7 (O.mv (.imm q))<|Dv 8 (O.mv (.lit q))<|Dv 9 (O.ixI (.imm q) (.lit q) sl27 hx38)<|Dv 10 (O.ldI (x:=I64 x38) (.iptr q) ct3 q)<|Dv 11 (O.mv (.lit q))<|Dv 12 (O.bu (cs:=[I64 x38,I64 x30]) sc106 ze106 q q q)<|DL.vi 13 (x:=iR eMove [(⟨x38,x30⟩:Move)]) (O.bs (ys:=[.agg [I64 x38,I64 x30]]) eMove [(⟨x38,x30⟩:Move)] sl95 q q q q q q zt106 q q) q q q q .none<|Dv 14 (O.ap (en:=eMove) (r:=x39) (.brw q) (atP_el (r:=4) (path:=[]) (o:=1) (en:=eState_m) q hx37 q) (.imm q) .i ap95 q hx39)<|Dv 15 (O.ixO (en:=eState_m) q (.brw q) (.lit q) sl85 hx37 q)<|Dv 16 (O.fE (en:=eState_m) q (.ptr q) fd97_1 hx37 q q)<|DL.bp 17 (G2:=[(1,.obj (eGrammar_0.cells a0)),(4,oR eState_m (s19.1.set s2.2.toNat (⟨x37.Kernel,x37.Moves++[(⟨x38,x30⟩:Move)]⟩:State))),(5,iR eI x1),(6,I64 s2.2),(8,iR eI x10),(11,I64 s19.2)]) (EO.stEP (en:=eState_m) (en2:=eMove) (M:=[(⟨x38,x30⟩:Move)]) (y2:=(⟨x37.Kernel,x37.Moves++[(⟨x38,x30⟩:Move)]⟩:State)) (x2:=oR eState_m (s19.1.set s2.2.toNat (⟨x37.Kernel,x37.Moves++[(⟨x38,x30⟩:Move)]⟩:State))) (y0:=.own eState_m.z s19.1.length ((rowc eState_m s19.1).set (s2.2.toNat * eState_m.z+1) .dead)) q q (.ptr q) (.pend q) q q hx37 q q .ns .rf q q sz95 q q q q q q (.n q q (.b q (.n q q (.n q q (.n q q (.n q q .nil))))))) q q q q (by kernel_rfl) (by kernel_rfl)<|DL.fin q q q (tn6 q q q q q q)) ?_
       refine Px.bk ?_
       refine Px.sq<|W.rx [(1,_),(4,_),(5,_),(6,_),(8,_),(11,_)] (Vm q<|Rv (O.add (.lit q) (.k q))<|RunL.re (G1:=[(1,_),(4,_),(5,_),(6,_),(8,_),(55,_)]) (tn6 q q q q q q)<|Va q<|Fi (tn6 q q q q q q)) ?_
       obtain rfl:=sm h
       exact Px.go (tn6 q q q q q q)
    ·replace h:=cndF hb23 h
     refine W.xi ?_
     refine Px.sqE ?_
     obtain rfl:=sm h
     exact Px.x2 (tn4 q q q q)
   ·subst hx
    refine Px.bkH ?_
    refine Px.bk ?_
    refine Px.sq<|W.rx [(1,_),(4,_),(5,_),(6,_)] (Vm q<|Rv (O.add (.lit q) (.k q))<|RunL.re (G1:=[(1,_),(4,_),(5,_),(25,_)]) (tn4 q q q q)<|Va q<|Fi (tn4 q q q q)) ?_
    obtain rfl:=sm h
    exact Px.go (tn4 q q q q)
   ·subst hx
    refine Px.bkR ?_
    refine Px.bkR ?_
    refine Px.sqR ?_
    obtain rfl:=sm h
    exact Px.r2 (tn2 q q)
  ·replace h:=cndF hb6 h
   refine W.xi ?_
   refine Px.sqE ?_
   obtain rfl:=sm h
   exact Px.x2 (.n q .nil)
 ·subst hx
  refine Px.bkH ?_
  refine Px.sq<|W.sq' ?_
  refine W.rx [(2,_),(3,_)] (Rv (O.mv (.own q))<|RunL.ea (G2:=[]) q (EO.aR q q (.brw q) q .nil q q)<|Vk q<|Fi (tn2 q q)) ?_
  refine Px.sq<|W.fz (G1:=[(2,iR eState_0 x4),(3,_)]) [2] (.z q q .zz (.n q q .nil)) ?_
  refine W.rt ?_
  obtain rfl:=sm h
  exact Px.fin (Fin.ro (.f q q (.f q q .nil)) q (ode (by kernel_rfl)) (.no .nil) q (.inr q))
 ·subst hx
  refine Px.bkR ?_
  refine Px.sqR ?_
  obtain rfl:=sm h
  exact Px.fin (Fin.ro (.f q q (.f q q .nil)) q (ode (by kernel_rfl)) (.no .nil) q (.inr q))
theorem con46 (a0:(List State)) (a1:(List State)) (r:Bool) (h:pf46 a0 a1=some r):Con Try.prog 46 [iR eState_0 a0,iR eState_0 a1] [none,none] (BB r):=by
 unfold pf46 at h
 refine Con.go (N:=⟨43,[]⟩) Try.func46 q q q q (W.fin ?_)
 refine W.st [(0,iR eState_0 a0),(1,iR eState_0 a1)] ?_
 refine W.sq'<|W.rx [(0,_),(1,_)] (Vk q<|Fi (tn2 q q)) ?_
 refine Px.sq<|W.sq' ?_
 refine W.sq'<|W.rx [(0,_),(1,_),(10,_)] (Rv (O.mv (.imm q))<|Rv (O.lenI (.imm q) sl85)<|Rv (O.mv (.imm q))<|Rv (O.lenI (.imm q) sl85)<|Rv (O.neq (.lit q) (.lit q))<|Fi (tn3 q q q)) ?_
 refine Px.sq<|W.cnd q (fun hb1=>?_) (fun hb1=>?_)
 ·replace h:=cndT hb1 h
  refine W.sq'<|W.rx [(4,_)] (Vk q<|Fi (.n q .nil)) ?_
  refine Px.sq<|W.rt ?_
  refine Px.sqR ?_
  obtain rfl:=sm h
  exact Px.fin (Fin.ro (.f q q .nil) q (ode (by kernel_rfl)) (.no (.no .nil)) q (.inr q))
 ·replace h:=cndF hb1 h
  refine W.sk<|Px.sq ?_
  refine W.sq'<|W.sq' ?_
  refine W.rx [(0,_),(1,_),(5,_)] (Vk q<|Fi (tn3 q q q)) ?_
  refine Px.sq<|W.bk ?_
  obtain ⟨x3,hl,h⟩:=bnd h
  refine W.tr (G1:=[(0,_),(1,_),(5,_)]) (tn3 q q q) ?_
  refine W.lp2 (s:=0) (fun (s2:Int)=>[(0,iR eState_0 a0),(1,iR eState_0 a1),(5,I64 s2)]) 0 (fun (x4:Unit)=>[]) (fun (x5:Bool)=>[(4,BB x5)]) hl (fun s2 o h=>?_) (fun x4 hx=>?_) (fun x5 hx=>?_)
  ·clear hl
   refine W.sq'<|W.sq' ?_
   refine W.rx [(0,_),(1,_),(5,_),(14,_)] (Vm q<|Rv (O.mv (.imm q))<|Rv (O.lenI (.imm q) sl85)<|Rv (O.lss (.lit q) (.lit q))<|Fi (tn4 q q q q)) ?_
   refine Px.sq<|W.cnd q (fun hb6=>?_) (fun hb6=>?_)
   ·replace h:=cndT hb6 h
    refine W.sk<|Px.sq ?_
    refine W.sq'<|W.bk ?_
    refine W.sq' ?_
    obtain ⟨c14,hj,h⟩:=bnd h
    refine W.rd [[],[],[0,1],[0,1,2],[0,1,2,3],[],[],[5,6],[5,6,7],[5,6,7,8],rn 0 10 [],rn 0 11 [],rn 0 12 [],rn 0 13 [],rn 0 13 [],rn 0 15 [],rn 0 16 [],rn 0 17 [],rn 0 13 [],rn 0 13 [],rn 0 13 [18,19],rn 0 13 [18,19,20],rn 0 13 [18,19,20,21],rn 0 23 [],rn 0 24 [],rn 0 25 []] [(0,iR eState_0 a0),(1,iR eState_0 a1),(5,I64 s2),(42,BB c14)] mixo (by kernel_rfl) ?_ ?_
    ·refine Dv 0 (O.mv (.imm q))<|Dv 1 (O.mv (.lit q)) ?_
     obtain ⟨x7,hx7,hj⟩:=bnd hj
     refine Dv 2 (O.ixI (.imm q) (.lit q) sl85 hx7)<|Dv 3 (O.fI (.iptr q) fd97_0)<|Dv 4 (O.ldI (x:=iR eItem x7.Kernel) (.iptr q) ct66 q)<|Dv 5 (O.mv (.imm q))<|Dv 6 (O.mv (.lit q)) ?_
     obtain ⟨x8,hx8,hj⟩:=bnd hj
     refine Dv 7 (O.ixI (.imm q) (.lit q) sl85 hx8)<|Dv 8 (O.fI (.iptr q) fd97_0)<|Dv 9 (O.ldI (x:=iR eItem x8.Kernel) (.iptr q) ct66 q) ?_
     obtain ⟨x9,hx9,hj⟩:=bnd hj
     refine Dc 10 (PC.go (.cc (.imm q) (.cc (.imm q) .nil)) (con35 x7.Kernel x8.Kernel _ hx9) call35 q)<|Dv 11 (O.not (.lit q))<|Dv 12 (O.mv (.lit q)) ?_
     rcases cnd hj with ⟨hb10,hj⟩ | ⟨hb10,hj⟩
     ·obtain rfl:=sm hj
      exact DL.ps 13 q q hb10 q q q q<|DL.ps 14 q q hb10 q q q q<|DL.ps 15 q q hb10 q q q q<|DL.ps 16 q q hb10 q q q q<|DL.ps 17 q q hb10 q q q q<|DL.ps 18 q q hb10 q q q q<|DL.ps 19 q q hb10 q q q q<|DL.ps 20 q q hb10 q q q q<|DL.ps 21 q q hb10 q q q q<|DL.ps 22 q q hb10 q q q q<|DL.ps 23 q q hb10 q q q q<|DL.ps 24 q q hb10 q q q q<|Dv 25 (O.pkT (.lit q) hb10 (.k q))<|DL.fin q q q (tn4 q q q q)
     ·refine DL.v 13 (O.mv (.imm q)) q q q q (.yb q q hb10)<|DL.v 14 (O.mv (.lit q)) q q q q (.yb q q hb10) ?_
      obtain ⟨x11,hx11,hj⟩:=bnd hj
      refine DL.v 15 (O.ixI (.imm q) (.lit q) sl85 hx11) q q q q (.yb q q hb10)<|DL.v 16 (O.fI (.iptr q) fd97_1) q q q q (.yb q q hb10)<|DL.v 17 (O.ldI (x:=iR eMove x11.Moves) (.iptr q) ct95 q) q q q q (.yb q q hb10)<|DL.v 18 (O.mv (.imm q)) q q q q (.yb q q hb10)<|DL.v 19 (O.mv (.lit q)) q q q q (.yb q q hb10) ?_
      obtain ⟨x12,hx12,hj⟩:=bnd hj
      refine DL.v 20 (O.ixI (.imm q) (.lit q) sl85 hx12) q q q q (.yb q q hb10)<|DL.v 21 (O.fI (.iptr q) fd97_1) q q q q (.yb q q hb10)<|DL.v 22 (O.ldI (x:=iR eMove x12.Moves) (.iptr q) ct95 q) q q q q (.yb q q hb10) ?_
      obtain ⟨x13,hx13,hj⟩:=bnd hj
      obtain rfl:=sm hj
      exact DL.c 23 (PC.go (.cc (.imm q) (.cc (.imm q) .nil)) (con78 x11.Moves x12.Moves _ hx13) call78 q) q q q q (.yb q q hb10)<|DL.v 24 (O.not (.lit q)) q q q q (.yb q q hb10)<|Dv 25 (O.pkF (.lit q) hb10 (.lit q))<|DL.fin q q q (tn4 q q q q)
    refine Px.sq<|W.cnd q (fun hb15=>?_) (fun hb15=>?_)
    ·replace h:=cndT hb15 h
     refine W.sq'<|W.rx [(4,_)] (Vk q<|Fi (.n q .nil)) ?_
     refine Px.sq<|W.rt ?_
     refine Px.bkR ?_
     refine Px.sqR ?_
     obtain rfl:=sm h
     exact Px.r2 (.n q .nil)
    ·replace h:=cndF hb15 h
     refine W.sk<|Px.bk ?_
     refine Px.sq<|W.rx [(0,_),(1,_),(5,_)] (Vm q<|Rv (O.add (.lit q) (.k q))<|RunL.re (G1:=[(0,_),(1,_),(16,_)]) (tn3 q q q)<|Va q<|Fi (tn3 q q q)) ?_
     obtain rfl:=sm h
     exact Px.go (tn3 q q q)
   ·replace h:=cndF hb6 h
    refine W.xi ?_
    refine Px.sqE ?_
    obtain rfl:=sm h
    exact Px.x2 .nil
  ·subst hx
   refine Px.bkH ?_
   refine Px.sq<|W.sq' ?_
   refine W.rx [(4,_)] (Vk q<|Fi (.n q .nil)) ?_
   refine Px.sq<|W.rt ?_
   obtain rfl:=sm h
   exact Px.fin (Fin.ro (.f q q .nil) q (ode (by kernel_rfl)) (.no (.no .nil)) q (.inr q))
  ·subst hx
   refine Px.bkR ?_
   refine Px.sqR ?_
   obtain rfl:=sm h
   exact Px.fin (Fin.ro (.f q q .nil) q (ode (by kernel_rfl)) (.no (.no .nil)) q (.inr q))
theorem con11 (a0:Source) (a1:yuccalaw0_Gr) (r:Bool) (h:pf11 a0 a1=some r):Con Try.prog 11 [.agg (eSource_0.cells a0),.agg [I64 a1.Nons,iR (eM eI) a1.Rules,iR eI a1.Levels,iR eI a1.Inner,BB a1.Bare]] [none,none] (BB r):=by
 unfold pf11 at h
 refine Con.go (N:=⟨55,[]⟩) Try.func11 q q q q (W.fin ?_)
 refine W.st [(0,.agg (eSource_0.cells a0)),(1,.agg [I64 a1.Nons,iR (eM eI) a1.Rules,iR eI a1.Levels,iR eI a1.Inner,BB a1.Bare])] ?_
 refine W.sq'<|W.rx [(2,_),(3,_)] (Rv (O.box (.aggF q q) q)<|Rv (O.box (.aggF q q) q)<|Vk q<|Fi (tn2 q q)) ?_
 refine Px.sq<|W.sq' ?_
 refine W.sq' ?_
 obtain ⟨x1,hx1,h⟩:=bnd h
 refine W.rx [(2,_),(3,_),(14,_)] (Rc (PC.go .nil (con43  _ hx1) call43 q)<|Rv (O.not (.lit q))<|Fi (tn3 q q q)) ?_
 refine Px.sq<|W.cnd q (fun hb2=>?_) (fun hb2=>?_)
 ·replace h:=cndT hb2 h
  refine W.sq'<|W.rx [(4,_)] (Vk q<|Fi (.n q .nil)) ?_
  refine Px.sq<|W.rt ?_
  refine Px.sqR ?_
  obtain rfl:=sm h
  exact Px.fin (Fin.ro (.f q q .nil) q (ode (by kernel_rfl)) (.no (.no .nil)) q (.inr q))
 ·replace h:=cndF hb2 h
  refine W.sk<|Px.sq ?_
  refine W.sq' ?_
  obtain ⟨x3,hx3,h⟩:=bnd h
  obtain ⟨x4,hx4,h⟩:=bnd h
  refine W.rd [[],[0],[],[0,1,2],[0,1,2,3],rn 0 5 []] [(5,_)] mixo (by kernel_rfl) (Dv 0 (O.ldON (cs':=[SS a0.Pro,iR eDecl_0 a0.Decls,iR eRule_0 a0.Rules,SS a0.Tail]) q (.obj q) at25 q q)<|Dc 1 (PC.go (.cc (.aggF q q) .nil) (con18 a0 _ hx3) call18 q)<|Dv 2 (O.ldON (cs':=[I64 a1.Nons,iR (eM eI) a1.Rules,iR eI a1.Levels,iR eI a1.Inner,BB a1.Bare]) q (.obj q) at29 q q)<|Dc 3 (PC.go (.cc (.aggF q q) .nil) (con19 a1 _ hx4) call19 q)<|Dv 4 (O.bs (ys:=[.agg (eSource_0.cells x3),.agg (eSource_0.cells x4)]) eSource_0 [x3,x4] sl33 q q q q q q zt25 q q)<|DL.bv 5 (G2:=[]) (EO.aR q q (.own q) q .nil q q) q q q q (by kernel_rfl) (by kernel_rfl)<|DL.fin q q q (.n q .nil)) ?_
  refine Px.sq<|W.sq' ?_
  refine W.sq'<|W.rx [(5,_),(6,_)] (Vk q<|Fi (tn2 q q)) ?_
  refine Px.sq<|W.bk ?_
  obtain ⟨x6,hl,h⟩:=bnd h
  refine W.tr (G1:=[(5,_),(6,_)]) (tn2 q q) ?_
  refine W.lp2 (s:=0) (fun (s5:Int)=>[(5,oR eSource_0 [x3,x4]),(6,I64 s5)]) 0 (fun (x7:Unit)=>[]) (fun (x8:Bool)=>[(4,BB x8)]) hl (fun s5 o h=>?_) (fun x7 hx=>?_) (fun x8 hx=>?_)
  ·clear hl
   refine W.sq'<|W.sq' ?_
   refine W.rx [(5,_),(6,_),(23,_)] (Vm q<|Rv (O.mv (.own q))<|Rv (O.lenO (.brw q) sl33)<|Rv (O.lss (.lit q) (.lit q))<|Fi (tn3 q q q)) ?_
   refine Px.sq<|W.cnd q (fun hb9=>?_) (fun hb9=>?_)
   ·replace h:=cndT hb9 h
    refine W.sk<|Px.sq ?_
    refine W.sq'<|W.bk ?_
    refine W.sq' ?_
    obtain ⟨x10,hx10,h⟩:=bnd h
    obtain ⟨x11,hx11,h⟩:=bnd h
    refine W.rx [(5,_),(6,_),(7,_),(8,_)] (Rv (O.mv (.own q))<|Vm q<|Rv (O.ixO (en:=eSource_0) q (.brw q) (.lit q) sl33 hx10 q)<|Rv (O.ldEN (en:=eSource_0) (cs':=[SS x10.Pro,iR eDecl_0 x10.Decls,iR eRule_0 x10.Rules,SS x10.Tail]) q (.ptr q) at25 hx10 q q)<|Rc (PC.go (.cc (.aggF q q) .nil) (con20 x10 _ hx11) call20 q)<|Rv (O.mv (.tup q q))<|Rv (O.ex (y:=.agg (eGrammar_0.cells x11.1)) q q q)<|Rv (O.ex (y:=BB x11.2) q q q)<|Rv (O.al (cs:=[.nils,.nils,.nils,SS S0,SS S0]) ze38 q q)<|RunL.sO (G2:=[(5,oR eSource_0 [x3,x4]),(6,I64 s5),(7,.obj (eGrammar_0.cells x11.1)),(33,BB x11.2)]) (cs2:=[iR eTok x11.1.Toks,iR eNon x11.1.Nons,iR eProd_0 x11.1.Prods,SS x11.1.Pro,SS x11.1.Tail]) q (.obj q) (.aggF q q) q sz38 q q q q (.n q q (.n q q (.b q (.n q q .nil))))<|Va q<|Fi (tn4 q q q q)) ?_
    refine Px.sq<|W.sq' ?_
    refine W.sq'<|W.rx [(5,_),(6,_),(7,_),(35,_)] (Vm q<|Rv (O.not (.lit q))<|Fi (tn4 q q q q)) ?_
    refine Px.sq<|W.cnd q (fun hb12=>?_) (fun hb12=>?_)
    ·replace h:=cndT hb12 h
     refine W.xi ?_
     refine Px.sqE ?_
     refine Px.bkH ?_
     refine Px.sq<|W.rx [(5,_),(6,_)] (Vm q<|Rv (O.add (.lit q) (.k q))<|RunL.re (G1:=[(5,_),(25,_)]) (tn2 q q)<|Va q<|Fi (tn2 q q)) ?_
     obtain rfl:=sm h
     exact Px.go (tn2 q q)
    ·replace h:=cndF hb12 h
     refine W.sk<|Px.sq ?_
     refine W.sq' ?_
     obtain ⟨x13,hx13,h⟩:=bnd h
     refine W.rx [(5,_),(6,_),(7,_),(9,_),(10,_)] (Rv (O.ldON (cs':=[iR eTok x11.1.Toks,iR eNon x11.1.Nons,iR eProd_0 x11.1.Prods,SS x11.1.Pro,SS x11.1.Tail]) q (.obj q) at38 q q)<|Rc (PC.go (.cc (.aggF q q) .nil) (con44 x11.1 _ hx13) call44 q)<|Rv (O.mv (.tupF q q))<|Rv (O.ex (y:=iR eState_0 x13.1) q q q)<|Rv (O.ex (y:=I64 x13.2) q q q)<|Rv (O.az (.imm q))<|Va q<|Fi (tn5 q q q q q)) ?_
     refine Px.sq<|W.sq' ?_
     obtain ⟨x14,hx14,h⟩:=bnd h
     refine W.rx [(5,_),(6,_),(9,_),(10,_),(11,_),(12,_)] (Rv (O.ldON (cs':=[iR eTok x11.1.Toks,iR eNon x11.1.Nons,iR eProd_0 x11.1.Prods,SS x11.1.Pro,SS x11.1.Tail]) q (.obj q) at38 q q)<|Rc (PC.go (.cc (.aggF q q) .nil) (con45 x11.1 _ hx14) call45 q)<|Rv (O.mv (.tupF q q))<|Rv (O.ex (y:=iR eState_0 x14.1) q q q)<|Rv (O.ex (y:=I64 x14.2) q q q)<|Rv (O.az (.imm q))<|Va q<|Fi (tn6 q q q q q q)) ?_
     refine Px.sq<|W.sq' ?_
     obtain ⟨c17,hj,h⟩:=bnd h
     refine W.rx [(5,oR eSource_0 [x3,x4]),(6,I64 s5),(54,BB c17)] ?_ ?_
     ·refine Vm q<|Vm q<|Rv (O.neq (.lit q) (.lit q))<|Rv (O.mv (.lit q)) ?_
      rcases cnd hj with ⟨hb15,hj⟩ | ⟨hb15,hj⟩
      ·obtain rfl:=sm hj
       exact RunL.ps q q hb15 q q<|RunL.ps q q hb15 q q<|RunL.ps q q hb15 q q<|RunL.ps q q hb15 q q<|Rv (O.pkT (.lit q) hb15 (.k q))<|Fi (tn3 q q q)
      ·refine RunL.v (O.mv (.imm q)) q q (.yb q q hb15)<|RunL.v (O.mv (.imm q)) q q (.yb q q hb15) ?_
       obtain ⟨x16,hx16,hj⟩:=bnd hj
       obtain rfl:=sm hj
       exact RunL.c (PC.go (.cc (.imm q) (.cc (.imm q) .nil)) (con46 x13.1 x14.1 _ hx16) call46 q) q q (.yb q q hb15)<|RunL.v (O.not (.lit q)) q q (.yb q q hb15)<|Rv (O.pkF (.lit q) hb15 (.lit q))<|Fi (tn3 q q q)
     refine Px.sq<|W.cnd q (fun hb18=>?_) (fun hb18=>?_)
     ·replace h:=cndT hb18 h
      refine W.sq'<|W.rx [(4,_)] (Vk q<|Fi (.n q .nil)) ?_
      refine Px.sq<|W.rt ?_
      refine Px.bkR ?_
      refine Px.sqR ?_
      obtain rfl:=sm h
      exact Px.r2 (.n q .nil)
     ·replace h:=cndF hb18 h
      refine W.sk<|Px.bk ?_
      refine Px.sq<|W.rx [(5,_),(6,_)] (Vm q<|Rv (O.add (.lit q) (.k q))<|RunL.re (G1:=[(5,_),(25,_)]) (tn2 q q)<|Va q<|Fi (tn2 q q)) ?_
      obtain rfl:=sm h
      exact Px.go (tn2 q q)
   ·replace h:=cndF hb9 h
    refine W.xi ?_
    refine Px.sqE ?_
    obtain rfl:=sm h
    exact Px.x2 .nil
  ·subst hx
   refine Px.bkH ?_
   refine Px.sq<|W.sq' ?_
   refine W.rx [(4,_)] (Vk q<|Fi (.n q .nil)) ?_
   refine Px.sq<|W.rt ?_
   obtain rfl:=sm h
   exact Px.fin (Fin.ro (.f q q .nil) q (ode (by kernel_rfl)) (.no (.no .nil)) q (.inr q))
  ·subst hx
   refine Px.bkR ?_
   refine Px.sqR ?_
   obtain rfl:=sm h
   exact Px.fin (Fin.ro (.f q q .nil) q (ode (by kernel_rfl)) (.no (.no .nil)) q (.inr q))
end Go.Proofs
