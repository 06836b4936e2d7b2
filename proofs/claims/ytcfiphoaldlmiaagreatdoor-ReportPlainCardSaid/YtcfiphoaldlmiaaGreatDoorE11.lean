/- Parts of the proof that the last text states. -/
import Derived.KernelRfl
import Derived.ProofKit
import Derived.RowKit3
import Derived.Test.YtcfiphoaldlmiaaGreatDoorRows
import Derived.Test.YtcfiphoaldlmiaaGreatDoorE10
namespace Go.Proofs
open Go Go.Own
set_option maxRecDepth 100000
set_option maxHeartbeats 4000000
set_option synthInstance.maxHeartbeats 1000000
set_option synthInstance.maxSize 10000
set_option linter.unusedVariables false
instance con9 {a0:Grammar}{a1:(List State)}{a2:(List Cell)}{r:Dense × (List Clash)}:CF Tryz.prog 9 (pf9 a0 a1 a2=some r) [.agg (eGrammar_0.cells a0),iR eState_0 a1,iR eCell_0 a2] [none,none,none] (.tup [.agg [iR (eM eAct) r.1.Acts,iR (eM eI) r.1.Gotos],iR eClash r.2]):=⟨con9l a0 a1 a2 _⟩
instance con77 {a0:Grammar}{a1:Item}{r:Bool}:CF Tryz.prog 77 (pf77 a0 a1=some r) [.agg (eGrammar_0.cells a0),.agg [I64 a1.Prod,I64 a1.Dot]] [none,none] (BB r):=⟨fun h=>by unfold pf77 at h; exact Con.au (N:=⟨34,[]⟩) [2,3,4] (.rk 1 [[],[0],[0,1],[0,1,2],[0,1,2,3],rn 0 5 [],[0,1,2,3],[0,1,2,3,6],[0,1,2,3,6,7],rn 0 9 [],rn 0 10 [],rn 0 11 [],rn 0 12 [],rn 0 13 [],rn 0 14 [],rn 0 15 [],rn 0 16 [],rn 0 17 [],rn 0 18 [],rn 0 17 [],rn 0 17 [19],rn 0 17 [],rn 0 17 [21],rn 0 17 [19,20,21,22],rn 0 17 (rn 19 5 []),rn 0 17 (rn 19 6 []),rn 0 17 (rn 19 7 []),rn 0 27 [],rn 0 28 [],rn 0 29 []] [4] (fun (c5:Bool)=>[(4,BB c5)]) .e) Tryz.func77 rfl rfl rfl rfl rfl go⟩
instance con78 {a0:Grammar}{a1:Item}{r:Int}:CF Tryz.prog 78 (pf78 a0 a1=some r) [.agg (eGrammar_0.cells a0),.agg [I64 a1.Prod,I64 a1.Dot]] [none,none] (I64 r):=⟨fun h=>by unfold pf78 at h; exact Con.au (N:=⟨33,[]⟩) [2,3,4,21] (.rk 1 [[],[],[0,1],[0,1,2],[0,1,2,3],rn 0 5 [],rn 0 6 [],rn 0 5 [],rn 0 5 [7],rn 0 5 [],rn 0 5 [9],rn 0 5 [7,8,9,10],rn 0 5 (rn 7 5 []),rn 0 5 (rn 7 6 []),rn 0 5 (rn 7 7 []),rn 0 15 [],rn 0 16 []] [2,3,21] (fun (c4:Bool)=>[(21,BB c4)]) (.b .e (.rd 3 [[],[0],[],[2],[0,1,2,3],rn 0 5 [],rn 0 6 [],[],[7],rn 0 9 [],rn 0 10 [],rn 0 11 []] .e))) Tryz.func78 rfl rfl rfl rfl rfl go⟩
instance con103 {a0:(List Int)}{r:Int}:CF Tryz.prog 103 (pf103 a0=some r) [iR eI a0] [none] (I64 r):=⟨fun h=>by unfold pf103 at h; exact Con.au (N:=⟨18,[]⟩) [0,2,3,5,6,7,8,9,14] (.l2 (fun (s1:Int)=>[(8,I64 s1)]) [3,6,7,8] 0 (fun (x3:Unit)=>[]) [3] (fun (x4:Int)=>[(2,I64 x4)]) [2] .e .e .e) Tryz.func103 rfl rfl rfl rfl rfl go⟩
instance con128 {a0:Int}{r:Bool}:CF Tryz.prog 128 (pf128 a0=some r) [I64 a0] [none] (BB r):=⟨fun h=>by unfold pf128 at h; exact Con.au (N:=⟨6,[]⟩) [0,2] .e Tryz.func128 rfl rfl rfl rfl rfl go⟩
instance con104 {a0:Int}{a1:Int}{r:Int}:CF Tryz.prog 104 (pf104 a0 a1=some r) [I64 a0,I64 a1] [none,none] (I64 r):=⟨fun h=>by unfold pf104 at h; exact Con.au (N:=⟨20,[]⟩) [0,1,4,5,6,11,12,13,16,19] .e Tryz.func104 rfl rfl rfl rfl rfl go⟩
instance con80 {a0:Item}{a1:Item}{r:Int}:CF Tryz.prog 80 (pf80 a0 a1=some r) [.agg [I64 a0.Prod,I64 a0.Dot],.agg [I64 a1.Prod,I64 a1.Dot]] [none,none] (I64 r):=⟨fun h=>by unfold pf80 at h; exact Con.au (N:=⟨17,[]⟩) [2,3,4] (.rd 1 [[],[0],[],[2],[0,1,2,3],[],[5],[],[7],rn 0 9 [],rn 0 10 [],rn 0 11 [],rn 0 12 []] .e) Tryz.func80 rfl rfl rfl rfl rfl go⟩
theorem con50l (a0:Grammar) (a1:(List Item)) (r:(List Item)) (h:pf50 a0 a1=some r):Con Tryz.prog 50 [.agg (eGrammar_0.cells a0),iR eItem a1] [none,none] (oR eItem r):=by
 unfold pf50 at h
 refine Con.go (N:=⟨78,[]⟩) Tryz.func50 q q q q (W.fin ?_)
 refine W.st [(0,.agg (eGrammar_0.cells a0)),(1,iR eItem a1)] ?_
 refine W.sq'<|W.rx [(1,_),(2,_)] (Rv (O.box (.aggF q q) q)<|Rv (O.az .knil)<|Fi (tn2 q q)) ?_
 refine Px.sq<|W.sq' ?_
 refine W.rx [(1,_),(2,_),(5,_)] (Rv (O.az .knil)<|Fi (tn3 q q q)) ?_
 refine Px.sq<|W.sq' ?_
 refine W.sq'<|W.rx [(2,_),(5,_),(12,_),(13,_),(14,_)] (Rv (O.mv (.imm q))<|Rv (O.lenI (.imm q) sl97)<|Rv (O.mv (.k q))<|Fi (tn5 q q q q q)) ?_
 refine Px.sq<|W.bk ?_
 obtain ⟨x2,hl,h⟩:=bnd h
 refine W.tr (G1:=[(2,_),(5,oR eItem ([]:List Item)),(12,_),(13,_),(14,_)]) (.n q (.w q q .nilOwn (tn3 q q q))) ?_
 refine W.lp1 (s:=(([]:List Item),0)) (fun (s1:List Item × Int)=>[(2,.obj (eGrammar_0.cells a0)),(5,oR eItem s1.1),(12,iR eItem a1),(13,I64 (a1.length:Int)),(14,I64 s1.2)]) 0 (fun (x2:List Item)=>[(2,.obj (eGrammar_0.cells a0)),(5,oR eItem x2)]) hl (fun s1 o h=>?_) ?_
 ·clear hl
  refine W.sq'<|W.rx [(2,_),(5,_),(12,_),(13,_),(14,_),(15,_)] (Rv (O.lss (.lit q) (.lit q))<|Fi (tn6 q q q q q q)) ?_
  refine Px.sq<|W.sq' ?_
  refine W.cnd q (fun hb4=>?_) (fun hb4=>?_)
  ·replace h:=cndT hb4 h
   refine W.sk<|Px.sq ?_
   refine W.sq' ?_
   obtain ⟨j5,hj,h⟩:=bnd h
   refine W.jn [(2,.obj (eGrammar_0.cells a0)),(5,oR eItem j5),(12,iR eItem a1),(13,I64 (a1.length:Int)),(14,I64 s1.2)] ?_ ?_
   ·clear h; have h:=hj; clear hj
    refine W.bk<|W.sq' ?_
    obtain ⟨x6,hx6,h⟩:=bnd h
    refine W.rx [(2,_),(5,_),(7,_),(12,_),(13,_),(14,_)] (Rv (O.ixI (.imm q) (.lit q) sl97 hx6)<|Rv (O.ldIN (cs':=[I64 x6.Prod,I64 x6.Dot]) (.iptr q) at112 q q)<|Rv (O.al (cs:=[I64 0,I64 0]) ze112 q q)<|RunL.sO (G2:=[(2,_),(5,_),(7,_),(12,_),(13,_),(14,_)]) (cs2:=[I64 x6.Prod,I64 x6.Dot]) q (.obj q) (.aggF q q) q sz112 q q q q (.n q q (.n q q (.b q (.n q q (.n q q (.n q q .nil))))))<|Fi (tn6 q q q q q q)) ?_
    refine Px.sq<|W.sq' ?_
    obtain ⟨x7,hx7,h⟩:=bnd h
    refine W.rx [(2,_),(5,_),(7,_),(12,_),(13,_),(14,_),(20,_)] (Rv (O.ldON (cs':=[iR eTok a0.Toks,iR eNon a0.Nons,iR eProd_0 a0.Prods,SS a0.Pro,SS a0.Tail]) q (.obj q) at38 q q)<|Rv (O.ldON (cs':=[I64 x6.Prod,I64 x6.Dot]) q (.obj q) at112 q q)<|Rc (PC.go (.cc (.aggF q q) (.cc (.aggF q q) .nil)) (CF.go hx7) call77 q)<|Fi (tn7 q q q q q q q)) ?_
    refine Px.sq ?_
    obtain ⟨j8,hj,h⟩:=bnd h
    refine W.jn [(2,.obj (eGrammar_0.cells a0)),(5,oR eItem j8),(12,iR eItem a1),(13,I64 (a1.length:Int)),(14,I64 s1.2)] ?_ ?_
    ·clear h; have h:=hj; clear hj
     refine W.cnd q (fun hb9=>?_) (fun hb9=>?_)
     ·replace h:=cndT hb9 h
      obtain ⟨x10,hx10,h⟩:=bnd h
      refine W.rx [(2,_),(5,_),(12,_),(13,_),(14,_)] (Rv (O.mv (.own q))<|Rv (O.ldON (cs':=[I64 x6.Prod,I64 x6.Dot]) q (.obj q) at112 q q)<|RunL.vi (x:=iR eItem [x6]) (O.bs (ys:=[.agg [I64 x6.Prod,I64 x6.Dot]]) eItem [x6] sl97 q q q q q q zt112 q q) q q .none<|Rv (O.ap (en:=eItem) (r:=x10) (.brw q) q (.imm q) .i ap97 q hx10)<|RunL.ea (G2:=[(2,.obj (eGrammar_0.cells a0)),(12,iR eItem a1),(13,I64 (a1.length:Int)),(14,I64 s1.2)]) q (EO.aP q q (.pend q) q q q (.n q q (.n q q (.n q q (.n q q .nil)))) q q)<|Fi (tn5 q q q q q)) ?_
      obtain rfl:=sm h
      exact Px.jn (tn5 q q q q q)
     ·replace h:=cndF hb9 h
      refine W.sk ?_
      obtain rfl:=sm h
      exact Px.jn (tn5 q q q q q)
    refine Px.bk ?_
    obtain rfl:=sm h
    exact Px.jn (tn5 q q q q q)
   refine Px.sq<|W.rx [(2,_),(5,_),(12,_),(13,_),(14,_)] (Rv (O.add (.lit q) (.k q))<|RunL.re (G1:=[(2,_),(5,_),(12,_),(13,_),(25,_)]) (tn5 q q q q q)<|Vm q<|Fi (tn5 q q q q q)) ?_
   obtain rfl:=sm h
   exact Px.go (tn5 q q q q q)
  ·replace h:=cndF hb4 h
   refine W.xi ?_
   refine Px.sqE ?_
   obtain rfl:=sm h
   exact Px.x1 (tn2 q q)
 refine Px.bkH ?_
 refine Px.sq<|W.sq' ?_
 obtain ⟨x11,hx11,h⟩:=bnd h
 refine W.rx [(2,_),(5,_),(8,_)] (Rv (O.fO q (.obj q) fd38_1 q)<|Rv (O.ldO (y:=iR eNon a0.Nons) q (.ptr q) ct35 q q)<|Rv (O.lenI (.imm q) sl35)<|Rv (O.mk (en:=eB) (z0:=false) sl71 (.lit q) (.lit q) ze4 q q hx11 bb4 q)<|RunL.ea (G2:=[(2,.obj (eGrammar_0.cells a0)),(5,oR eItem x2)]) q (EO.aR q q (.own q) q (.n q q (.n q q .nil)) q q)<|Fi (tn3 q q q)) ?_
 refine Px.sq<|W.sq' ?_
 refine W.sq'<|W.rx [(2,_),(5,_),(8,_),(9,_)] (Vk q<|Fi (tn4 q q q q)) ?_
 refine Px.sq<|W.bk ?_
 obtain ⟨x13,hl,h⟩:=bnd h
 refine W.tr (G1:=[(2,_),(5,_),(8,_),(9,_)]) (tn4 q q q q) ?_
 refine W.lp1 (s:=(x2,x11,0)) (fun (s12:List Item × List Bool × Int)=>[(2,.obj (eGrammar_0.cells a0)),(5,oR eItem s12.1),(8,oR eB s12.2.1),(9,I64 s12.2.2)]) 2 (fun (x13:List Item)=>[(5,oR eItem x13)]) hl (fun s12 o h=>?_) ?_
 ·clear hl
  refine W.sq'<|W.sq' ?_
  refine W.rx [(2,_),(5,_),(8,_),(9,_),(33,_)] (Vm q<|Rv (O.mv (.own q))<|Rv (O.lenO (.brw q) sl97)<|Rv (O.lss (.lit q) (.lit q))<|Fi (tn5 q q q q q)) ?_
  refine Px.sq<|W.cnd q (fun hb15=>?_) (fun hb15=>?_)
  ·replace h:=cndT hb15 h
   refine W.sk<|Px.sq ?_
   refine W.sq' ?_
   obtain ⟨j16,hj,h⟩:=bnd h
   refine W.jn [(2,.obj (eGrammar_0.cells a0)),(5,oR eItem j16.1),(8,oR eB j16.2),(9,I64 s12.2.2)] ?_ ?_
   ·clear h; have h:=hj; clear hj
    refine W.bk<|W.sq' ?_
    obtain ⟨x17,hx17,h⟩:=bnd h
    obtain ⟨x18,hx18,h⟩:=bnd h
    refine W.rd [[],[],[],[1,2],[1,2,3],rn 0 5 [],rn 0 6 [],rn 0 7 []] [(2,_),(5,_),(8,_),(9,_),(10,_)] mixo (by kernel_rfl) (Dv 0 (O.ldON (cs':=[iR eTok a0.Toks,iR eNon a0.Nons,iR eProd_0 a0.Prods,SS a0.Pro,SS a0.Tail]) q (.obj q) at38 q q)<|Dv 1 (O.mv (.own q))<|Dv 2 (O.mv (.lit q))<|Dv 3 (O.ixO (en:=eItem) q (.brw q) (.lit q) sl97 hx17 q)<|Dv 4 (O.ldEN (en:=eItem) (cs':=[I64 x17.Prod,I64 x17.Dot]) q (.ptr q) at112 hx17 q q)<|Dc 5 (PC.go (.cc (.aggF q q) (.cc (.aggF q q) .nil)) (CF.go hx18) call78 q)<|Dv 6 (O.sub (.lit q) (.k q))<|Dv 7 (O.az (.lit q))<|DL.fin q q q (tn5 q q q q q)) ?_
    refine Px.sq<|W.sq' ?_
    refine W.sq' ?_
    obtain ⟨c21,hj,h⟩:=bnd h
    refine W.rx [(2,.obj (eGrammar_0.cells a0)),(5,oR eItem s12.1),(8,oR eB s12.2.1),(9,I64 s12.2.2),(10,I64 (w64 (x18 - 1000))),(50,BB c21)] ?_ ?_
    ·refine Vm q<|Rv (O.lss (.lit q) (.k q))<|Rv (O.mv (.lit q)) ?_
     rcases cnd hj with ⟨hb19,hj⟩ | ⟨hb19,hj⟩
     ·obtain rfl:=sm hj
      exact RunL.ps q q hb19 q q<|RunL.ps q q hb19 q q<|RunL.ps q q hb19 q q<|RunL.ps q q hb19 q q<|Rv (O.pkT (.lit q) hb19 (.k q))<|Fi (tn6 q q q q q q)
     ·refine RunL.v (O.mv (.own q)) q q (.yb q q hb19)<|RunL.v (O.mv (.lit q)) q q (.yb q q hb19) ?_
      obtain ⟨x20,hx20,hj⟩:=bnd hj
      obtain rfl:=sm hj
      exact RunL.v (O.ixO (en:=eB) q (.brw q) (.lit q) sl71 hx20 q) q q (.yb q q hb19)<|RunL.v (O.ldE (en:=eB) (x':=BB x20) q (.ptr q) ct4 hx20 q q) q q (.yb q q hb19)<|Rv (O.pkF (.lit q) hb19 (.lit q))<|Fi (tn6 q q q q q q)
    refine Px.sq<|W.cnd q (fun hb22=>?_) (fun hb22=>?_)
    ·replace h:=cndT hb22 h
     refine W.xi ?_
     refine Px.sqE ?_
     refine Px.bkH ?_
     obtain rfl:=sm h
     exact Px.jn (tn4 q q q q)
    ·replace h:=cndF hb22 h
     refine W.sk<|Px.sq ?_
     refine W.sq' ?_
     obtain ⟨x23,hx23,h⟩:=bnd h
     refine W.rx [(2,_),(5,_),(8,_),(9,_),(10,_)] (Rv (O.mv (.own q))<|Vm q<|Rv (O.ixO (en:=eB) q (.brw q) (.lit q) sl71 hx23 q)<|RunL.ef (G2:=[(2,.obj (eGrammar_0.cells a0)),(5,oR eItem s12.1),(8,oR eB (s12.2.1.set (w64 (x18 - 1000)).toNat true)),(9,I64 s12.2.2),(10,I64 (w64 (x18 - 1000)))]) q (EO.stE (en:=eB) (y2:=true) (cs':=[BB true]) (x2:=oR eB (s12.2.1.set (w64 (x18 - 1000)).toNat true)) q q (.ptr q) (.k q) q hx23 sz4 q q q q q q q (.n q q (.n q q (.b q (.n q q (.n q q .nil))))))<|Fi (tn5 q q q q q)) ?_
     refine Px.sq<|W.sq' ?_
     refine W.rx [(2,_),(5,_),(8,_),(9,_),(10,_),(56,_),(57,_)] (Rv (O.fO q (.obj q) fd38_2 q)<|Rv (O.ldO (y:=iR eProd_0 a0.Prods) q (.ptr q) ct36 q q)<|Rv (O.lenI (.imm q) sl36)<|Rv (O.mv (.k q))<|Fi (tn7 q q q q q q q)) ?_
     refine Px.sq<|W.bk ?_
     obtain ⟨x25,hl,h⟩:=bnd h
     refine W.tr (G1:=[(2,_),(5,_),(8,_),(9,_),(10,_),(56,_),(57,_)]) (tn7 q q q q q q q) ?_
     refine W.lp1 (s:=(s12.1,0)) (fun (s24:List Item × Int)=>[(2,.obj (eGrammar_0.cells a0)),(5,oR eItem s24.1),(8,oR eB (s12.2.1.set (w64 (x18 - 1000)).toNat true)),(9,I64 s12.2.2),(10,I64 (w64 (x18 - 1000))),(56,I64 (a0.Prods.length:Int)),(57,I64 s24.2)]) 4 (fun (x25:List Item)=>[(2,.obj (eGrammar_0.cells a0)),(5,oR eItem x25),(8,oR eB (s12.2.1.set (w64 (x18 - 1000)).toNat true)),(9,I64 s12.2.2)]) hl (fun s24 o h=>?_) ?_
     ·clear hl
      refine W.sq'<|W.rx [(2,_),(5,_),(8,_),(9,_),(10,_),(56,_),(57,_),(58,_)] (Rv (O.lss (.lit q) (.lit q))<|Fi (tn8 q q q q q q q q)) ?_
      refine Px.sq<|W.sq' ?_
      refine W.cnd q (fun hb27=>?_) (fun hb27=>?_)
      ·replace h:=cndT hb27 h
       refine W.sk<|Px.sq ?_
       refine W.sq' ?_
       obtain ⟨j28,hj,h⟩:=bnd h
       refine W.jn [(2,.obj (eGrammar_0.cells a0)),(5,oR eItem j28),(8,oR eB (s12.2.1.set (w64 (x18 - 1000)).toNat true)),(9,I64 s12.2.2),(10,I64 (w64 (x18 - 1000))),(56,I64 (a0.Prods.length:Int)),(57,I64 s24.2)] ?_ ?_
       ·clear h; have h:=hj; clear hj
        refine W.bk<|W.sq' ?_
        refine W.rx [(2,_),(5,_),(8,_),(9,_),(10,_),(11,_),(56,_),(57,_)] (Vm q<|Va q<|Fi (tn8 q q q q q q q q)) ?_
        refine Px.sq<|W.sq' ?_
        obtain ⟨x29,hx29,h⟩:=bnd h
        refine W.rx [(2,_),(5,_),(8,_),(9,_),(10,_),(11,_),(56,_),(57,_),(67,_)] (Rv (O.fO q (.obj q) fd38_2 q)<|Rv (O.ldO (y:=iR eProd_0 a0.Prods) q (.ptr q) ct36 q q)<|Vm q<|Rv (O.ixI (.imm q) (.lit q) sl36 hx29)<|Rv (O.fI (.iptr q) fd143_0)<|Rv (O.ldI (x:=I64 x29.Left) (.iptr q) ct3 q)<|Vm q<|Rv (O.eql (.lit q) (.lit q))<|Fi (tn9 q q q q q q q q q)) ?_
        refine Px.sq ?_
        obtain ⟨j30,hj,h⟩:=bnd h
        refine W.jn [(2,.obj (eGrammar_0.cells a0)),(5,oR eItem j30),(8,oR eB (s12.2.1.set (w64 (x18 - 1000)).toNat true)),(9,I64 s12.2.2),(10,I64 (w64 (x18 - 1000))),(56,I64 (a0.Prods.length:Int)),(57,I64 s24.2)] ?_ ?_
        ·clear h; have h:=hj; clear hj
         refine W.cnd q (fun hb31=>?_) (fun hb31=>?_)
         ·replace h:=cndT hb31 h
          obtain ⟨x32,hx32,h⟩:=bnd h
          refine W.rx [(2,_),(5,_),(8,_),(9,_),(10,_),(56,_),(57,_)] (Rv (O.mv (.own q))<|Vm q<|Rv (O.bu (cs:=[I64 s24.2,I64 0]) sc112 ze112 q q q)<|RunL.vi (x:=iR eItem [(⟨s24.2,0⟩:Item)]) (O.bs (ys:=[.agg [I64 s24.2,I64 0]]) eItem [(⟨s24.2,0⟩:Item)] sl97 q q q q q q zt112 q q) q q .none<|Rv (O.ap (en:=eItem) (r:=x32) (.brw q) q (.imm q) .i ap97 q hx32)<|RunL.ea (G2:=[(2,.obj (eGrammar_0.cells a0)),(8,oR eB (s12.2.1.set (w64 (x18 - 1000)).toNat true)),(9,I64 s12.2.2),(10,I64 (w64 (x18 - 1000))),(56,I64 (a0.Prods.length:Int)),(57,I64 s24.2)]) q (EO.aP q q (.pend q) q q q (.n q q (.n q q (.n q q (.n q q (.n q q (.n q q .nil)))))) q q)<|Fi (tn7 q q q q q q q)) ?_
          obtain rfl:=sm h
          exact Px.jn (tn7 q q q q q q q)
         ·replace h:=cndF hb31 h
          refine W.sk ?_
          obtain rfl:=sm h
          exact Px.jn (tn7 q q q q q q q)
        refine Px.bk ?_
        obtain rfl:=sm h
        exact Px.jn (tn7 q q q q q q q)
       refine Px.sq<|W.rx [(2,_),(5,_),(8,_),(9,_),(10,_),(56,_),(57,_)] (Rv (O.add (.lit q) (.k q))<|RunL.re (G1:=[(2,_),(5,_),(8,_),(9,_),(10,_),(56,_),(73,_)]) (tn7 q q q q q q q)<|Vm q<|Fi (tn7 q q q q q q q)) ?_
       obtain rfl:=sm h
       exact Px.go (tn7 q q q q q q q)
      ·replace h:=cndF hb27 h
       refine W.xi ?_
       refine Px.sqE ?_
       obtain rfl:=sm h
       exact Px.x1 (tn4 q q q q)
     refine Px.bkH ?_
     refine Px.bk ?_
     obtain rfl:=sm h
     exact Px.jn (tn4 q q q q)
   refine Px.sq<|W.rx [(2,_),(5,_),(8,_),(9,_)] (Vm q<|Rv (O.add (.lit q) (.k q))<|RunL.re (G1:=[(2,_),(5,_),(8,_),(35,_)]) (tn4 q q q q)<|Va q<|Fi (tn4 q q q q)) ?_
   obtain rfl:=sm h
   exact Px.go (tn4 q q q q)
  ·replace h:=cndF hb15 h
   refine W.xi ?_
   refine Px.sqE ?_
   obtain rfl:=sm h
   exact Px.x1 (.n q .nil)
 refine Px.bkH ?_
 refine Px.sq<|W.sq' ?_
 obtain ⟨x33,hx33,h⟩:=bnd h
 refine W.rx [(5,_)] (Rv (O.mv (.own q))<|RunL.ef q (EO.call q q (CallOk.lv (en:=eItem) (L:=x13) (L':=x33) (G2:=[]) (ys:=[.clo (.func 80) [] []]) (args:=[.clo (.func 80) [] []]) q q q q (.c (View.cl .nil) .nil) (sort79 call80 hx33 (fun a b v h=>CF.go h)) call79 .nil q q .nil q))<|Fi (.n q .nil)) ?_
 refine Px.sq<|W.sq' ?_
 obtain ⟨x34,hx34,h⟩:=bnd h
 refine W.rx [(4,_)] (Rv (O.mv (.own q))<|RunL.ef q (EO.call q q (CallOk.tk (en:=eItem) (L:=x33) (G2:=[]) q q q q (comp81 hx34) call81 .nil q q))<|RunL.ea (G2:=[]) q (EO.aR q q (.own q) q .nil q q)<|Fi (.n q .nil)) ?_
 refine Px.sq<|W.rt ?_
 obtain rfl:=sm h
 exact Px.fin (Fin.ro (.o q .nil) q (ode (by kernel_rfl)) (.no (.no .nil)) q (.inr q))
instance con50 {a0:Grammar}{a1:(List Item)}{r:(List Item)}:CF Tryz.prog 50 (pf50 a0 a1=some r) [.agg (eGrammar_0.cells a0),iR eItem a1] [none,none] (oR eItem r):=⟨con50l a0 a1 _⟩
instance con105 {a0:Int}{r:Bool}:CF Tryz.prog 105 (pf105 a0=some r) [U8 a0] [none] (BB r):=⟨fun h=>by unfold pf105 at h; exact Con.au (N:=⟨17,[]⟩) [0,2] (.rj 1 [2] (fun (c4:Bool)=>[(2,BB c4)]) .e) Tryz.func105 rfl rfl rfl rfl rfl go⟩
theorem con129l (a0:ByteArray) (a1:Int) (r:Int) (h:pf129 a0 a1=some r):Con Tryz.prog 129 [SS a0,U8 a1] [none,none] (I64 r):=by
 unfold pf129 at h
 refine Con.go (N:=⟨8,[]⟩) Tryz.func129 q q q q (W.fin ?_)
 refine W.st [(0,SS a0),(1,U8 a1)] ?_
 refine W.sq'<|W.rx [(0,_),(1,_)] (Vk q<|Fi (tn2 q q)) ?_
 refine Px.sq<|W.sq' ?_
 refine W.rx [(4,_)] (Vm q<|Vm q<|Rv ((.p1 (.extL (ext143 _ _) q (.cons (.lit q) (.cons (.lit q) .nil)))))<|Va q<|Fi (.n q .nil)) ?_
 refine Px.sq<|W.rt ?_
 obtain rfl:=sm h
 exact Px.fin (Fin.ro (.f q q .nil) q (ode (by kernel_rfl)) (.no (.no .nil)) q (.inr q))
instance con129 {a0:ByteArray}{a1:Int}{r:Int}:CF Tryz.prog 129 (pf129 a0 a1=some r) [SS a0,U8 a1] [none,none] (I64 r):=⟨con129l a0 a1 _⟩
instance con106 {a0:ByteArray}{a1:Int}{r:Int}:CF Tryz.prog 106 (pf106 a0 a1=some r) [SS a0,U8 a1] [none,none] (I64 r):=⟨fun h=>by unfold pf106 at h; exact Con.au (N:=⟨8,[]⟩) [0,1,4] .e Tryz.func106 rfl rfl rfl rfl rfl go⟩
instance con82 {a0:Int}{r:ByteArray}:CF Tryz.prog 82 (pf82 a0=some r) [U8 a0] [none] (SS r):=⟨fun h=>by unfold pf82 at h; exact Con.au (N:=⟨21,[]⟩) [0,2,3,5,14] .e Tryz.func82 rfl rfl rfl rfl rfl go⟩
instance con53 {a0:Grammar}{a1:Int}{r:ByteArray}:CF Tryz.prog 53 (pf53 a0 a1=some r) [.agg (eGrammar_0.cells a0),I64 a1] [none,none] (SS r):=⟨fun h=>by unfold pf53 at h; exact Con.au (N:=⟨65,[]⟩) [1,2,4,5,31,47] (.rj 1 [1,2,5] (fun (c4:Bool)=>[(5,BB c4)]) (.b .e (.rj 3 [1,2,31] (fun (c10:Bool)=>[(31,BB c10)]) (.b .e (.rj 5 [1,2,47] (fun (c14:Bool)=>[(47,BB c14)]) .e))))) Tryz.func53 rfl rfl rfl rfl rfl go⟩
instance con52 {a0:Grammar}{a1:Item}{r:ByteArray}:CF Tryz.prog 52 (pf52 a0 a1=some r) [.agg (eGrammar_0.cells a0),.agg [I64 a1.Prod,I64 a1.Dot]] [none,none] (SS r):=⟨fun h=>by unfold pf52 at h; exact Con.au (N:=⟨55,[]⟩) [2,3,4,5,6,7,8,12,26,27,28,29,36,51] (.b .e (.lp (fun (s6:ByteArray × Int)=>[(6,SS s6.1),(28,I64 s6.2)]) [2,3,5,6,26,27,28] 0 (fun (x7:ByteArray)=>[(6,SS x7)]) [3,5,6] (.b (.p (.jn [2,3,5,6,8,26,27,28] (fun (j11:ByteArray)=>[(6,SS j11)]) .e .e)) .e) (.jn [6] (fun (j17:ByteArray)=>[(6,SS j17)]) .e .e))) Tryz.func52 rfl rfl rfl rfl rfl go⟩
instance con54 {a0:Act}{r:ByteArray}:CF Tryz.prog 54 (pf54 a0=some r) [.agg [I64 a0.Kind,I64 a0.N]] [none] (SS r):=⟨fun h=>by unfold pf54 at h; exact Con.au (N:=⟨21,[]⟩) [1,2,4,5,11,17,19] .e Tryz.func54 rfl rfl rfl rfl rfl go⟩
instance con28 {a0:(List Clash)}{r:Int × Int}:CF Tryz.prog 28 (pf28 a0=some r) [iR eClash a0] [none] (.tup [I64 r.1,I64 r.2]):=⟨fun h=>by unfold pf28 at h; exact Con.au (N:=⟨24,[]⟩) [0,2,3,4,6,7,8,9,10,15] (.lp (fun (s1:Int × Int)=>[(4,I64 s1.1),(9,I64 s1.2)]) [0,4,7,8,9] 0 (fun (x2:Int)=>[(4,I64 x2)]) [0,4] (.b (.jn [0,4,7,8,9] (fun (j5:Int)=>[(4,I64 j5)]) (.p (.jn [0,4,7,8,9] (fun (j7:Int)=>[(4,I64 j7)]) .e .e)) .e) .e) .e) Tryz.func28 rfl rfl rfl rfl rfl go⟩
theorem con31l (a0:(List ByteArray)) (a1:ByteArray) (r:ByteArray) (h:pf31 a0 a1=some r):Con Tryz.prog 31 [iR eS a0,SS a1] [none,none] (SS r):=by
 unfold pf31 at h
 refine Con.go (N:=⟨75,[]⟩) Tryz.func31 q q q q (W.fin ?_)
 refine W.st [(0,iR eS a0),(1,SS a1)] ?_
 refine W.sq'<|W.rx [(0,_),(1,_)] (Vk q<|Fi (tn2 q q)) ?_
 refine Px.sq<|W.sq' ?_
 refine W.sq'<|W.rx [(0,_),(1,_),(12,_)] (Rv (O.mv (.imm q))<|Rv (O.lenI (.imm q) sl104)<|Fi (tn3 q q q)) ?_
 refine Px.sq<|W.bk ?_
 refine W.sq'<|W.rx [(0,_),(1,_),(12,_),(13,_)] (Rv (O.eql (.lit q) (.k q))<|Va q<|Fi (tn4 q q q q)) ?_
 refine Px.sq<|W.cnd q (fun hb1=>?_) (fun hb1=>?_)
 ·replace h:=cndT hb1 h
  refine W.sq'<|W.rx [(4,_)] (Vk q<|Fi (.n q .nil)) ?_
  refine Px.sq<|W.rt ?_
  refine Px.bkR ?_
  refine Px.sqR ?_
  obtain rfl:=sm h
  exact Px.fin (Fin.ro (.f q q .nil) q (ode (by kernel_rfl)) (.no (.no .nil)) q (.inr q))
 ·replace h:=cndF hb1 h
  refine W.sq'<|W.rx [(0,_),(1,_),(15,_)] (Rv (O.eql (.lit q) (.k q))<|Va q<|Fi (tn3 q q q)) ?_
  refine Px.sq<|W.cnd q (fun hb2=>?_) (fun hb2=>?_)
  ·replace h:=cndT hb2 h
   refine W.sq' ?_
   obtain ⟨x3,hx3,h⟩:=bnd h
   refine W.rx [(4,_)] (Rv (O.mv (.imm q))<|Rv (O.ixI (.imm q) (.k q) sl104 hx3)<|Rv (O.ldI (x:=SS x3) (.iptr q) ct9 q)<|Va q<|Fi (.n q .nil)) ?_
   refine Px.sq<|W.rt ?_
   refine Px.bkR ?_
   refine Px.sqR ?_
   obtain rfl:=sm h
   exact Px.fin (Fin.ro (.f q q .nil) q (ode (by kernel_rfl)) (.no (.no .nil)) q (.inr q))
  ·replace h:=cndF hb2 h
   refine W.sk<|Px.bk ?_
   refine Px.sq<|W.sq' ?_
   refine W.rx [(0,_),(1,_),(5,_)] (Vk q<|Fi (tn3 q q q)) ?_
   refine Px.sq<|W.sq' ?_
   refine W.sq'<|W.rx [(0,_),(1,_),(5,_),(22,_)] (Vm q<|Rv (O.lenS (.lit q) st9)<|Rv (O.gtr (.lit q) (.k q))<|Fi (tn4 q q q q)) ?_
   refine Px.sq ?_
   obtain ⟨j4,hj,h⟩:=bnd h
   refine W.jn [(0,iR eS a0),(1,SS a1),(5,I64 j4)] ?_ ?_
   ·clear h; have h:=hj; clear hj
    refine W.cnd q (fun hb5=>?_) (fun hb5=>?_)
    ·replace h:=cndT hb5 h
     refine W.sq'<|W.sq' ?_
     obtain ⟨x6,hx6,h⟩:=bnd h
     refine W.rx [(0,_),(1,_),(5,_),(29,_)] (Vm q<|Rv (O.lenS (.lit q) st9)<|Rv (O.mv (.imm q))<|Rv (O.lenI (.imm q) sl104)<|Rv (O.sub (.lit q) (.k q))<|Rv (O.quo (.k q) (.lit q) hx6)<|Rv (O.geq (.lit q) (.lit q))<|Fi (tn4 q q q q)) ?_
     refine Px.sq<|W.cnd q (fun hb7=>?_) (fun hb7=>?_)
     ·replace h:=cndT hb7 h
      cases h
     ·replace h:=cndF hb7 h
      refine W.sk<|Px.sq ?_
      refine W.rx [(0,_),(1,_),(5,_)] (Vm q<|Vm q<|Rv (O.lenS (.lit q) st9)<|Rv (O.mv (.imm q))<|Rv (O.lenI (.imm q) sl104)<|Rv (O.sub (.lit q) (.k q))<|Rv (O.mul (.lit q) (.lit q))<|Rv (O.add (.lit q) (.lit q))<|RunL.re (G1:=[(0,_),(1,_),(38,_)]) (tn3 q q q)<|Va q<|Fi (tn3 q q q)) ?_
      obtain rfl:=sm h
      exact Px.jn (tn3 q q q)
    ·replace h:=cndF hb5 h
     refine W.sk ?_
     obtain rfl:=sm h
     exact Px.jn (tn3 q q q)
   refine Px.sq<|W.sq' ?_
   refine W.sq'<|W.rx [(0,_),(1,_),(5,_),(39,_),(40,_),(41,_)] (Rv (O.mv (.imm q))<|Rv (O.lenI (.imm q) sl104)<|Rv (O.mv (.k q))<|Fi (tn6 q q q q q q)) ?_
   refine Px.sq<|W.bk ?_
   obtain ⟨x9,hl,h⟩:=bnd h
   refine W.tr (G1:=[(0,_),(1,_),(5,_),(39,_),(40,_),(41,_)]) (tn6 q q q q q q) ?_
   refine W.lp1 (s:=(j4,0)) (fun (s8:Int × Int)=>[(0,iR eS a0),(1,SS a1),(5,I64 s8.1),(39,iR eS a0),(40,I64 (a0.length:Int)),(41,I64 s8.2)]) 1 (fun (x9:Int)=>[(0,iR eS a0),(1,SS a1),(5,I64 x9)]) hl (fun s8 o h=>?_) ?_
   ·clear hl
    refine W.sq'<|W.rx [(0,_),(1,_),(5,_),(39,_),(40,_),(41,_),(42,_)] (Rv (O.lss (.lit q) (.lit q))<|Fi (tn7 q q q q q q q)) ?_
    refine Px.sq<|W.sq' ?_
    refine W.cnd q (fun hb11=>?_) (fun hb11=>?_)
    ·replace h:=cndT hb11 h
     refine W.sk<|Px.sq ?_
     refine W.sq'<|W.bk ?_
     refine W.sq' ?_
     obtain ⟨x12,hx12,h⟩:=bnd h
     refine W.rx [(0,_),(1,_),(5,_),(7,_),(39,_),(40,_),(41,_)] (Rv (O.ixI (.imm q) (.lit q) sl104 hx12)<|Rv (O.ldI (x:=SS x12) (.iptr q) ct9 q)<|Va q<|Fi (tn7 q q q q q q q)) ?_
     refine Px.sq<|W.sq' ?_
     refine W.sq'<|W.rx [(0,_),(1,_),(5,_),(7,_),(39,_),(40,_),(41,_),(49,_)] (Vm q<|Rv (O.lenS (.lit q) st9)<|Vm q<|Rv (O.sub (.k q) (.lit q))<|Rv (O.gtr (.lit q) (.lit q))<|Fi (tn8 q q q q q q q q)) ?_
     refine Px.sq<|W.cnd q (fun hb13=>?_) (fun hb13=>?_)
     ·replace h:=cndT hb13 h
      cases h
     ·replace h:=cndF hb13 h
      refine W.sk<|Px.sq ?_
      refine W.rx [(0,_),(1,_),(5,_),(39,_),(40,_),(41,_)] (Vm q<|Vm q<|Rv (O.lenS (.lit q) st9)<|Rv (O.add (.lit q) (.lit q))<|RunL.re (G1:=[(0,_),(1,_),(39,_),(40,_),(41,_),(54,_)]) (tn6 q q q q q q)<|Va q<|Fi (tn6 q q q q q q)) ?_
      refine Px.bk ?_
      refine Px.sq<|W.rx [(0,_),(1,_),(5,_),(39,_),(40,_),(41,_)] (Rv (O.add (.lit q) (.k q))<|RunL.re (G1:=[(0,_),(1,_),(5,_),(39,_),(40,_),(55,_)]) (tn6 q q q q q q)<|Vm q<|Fi (tn6 q q q q q q)) ?_
      obtain rfl:=sm h
      exact Px.go (tn6 q q q q q q)
    ·replace h:=cndF hb11 h
     refine W.xi ?_
     refine Px.sqE ?_
     obtain rfl:=sm h
     exact Px.x1 (tn3 q q q)
   refine Px.bkH ?_
   refine Px.sq<|W.sq' ?_
   refine W.rx [(0,_),(1,_),(5,_),(8,_)] (Rv ((.p2 (.allocN ze94 q)))<|Fi (tn4 q q q q)) ?_
   refine Px.sq<|W.sq' ?_
   obtain ⟨x14,hx14,h⟩:=bnd h
   refine W.rx [(0,_),(1,_),(8,_)] (Vm q<|RunL.ef q (EO.call q q (CallOk.ln (G2:=[(0,iR eS a0),(1,SS a1)]) (A:=[]) (ys:=[.ptr ⟨8,[]⟩ 0,I64 x9]) (args:=[.obj [.self (0,94),.nils],I64 x9]) (cs':=[.self (0,94),.brow 5 (Lib.strCells x14)]) (k0:=0) q q q q (.b q (.n q .nil)) q (con56 () x9 _ hx14) call56 (tn2 q q) q q (tn2 q q) .nil q))<|Fi (tn3 q q q)) ?_
   refine Px.sq<|W.sq' ?_
   obtain ⟨x15,hx15,h⟩:=bnd h
   obtain ⟨x16,hx16,h⟩:=bnd h
   refine W.rx [(0,_),(1,_),(8,_)] (Rv (O.mv (.imm q))<|Rv (O.ixI (.imm q) (.k q) sl104 hx15)<|Rv (O.ldI (x:=SS x15) (.iptr q) ct9 q)<|RunL.ef q (EO.call q q (CallOk.ln (G2:=[(0,iR eS a0),(1,SS a1)]) (A:=[]) (ys:=[.ptr ⟨8,[]⟩ 0,SS x15]) (args:=[.obj [.self (0,94),.brow 5 (Lib.strCells x14)],SS x15]) (cs':=[.self (0,94),.brow 5 (Lib.strCells x16)]) (k0:=0) q q q q (.b q (.n q .nil)) q (con49 x14 x15 _ hx16) call49 (tn2 q q) q q (tn2 q q) .nil q))<|Fi (tn3 q q q)) ?_
   refine Px.sq<|W.sq' ?_
   refine W.sq' ?_
   obtain ⟨x17,hx17,h⟩:=bnd h
   refine W.rx [(1,_),(8,_),(63,_),(64,_),(65,_)] (Rv (O.mv (.imm q))<|Rv (O.slI1 (.imm q) (.k q) sl104 hx17)<|Rv (O.lenI (.imm q) sl104)<|Rv (O.mv (.k q))<|Fi (tn5 q q q q q)) ?_
   refine Px.sq<|W.bk ?_
   obtain ⟨x19,hl,h⟩:=bnd h
   refine W.tr (G1:=[(1,_),(8,_),(63,_),(64,_),(65,_)]) (tn5 q q q q q) ?_
   refine W.lp1 (s:=(x16,0)) (fun (s18:ByteArray × Int)=>[(1,SS a1),(8,.obj [.self (0,94),.brow 5 (Lib.strCells s18.1)]),(63,iR eS x17),(64,I64 (x17.length:Int)),(65,I64 s18.2)]) 3 (fun (x19:ByteArray)=>[(8,.obj [.self (0,94),.brow 5 (Lib.strCells x19)])]) hl (fun s18 o h=>?_) ?_
   ·clear hl
    refine W.sq'<|W.rx [(1,_),(8,_),(63,_),(64,_),(65,_),(66,_)] (Rv (O.lss (.lit q) (.lit q))<|Fi (tn6 q q q q q q)) ?_
    refine Px.sq<|W.sq' ?_
    refine W.cnd q (fun hb21=>?_) (fun hb21=>?_)
    ·replace h:=cndT hb21 h
     refine W.sk<|Px.sq ?_
     refine W.sq'<|W.bk ?_
     refine W.sq' ?_
     obtain ⟨x22,hx22,h⟩:=bnd h
     refine W.rx [(1,_),(8,_),(10,_),(63,_),(64,_),(65,_)] (Rv (O.ixI (.imm q) (.lit q) sl104 hx22)<|Rv (O.ldI (x:=SS x22) (.iptr q) ct9 q)<|Va q<|Fi (tn6 q q q q q q)) ?_
     refine Px.sq<|W.sq' ?_
     obtain ⟨x23,hx23,h⟩:=bnd h
     refine W.rx [(1,_),(8,_),(10,_),(63,_),(64,_),(65,_)] (Vm q<|RunL.ef q (EO.call q q (CallOk.ln (G2:=[(1,SS a1),(10,SS x22),(63,iR eS x17),(64,I64 (x17.length:Int)),(65,I64 s18.2)]) (A:=[]) (ys:=[.ptr ⟨8,[]⟩ 0,SS a1]) (args:=[.obj [.self (0,94),.brow 5 (Lib.strCells s18.1)],SS a1]) (cs':=[.self (0,94),.brow 5 (Lib.strCells x23)]) (k0:=0) q q q q (.b q (.n q .nil)) q (con49 s18.1 a1 _ hx23) call49 (tn5 q q q q q) q q (tn5 q q q q q) .nil q))<|Fi (tn6 q q q q q q)) ?_
     refine Px.sq ?_
     obtain ⟨x24,hx24,h⟩:=bnd h
     refine W.rx [(1,_),(8,_),(63,_),(64,_),(65,_)] (Vm q<|RunL.ef q (EO.call q q (CallOk.ln (G2:=[(1,SS a1),(63,iR eS x17),(64,I64 (x17.length:Int)),(65,I64 s18.2)]) (A:=[]) (ys:=[.ptr ⟨8,[]⟩ 0,SS x22]) (args:=[.obj [.self (0,94),.brow 5 (Lib.strCells x23)],SS x22]) (cs':=[.self (0,94),.brow 5 (Lib.strCells x24)]) (k0:=0) q q q q (.b q (.n q .nil)) q (con49 x23 x22 _ hx24) call49 (tn4 q q q q) q q (tn4 q q q q) .nil q))<|Fi (tn5 q q q q q)) ?_
     refine Px.bk ?_
     refine Px.sq<|W.rx [(1,_),(8,_),(63,_),(64,_),(65,_)] (Rv (O.add (.lit q) (.k q))<|RunL.re (G1:=[(1,_),(8,_),(63,_),(64,_),(73,_)]) (tn5 q q q q q)<|Vm q<|Fi (tn5 q q q q q)) ?_
     obtain rfl:=sm h
     exact Px.go (tn5 q q q q q)
    ·replace h:=cndF hb21 h
     refine W.xi ?_
     refine Px.sqE ?_
     obtain rfl:=sm h
     exact Px.x1 (.n q .nil)
   refine Px.bkH ?_
   refine Px.sq<|W.sq' ?_
   obtain ⟨x25,hx25,h⟩:=bnd h
   refine W.rx [(4,_)] (RunL.ef q (EO.call q q (CallOk.ln (G2:=[]) (A:=[]) (ys:=[.ptr ⟨8,[]⟩ 0]) (args:=[.obj [.self (0,94),.brow 5 (Lib.strCells x19)]]) (cs':=[.self (0,94),.dead]) (k0:=0) q q q q (.b q .nil) q (con30 x19 _ hx25) call30 .nil q q .nil .nil q))<|Va q<|Fi (.n q .nil)) ?_
   refine Px.sq<|W.rt ?_
   obtain rfl:=sm h
   exact Px.fin (Fin.ro (.f q q .nil) q (ode (by kernel_rfl)) (.no (.no .nil)) q (.inr q))
instance con31 {a0:(List ByteArray)}{a1:ByteArray}{r:ByteArray}:CF Tryz.prog 31 (pf31 a0 a1=some r) [iR eS a0,SS a1] [none,none] (SS r):=⟨con31l a0 a1 _⟩
theorem con51l (a0:report_writer) (a1:ByteArray) (r:report_writer) (h:pf51 a0 a1=some r):Con Tryz.prog 51 [.obj (ereport_writer_r.cells a0),SS a1] [some (.obj [iR eTok r.f_g.Toks,iR eNon r.f_g.Nons,iR eProd_0 r.f_g.Prods,SS r.f_g.Pro,SS r.f_g.Tail,.self (5,96),.brow 5 (Lib.strCells r.f_b)]),none] (.tup []):=by
 unfold pf51 at h
 refine Con.go (N:=⟨11,[0]⟩) Tryz.func51 q q q q (W.fin ?_)
 refine W.st [(0,.obj (ereport_writer_r.cells a0)),(1,SS a1)] ?_
 obtain ⟨x1,hx1,h⟩:=bnd h
 obtain ⟨x2,hx2,h⟩:=bnd h
 obtain ⟨x3,hx3,h⟩:=bnd h
 refine W.rx [(0,_)] (Rv (O.mv (.obj q))<|Rv (O.nlP (.ptr q))<|Rv (O.fO q (.ptr q) fd96_1 q)<|Vm q<|Rv (O.cat (.k q) (.lit q) hx1)<|Rv (O.cat (.lit q) (.k q) hx2)<|RunL.ef q (EO.call q q (CallOk.at (G2:=[]) (A:=[]) (ys:=[(.string x2)]) (cs':=[iR eTok a0.f_g.Toks,iR eNon a0.f_g.Nons,iR eProd_0 a0.f_g.Prods,SS a0.f_g.Pro,SS a0.f_g.Tail,.self (5,96),.brow 5 (Lib.strCells x3)]) (k:=5) q q q q (con49a (k:=5) (e0:=96) q q li96_5 hx3) call49 .nil q q .nil .nil q))<|Fi (.n q .nil)) ?_
 obtain rfl:=sm h
 exact Px.fin (Fin.ro .nil q (ode (by kernel_rfl)) (.so q q (.no .nil)) q (.inl q))
instance con51 {a0:report_writer}{a1:ByteArray}{r:report_writer}:CF Tryz.prog 51 (pf51 a0 a1=some r) [.obj (ereport_writer_r.cells a0),SS a1] [some (.obj [iR eTok r.f_g.Toks,iR eNon r.f_g.Nons,iR eProd_0 r.f_g.Prods,SS r.f_g.Pro,SS r.f_g.Tail,.self (5,96),.brow 5 (Lib.strCells r.f_b)]),none] (.tup []):=⟨con51l a0 a1 _⟩
theorem con27l (a0:report_writer) (a1:Int) (a2:State) (a3:Dense) (a4:(List Clash)) (r:report_writer) (h:pf27 a0 a1 a2 a3 a4=some r):Con Tryz.prog 27 [.obj (ereport_writer_r.cells a0),I64 a1,.agg [iR eItem a2.Kernel,iR eMove a2.Moves],.agg [iR (eM eAct) a3.Acts,iR (eM eI) a3.Gotos],iR eClash a4] [some (.obj [iR eTok r.f_g.Toks,iR eNon r.f_g.Nons,iR eProd_0 r.f_g.Prods,SS r.f_g.Pro,SS r.f_g.Tail,.self (5,96),.brow 5 (Lib.strCells r.f_b)]),none,none,none,none] (.tup []):=by
 unfold pf27 at h
 refine Con.go (N:=⟨128,[0]⟩) Tryz.func27 q q q q (W.fin ?_)
 refine W.st [(0,.obj (ereport_writer_r.cells a0)),(1,I64 a1),(2,.agg [iR eItem a2.Kernel,iR eMove a2.Moves]),(3,.agg [iR (eM eAct) a3.Acts,iR (eM eI) a3.Gotos]),(4,iR eClash a4)] ?_
 refine W.sq'<|W.rx [(0,_),(1,_),(4,_),(7,_),(8,_)] (Rv (O.box (.aggF q q) q)<|Rv (O.box (.aggF q q) q)<|Fi (tn5 q q q q q)) ?_
 refine Px.sq<|W.sq' ?_
 obtain ⟨x1,hx1,h⟩:=bnd h
 obtain ⟨x2,hx2,h⟩:=bnd h
 obtain ⟨x3,hx3,h⟩:=bnd h
 obtain ⟨x4,hx4,h⟩:=bnd h
 refine W.rd [[],[0],[0,1],[],[3],[3,4],[3,4,5],rn 0 7 []] [(0,_),(1,_),(4,_),(7,_),(8,_)] mixo (by kernel_rfl) (Dv 0 (O.mv (.obj q))<|Dv 1 (O.nlP (.ptr q))<|Dv 2 (O.fO q (.ptr q) fd96_1 q)<|Dv 3 (O.mv (.lit q))<|Dc 4 (PC.go (.cc (.lit q) .nil) (con29 a1 _ hx1) call29 q)<|Dv 5 (O.cat (.k q) (.lit q) hx2)<|Dv 6 (O.cat (.lit q) (.k q) hx3)<|DL.bp 7 (G2:=[(26,.tup [I64 (x3.size:Int),.lit .nilIface]),(0,.obj [iR eTok a0.f_g.Toks,iR eNon a0.f_g.Nons,iR eProd_0 a0.f_g.Prods,SS a0.f_g.Pro,SS a0.f_g.Tail,.self (5,96),.brow 5 (Lib.strCells x4)]),(1,I64 a1),(4,iR eClash a4),(7,.obj [iR eItem a2.Kernel,iR eMove a2.Moves]),(8,.obj [iR (eM eAct) a3.Acts,iR (eM eI) a3.Gotos])]) (EO.call q q (CallOk.at (G2:=[(1,I64 a1),(4,iR eClash a4),(7,.obj [iR eItem a2.Kernel,iR eMove a2.Moves]),(8,.obj [iR (eM eAct) a3.Acts,iR (eM eI) a3.Gotos])]) (A:=[]) (ys:=[(.string x3)]) (cs':=[iR eTok a0.f_g.Toks,iR eNon a0.f_g.Nons,iR eProd_0 a0.f_g.Prods,SS a0.f_g.Pro,SS a0.f_g.Tail,.self (5,96),.brow 5 (Lib.strCells x4)]) (k:=5) q q q q (con49a (k:=5) (e0:=96) q q li96_5 hx4) call49 (tn4 q q q q) q q (tn4 q q q q) .nil q)) q q q q (by kernel_rfl) (by kernel_rfl)<|DL.fin q q q (tn5 q q q q q)) ?_
 refine Px.sq<|W.sq' ?_
 refine W.sq' ?_
 obtain ⟨x5,hx5,h⟩:=bnd h
 refine W.rd [[],[0],[0,1],[0,1,2],[],[4],rn 0 6 [],rn 0 7 [],[]] [(0,_),(1,_),(4,_),(8,_),(33,_),(34,_),(35,_)] mixo (by kernel_rfl) (Dv 0 (O.mv (.obj q))<|Dv 1 (O.nlP (.ptr q))<|Dv 2 (O.fO q (.ptr q) fd96_0 q)<|Dv 3 (O.ldON (cs':=[iR eTok a0.f_g.Toks,iR eNon a0.f_g.Nons,iR eProd_0 a0.f_g.Prods,SS a0.f_g.Pro,SS a0.f_g.Tail]) q (.ptr q) at38 q q)<|Dv 4 (O.fO q (.obj q) fd100_0 q)<|Dv 5 (O.ldO (y:=iR eItem a2.Kernel) q (.ptr q) ct97 q q)<|Dc 6 (PC.go (.cc (.aggF q q) (.cc (.imm q) .nil)) (CF.go hx5) call50 q)<|Dv 7 (O.lenO (.own q) sl97)<|Dv 8 (O.mv (.k q))<|DL.fin q q q (tn7 q q q q q q q)) ?_
 refine Px.sq<|W.bk ?_
 obtain ⟨x7,hl,h⟩:=bnd h
 refine W.tr (G1:=[(0,.obj [iR eTok (((⟨a0.f_g,x4⟩:report_writer).f_g).Toks),iR eNon (((⟨a0.f_g,x4⟩:report_writer).f_g).Nons),iR eProd_0 (((⟨a0.f_g,x4⟩:report_writer).f_g).Prods),SS (((⟨a0.f_g,x4⟩:report_writer).f_g).Pro),SS (((⟨a0.f_g,x4⟩:report_writer).f_g).Tail),.self (5,96),.brow 5 (Lib.strCells ((⟨a0.f_g,x4⟩:report_writer).f_b))]),(1,_),(4,_),(8,_),(33,_),(34,_),(35,_)]) (tn7 q q q q q q q) ?_
 refine W.lp1 (s:=((⟨a0.f_g,x4⟩:report_writer),0)) (fun (s6:report_writer × Int)=>[(0,.obj (ereport_writer_r.cells s6.1)),(1,I64 a1),(4,iR eClash a4),(8,.obj [iR (eM eAct) a3.Acts,iR (eM eI) a3.Gotos]),(33,oR eItem x5),(34,I64 (x5.length:Int)),(35,I64 s6.2)]) 0 (fun (x7:report_writer)=>[(0,.obj (ereport_writer_r.cells x7)),(1,I64 a1),(4,iR eClash a4),(8,.obj [iR (eM eAct) a3.Acts,iR (eM eI) a3.Gotos])]) hl (fun s6 o h=>?_) ?_
 ·clear hl
  refine W.sq'<|W.rx [(0,_),(1,_),(4,_),(8,_),(33,_),(34,_),(35,_),(36,_)] (Rv (O.lss (.lit q) (.lit q))<|Fi (tn8 q q q q q q q q)) ?_
  refine Px.sq<|W.sq' ?_
  refine W.cnd q (fun hb9=>?_) (fun hb9=>?_)
  ·replace h:=cndT hb9 h
   refine W.sk<|Px.sq ?_
   refine W.sq'<|W.bk ?_
   refine W.sq' ?_
   obtain ⟨x10,hx10,h⟩:=bnd h
   refine W.rx [(0,_),(1,_),(4,_),(8,_),(11,_),(33,_),(34,_),(35,_)] (Rv (O.ixO (en:=eItem) q (.own q) (.lit q) sl97 hx10 q)<|Rv (O.ldEN (en:=eItem) (cs':=[I64 x10.Prod,I64 x10.Dot]) q (.ptr q) at112 hx10 q q)<|Rv (O.al (cs:=[I64 0,I64 0]) ze112 q q)<|RunL.sO (G2:=[(0,_),(1,_),(4,_),(8,_),(11,_),(33,_),(34,_),(35,_)]) (cs2:=[I64 x10.Prod,I64 x10.Dot]) q (.obj q) (.aggF q q) q sz112 q q q q (.n q q (.n q q (.n q q (.n q q (.b q (.n q q (.n q q (.n q q .nil))))))))<|Fi (tn8 q q q q q q q q)) ?_
   refine Px.sq ?_
   obtain ⟨x11,hx11,h⟩:=bnd h
   obtain ⟨x12,hx12,h⟩:=bnd h
   refine W.rd [[],[],[1],[1,2],[1,2,3],[],rn 1 5 [],rn 0 7 []] [(0,_),(1,_),(4,_),(8,_),(33,_),(34,_),(35,_)] mixo (by kernel_rfl) (Dv 0 (O.mv (.obj q))<|Dv 1 (O.mv (.obj q))<|Dv 2 (O.nlP (.ptr q))<|Dv 3 (O.fO q (.ptr q) fd96_0 q)<|Dv 4 (O.ldON (cs':=[iR eTok s6.1.f_g.Toks,iR eNon s6.1.f_g.Nons,iR eProd_0 s6.1.f_g.Prods,SS s6.1.f_g.Pro,SS s6.1.f_g.Tail]) q (.ptr q) at38 q q)<|Dv 5 (O.ldON (cs':=[I64 x10.Prod,I64 x10.Dot]) q (.obj q) at112 q q)<|Dc 6 (PC.go (.cc (.aggF q q) (.cc (.aggF q q) .nil)) (CF.go hx11) call52 q)<|DL.bp 7 (G2:=[(46,.tup []),(0,.obj [iR eTok x12.f_g.Toks,iR eNon x12.f_g.Nons,iR eProd_0 x12.f_g.Prods,SS x12.f_g.Pro,SS x12.f_g.Tail,.self (5,96),.brow 5 (Lib.strCells x12.f_b)]),(1,I64 a1),(4,iR eClash a4),(8,.obj [iR (eM eAct) a3.Acts,iR (eM eI) a3.Gotos]),(33,oR eItem x5),(34,I64 (x5.length:Int)),(35,I64 s6.2)]) (EO.call q q (CallOk.ln (G2:=[(1,I64 a1),(4,iR eClash a4),(8,.obj [iR (eM eAct) a3.Acts,iR (eM eI) a3.Gotos]),(33,oR eItem x5),(34,I64 (x5.length:Int)),(35,I64 s6.2)]) (A:=[]) (ys:=[.ptr ⟨0,[]⟩ 0,SS x11]) (args:=[.obj (ereport_writer_r.cells s6.1),SS x11]) (cs':=[iR eTok x12.f_g.Toks,iR eNon x12.f_g.Nons,iR eProd_0 x12.f_g.Prods,SS x12.f_g.Pro,SS x12.f_g.Tail,.self (5,96),.brow 5 (Lib.strCells x12.f_b)]) (k0:=0) q q q q (.b q (.n q .nil)) q (CF.go hx12) call51 (tn6 q q q q q q) q q (tn6 q q q q q q) .nil q)) q q q q (by kernel_rfl) (by kernel_rfl)<|DL.fin q q q (tn7 q q q q q q q)) ?_
   refine Px.bk ?_
   refine Px.sq<|W.rx [(0,_),(1,_),(4,_),(8,_),(33,_),(34,_),(35,_)] (Rv (O.add (.lit q) (.k q))<|RunL.re (G1:=[(0,_),(1,_),(4,_),(8,_),(33,_),(34,_),(47,_)]) (tn7 q q q q q q q)<|Vm q<|Fi (tn7 q q q q q q q)) ?_
   obtain rfl:=sm h
   exact Px.go (tn7 q q q q q q q)
  ·replace h:=cndF hb9 h
   refine W.xi ?_
   refine Px.sqE ?_
   obtain rfl:=sm h
   exact Px.x1 (tn4 q q q q)
 refine Px.bkH ?_
 refine Px.sq<|W.sq' ?_
 refine W.sq'<|W.rx [(0,_),(1,_),(8,_),(48,_),(49,_),(50,_)] (Rv (O.mv (.imm q))<|Rv (O.lenI (.imm q) sl46)<|Rv (O.mv (.k q))<|Fi (tn6 q q q q q q)) ?_
 refine Px.sq<|W.bk ?_
 obtain ⟨x14,hl,h⟩:=bnd h
 refine W.tr (G1:=[(0,_),(1,_),(8,_),(48,_),(49,_),(50,_)]) (tn6 q q q q q q) ?_
 refine W.lp1 (s:=(x7,0)) (fun (s13:report_writer × Int)=>[(0,.obj (ereport_writer_r.cells s13.1)),(1,I64 a1),(8,.obj [iR (eM eAct) a3.Acts,iR (eM eI) a3.Gotos]),(48,iR eClash a4),(49,I64 (a4.length:Int)),(50,I64 s13.2)]) 2 (fun (x14:report_writer)=>[(0,.obj (ereport_writer_r.cells x14)),(1,I64 a1),(8,.obj [iR (eM eAct) a3.Acts,iR (eM eI) a3.Gotos])]) hl (fun s13 o h=>?_) ?_
 ·clear hl
  refine W.sq'<|W.rx [(0,_),(1,_),(8,_),(48,_),(49,_),(50,_),(51,_)] (Rv (O.lss (.lit q) (.lit q))<|Fi (tn7 q q q q q q q)) ?_
  refine Px.sq<|W.sq' ?_
  refine W.cnd q (fun hb16=>?_) (fun hb16=>?_)
  ·replace h:=cndT hb16 h
   refine W.sk<|Px.sq ?_
   refine W.sq' ?_
   obtain ⟨j17,hj,h⟩:=bnd h
   refine W.jn [(0,.obj (ereport_writer_r.cells j17)),(1,I64 a1),(8,.obj [iR (eM eAct) a3.Acts,iR (eM eI) a3.Gotos]),(48,iR eClash a4),(49,I64 (a4.length:Int)),(50,I64 s13.2)] ?_ ?_
   ·clear h; have h:=hj; clear hj
    refine W.bk<|W.sq' ?_
    obtain ⟨x18,hx18,h⟩:=bnd h
    refine W.rx [(0,_),(1,_),(8,_),(13,_),(48,_),(49,_),(50,_)] (Rv (O.ixI (.imm q) (.lit q) sl46 hx18)<|Rv (O.ldIN (cs':=[I64 x18.State,I64 x18.Tok,I64 x18.Keep,I64 x18.Drop]) (.iptr q) at89 q q)<|Rv (O.al (cs:=[I64 0,I64 0,I64 0,I64 0]) ze89 q q)<|RunL.sO (G2:=[(0,_),(1,_),(8,_),(13,_),(48,_),(49,_),(50,_)]) (cs2:=[I64 x18.State,I64 x18.Tok,I64 x18.Keep,I64 x18.Drop]) q (.obj q) (.aggF q q) q sz89 q q q q (.n q q (.n q q (.n q q (.b q (.n q q (.n q q (.n q q .nil)))))))<|Fi (tn7 q q q q q q q)) ?_
    refine Px.sq<|W.sq' ?_
    refine W.rx [(0,_),(1,_),(8,_),(13,_),(48,_),(49,_),(50,_),(57,_)] (Rv (O.fO q (.obj q) fd89_0 q)<|Rv (O.ldO (y:=I64 x18.State) q (.ptr q) ct3 q q)<|Vm q<|Rv (O.eql (.lit q) (.lit q))<|Fi (tn8 q q q q q q q q)) ?_
    refine Px.sq ?_
    obtain ⟨j19,hj,h⟩:=bnd h
    refine W.jn [(0,.obj (ereport_writer_r.cells j19)),(1,I64 a1),(8,.obj [iR (eM eAct) a3.Acts,iR (eM eI) a3.Gotos]),(48,iR eClash a4),(49,I64 (a4.length:Int)),(50,I64 s13.2)] ?_ ?_
    ·clear h; have h:=hj; clear hj
     refine W.cnd q (fun hb20=>?_) (fun hb20=>?_)
     ·replace h:=cndT hb20 h
      obtain ⟨x21,hx21,h⟩:=bnd h
      obtain ⟨x22,hx22,h⟩:=bnd h
      obtain ⟨x23,hx23,h⟩:=bnd h
      obtain ⟨x24,hx24,h⟩:=bnd h
      obtain ⟨x25,hx25,h⟩:=bnd h
      obtain ⟨x26,hx26,h⟩:=bnd h
      obtain ⟨x27,hx27,h⟩:=bnd h
      refine W.rd [[],[],[1],[1,2],[1,2,3],[],[5],rn 1 6 [],rn 1 7 [],rn 1 8 [],[],[10],rn 1 7 [10,11],rn 1 12 [],rn 1 13 [],rn 0 15 []] [(0,_),(1,_),(8,_),(48,_),(49,_),(50,_)] mixo (by kernel_rfl) (Dv 0 (O.mv (.obj q))<|Dv 1 (O.mv (.obj q))<|Dv 2 (O.nlP (.ptr q))<|Dv 3 (O.fO q (.ptr q) fd96_0 q)<|Dv 4 (O.ldON (cs':=[iR eTok s13.1.f_g.Toks,iR eNon s13.1.f_g.Nons,iR eProd_0 s13.1.f_g.Prods,SS s13.1.f_g.Pro,SS s13.1.f_g.Tail]) q (.ptr q) at38 q q)<|Dv 5 (O.fO q (.obj q) fd89_1 q)<|Dv 6 (O.ldO (y:=I64 x18.Tok) q (.ptr q) ct3 q q)<|Dc 7 (PC.go (.cc (.aggF q q) (.cc (.lit q) .nil)) (CF.go hx21) call53 q)<|Dv 8 (O.cat (.k q) (.lit q) hx22)<|Dv 9 (O.cat (.lit q) (.k q) hx23)<|Dv 10 (O.fO q (.obj q) fd89_3 q)<|Dv 11 (O.ldO (y:=I64 x18.Drop) q (.ptr q) ct3 q q)<|Dc 12 (PC.go (.cc (.lit q) .nil) (con29 x18.Drop _ hx24) call29 q)<|Dv 13 (O.cat (.lit q) (.lit q) hx25)<|Dv 14 (O.cat (.lit q) (.k q) hx26)<|DL.bp 15 (G2:=[(73,.tup []),(0,.obj [iR eTok x27.f_g.Toks,iR eNon x27.f_g.Nons,iR eProd_0 x27.f_g.Prods,SS x27.f_g.Pro,SS x27.f_g.Tail,.self (5,96),.brow 5 (Lib.strCells x27.f_b)]),(1,I64 a1),(8,.obj [iR (eM eAct) a3.Acts,iR (eM eI) a3.Gotos]),(48,iR eClash a4),(49,I64 (a4.length:Int)),(50,I64 s13.2)]) (EO.call q q (CallOk.ln (G2:=[(1,I64 a1),(8,.obj [iR (eM eAct) a3.Acts,iR (eM eI) a3.Gotos]),(48,iR eClash a4),(49,I64 (a4.length:Int)),(50,I64 s13.2)]) (A:=[]) (ys:=[.ptr ⟨0,[]⟩ 0,SS x26]) (args:=[.obj (ereport_writer_r.cells s13.1),SS x26]) (cs':=[iR eTok x27.f_g.Toks,iR eNon x27.f_g.Nons,iR eProd_0 x27.f_g.Prods,SS x27.f_g.Pro,SS x27.f_g.Tail,.self (5,96),.brow 5 (Lib.strCells x27.f_b)]) (k0:=0) q q q q (.b q (.n q .nil)) q (CF.go hx27) call51 (tn5 q q q q q) q q (tn5 q q q q q) .nil q)) q q q q (by kernel_rfl) (by kernel_rfl)<|DL.fin q q q (tn6 q q q q q q)) ?_
      obtain rfl:=sm h
      exact Px.jn (tn6 q q q q q q)
     ·replace h:=cndF hb20 h
      refine W.sk ?_
      obtain rfl:=sm h
      exact Px.jn (tn6 q q q q q q)
    refine Px.bk ?_
    obtain rfl:=sm h
    exact Px.jn (tn6 q q q q q q)
   refine Px.sq<|W.rx [(0,_),(1,_),(8,_),(48,_),(49,_),(50,_)] (Rv (O.add (.lit q) (.k q))<|RunL.re (G1:=[(0,_),(1,_),(8,_),(48,_),(49,_),(74,_)]) (tn6 q q q q q q)<|Vm q<|Fi (tn6 q q q q q q)) ?_
   obtain rfl:=sm h
   exact Px.go (tn6 q q q q q q)
  ·replace h:=cndF hb16 h
   refine W.xi ?_
   refine Px.sqE ?_
   obtain rfl:=sm h
   exact Px.x1 (tn3 q q q)
 refine Px.bkH ?_
 refine Px.sq<|W.sq' ?_
 refine W.sq' ?_
 obtain ⟨x28,hx28,h⟩:=bnd h
 refine W.rx [(0,_),(1,_),(8,_),(79,_),(80,_),(81,_)] (Rv (O.fO q (.obj q) fd45_0 q)<|Rv (O.ldO (y:=iR (eM eAct) a3.Acts) q (.ptr q) ct43 q q)<|Vm q<|Rv (O.ixI (.imm q) (.lit q) sl43 hx28)<|Rv (O.ldI (x:=iR eAct x28) (.iptr q) ct86 q)<|Rv (O.lenI (.imm q) sl86)<|Rv (O.mv (.k q))<|Fi (tn6 q q q q q q)) ?_
 refine Px.sq<|W.bk ?_
 obtain ⟨x30,hl,h⟩:=bnd h
 refine W.tr (G1:=[(0,_),(1,_),(8,_),(79,_),(80,_),(81,_)]) (tn6 q q q q q q) ?_
 refine W.lp1 (s:=(x14,0)) (fun (s29:report_writer × Int)=>[(0,.obj (ereport_writer_r.cells s29.1)),(1,I64 a1),(8,.obj [iR (eM eAct) a3.Acts,iR (eM eI) a3.Gotos]),(79,iR eAct x28),(80,I64 (x28.length:Int)),(81,I64 s29.2)]) 4 (fun (x30:report_writer)=>[(0,.obj (ereport_writer_r.cells x30)),(1,I64 a1),(8,.obj [iR (eM eAct) a3.Acts,iR (eM eI) a3.Gotos])]) hl (fun s29 o h=>?_) ?_
 ·clear hl
  refine W.sq'<|W.rx [(0,_),(1,_),(8,_),(79,_),(80,_),(81,_),(82,_)] (Rv (O.lss (.lit q) (.lit q))<|Fi (tn7 q q q q q q q)) ?_
  refine Px.sq<|W.sq' ?_
  refine W.cnd q (fun hb32=>?_) (fun hb32=>?_)
  ·replace h:=cndT hb32 h
   refine W.sk<|Px.sq ?_
   refine W.sq' ?_
   obtain ⟨j33,hj,h⟩:=bnd h
   refine W.jn [(0,.obj (ereport_writer_r.cells j33)),(1,I64 a1),(8,.obj [iR (eM eAct) a3.Acts,iR (eM eI) a3.Gotos]),(79,iR eAct x28),(80,I64 (x28.length:Int)),(81,I64 s29.2)] ?_ ?_
   ·clear h; have h:=hj; clear hj
    refine W.bk<|W.sq' ?_
    obtain ⟨x34,hx34,h⟩:=bnd h
    refine W.rx [(0,_),(1,_),(8,_),(14,_),(15,_),(79,_),(80,_),(81,_)] (Vm q<|Rv (O.ixI (.imm q) (.lit q) sl86 hx34)<|Rv (O.ldIN (cs':=[I64 x34.Kind,I64 x34.N]) (.iptr q) at83 q q)<|Rv (O.al (cs:=[I64 0,I64 0]) ze83 q q)<|Va q<|RunL.sO (G2:=[(0,_),(1,_),(8,_),(14,_),(15,_),(79,_),(80,_),(81,_)]) (cs2:=[I64 x34.Kind,I64 x34.N]) q (.obj q) (.aggF q q) q sz83 q q q q (.n q q (.n q q (.n q q (.n q q (.b q (.n q q (.n q q (.n q q .nil))))))))<|Fi (tn8 q q q q q q q q)) ?_
    refine Px.sq<|W.sq' ?_
    obtain ⟨x35,hx35,h⟩:=bnd h
    refine W.rx [(0,_),(1,_),(8,_),(14,_),(16,_),(79,_),(80,_),(81,_)] (Rv (O.ldON (cs':=[I64 x34.Kind,I64 x34.N]) q (.obj q) at83 q q)<|Rc (PC.go (.cc (.aggF q q) .nil) (CF.go hx35) call54 q)<|Va q<|Fi (tn8 q q q q q q q q)) ?_
    refine Px.sq<|W.sq' ?_
    refine W.rx [(0,_),(1,_),(8,_),(14,_),(16,_),(79,_),(80,_),(81,_),(89,_)] (Vm q<|Rv (O.neS (.lit q) (.k q))<|Fi (tn9 q q q q q q q q q)) ?_
    refine Px.sq ?_
    obtain ⟨j36,hj,h⟩:=bnd h
    refine W.jn [(0,.obj (ereport_writer_r.cells j36)),(1,I64 a1),(8,.obj [iR (eM eAct) a3.Acts,iR (eM eI) a3.Gotos]),(79,iR eAct x28),(80,I64 (x28.length:Int)),(81,I64 s29.2)] ?_ ?_
    ·clear h; have h:=hj; clear hj
     refine W.cnd q (fun hb37=>?_) (fun hb37=>?_)
     ·replace h:=cndT hb37 h
      obtain ⟨x38,hx38,h⟩:=bnd h
      obtain ⟨x39,hx39,h⟩:=bnd h
      obtain ⟨x40,hx40,h⟩:=bnd h
      refine W.rx [(0,_),(1,_),(8,_),(79,_),(80,_),(81,_)] (Rv (O.mv (.obj q))<|Rv (O.mv (.obj q))<|Rv (O.nlP (.ptr q))<|Rv (O.fO q (.ptr q) fd96_0 q)<|Rv (O.ldON (cs':=[iR eTok s29.1.f_g.Toks,iR eNon s29.1.f_g.Nons,iR eProd_0 s29.1.f_g.Prods,SS s29.1.f_g.Pro,SS s29.1.f_g.Tail]) q (.ptr q) at38 q q)<|Vm q<|Rc (PC.go (.cc (.aggF q q) (.cc (.lit q) .nil)) (CF.go hx38) call53 q)<|Vm q<|Rv (O.cat (.lit q) (.lit q) hx39)<|RunL.ef q (EO.call q q (CallOk.ln (G2:=[(1,I64 a1),(8,.obj [iR (eM eAct) a3.Acts,iR (eM eI) a3.Gotos]),(79,iR eAct x28),(80,I64 (x28.length:Int)),(81,I64 s29.2)]) (A:=[]) (ys:=[.ptr ⟨0,[]⟩ 0,SS x39]) (args:=[.obj (ereport_writer_r.cells s29.1),SS x39]) (cs':=[iR eTok x40.f_g.Toks,iR eNon x40.f_g.Nons,iR eProd_0 x40.f_g.Prods,SS x40.f_g.Pro,SS x40.f_g.Tail,.self (5,96),.brow 5 (Lib.strCells x40.f_b)]) (k0:=0) q q q q (.b q (.n q .nil)) q (CF.go hx40) call51 (tn5 q q q q q) q q (tn5 q q q q q) .nil q))<|Fi (tn6 q q q q q q)) ?_
      obtain rfl:=sm h
      exact Px.jn (tn6 q q q q q q)
     ·replace h:=cndF hb37 h
      refine W.sk ?_
      obtain rfl:=sm h
      exact Px.jn (tn6 q q q q q q)
    refine Px.bk ?_
    obtain rfl:=sm h
    exact Px.jn (tn6 q q q q q q)
   refine Px.sq<|W.rx [(0,_),(1,_),(8,_),(79,_),(80,_),(81,_)] (Rv (O.add (.lit q) (.k q))<|RunL.re (G1:=[(0,_),(1,_),(8,_),(79,_),(80,_),(100,_)]) (tn6 q q q q q q)<|Vm q<|Fi (tn6 q q q q q q)) ?_
   obtain rfl:=sm h
   exact Px.go (tn6 q q q q q q)
  ·replace h:=cndF hb32 h
   refine W.xi ?_
   refine Px.sqE ?_
   obtain rfl:=sm h
   exact Px.x1 (tn3 q q q)
 refine Px.bkH ?_
 refine Px.sq<|W.sq' ?_
 obtain ⟨x41,hx41,h⟩:=bnd h
 refine W.rx [(0,_),(105,_),(106,_),(107,_)] (Rv (O.fO q (.obj q) fd45_1 q)<|Rv (O.ldO (y:=iR (eM eI) a3.Gotos) q (.ptr q) ct26 q q)<|Vm q<|Rv (O.ixI (.imm q) (.lit q) sl26 hx41)<|Rv (O.ldI (x:=iR eI x41) (.iptr q) ct27 q)<|Rv (O.lenI (.imm q) sl27)<|Rv (O.mv (.k q))<|Fi (tn4 q q q q)) ?_
 refine Px.sq<|W.bk ?_
 obtain ⟨x43,hl,h⟩:=bnd h
 refine W.tr (G1:=[(0,_),(105,_),(106,_),(107,_)]) (tn4 q q q q) ?_
 refine W.lp1 (s:=(x30,0)) (fun (s42:report_writer × Int)=>[(0,.obj (ereport_writer_r.cells s42.1)),(105,iR eI x41),(106,I64 (x41.length:Int)),(107,I64 s42.2)]) 6 (fun (x43:report_writer)=>[(0,.obj (ereport_writer_r.cells x43))]) hl (fun s42 o h=>?_) ?_
 ·clear hl
  refine W.sq'<|W.rx [(0,_),(105,_),(106,_),(107,_),(108,_)] (Rv (O.lss (.lit q) (.lit q))<|Fi (tn5 q q q q q)) ?_
  refine Px.sq<|W.sq' ?_
  refine W.cnd q (fun hb45=>?_) (fun hb45=>?_)
  ·replace h:=cndT hb45 h
   refine W.sk<|Px.sq ?_
   refine W.sq' ?_
   obtain ⟨j46,hj,h⟩:=bnd h
   refine W.jn [(0,.obj (ereport_writer_r.cells j46)),(105,iR eI x41),(106,I64 (x41.length:Int)),(107,I64 s42.2)] ?_ ?_
   ·clear h; have h:=hj; clear hj
    refine W.bk<|W.sq' ?_
    obtain ⟨x47,hx47,h⟩:=bnd h
    refine W.rx [(0,_),(17,_),(18,_),(105,_),(106,_),(107,_)] (Vm q<|Rv (O.ixI (.imm q) (.lit q) sl27 hx47)<|Rv (O.ldI (x:=I64 x47) (.iptr q) ct3 q)<|Va q<|Va q<|Fi (tn6 q q q q q q)) ?_
    refine Px.sq<|W.sq' ?_
    refine W.rx [(0,_),(17,_),(18,_),(105,_),(106,_),(107,_),(113,_)] (Vm q<|Rv (O.geq (.lit q) (.k q))<|Fi (tn7 q q q q q q q)) ?_
    refine Px.sq ?_
    obtain ⟨j48,hj,h⟩:=bnd h
    refine W.jn [(0,.obj (ereport_writer_r.cells j48)),(105,iR eI x41),(106,I64 (x41.length:Int)),(107,I64 s42.2)] ?_ ?_
    ·clear h; have h:=hj; clear hj
     refine W.cnd q (fun hb49=>?_) (fun hb49=>?_)
     ·replace h:=cndT hb49 h
      obtain ⟨x50,hx50,h⟩:=bnd h
      obtain ⟨x51,hx51,h⟩:=bnd h
      obtain ⟨x52,hx52,h⟩:=bnd h
      obtain ⟨x53,hx53,h⟩:=bnd h
      obtain ⟨x54,hx54,h⟩:=bnd h
      refine W.rx [(0,_),(105,_),(106,_),(107,_)] (Rv (O.mv (.obj q))<|Rv (O.mv (.obj q))<|Rv (O.nlP (.ptr q))<|Rv (O.fO q (.ptr q) fd96_0 q)<|Rv (O.ldON (cs':=[iR eTok s42.1.f_g.Toks,iR eNon s42.1.f_g.Nons,iR eProd_0 s42.1.f_g.Prods,SS s42.1.f_g.Pro,SS s42.1.f_g.Tail]) q (.ptr q) at38 q q)<|Vm q<|Rv (O.add (.k q) (.lit q))<|Rc (PC.go (.cc (.aggF q q) (.cc (.lit q) .nil)) (CF.go hx50) call53 q)<|Rv (O.cat (.lit q) (.k q) hx51)<|Vm q<|Rc (PC.go (.cc (.lit q) .nil) (con29 x47 _ hx52) call29 q)<|Rv (O.cat (.lit q) (.lit q) hx53)<|RunL.ef q (EO.call q q (CallOk.ln (G2:=[(105,iR eI x41),(106,I64 (x41.length:Int)),(107,I64 s42.2)]) (A:=[]) (ys:=[.ptr ⟨0,[]⟩ 0,SS x53]) (args:=[.obj (ereport_writer_r.cells s42.1),SS x53]) (cs':=[iR eTok x54.f_g.Toks,iR eNon x54.f_g.Nons,iR eProd_0 x54.f_g.Prods,SS x54.f_g.Pro,SS x54.f_g.Tail,.self (5,96),.brow 5 (Lib.strCells x54.f_b)]) (k0:=0) q q q q (.b q (.n q .nil)) q (CF.go hx54) call51 (tn3 q q q) q q (tn3 q q q) .nil q))<|Fi (tn4 q q q q)) ?_
      obtain rfl:=sm h
      exact Px.jn (tn4 q q q q)
     ·replace h:=cndF hb49 h
      refine W.sk ?_
      obtain rfl:=sm h
      exact Px.jn (tn4 q q q q)
    refine Px.bk ?_
    obtain rfl:=sm h
    exact Px.jn (tn4 q q q q)
   refine Px.sq<|W.rx [(0,_),(105,_),(106,_),(107,_)] (Rv (O.add (.lit q) (.k q))<|RunL.re (G1:=[(0,_),(105,_),(106,_),(127,_)]) (tn4 q q q q)<|Vm q<|Fi (tn4 q q q q)) ?_
   obtain rfl:=sm h
   exact Px.go (tn4 q q q q)
  ·replace h:=cndF hb45 h
   refine W.xi ?_
   refine Px.sqE ?_
   obtain rfl:=sm h
   exact Px.x1 (.n q .nil)
 refine Px.bkH ?_
 obtain rfl:=sm h
 exact Px.fin (Fin.ro .nil q (ode (by kernel_rfl)) (.so q q (.no (.no (.no (.no .nil))))) q (.inl q))
instance con27 {a0:report_writer}{a1:Int}{a2:State}{a3:Dense}{a4:(List Clash)}{r:report_writer}:CF Tryz.prog 27 (pf27 a0 a1 a2 a3 a4=some r) [.obj (ereport_writer_r.cells a0),I64 a1,.agg [iR eItem a2.Kernel,iR eMove a2.Moves],.agg [iR (eM eAct) a3.Acts,iR (eM eI) a3.Gotos],iR eClash a4] [some (.obj [iR eTok r.f_g.Toks,iR eNon r.f_g.Nons,iR eProd_0 r.f_g.Prods,SS r.f_g.Pro,SS r.f_g.Tail,.self (5,96),.brow 5 (Lib.strCells r.f_b)]),none,none,none,none] (.tup []):=⟨con27l a0 a1 a2 a3 a4 _⟩
theorem con10l (a0:Grammar) (a1:(List State)) (a2:Dense) (a3:(List Clash)) (r:ByteArray) (h:pf10 a0 a1 a2 a3=some r):Con Tryz.prog 10 [.agg (eGrammar_0.cells a0),iR eState_0 a1,.agg [iR (eM eAct) a2.Acts,iR (eM eI) a2.Gotos],iR eClash a3] [none,none,none,none] (SS r):=by
 unfold pf10 at h
 refine Con.go (N:=⟨82,[]⟩) Tryz.func10 q q q q (W.fin ?_)
 refine W.st [(0,.agg (eGrammar_0.cells a0)),(1,iR eState_0 a1),(2,.agg [iR (eM eAct) a2.Acts,iR (eM eI) a2.Gotos]),(3,iR eClash a3)] ?_
 refine W.sq'<|W.rx [(1,_),(3,_),(4,_),(6,_)] (Rv (O.box (.aggF q q) q)<|Rv (O.box (.aggF q q) q)<|Vk q<|Fi (tn4 q q q q)) ?_
 refine Px.sq<|W.sq' ?_
 refine W.rx [(1,_),(3,_),(4,_),(6,_),(9,.ptr ⟨19,[]⟩ 0),(19,_)] (Rv (O.ldON (cs':=[iR eTok a0.Toks,iR eNon a0.Nons,iR eProd_0 a0.Prods,SS a0.Pro,SS a0.Tail]) q (.obj q) at38 q q)<|Rv (O.bu (cs:=[iR eTok a0.Toks,iR eNon a0.Nons,iR eProd_0 a0.Prods,SS a0.Pro,SS a0.Tail,.lit (.pointer none),.nils]) sc96 ze96 q q q)<|Rv (O.bxB (cs':=[iR eTok a0.Toks,iR eNon a0.Nons,iR eProd_0 a0.Prods,SS a0.Pro,SS a0.Tail,.self (5,96),.brow 5 (Lib.strCells S0)]) (t:=5) (k:=5) (.agg q q) q q q q)<|Rv (O.az (.obj q))<|Fi (.n q (.n q (.n q (.n q (.q q q q (.n q .nil))))))) ?_
 refine Px.sq<|W.sq' ?_
 refine W.sq'<|W.rx [(1,_),(3,_),(4,_),(6,_),(9,.ptr ⟨19,[]⟩ 0),(19,_),(20,_),(21,_),(22,_)] (Rv (O.mv (.imm q))<|Rv (O.lenI (.imm q) sl39)<|Rv (O.mv (.k q))<|Fi (.n q (.n q (.n q (.n q (.q q q q (tn4 q q q q))))))) ?_
 refine Px.sq<|W.bk ?_
 obtain ⟨x2,hl,h⟩:=bnd h
 refine W.tr (G1:=[(1,_),(3,_),(4,_),(6,_),(9,.ptr ⟨19,[]⟩ 0),(19,.obj [iR eTok (((⟨a0,S0⟩:report_writer).f_g).Toks),iR eNon (((⟨a0,S0⟩:report_writer).f_g).Nons),iR eProd_0 (((⟨a0,S0⟩:report_writer).f_g).Prods),SS (((⟨a0,S0⟩:report_writer).f_g).Pro),SS (((⟨a0,S0⟩:report_writer).f_g).Tail),.self (5,96),.brow 5 (Lib.strCells ((⟨a0,S0⟩:report_writer).f_b))]),(20,_),(21,_),(22,_)]) (.n q (.n q (.n q (.n q (.q q q q (tn4 q q q q)))))) ?_
 refine W.lp1 (s:=((⟨a0,S0⟩:report_writer),0)) (fun (s1:report_writer × Int)=>[(1,iR eState_0 a1),(3,iR eClash a3),(4,.obj (eGrammar_0.cells a0)),(6,.obj [iR (eM eAct) a2.Acts,iR (eM eI) a2.Gotos]),(9,.ptr ⟨19,[]⟩ 0),(19,.obj (ereport_writer_r.cells s1.1)),(20,iR eState_0 a1),(21,I64 (a1.length:Int)),(22,I64 s1.2)]) 0 (fun (x2:report_writer)=>[(1,iR eState_0 a1),(3,iR eClash a3),(4,.obj (eGrammar_0.cells a0)),(9,.ptr ⟨19,[]⟩ 0),(19,.obj (ereport_writer_r.cells x2))]) hl (fun s1 o h=>?_) ?_
 ·clear hl
  refine W.sq'<|W.rx [(1,_),(3,_),(4,_),(6,_),(9,.ptr ⟨19,[]⟩ 0),(19,_),(20,_),(21,_),(22,_),(23,_)] (Rv (O.lss (.lit q) (.lit q))<|Fi (.n q (.n q (.n q (.n q (.q q q q (tn5 q q q q q))))))) ?_
  refine Px.sq<|W.sq' ?_
  refine W.cnd q (fun hb4=>?_) (fun hb4=>?_)
  ·replace h:=cndT hb4 h
   refine W.sk<|Px.sq ?_
   refine W.sq'<|W.bk ?_
   refine W.sq' ?_
   obtain ⟨x5,hx5,h⟩:=bnd h
   refine W.rx [(1,_),(3,_),(4,_),(6,_),(9,.ptr ⟨19,[]⟩ 0),(10,_),(11,_),(19,_),(20,_),(21,_),(22,_)] (Vm q<|Rv (O.ixI (.imm q) (.lit q) sl39 hx5)<|Rv (O.ldIN (cs':=[iR eItem x5.Kernel,iR eMove x5.Moves]) (.iptr q) at100 q q)<|Rv (O.al (cs:=[.nils,.nils]) ze100 q q)<|Va q<|RunL.sO (G2:=[(1,_),(3,_),(4,_),(6,_),(9,.ptr ⟨19,[]⟩ 0),(10,_),(11,_),(19,_),(20,_),(21,_),(22,_)]) (cs2:=[iR eItem x5.Kernel,iR eMove x5.Moves]) q (.obj q) (.aggF q q) q sz100 q q q q (.n q q (.n q q (.n q q (.n q q (.p q q q q q q (.n q q (.b q (.n q q (.n q q (.n q q (.n q q .nil)))))))))))<|Fi (.n q (.n q (.n q (.n q (.q q q q (tn6 q q q q q q))))))) ?_
   refine Px.sq ?_
   obtain ⟨x6,hx6,h⟩:=bnd h
   refine W.rx [(1,_),(3,_),(4,_),(6,_),(9,.ptr ⟨19,[]⟩ 0),(19,_),(20,_),(21,_),(22,_)] (Rv (O.mv (.ptr q))<|Vm q<|Rv (O.ldON (cs':=[iR eItem x5.Kernel,iR eMove x5.Moves]) q (.obj q) at100 q q)<|Rv (O.ldON (cs':=[iR (eM eAct) a2.Acts,iR (eM eI) a2.Gotos]) q (.obj q) at45 q q)<|Rv (O.mv (.imm q))<|RunL.ef q (EO.call q q (CallOk.ln (G2:=[(1,iR eState_0 a1),(3,iR eClash a3),(4,.obj (eGrammar_0.cells a0)),(6,.obj [iR (eM eAct) a2.Acts,iR (eM eI) a2.Gotos]),(20,iR eState_0 a1),(21,I64 (a1.length:Int)),(22,I64 s1.2)]) (A:=[(9,.ptr ⟨19,[]⟩ 0)]) (ys:=[.ptr ⟨19,[]⟩ 0,I64 s1.2,.agg [iR eItem x5.Kernel,iR eMove x5.Moves],.agg [iR (eM eAct) a2.Acts,iR (eM eI) a2.Gotos],iR eClash a3]) (args:=[.obj (ereport_writer_r.cells s1.1),I64 s1.2,.agg [iR eItem x5.Kernel,iR eMove x5.Moves],.agg [iR (eM eAct) a2.Acts,iR (eM eI) a2.Gotos],iR eClash a3]) (cs':=[iR eTok x6.f_g.Toks,iR eNon x6.f_g.Nons,iR eProd_0 x6.f_g.Prods,SS x6.f_g.Pro,SS x6.f_g.Tail,.self (5,96),.brow 5 (Lib.strCells x6.f_b)]) (k0:=0) q q q q (.b q (.n q (.n q (.n q (.n q .nil))))) q (CF.go hx6) call27 (tn7 q q q q q q q) q q (tn7 q q q q q q q) (.c q q q q .nil) q))<|Fi (.n q (.n q (.n q (.n q (.q q q q (tn4 q q q q))))))) ?_
   refine Px.bk ?_
   refine Px.sq<|W.rx [(1,_),(3,_),(4,_),(6,_),(9,.ptr ⟨19,[]⟩ 0),(19,_),(20,_),(21,_),(22,_)] (Rv (O.add (.lit q) (.k q))<|RunL.re (G1:=[(1,_),(3,_),(4,_),(6,_),(9,.ptr ⟨19,[]⟩ 0),(19,_),(20,_),(21,_),(33,_)]) (.n q (.n q (.n q (.n q (.q q q q (tn4 q q q q))))))<|Vm q<|Fi (.n q (.n q (.n q (.n q (.q q q q (tn4 q q q q))))))) ?_
   obtain rfl:=sm h
   exact Px.go (.n q (.n q (.n q (.n q (.q q q q (tn4 q q q q))))))
  ·replace h:=cndF hb4 h
   refine W.xi ?_
   refine Px.sqE ?_
   obtain rfl:=sm h
   exact Px.x1 (.n q (.n q (.n q (.q q q q (.n q .nil)))))
 refine Px.bkH ?_
 refine Px.sq<|W.sq' ?_
 obtain ⟨x7,hx7,h⟩:=bnd h
 refine W.rx [(1,_),(4,_),(9,.ptr ⟨19,[]⟩ 0),(12,_),(13,_),(19,_)] (Rv (O.mv (.imm q))<|Rc (PC.go (.cc (.imm q) .nil) (CF.go hx7) call28 q)<|Rv (O.mv (.tupF q q))<|Rv (O.ex (y:=I64 x7.1) q q q)<|Rv (O.ex (y:=I64 x7.2) q q q)<|Va q<|Va q<|Fi (.n q (.n q (.q q q q (tn3 q q q))))) ?_
 refine Px.sq<|W.sq' ?_
 refine W.rx [(1,_),(4,_),(9,.ptr ⟨19,[]⟩ 0),(12,_),(13,_),(14,_),(19,_)] (Rv (O.az .knil)<|Fi (.n q (.n q (.q q q q (tn4 q q q q))))) ?_
 refine Px.sq<|W.sq' ?_
 refine W.sq'<|W.rx [(9,.ptr ⟨19,[]⟩ 0),(14,_),(19,_),(58,_),(59,_),(60,_)] (Rv (O.fO q (.obj q) fd38_0 q)<|Rv (O.ldO (y:=iR eTok a0.Toks) q (.ptr q) ct34 q q)<|Rv (O.lenI (.imm q) sl34)<|Rv (O.bu (cs:=[I64 (a0.Toks.length:Int),SS ({ data:=#[32,116,111,107,101,110,115] })]) sc105 ze105 q q q)<|Rv (O.fO q (.obj q) fd38_1 q)<|Rv (O.ldO (y:=iR eNon a0.Nons) q (.ptr q) ct35 q q)<|Rv (O.lenI (.imm q) sl35)<|Rv (O.bu (cs:=[I64 (a0.Nons.length:Int),SS ({ data:=#[32,110,111,110,116,101,114,109,105,110,97,108,115] })]) sc105 ze105 q q q)<|Rv (O.fO q (.obj q) fd38_2 q)<|Rv (O.ldO (y:=iR eProd_0 a0.Prods) q (.ptr q) ct36 q q)<|Rv (O.lenI (.imm q) sl36)<|Rv (O.bu (cs:=[I64 (a0.Prods.length:Int),SS ({ data:=#[32,112,114,111,100,117,99,116,105,111,110,115] })]) sc105 ze105 q q q)<|Rv (O.mv (.imm q))<|Rv (O.lenI (.imm q) sl39)<|Rv (O.bu (cs:=[I64 (a1.length:Int),SS ({ data:=#[32,115,116,97,116,101,115] })]) sc105 ze105 q q q)<|Vm q<|Rv (O.bu (cs:=[I64 x7.1,SS ({ data:=#[32,115,104,105,102,116,47,114,101,100,117,99,101] })]) sc105 ze105 q q q)<|Vm q<|Rv (O.bu (cs:=[I64 x7.2,SS ({ data:=#[32,114,101,100,117,99,101,47,114,101,100,117,99,101] })]) sc105 ze105 q q q)<|Rv (O.bs (ys:=[.agg [I64 (a0.Toks.length:Int),SS ({ data:=#[32,116,111,107,101,110,115] })],.agg [I64 (a0.Nons.length:Int),SS ({ data:=#[32,110,111,110,116,101,114,109,105,110,97,108,115] })],.agg [I64 (a0.Prods.length:Int),SS ({ data:=#[32,112,114,111,100,117,99,116,105,111,110,115] })],.agg [I64 (a1.length:Int),SS ({ data:=#[32,115,116,97,116,101,115] })],.agg [I64 x7.1,SS ({ data:=#[32,115,104,105,102,116,47,114,101,100,117,99,101] })],.agg [I64 x7.2,SS ({ data:=#[32,114,101,100,117,99,101,47,114,101,100,117,99,101] })]]) e_anon105 [(⟨(a0.Toks.length:Int),{ data:=#[32,116,111,107,101,110,115] }⟩:_anon105),(⟨(a0.Nons.length:Int),{ data:=#[32,110,111,110,116,101,114,109,105,110,97,108,115] }⟩:_anon105),(⟨(a0.Prods.length:Int),{ data:=#[32,112,114,111,100,117,99,116,105,111,110,115] }⟩:_anon105),(⟨(a1.length:Int),{ data:=#[32,115,116,97,116,101,115] }⟩:_anon105),(⟨x7.1,{ data:=#[32,115,104,105,102,116,47,114,101,100,117,99,101] }⟩:_anon105),(⟨x7.2,{ data:=#[32,114,101,100,117,99,101,47,114,101,100,117,99,101] }⟩:_anon105)] sl106 q q q q q q zt105 q q)<|Rv (O.lenO (.own q) sl106)<|Rv (O.mv (.k q))<|Fi (.q q q q (tn5 q q q q q))) ?_
 refine Px.sq<|W.bk ?_
 obtain ⟨x9,hl,h⟩:=bnd h
 refine W.tr (G1:=[(9,.ptr ⟨19,[]⟩ 0),(14,oR eS ([]:List ByteArray)),(19,_),(58,_),(59,_),(60,_)]) (.q q q q (.w q q .nilOwn (tn4 q q q q))) ?_
 refine W.lp1 (s:=(([]:List ByteArray),0)) (fun (s8:List ByteArray × Int)=>[(9,.ptr ⟨19,[]⟩ 0),(14,oR eS s8.1),(19,.obj (ereport_writer_r.cells x2)),(58,oR e_anon105 [(⟨(a0.Toks.length:Int),{ data:=#[32,116,111,107,101,110,115] }⟩:_anon105),(⟨(a0.Nons.length:Int),{ data:=#[32,110,111,110,116,101,114,109,105,110,97,108,115] }⟩:_anon105),(⟨(a0.Prods.length:Int),{ data:=#[32,112,114,111,100,117,99,116,105,111,110,115] }⟩:_anon105),(⟨(a1.length:Int),{ data:=#[32,115,116,97,116,101,115] }⟩:_anon105),(⟨x7.1,{ data:=#[32,115,104,105,102,116,47,114,101,100,117,99,101] }⟩:_anon105),(⟨x7.2,{ data:=#[32,114,101,100,117,99,101,47,114,101,100,117,99,101] }⟩:_anon105)]),(59,I64 ([(⟨(a0.Toks.length:Int),{ data:=#[32,116,111,107,101,110,115] }⟩:_anon105),(⟨(a0.Nons.length:Int),{ data:=#[32,110,111,110,116,101,114,109,105,110,97,108,115] }⟩:_anon105),(⟨(a0.Prods.length:Int),{ data:=#[32,112,114,111,100,117,99,116,105,111,110,115] }⟩:_anon105),(⟨(a1.length:Int),{ data:=#[32,115,116,97,116,101,115] }⟩:_anon105),(⟨x7.1,{ data:=#[32,115,104,105,102,116,47,114,101,100,117,99,101] }⟩:_anon105),(⟨x7.2,{ data:=#[32,114,101,100,117,99,101,47,114,101,100,117,99,101] }⟩:_anon105)].length:Int)),(60,I64 s8.2)]) 2 (fun (x9:List ByteArray)=>[(9,.ptr ⟨19,[]⟩ 0),(14,oR eS x9),(19,.obj (ereport_writer_r.cells x2))]) hl (fun s8 o h=>?_) ?_
 ·clear hl
  refine W.sq'<|W.rx [(9,.ptr ⟨19,[]⟩ 0),(14,_),(19,_),(58,_),(59,_),(60,_),(61,_)] (Rv (O.lss (.lit q) (.lit q))<|Fi (.q q q q (tn6 q q q q q q))) ?_
  refine Px.sq<|W.sq' ?_
  refine W.cnd q (fun hb11=>?_) (fun hb11=>?_)
  ·replace h:=cndT hb11 h
   refine W.sk<|Px.sq ?_
   refine W.sq'<|W.bk ?_
   refine W.sq' ?_
   obtain ⟨x12,hx12,h⟩:=bnd h
   refine W.rx [(9,.ptr ⟨19,[]⟩ 0),(14,_),(16,_),(19,_),(58,_),(59,_),(60,_)] (Rv (O.ixO (en:=e_anon105) q (.own q) (.lit q) sl106 hx12 q)<|Rv (O.ldEN (en:=e_anon105) (cs':=[I64 x12.f_n,SS x12.f_what]) q (.ptr q) at105 hx12 q q)<|Rv (O.al (cs:=[I64 0,SS S0]) ze105 q q)<|RunL.sO (G2:=[(9,.ptr ⟨19,[]⟩ 0),(14,_),(16,_),(19,_),(58,_),(59,_),(60,_)]) (cs2:=[I64 x12.f_n,SS x12.f_what]) q (.obj q) (.aggF q q) q sz105 q q q q (.p q q q q q q (.n q q (.b q (.n q q (.n q q (.n q q (.n q q .nil)))))))<|Fi (.q q q q (tn6 q q q q q q))) ?_
   refine Px.sq<|W.tr (G1:=[(9,.ptr ⟨19,[]⟩ 0),(14,_),(16,_),(19,_),(58,_),(59,_),(60,_)]) (.q q q q (tn6 q q q q q q)) ?_
   obtain ⟨x13,hx13,h⟩:=bnd h
   obtain ⟨x14,hx14,h⟩:=bnd h
   obtain ⟨x15,hx15,h⟩:=bnd h
   refine W.rd [[],[],[1],[1,2],[],[4],rn 1 5 [],rn 1 6 [],rn 0 8 [],rn 0 9 []] [(9,.ptr ⟨19,[]⟩ 0),(14,_),(19,_),(58,_),(59,_),(60,_)] mixo (by kernel_rfl) (Dv 0 (O.mv (.own q))<|Dv 1 (O.fO q (.obj q) fd105_0 q)<|Dv 2 (O.ldO (y:=I64 x12.f_n) q (.ptr q) ct3 q q)<|Dc 3 (PC.go (.cc (.lit q) .nil) (con29 x12.f_n _ hx13) call29 q)<|Dv 4 (O.fO q (.obj q) fd105_1 q)<|Dv 5 (O.ldO (y:=SS x12.f_what) q (.ptr q) ct9 q q)<|Dv 6 (O.cat (.lit q) (.lit q) hx14)<|DL.vi 7 (x:=iR eS [x14]) (O.bs (ys:=[SS x14]) eS [x14] sl104 q q q q q q zt9 q q) q q q q .none<|Dv 8 (O.ap (en:=eS) (r:=x15) (.brw q) q (.imm q) .i ap104 q hx15)<|DL.bv 9 (G2:=[(9,.ptr ⟨19,[]⟩ 0),(19,.obj (ereport_writer_r.cells x2)),(58,oR e_anon105 [(⟨(a0.Toks.length:Int),{ data:=#[32,116,111,107,101,110,115] }⟩:_anon105),(⟨(a0.Nons.length:Int),{ data:=#[32,110,111,110,116,101,114,109,105,110,97,108,115] }⟩:_anon105),(⟨(a0.Prods.length:Int),{ data:=#[32,112,114,111,100,117,99,116,105,111,110,115] }⟩:_anon105),(⟨(a1.length:Int),{ data:=#[32,115,116,97,116,101,115] }⟩:_anon105),(⟨x7.1,{ data:=#[32,115,104,105,102,116,47,114,101,100,117,99,101] }⟩:_anon105),(⟨x7.2,{ data:=#[32,114,101,100,117,99,101,47,114,101,100,117,99,101] }⟩:_anon105)]),(59,I64 ([(⟨(a0.Toks.length:Int),{ data:=#[32,116,111,107,101,110,115] }⟩:_anon105),(⟨(a0.Nons.length:Int),{ data:=#[32,110,111,110,116,101,114,109,105,110,97,108,115] }⟩:_anon105),(⟨(a0.Prods.length:Int),{ data:=#[32,112,114,111,100,117,99,116,105,111,110,115] }⟩:_anon105),(⟨(a1.length:Int),{ data:=#[32,115,116,97,116,101,115] }⟩:_anon105),(⟨x7.1,{ data:=#[32,115,104,105,102,116,47,114,101,100,117,99,101] }⟩:_anon105),(⟨x7.2,{ data:=#[32,114,101,100,117,99,101,47,114,101,100,117,99,101] }⟩:_anon105)].length:Int)),(60,I64 s8.2)]) (EO.aP q q (.pend q) q q q (.p q q q q (.n q q (.n q q (.n q q (.n q q .nil))))) q q) q q q q (by kernel_rfl) (by kernel_rfl)<|DL.fin q q q (.q q q q (tn5 q q q q q))) ?_
   refine Px.bk ?_
   refine Px.sq<|W.rx [(9,.ptr ⟨19,[]⟩ 0),(14,_),(19,_),(58,_),(59,_),(60,_)] (Rv (O.add (.lit q) (.k q))<|RunL.re (G1:=[(9,.ptr ⟨19,[]⟩ 0),(14,_),(19,_),(58,_),(59,_),(73,_)]) (.q q q q (tn5 q q q q q))<|Vm q<|Fi (.q q q q (tn5 q q q q q))) ?_
   obtain rfl:=sm h
   exact Px.go (.q q q q (tn5 q q q q q))
  ·replace h:=cndF hb11 h
   refine W.xi ?_
   refine Px.sqE ?_
   obtain rfl:=sm h
   exact Px.x1 (.q q q q (tn2 q q))
 refine Px.bkH ?_
 refine Px.sq<|W.sq' ?_
 obtain ⟨x16,hx16,h⟩:=bnd h
 obtain ⟨x17,hx17,h⟩:=bnd h
 obtain ⟨x18,hx18,h⟩:=bnd h
 obtain ⟨x19,hx19,h⟩:=bnd h
 refine W.rx [(8,_)] (Rv (O.mv (.ptr q))<|Rv (O.nlP (.ptr q))<|Rv (O.fO q (.ptr q) fd96_1 q)<|RunL.ef q (EO.call q q (CallOk.at (G2:=[(14,oR eS x9)]) (A:=[]) (ys:=[]) (cs':=[iR eTok x2.f_g.Toks,iR eNon x2.f_g.Nons,iR eProd_0 x2.f_g.Prods,SS x2.f_g.Pro,SS x2.f_g.Tail,.self (5,96),.dead]) (k:=5) q q q q (con30a (k:=5) q hx16) call30 (.n q .nil) q q (.n q .nil) .nil q))<|Rv (O.mv (.own q))<|Rc (PC.vw (ys:=[.brw eS.z ⟨14,[]⟩ x9.length,SS ({ data:=#[44,32] })]) q (.c (.row q) (.s .nil)) (CF.go hx17) call31 q)<|Rv (O.cat (.lit q) (.lit q) hx18)<|Rv (O.cat (.lit q) (.k q) hx19)<|Va q<|Fi (.n q .nil)) ?_
 refine Px.sq<|W.rt ?_
 obtain rfl:=sm h
 exact Px.fin (Fin.ro (.f q q .nil) q (ode (by kernel_rfl)) (.no (.no (.no (.no .nil)))) q (.inr q))
instance con10 {a0:Grammar}{a1:(List State)}{a2:Dense}{a3:(List Clash)}{r:ByteArray}:CF Tryz.prog 10 (pf10 a0 a1 a2 a3=some r) [.agg (eGrammar_0.cells a0),iR eState_0 a1,.agg [iR (eM eAct) a2.Acts,iR (eM eI) a2.Gotos],iR eClash a3] [none,none,none,none] (SS r):=⟨con10l a0 a1 a2 a3 _⟩
theorem con5l  (r:Bool) (h:pf5 =some r):Con Tryz.prog 5 [] [] (BB r):=by
 unfold pf5 at h
 refine Con.go (N:=⟨43,[]⟩) Tryz.func5 q q q q (W.fin ?_)
 refine W.st [] ?_
 refine W.sq'<|W.rx [] (Vk q<|Fi .nil) ?_
 refine Px.sq<|W.sq' ?_
 obtain ⟨x1,hx1,h⟩:=bnd h
 refine W.rx [(1,_),(2,_),(3,_),(4,_)] (Rv (O.bu (cs:=[SS ({ data:=#[120] }),BB true,I64 0,I64 0]) sc54 ze54 q q q)<|Rv (O.bu (cs:=[SS ({ data:=#[120] }),BB true,I64 0,I64 0,SS S0,I64 0]) sc59 ze59 q q q)<|RunL.vi (x:=iR ePart [(⟨(⟨{ data:=#[120] },true,0,0⟩:Sym),S0,0⟩:Part)]) (O.bs (ys:=[.agg [SS ({ data:=#[120] }),BB true,I64 0,I64 0,SS S0,I64 0]]) ePart [(⟨(⟨{ data:=#[120] },true,0,0⟩:Sym),S0,0⟩:Part)] sl52 q q q q q q zt59 q q) q q .none<|Rv (O.bu (cs:=[iR ePart [(⟨(⟨{ data:=#[120] },true,0,0⟩:Sym),S0,0⟩:Part)],SS S0,BB false,I64 0,I64 0,I64 0]) sc56 ze56 q q q)<|RunL.vi (x:=iR eAlt_0 [(⟨[(⟨(⟨{ data:=#[120] },true,0,0⟩:Sym),S0,0⟩:Part)],(⟨S0,false,0,0⟩:Sym),0⟩:Alt)]) (O.bs (ys:=[.agg [iR ePart [(⟨(⟨{ data:=#[120] },true,0,0⟩:Sym),S0,0⟩:Part)],SS S0,BB false,I64 0,I64 0,I64 0]]) eAlt_0 [(⟨[(⟨(⟨{ data:=#[120] },true,0,0⟩:Sym),S0,0⟩:Part)],(⟨S0,false,0,0⟩:Sym),0⟩:Alt)] sl63 q q q q q q zt56 q q) q q .none<|Rv (O.bu (cs:=[SS ({ data:=#[115] }),iR eAlt_0 [(⟨[(⟨(⟨{ data:=#[120] },true,0,0⟩:Sym),S0,0⟩:Part)],(⟨S0,false,0,0⟩:Sym),0⟩:Alt)],I64 0]) sc65 ze65 q q q)<|RunL.vi (x:=iR eRule_0 [(⟨{ data:=#[115] },[(⟨[(⟨(⟨{ data:=#[120] },true,0,0⟩:Sym),S0,0⟩:Part)],(⟨S0,false,0,0⟩:Sym),0⟩:Alt)],0⟩:Rule)]) (O.bs (ys:=[.agg [SS ({ data:=#[115] }),iR eAlt_0 [(⟨[(⟨(⟨{ data:=#[120] },true,0,0⟩:Sym),S0,0⟩:Part)],(⟨S0,false,0,0⟩:Sym),0⟩:Alt)],I64 0]]) eRule_0 [(⟨{ data:=#[115] },[(⟨[(⟨(⟨{ data:=#[120] },true,0,0⟩:Sym),S0,0⟩:Part)],(⟨S0,false,0,0⟩:Sym),0⟩:Alt)],0⟩:Rule)] sl23 q q q q q q zt65 q q) q q .none<|RunL.vi (x:=.agg [SS S0,iR eDecl_0 ([]:List Decl),iR eRule_0 [(⟨{ data:=#[115] },[(⟨[(⟨(⟨{ data:=#[120] },true,0,0⟩:Sym),S0,0⟩:Part)],(⟨S0,false,0,0⟩:Sym),0⟩:Alt)],0⟩:Rule)],SS S0]) (O.bu (cs:=[SS S0,.nils,iR eRule_0 [(⟨{ data:=#[115] },[(⟨[(⟨(⟨{ data:=#[120] },true,0,0⟩:Sym),S0,0⟩:Part)],(⟨S0,false,0,0⟩:Sym),0⟩:Alt)],0⟩:Rule)],SS S0]) sc25 ze25 q q q) q q .none<|Rc (PC.go (.cc (.aggF q q) .nil) (CF.go hx1) call8 q)<|Rv (O.mv (.tup q q))<|Rv (O.ex (y:=.agg (eGrammar_0.cells x1.1)) q q q)<|Rv (O.ex (y:=iR eState_0 x1.2.1) q q q)<|Rv (O.ex (y:=iR eCell_0 x1.2.2.1) q q q)<|Rv (O.ex (y:=BB x1.2.2.2) q q q)<|Rv (O.al (cs:=[.nils,.nils,.nils,SS S0,SS S0]) ze38 q q)<|RunL.sO (G2:=[(1,_),(18,_),(19,_),(20,_)]) (cs2:=[iR eTok x1.1.Toks,iR eNon x1.1.Nons,iR eProd_0 x1.1.Prods,SS x1.1.Pro,SS x1.1.Tail]) q (.obj q) (.aggF q q) q sz38 q q q q (.b q (.n q q (.n q q (.n q q .nil))))<|Rv (O.az (.imm q))<|Rv (O.az (.imm q))<|Va q<|Fi (tn4 q q q q)) ?_
 refine Px.sq<|W.sq' ?_
 obtain ⟨x2,hx2,h⟩:=bnd h
 refine W.rx [(1,_),(2,_),(4,_),(5,_),(6,_)] (Rv (O.ldON (cs':=[iR eTok x1.1.Toks,iR eNon x1.1.Nons,iR eProd_0 x1.1.Prods,SS x1.1.Pro,SS x1.1.Tail]) q (.obj q) at38 q q)<|Rv (O.mv (.imm q))<|Rv (O.mv (.imm q))<|Rc (PC.go (.cc (.aggF q q) (.cc (.imm q) (.cc (.imm q) .nil))) (CF.go hx2) call9 q)<|Rv (O.mv (.tup q q))<|Rv (O.ex (y:=.agg [iR (eM eAct) x2.1.Acts,iR (eM eI) x2.1.Gotos]) q q q)<|Rv (O.ex (y:=iR eClash x2.2) q q q)<|Rv (O.al (cs:=[.nils,.nils]) ze45 q q)<|RunL.sO (G2:=[(1,_),(2,_),(4,_),(5,_),(27,_)]) (cs2:=[iR (eM eAct) x2.1.Acts,iR (eM eI) x2.1.Gotos]) q (.obj q) (.aggF q q) q sz45 q q q q (.n q q (.n q q (.n q q (.b q (.n q q .nil)))))<|Rv (O.az (.imm q))<|Fi (tn5 q q q q q)) ?_
 refine Px.sq<|W.sq' ?_
 obtain ⟨c6,hj,h⟩:=bnd h
 refine W.rx [(0,BB c6)] ?_ ?_
 ·refine Vm q<|Rv (O.mv (.lit q)) ?_
  rcases cnd hj with ⟨hb3,hj⟩ | ⟨hb3,hj⟩
  ·refine RunL.v (O.fO q (.obj q) fd45_0 q) q q (.yb q q hb3)<|RunL.v (O.ldO (y:=iR (eM eAct) x2.1.Acts) q (.ptr q) ct43 q q) q q (.yb q q hb3)<|RunL.v (O.lenI (.imm q) sl43) q q (.yb q q hb3)<|RunL.v (O.eql (.lit q) (.k q)) q q (.yb q q hb3)<|Rv (O.pkT (.lit q) hb3 (.lit q))<|Rv (O.mv (.lit q)) ?_
   rcases cnd hj with ⟨hb4,hj⟩ | ⟨hb4,hj⟩
   ·refine RunL.v (O.ldON (cs':=[iR eTok x1.1.Toks,iR eNon x1.1.Nons,iR eProd_0 x1.1.Prods,SS x1.1.Pro,SS x1.1.Tail]) q (.obj q) at38 q q) q q (.yb q q hb4)<|RunL.v (O.mv (.imm q)) q q (.yb q q hb4)<|RunL.v (O.ldON (cs':=[iR (eM eAct) x2.1.Acts,iR (eM eI) x2.1.Gotos]) q (.obj q) at45 q q) q q (.yb q q hb4)<|RunL.v (O.mv (.imm q)) q q (.yb q q hb4) ?_
    obtain ⟨x5,hx5,hj⟩:=bnd hj
    obtain rfl:=sm hj
    exact RunL.c (PC.go (.cc (.aggF q q) (.cc (.imm q) (.cc (.aggF q q) (.cc (.imm q) .nil)))) (CF.go hx5) call10 q) q q (.yb q q hb4)<|RunL.v (O.eqS (.lit q) (.k q)) q q (.yb q q hb4)<|Rv (O.pkT (.lit q) hb4 (.lit q))<|Va q<|Fi (.n q .nil)
   ·obtain rfl:=sm hj
    exact RunL.ps q q hb4 q q<|RunL.ps q q hb4 q q<|RunL.ps q q hb4 q q<|RunL.ps q q hb4 q q<|RunL.ps q q hb4 q q<|RunL.ps q q hb4 q q<|Rv (O.pkF (.lit q) hb4 (.k q))<|Va q<|Fi (.n q .nil)
  ·obtain rfl:=sm hj
   exact RunL.ps q q hb3 q q<|RunL.ps q q hb3 q q<|RunL.ps q q hb3 q q<|RunL.ps q q hb3 q q<|Rv (O.pkF (.lit q) hb3 (.k q))<|Vm q<|RunL.ps q q q q q<|RunL.ps q q q q q<|RunL.ps q q q q q<|RunL.ps q q q q q<|RunL.ps q q q q q<|RunL.ps q q q q q<|Rv (O.pkF (.lit q) q (.k q))<|Va q<|Fi (.n q .nil)
 refine Px.sq<|W.rt ?_
 obtain rfl:=sm h
 exact Px.fin (Fin.ro (.f q q .nil) q (ode (by kernel_rfl)) .nil q (.inr q))
instance con5  {r:Bool}:CF Tryz.prog 5 (pf5 =some r) [] [] (BB r):=⟨con5l  _⟩
instance con12 {a0:Int}{a1:Int}{r:Int}:CF Tryz.prog 12 (pf12 a0 a1=some r) [I64 a0,I64 a1] [none,none] (I64 r):=⟨fun h=>by unfold pf12 at h; exact Con.au (N:=⟨15,[]⟩) [0,1,4,5,10] (.jn [5] (fun (j2:Int)=>[(5,I64 j2)]) .e .e) Tryz.func12 rfl rfl rfl rfl rfl go⟩
instance con14 {a0:Int}{a1:Int}{r:ByteArray}:CF Tryz.prog 14 (pf14 a0 a1=some r) [I64 a0,I64 a1] [none,none] (SS r):=⟨fun h=>by unfold pf14 at h; exact Con.au (N:=⟨29,[]⟩) [0,1,4,5,6,9,14,24] (.lp (fun (s1:ByteArray × Int)=>[(5,SS s1.1),(6,I64 s1.2)]) [0,1,5,6] 0 (fun (x2:ByteArray)=>[(5,SS x2)]) [0,1,5] (.b (.p (.jn [0,1,5,6] (fun (j5:ByteArray)=>[(5,SS j5)]) .e .e)) .e) (.jn [5] (fun (j11:ByteArray)=>[(5,SS j11)]) .e .e)) Tryz.func14 rfl rfl rfl rfl rfl go⟩
theorem con4l (a0:Int) (r:Bool) (h:pf4 a0=some r):Con Tryz.prog 4 [I64 a0] [none] (BB r):=by
 unfold pf4 at h
 refine Con.go (N:=⟨143,[]⟩) Tryz.func4 q q q q (W.fin ?_)
 refine W.st [(0,I64 a0)] ?_
 refine W.sq'<|W.rx [(0,_)] (Vk q<|Fi (.n q .nil)) ?_
 refine Px.sq<|W.sq' ?_
 refine W.sq' ?_
 obtain ⟨x1,hx1,h⟩:=bnd h
 refine W.rx [(0,_),(17,_)] (Rc (PC.go .nil (CF.go hx1) call5 q)<|Rv (O.not (.lit q))<|Fi (tn2 q q)) ?_
 refine Px.sq<|W.cnd q (fun hb2=>?_) (fun hb2=>?_)
 ·replace h:=cndT hb2 h
  refine W.sq'<|W.rx [(2,_)] (Vk q<|Fi (.n q .nil)) ?_
  refine Px.sq<|W.rt ?_
  refine Px.sqR ?_
  obtain rfl:=sm h
  exact Px.fin (Fin.ro (.f q q .nil) q (ode (by kernel_rfl)) (.no .nil) q (.inr q))
 ·replace h:=cndF hb2 h
  refine W.sk<|Px.sq ?_
  refine W.sq' ?_
  obtain ⟨x3,hx3,h⟩:=bnd h
  refine W.rx [(0,_)] (Vm q<|Rc (PC.go (.cc (.lit q) (.cc (.k q) .nil)) (CF.go hx3) call12 q)<|Rv (O.add (.k q) (.lit q))<|RunL.re (G1:=[(20,_)]) (.n q .nil)<|Va q<|Fi (.n q .nil)) ?_
  refine Px.sq<|W.sq' ?_
  refine W.rx [(0,_),(3,_)] (Rv (O.al (cs:=[.nils,SS S0,BB false,I64 0,I64 0,I64 0]) ze56 q q)<|Fi (tn2 q q)) ?_
  refine Px.sq<|W.sq' ?_
  refine W.sq'<|W.rx [(0,_),(3,_),(4,_)] (Vk q<|Fi (tn3 q q q)) ?_
  refine Px.sq<|W.bk ?_
  obtain ⟨x5,hl,h⟩:=bnd h
  refine W.tr (G1:=[(0,_),(3,.obj [oR ePart ([]:List Part),SS S0,BB false,I64 0,I64 0,I64 0]),(4,_)]) (.n q (.w q q (WkL.obj (.o (.f (.f (.f (.f (.f .nil))))))) (.n q .nil))) ?_
  refine W.lp1 (s:=(([]:List Part),0)) (fun (s4:List Part × Int)=>[(0,I64 (w64 (1+x3))),(3,.obj [oR ePart s4.1,SS S0,BB false,I64 0,I64 0,I64 0]),(4,I64 s4.2)]) 0 (fun (x5:List Part)=>[(0,I64 (w64 (1+x3))),(3,.obj [oR ePart x5,SS S0,BB false,I64 0,I64 0,I64 0])]) hl (fun s4 o h=>?_) ?_
  ·clear hl
   refine W.sq'<|W.sq' ?_
   refine W.rx [(0,_),(3,_),(4,_),(23,_)] (Vm q<|Vm q<|Rv (O.lss (.lit q) (.lit q))<|Fi (tn4 q q q q)) ?_
   refine Px.sq<|W.cnd q (fun hb7=>?_) (fun hb7=>?_)
   ·replace h:=cndT hb7 h
    refine W.sk<|Px.sq ?_
    refine W.sq'<|W.bk ?_
    obtain ⟨x8,hx8,h⟩:=bnd h
    obtain ⟨x9,hx9,h⟩:=bnd h
    obtain ⟨x10,hx10,h⟩:=bnd h
    refine W.rd [[],[0],[],[2],[2,3],[2,3,4],[2,3,4,5],rn 2 5 [],rn 0 8 [],rn 0 9 [],rn 0 10 []] [(0,_),(3,_),(4,_)] mixo (by kernel_rfl) (Dv 0 (O.fO q (.obj q) fd56_0 q)<|Dv 1 (O.ldO (y:=.brw ePart.z ⟨3,[0]⟩ s4.1.length) q (.ptr q) ct52 q q)<|Dv 2 (O.mv (.lit q))<|Dc 3 (PC.go (.cc (.lit q) .nil) (CF.go hx8) call13 q)<|Dv 4 (O.cat (.k q) (.lit q) hx9)<|Dv 5 (O.bu (cs:=[SS x9,BB false,I64 0,I64 0]) sc54 ze54 q q q)<|Dv 6 (O.bu (cs:=[SS x9,BB false,I64 0,I64 0,SS S0,I64 0]) sc59 ze59 q q q)<|DL.vi 7 (x:=iR ePart [(⟨(⟨x9,false,0,0⟩:Sym),S0,0⟩:Part)]) (O.bs (ys:=[.agg [SS x9,BB false,I64 0,I64 0,SS S0,I64 0]]) ePart [(⟨(⟨x9,false,0,0⟩:Sym),S0,0⟩:Part)] sl52 q q q q q q zt59 q q) q q q q .none<|Dv 8 (O.ap (en:=ePart) (r:=x10) (.brw q) q (.imm q) .i ap52 q hx10)<|Dv 9 (O.fO q (.obj q) fd56_0 q)<|DL.bp 10 (G2:=[(0,I64 (w64 (1+x3))),(3,.obj [oR ePart (s4.1++[(⟨(⟨x9,false,0,0⟩:Sym),S0,0⟩:Part)]),SS S0,BB false,I64 0,I64 0,I64 0]),(4,I64 s4.2)]) (EO.stP (g1:=_) (en:=ePart) (M:=[(⟨(⟨x9,false,0,0⟩:Sym),S0,0⟩:Part)]) (cs2:=[oR ePart (s4.1++[(⟨(⟨x9,false,0,0⟩:Sym),S0,0⟩:Part)]),SS S0,BB false,I64 0,I64 0,I64 0]) q q (.ptr q) (.pend q) q q q .ns .rf q q sz52 q q q q (.n q q (.b q (.n q q .nil)))) q q q q (by kernel_rfl) (by kernel_rfl)<|DL.fin q q q (tn3 q q q)) ?_
    refine Px.bk ?_
    refine Px.sq<|W.rx [(0,_),(3,_),(4,_)] (Vm q<|Rv (O.add (.lit q) (.k q))<|RunL.re (G1:=[(0,_),(3,_),(25,_)]) (tn3 q q q)<|Va q<|Fi (tn3 q q q)) ?_
    obtain rfl:=sm h
    exact Px.go (tn3 q q q)
   ·replace h:=cndF hb7 h
    refine W.xi ?_
    refine Px.sqE ?_
    obtain rfl:=sm h
    exact Px.x1 (tn2 q q)
  refine Px.bkH ?_
  refine Px.sq<|W.sq' ?_
  refine W.rx [(0,_),(3,_),(5,_)] (Rv (O.al (cs:=[I64 0,SS S0,.nils,I64 0]) ze62 q q)<|Fi (tn3 q q q)) ?_
  refine Px.sq<|W.sq' ?_
  refine W.rx [(0,_),(3,_),(5,_)] (Rv (O.fO q (.obj q) fd62_0 q)<|RunL.sO (G2:=[(0,_),(3,_),(5,_)]) (cs2:=[I64 1,SS S0,.nils,I64 0]) q (.ptr q) (.k q) q sz3 q q q q (.n q q (.n q q (.b q .nil)))<|Fi (tn3 q q q)) ?_
  refine Px.sq<|W.sq' ?_
  refine W.sq'<|W.rx [(0,_),(3,_),(5,_),(6,_)] (Vk q<|Fi (tn4 q q q q)) ?_
  refine Px.sq<|W.bk ?_
  obtain ⟨x12,hl,h⟩:=bnd h
  refine W.tr (G1:=[(0,_),(3,_),(5,.obj [I64 1,SS S0,oR eSym ([]:List Sym),I64 0]),(6,_)]) (.n q (.n q (.w q q (WkL.obj (.f (.f (.o (.f .nil))))) (.n q .nil)))) ?_
  refine W.lp1 (s:=(([]:List Sym),0)) (fun (s11:List Sym × Int)=>[(0,I64 (w64 (1+x3))),(3,.obj [oR ePart x5,SS S0,BB false,I64 0,I64 0,I64 0]),(5,.obj [I64 1,SS S0,oR eSym s11.1,I64 0]),(6,I64 s11.2)]) 2 (fun (x12:List Sym)=>[(0,I64 (w64 (1+x3))),(3,.obj [oR ePart x5,SS S0,BB false,I64 0,I64 0,I64 0]),(5,.obj [I64 1,SS S0,oR eSym x12,I64 0])]) hl (fun s11 o h=>?_) ?_
  ·clear hl
   refine W.sq'<|W.sq' ?_
   refine W.rx [(0,_),(3,_),(5,_),(6,_),(39,_)] (Vm q<|Vm q<|Rv (O.lss (.lit q) (.lit q))<|Fi (tn5 q q q q q)) ?_
   refine Px.sq<|W.cnd q (fun hb14=>?_) (fun hb14=>?_)
   ·replace h:=cndT hb14 h
    refine W.sk<|Px.sq ?_
    refine W.sq'<|W.bk ?_
    obtain ⟨x15,hx15,h⟩:=bnd h
    obtain ⟨x16,hx16,h⟩:=bnd h
    obtain ⟨x17,hx17,h⟩:=bnd h
    refine W.rd [[],[0],[],[2],[2,3],[2,3,4],[2,3,4,5],rn 0 7 [],rn 0 8 [],rn 0 9 []] [(0,_),(3,_),(5,_),(6,_)] mixo (by kernel_rfl) (Dv 0 (O.fO q (.obj q) fd62_2 q)<|Dv 1 (O.ldO (y:=.brw eSym.z ⟨5,[2]⟩ s11.1.length) q (.ptr q) ct60 q q)<|Dv 2 (O.mv (.lit q))<|Dc 3 (PC.go (.cc (.lit q) .nil) (CF.go hx15) call13 q)<|Dv 4 (O.cat (.k q) (.lit q) hx16)<|Dv 5 (O.bu (cs:=[SS x16,BB false,I64 0,I64 0]) sc54 ze54 q q q)<|DL.vi 6 (x:=iR eSym [(⟨x16,false,0,0⟩:Sym)]) (O.bs (ys:=[.agg [SS x16,BB false,I64 0,I64 0]]) eSym [(⟨x16,false,0,0⟩:Sym)] sl60 q q q q q q zt54 q q) q q q q .none<|Dv 7 (O.ap (en:=eSym) (r:=x17) (.brw q) q (.imm q) .i ap60 q hx17)<|Dv 8 (O.fO q (.obj q) fd62_2 q)<|DL.bp 9 (G2:=[(0,I64 (w64 (1+x3))),(3,.obj [oR ePart x5,SS S0,BB false,I64 0,I64 0,I64 0]),(5,.obj [I64 1,SS S0,oR eSym (s11.1++[(⟨x16,false,0,0⟩:Sym)]),I64 0]),(6,I64 s11.2)]) (EO.stP (g1:=_) (en:=eSym) (M:=[(⟨x16,false,0,0⟩:Sym)]) (cs2:=[I64 1,SS S0,oR eSym (s11.1++[(⟨x16,false,0,0⟩:Sym)]),I64 0]) q q (.ptr q) (.pend q) q q q .ns .rf q q sz60 q q q q (.n q q (.n q q (.b q (.n q q .nil))))) q q q q (by kernel_rfl) (by kernel_rfl)<|DL.fin q q q (tn4 q q q q)) ?_
    refine Px.bk ?_
    refine Px.sq<|W.rx [(0,_),(3,_),(5,_),(6,_)] (Vm q<|Rv (O.add (.lit q) (.k q))<|RunL.re (G1:=[(0,_),(3,_),(5,_),(41,_)]) (tn4 q q q q)<|Va q<|Fi (tn4 q q q q)) ?_
    obtain rfl:=sm h
    exact Px.go (tn4 q q q q)
   ·replace h:=cndF hb14 h
    refine W.xi ?_
    refine Px.sqE ?_
    obtain rfl:=sm h
    exact Px.x1 (tn3 q q q)
  refine Px.bkH ?_
  refine Px.sq<|W.sq' ?_
  refine W.fz (G1:=[(0,_),(3,.obj [iR ePart x5,SS S0,BB false,I64 0,I64 0,I64 0]),(5,.obj [I64 1,SS S0,iR eSym x12,I64 0])]) [3,5] (.n q q (.z q q (FzL.obj (.z (.f (.f (.f (.f (.f .nil))))))) (.z q q (FzL.obj (.f (.f (.z (.f .nil))))) .nil))) ?_
  obtain ⟨x18,hx18,h⟩:=bnd h
  refine W.rx [(0,_),(7,_),(8,_),(9,_),(10,_)] (Rv (O.ldON (cs':=[I64 1,SS S0,iR eSym x12,I64 0]) q (.obj q) at62 q q)<|RunL.vi (x:=iR eDecl_0 [(⟨1,S0,x12,0⟩:Decl)]) (O.bs (ys:=[.agg [I64 1,SS S0,iR eSym x12,I64 0]]) eDecl_0 [(⟨1,S0,x12,0⟩:Decl)] sl22 q q q q q q zt62 q q) q q .none<|Rv (O.ldON (cs':=[iR ePart x5,SS S0,BB false,I64 0,I64 0,I64 0]) q (.obj q) at56 q q)<|RunL.vi (x:=iR eAlt_0 [(⟨x5,(⟨S0,false,0,0⟩:Sym),0⟩:Alt)]) (O.bs (ys:=[.agg [iR ePart x5,SS S0,BB false,I64 0,I64 0,I64 0]]) eAlt_0 [(⟨x5,(⟨S0,false,0,0⟩:Sym),0⟩:Alt)] sl63 q q q q q q zt56 q q) q q .none<|Rv (O.bu (cs:=[SS ({ data:=#[115] }),iR eAlt_0 [(⟨x5,(⟨S0,false,0,0⟩:Sym),0⟩:Alt)],I64 0]) sc65 ze65 q q q)<|RunL.vi (x:=iR eRule_0 [(⟨{ data:=#[115] },[(⟨x5,(⟨S0,false,0,0⟩:Sym),0⟩:Alt)],0⟩:Rule)]) (O.bs (ys:=[.agg [SS ({ data:=#[115] }),iR eAlt_0 [(⟨x5,(⟨S0,false,0,0⟩:Sym),0⟩:Alt)],I64 0]]) eRule_0 [(⟨{ data:=#[115] },[(⟨x5,(⟨S0,false,0,0⟩:Sym),0⟩:Alt)],0⟩:Rule)] sl23 q q q q q q zt65 q q) q q .none<|Rv (O.bu (cs:=[SS S0,iR eDecl_0 [(⟨1,S0,x12,0⟩:Decl)],iR eRule_0 [(⟨{ data:=#[115] },[(⟨x5,(⟨S0,false,0,0⟩:Sym),0⟩:Alt)],0⟩:Rule)],SS S0]) sc25 ze25 q q q)<|Rc (PC.go (.cc (.aggF q q) .nil) (CF.go hx18) call8 q)<|Rv (O.mv (.tup q q))<|Rv (O.ex (y:=.agg (eGrammar_0.cells x18.1)) q q q)<|Rv (O.ex (y:=iR eState_0 x18.2.1) q q q)<|Rv (O.ex (y:=iR eCell_0 x18.2.2.1) q q q)<|Rv (O.ex (y:=BB x18.2.2.2) q q q)<|Rv (O.al (cs:=[.nils,.nils,.nils,SS S0,SS S0]) ze38 q q)<|RunL.sO (G2:=[(0,_),(7,_),(61,_),(62,_),(63,_)]) (cs2:=[iR eTok x18.1.Toks,iR eNon x18.1.Nons,iR eProd_0 x18.1.Prods,SS x18.1.Pro,SS x18.1.Tail]) q (.obj q) (.aggF q q) q sz38 q q q q (.n q q (.b q (.n q q (.n q q (.n q q .nil)))))<|Rv (O.az (.imm q))<|Rv (O.az (.imm q))<|Va q<|Fi (tn5 q q q q q)) ?_
  refine Px.sq<|W.sq' ?_
  obtain ⟨x19,hx19,h⟩:=bnd h
  refine W.rx [(0,_),(7,_),(8,_),(10,_),(11,_),(12,_)] (Rv (O.ldON (cs':=[iR eTok x18.1.Toks,iR eNon x18.1.Nons,iR eProd_0 x18.1.Prods,SS x18.1.Pro,SS x18.1.Tail]) q (.obj q) at38 q q)<|Rv (O.mv (.imm q))<|Rv (O.mv (.imm q))<|Rc (PC.go (.cc (.aggF q q) (.cc (.imm q) (.cc (.imm q) .nil))) (CF.go hx19) call9 q)<|Rv (O.mv (.tup q q))<|Rv (O.ex (y:=.agg [iR (eM eAct) x19.1.Acts,iR (eM eI) x19.1.Gotos]) q q q)<|Rv (O.ex (y:=iR eClash x19.2) q q q)<|Rv (O.al (cs:=[.nils,.nils]) ze45 q q)<|RunL.sO (G2:=[(0,_),(7,_),(8,_),(10,_),(11,_),(70,_)]) (cs2:=[iR (eM eAct) x19.1.Acts,iR (eM eI) x19.1.Gotos]) q (.obj q) (.aggF q q) q sz45 q q q q (.n q q (.n q q (.n q q (.n q q (.b q (.n q q .nil))))))<|Rv (O.az (.imm q))<|Fi (tn6 q q q q q q)) ?_
  refine Px.sq<|W.sq' ?_
  refine W.sq' ?_
  obtain ⟨c21,hj,h⟩:=bnd h
  refine W.rx [(0,I64 (w64 (1+x3))),(7,.obj (eGrammar_0.cells x18.1)),(8,iR eState_0 x18.2.1),(11,.obj [iR (eM eAct) x19.1.Acts,iR (eM eI) x19.1.Gotos]),(12,iR eClash x19.2),(80,BB c21)] ?_ ?_
  ·refine Vm q<|Rv (O.not (.lit q))<|Rv (O.mv (.lit q)) ?_
   rcases cnd hj with ⟨hb20,hj⟩ | ⟨hb20,hj⟩
   ·obtain rfl:=sm hj
    exact RunL.ps q q hb20 q q<|RunL.ps q q hb20 q q<|RunL.ps q q hb20 q q<|RunL.ps q q hb20 q q<|RunL.ps q q hb20 q q<|RunL.ps q q hb20 q q<|Rv (O.pkT (.lit q) hb20 (.k q))<|Fi (tn6 q q q q q q)
   ·obtain rfl:=sm hj
    exact RunL.v (O.fO q (.obj q) fd45_0 q) q q (.yb q q hb20)<|RunL.v (O.ldO (y:=iR (eM eAct) x19.1.Acts) q (.ptr q) ct43 q q) q q (.yb q q hb20)<|RunL.v (O.lenI (.imm q) sl43) q q (.yb q q hb20)<|RunL.v (O.mv (.imm q)) q q (.yb q q hb20)<|RunL.v (O.lenI (.imm q) sl39) q q (.yb q q hb20)<|RunL.v (O.neq (.lit q) (.lit q)) q q (.yb q q hb20)<|Rv (O.pkF (.lit q) hb20 (.lit q))<|Fi (tn6 q q q q q q)
  refine Px.sq<|W.cnd q (fun hb22=>?_) (fun hb22=>?_)
  ·replace h:=cndT hb22 h
   refine W.sq'<|W.rx [(2,_)] (Vk q<|Fi (.n q .nil)) ?_
   refine Px.sq<|W.rt ?_
   refine Px.sqR ?_
   obtain rfl:=sm h
   exact Px.fin (Fin.ro (.f q q .nil) q (ode (by kernel_rfl)) (.no .nil) q (.inr q))
  ·replace h:=cndF hb22 h
   refine W.sk<|Px.sq ?_
   refine W.sq' ?_
   obtain ⟨x23,hx23,h⟩:=bnd h
   obtain ⟨x24,hx24,h⟩:=bnd h
   obtain ⟨x25,hx25,h⟩:=bnd h
   refine W.rx [(0,_),(7,_),(8,_),(11,_),(12,_),(13,_)] (Vm q<|Rc (PC.go (.cc (.lit q) (.cc (.k q) .nil)) (CF.go hx23) call14 q)<|Rv (O.cat (.k q) (.lit q) hx24)<|Rv (O.cat (.lit q) (.k q) hx25)<|Va q<|Fi (tn6 q q q q q q)) ?_
   refine Px.sq<|W.sq' ?_
   refine W.sq'<|W.rx [(0,_),(7,_),(8,_),(11,_),(12,_),(13,_),(14,_)] (Vk q<|Fi (tn7 q q q q q q q)) ?_
   refine Px.sq<|W.bk ?_
   obtain ⟨x27,hl,h⟩:=bnd h
   refine W.tr (G1:=[(0,_),(7,_),(8,_),(11,_),(12,_),(13,_),(14,_)]) (tn7 q q q q q q q) ?_
   refine W.lp1 (s:=(x25,1)) (fun (s26:ByteArray × Int)=>[(0,I64 (w64 (1+x3))),(7,.obj (eGrammar_0.cells x18.1)),(8,iR eState_0 x18.2.1),(11,.obj [iR (eM eAct) x19.1.Acts,iR (eM eI) x19.1.Gotos]),(12,iR eClash x19.2),(13,SS s26.1),(14,I64 s26.2)]) 4 (fun (x27:ByteArray)=>[(0,I64 (w64 (1+x3))),(7,.obj (eGrammar_0.cells x18.1)),(8,iR eState_0 x18.2.1),(11,.obj [iR (eM eAct) x19.1.Acts,iR (eM eI) x19.1.Gotos]),(12,iR eClash x19.2),(13,SS x27)]) hl (fun s26 o h=>?_) ?_
   ·clear hl
    refine W.sq'<|W.sq' ?_
    refine W.rx [(0,_),(7,_),(8,_),(11,_),(12,_),(13,_),(14,_),(87,_)] (Vm q<|Vm q<|Rv (O.leq (.lit q) (.lit q))<|Fi (tn8 q q q q q q q q)) ?_
    refine Px.sq<|W.cnd q (fun hb29=>?_) (fun hb29=>?_)
    ·replace h:=cndT hb29 h
     refine W.sk<|Px.sq ?_
     refine W.sq' ?_
     obtain ⟨j30,hj,h⟩:=bnd h
     refine W.jn [(0,I64 (w64 (1+x3))),(7,.obj (eGrammar_0.cells x18.1)),(8,iR eState_0 x18.2.1),(11,.obj [iR (eM eAct) x19.1.Acts,iR (eM eI) x19.1.Gotos]),(12,iR eClash x19.2),(13,SS j30),(14,I64 s26.2)] ?_ ?_
     ·clear h; have h:=hj; clear hj
      refine W.bk<|W.sq' ?_
      refine W.rx [(0,_),(7,_),(8,_),(11,_),(12,_),(13,_),(14,_),(15,_)] (Vm q<|Va q<|Fi (tn8 q q q q q q q q)) ?_
      refine Px.sq<|W.sq' ?_
      refine W.sq'<|W.rx [(0,_),(7,_),(8,_),(11,_),(12,_),(13,_),(14,_),(15,_),(92,_)] (Vm q<|Rv (O.gtr (.lit q) (.k q))<|Fi (tn9 q q q q q q q q q)) ?_
      refine Px.sq ?_
      obtain ⟨j31,hj,h⟩:=bnd h
      refine W.jn [(0,I64 (w64 (1+x3))),(7,.obj (eGrammar_0.cells x18.1)),(8,iR eState_0 x18.2.1),(11,.obj [iR (eM eAct) x19.1.Acts,iR (eM eI) x19.1.Gotos]),(12,iR eClash x19.2),(13,SS s26.1),(14,I64 s26.2),(15,I64 j31)] ?_ ?_
      ·clear h; have h:=hj; clear hj
       refine W.cnd q (fun hb32=>?_) (fun hb32=>?_)
       ·replace h:=cndT hb32 h
        refine W.rx [(0,_),(7,_),(8,_),(11,_),(12,_),(13,_),(14,_),(15,_)] (Vm q<|Rv (O.add (.lit q) (.k q))<|RunL.re (G1:=[(0,_),(7,_),(8,_),(11,_),(12,_),(13,_),(14,_),(94,_)]) (tn8 q q q q q q q q)<|Va q<|Fi (tn8 q q q q q q q q)) ?_
        obtain rfl:=sm h
        exact Px.jn (tn8 q q q q q q q q)
       ·replace h:=cndF hb32 h
        refine W.sk ?_
        obtain rfl:=sm h
        exact Px.jn (tn8 q q q q q q q q)
      refine Px.sq<|W.sq' ?_
      obtain ⟨x33,hx33,h⟩:=bnd h
      obtain ⟨x34,hx34,h⟩:=bnd h
      obtain ⟨x35,hx35,h⟩:=bnd h
      obtain ⟨x36,hx36,h⟩:=bnd h
      obtain ⟨x37,hx37,h⟩:=bnd h
      obtain ⟨x38,hx38,h⟩:=bnd h
      refine W.rx [(0,_),(7,_),(8,_),(11,_),(12,_),(13,_),(14,_)] (Vm q<|Rv (O.cat (.lit q) (.k q) hx33)<|Vm q<|Rc (PC.go (.cc (.lit q) .nil) (CF.go hx34) call13 q)<|Rv (O.cat (.lit q) (.lit q) hx35)<|Rv (O.cat (.lit q) (.k q) hx36)<|Vm q<|Vm q<|Rc (PC.go (.cc (.lit q) (.cc (.lit q) .nil)) (CF.go hx37) call14 q)<|Rv (O.cat (.lit q) (.lit q) hx38)<|RunL.re (G1:=[(0,_),(7,_),(8,_),(11,_),(12,_),(14,_),(104,_)]) (tn7 q q q q q q q)<|Va q<|Fi (tn7 q q q q q q q)) ?_
      refine Px.sq<|W.sq' ?_
      refine W.sq'<|W.rx [(0,_),(7,_),(8,_),(11,_),(12,_),(13,_),(14,_),(107,_)] (Vm q<|Vm q<|Rv (O.lss (.lit q) (.lit q))<|Fi (tn8 q q q q q q q q)) ?_
      refine Px.sq ?_
      obtain ⟨j39,hj,h⟩:=bnd h
      refine W.jn [(0,I64 (w64 (1+x3))),(7,.obj (eGrammar_0.cells x18.1)),(8,iR eState_0 x18.2.1),(11,.obj [iR (eM eAct) x19.1.Acts,iR (eM eI) x19.1.Gotos]),(12,iR eClash x19.2),(13,SS j39),(14,I64 s26.2)] ?_ ?_
      ·clear h; have h:=hj; clear hj
       refine W.cnd q (fun hb40=>?_) (fun hb40=>?_)
       ·replace h:=cndT hb40 h
        obtain ⟨x41,hx41,h⟩:=bnd h
        obtain ⟨x42,hx42,h⟩:=bnd h
        obtain ⟨x43,hx43,h⟩:=bnd h
        obtain ⟨x44,hx44,h⟩:=bnd h
        obtain ⟨x45,hx45,h⟩:=bnd h
        obtain ⟨x46,hx46,h⟩:=bnd h
        obtain ⟨x47,hx47,h⟩:=bnd h
        refine W.rx [(0,_),(7,_),(8,_),(11,_),(12,_),(13,_),(14,_)] (Vm q<|Rv (O.cat (.lit q) (.k q) hx41)<|Vm q<|Rc (PC.go (.cc (.lit q) .nil) (CF.go hx42) call13 q)<|Rv (O.cat (.lit q) (.lit q) hx43)<|Rv (O.cat (.lit q) (.k q) hx44)<|Vm q<|Rv (O.add (.lit q) (.k q))<|Rc (PC.go (.cc (.lit q) .nil) (CF.go hx45) call13 q)<|Rv (O.cat (.lit q) (.lit q) hx46)<|Rv (O.cat (.lit q) (.k q) hx47)<|RunL.re (G1:=[(0,_),(7,_),(8,_),(11,_),(12,_),(14,_),(118,_)]) (tn7 q q q q q q q)<|Va q<|Fi (tn7 q q q q q q q)) ?_
        obtain rfl:=sm h
        exact Px.jn (tn7 q q q q q q q)
       ·replace h:=cndF hb40 h
        obtain ⟨x48,hx48,h⟩:=bnd h
        refine W.rx [(0,_),(7,_),(8,_),(11,_),(12,_),(13,_),(14,_)] (Vm q<|Rv (O.cat (.lit q) (.k q) hx48)<|RunL.re (G1:=[(0,_),(7,_),(8,_),(11,_),(12,_),(14,_),(120,_)]) (tn7 q q q q q q q)<|Va q<|Fi (tn7 q q q q q q q)) ?_
        obtain rfl:=sm h
        exact Px.jn (tn7 q q q q q q q)
      refine Px.sq<|W.sq' ?_
      refine W.rx [(0,_),(7,_),(8,_),(11,_),(12,_),(13,_),(14,_),(122,_)] (Vm q<|Rv (O.eql (.lit q) (.k q))<|Fi (tn8 q q q q q q q q)) ?_
      refine Px.sq ?_
      obtain ⟨j49,hj,h⟩:=bnd h
      refine W.jn [(0,I64 (w64 (1+x3))),(7,.obj (eGrammar_0.cells x18.1)),(8,iR eState_0 x18.2.1),(11,.obj [iR (eM eAct) x19.1.Acts,iR (eM eI) x19.1.Gotos]),(12,iR eClash x19.2),(13,SS j49),(14,I64 s26.2)] ?_ ?_
      ·clear h; have h:=hj; clear hj
       refine W.cnd q (fun hb50=>?_) (fun hb50=>?_)
       ·replace h:=cndT hb50 h
        obtain ⟨x51,hx51,h⟩:=bnd h
        refine W.rx [(0,_),(7,_),(8,_),(11,_),(12,_),(13,_),(14,_)] (Vm q<|Rv (O.cat (.lit q) (.k q) hx51)<|RunL.re (G1:=[(0,_),(7,_),(8,_),(11,_),(12,_),(14,_),(124,_)]) (tn7 q q q q q q q)<|Va q<|Fi (tn7 q q q q q q q)) ?_
        obtain rfl:=sm h
        exact Px.jn (tn7 q q q q q q q)
       ·replace h:=cndF hb50 h
        refine W.sk ?_
        obtain rfl:=sm h
        exact Px.jn (tn7 q q q q q q q)
      refine Px.bk ?_
      obtain rfl:=sm h
      exact Px.jn (tn7 q q q q q q q)
     refine Px.sq<|W.rx [(0,_),(7,_),(8,_),(11,_),(12,_),(13,_),(14,_)] (Vm q<|Rv (O.add (.lit q) (.k q))<|RunL.re (G1:=[(0,_),(7,_),(8,_),(11,_),(12,_),(13,_),(89,_)]) (tn7 q q q q q q q)<|Va q<|Fi (tn7 q q q q q q q)) ?_
     obtain rfl:=sm h
     exact Px.go (tn7 q q q q q q q)
    ·replace h:=cndF hb29 h
     refine W.xi ?_
     refine Px.sqE ?_
     obtain rfl:=sm h
     exact Px.x1 (tn6 q q q q q q)
   refine Px.bkH ?_
   refine Px.sq<|W.sq' ?_
   obtain ⟨x52,hx52,h⟩:=bnd h
   obtain ⟨x53,hx53,h⟩:=bnd h
   obtain ⟨x54,hx54,h⟩:=bnd h
   obtain ⟨x55,hx55,h⟩:=bnd h
   obtain ⟨x56,hx56,h⟩:=bnd h
   obtain ⟨x57,hx57,h⟩:=bnd h
   refine W.rx [(7,_),(8,_),(11,_),(12,_),(13,_)] (Vm q<|Vm q<|Rv (O.add (.lit q) (.k q))<|Rc (PC.go (.cc (.lit q) .nil) (CF.go hx52) call13 q)<|Rv (O.cat (.lit q) (.lit q) hx53)<|Rv (O.cat (.lit q) (.k q) hx54)<|Vm q<|Rv (O.add (.lit q) (.k q))<|Rc (PC.go (.cc (.lit q) .nil) (CF.go hx55) call13 q)<|Rv (O.cat (.lit q) (.lit q) hx56)<|Rv (O.cat (.lit q) (.k q) hx57)<|RunL.re (G1:=[(7,_),(8,_),(11,_),(12,_),(135,_)]) (tn5 q q q q q)<|Va q<|Fi (tn5 q q q q q)) ?_
   refine Px.sq<|W.sq' ?_
   obtain ⟨x58,hx58,h⟩:=bnd h
   refine W.rx [(2,_)] (Rv (O.ldON (cs':=[iR eTok x18.1.Toks,iR eNon x18.1.Nons,iR eProd_0 x18.1.Prods,SS x18.1.Pro,SS x18.1.Tail]) q (.obj q) at38 q q)<|Rv (O.mv (.imm q))<|Rv (O.ldON (cs':=[iR (eM eAct) x19.1.Acts,iR (eM eI) x19.1.Gotos]) q (.obj q) at45 q q)<|Rv (O.mv (.imm q))<|Rc (PC.go (.cc (.aggF q q) (.cc (.imm q) (.cc (.aggF q q) (.cc (.imm q) .nil)))) (CF.go hx58) call10 q)<|Vm q<|Rv (O.eqS (.lit q) (.lit q))<|Va q<|Fi (.n q .nil)) ?_
   refine Px.sq<|W.rt ?_
   obtain rfl:=sm h
   exact Px.fin (Fin.ro (.f q q .nil) q (ode (by kernel_rfl)) (.no .nil) q (.inr q))
instance con4 {a0:Int}{r:Bool}:CF Tryz.prog 4 (pf4 a0=some r) [I64 a0] [none] (BB r):=⟨con4l a0 _⟩
end Go.Proofs
namespace Go.Own
open Go Go.ChangeShapes Go.WideShapes Go.ChangeAt Go.RowKit
variable {H:Type}{enc:TypeId × Value->H}{P:Program}
theorem post_old {f:Func}{s:ChangeSpec}{apart fresh handsOn again:Bool}{W W':World}{args:Array Value}{v:Value}{ds gs:List (DataW H)}{before pa pv:List MemPlace}
  (hW:DataW.Whole enc P f.params.toList s.vars apart W args.toList ds gs before) (hk:Kp W W') (hps:before=pa++pv)
  (hres:∀ (b:Nat) (sp:Nat->Bool) (hd:Bool),DataW.TrodAll enc P W' b sp hd f.resultTypes.toList (v.resultList f.resultTypes.size) (s.fn H (ds++gs)).results [])
  (hargs:∀ sp:Nat->Bool,(∀ p∈before,sp p.block=true)->DataW.TrodAll enc P W' 0 sp true f.params.toList args.toList (s.fn H (ds++gs)).args pa)
  (hvars:∀ sp:Nat->Bool,(∀ p∈before,sp p.block=true)->DataW.TrodVars enc P W' sp s.vars (s.fn H (ds++gs)).vars pv)
  (hok:∀ (j:Nat) (t:TypeId) (r:Value),f.resultTypes[j]?=some t->(v.resultList f.resultTypes.size)[j]?=some r->Value.okWide P W' .any 0 t r) :
  s.post enc P f apart fresh handsOn again W args v W':=by
 subst hps
 have hlt:∀ p∈pa++pv,p.block<W.heap.size:=fun p hp=>hW.lt p hp
 have hsp:∀ p∈pa++pv,(fun b=>decide (b<W.heap.size)) p.block=true:=fun p hp=>decide_eq_true (hlt p hp)
 have hWh:=hW
 obtain ⟨_,_,_,_,_,hz,hn⟩:=hWh
 have ht:=trodAll_append (hargs (fun _=>true) (fun _ _=>rfl)) (hres 0 (fun _=>true) true)
 refine ⟨ds,gs,pa++pv,[],pa,pv,hW,hres _ _ _,hargs _ hsp,hvars _ hsp,hk.kept _,fun _=>⟨hok,_,_,pa++pv,⟨_,pv,ht,hvars _ (fun _ _=>rfl),rfl,fun b off hp=>?_,hn⟩,fun p hp _=>hp⟩⟩
 rw [hk.fz _ (hlt _ hp)]
 exact hz b off hp
end Go.Own
namespace Go.Proofs
open Go Go.Own
set_option maxRecDepth 100000
theorem uI:Tryz.prog.underlying 3=some (.int .i64):=by kernel_rfl
def okI (n:Int):Prop:=(Lit.int .i64 n).wf=true
theorem aI:Ar Tryz.prog eI 3 okI:=.int uI (by kernel_rfl) fun _=>rfl
theorem okI.le {n:Int}(h:okI n):-9223372036854775808<=n/\n<=9223372036854775807:=by
 have h:IntKind.min .i64<=n/\n<=IntKind.max .i64:=by simpa [okI,Lit.wf] using h
 simpa [IntKind.min,IntKind.max,IntKind.signed,IntKind.bits] using h
theorem pLaid:laidOutB Tryz.prog=true:=by kernel_rfl
theorem pMaps:mapsRowed Tryz.prog=true:=by kernel_rfl
theorem pFull:((List.range Tryz.prog.types.size).all fun t=>match Tryz.prog.underlying t with | some (.slice e)=>decide (0<Tryz.prog.cellsOf e) | _=>true)=true:=by kernel_rfl
end Go.Proofs
