/- Parts of the proof that the last text states. -/
import Derived.Test.YtcfiphoaldlmiaaGreatDoorRows
import Derived.Test.YtcfiphoaldlmiaaGreatDoorE9
namespace Go.Proofs
open Go Go.Own
set_option maxRecDepth 100000
set_option maxHeartbeats 4000000
set_option synthInstance.maxHeartbeats 1000000
set_option synthInstance.maxSize 10000
set_option linter.unusedVariables false
instance con39 {a0:Grammar}{r:(List State) × Int}:CF Tryz.prog 39 (pf39 a0=some r) [.agg (eGrammar_0.cells a0)] [none] (.tup [iR eState_0 r.1,I64 r.2]):=⟨con39l a0 _⟩
instance con21 {a0:Source}{r:Grammar × (List State) × Bool}:CF Tryz.prog 21 (pf21 a0=some r) [.agg (eSource_0.cells a0)] [none] (.tup [.agg (eGrammar_0.cells r.1),iR eState_0 r.2.1,BB r.2.2]):=⟨fun h=>by unfold pf21 at h; exact Con.au (N:=⟨26,[]⟩) [1,2,3,4,5,6,7,8,15] .e Tryz.func21 rfl rfl rfl rfl rfl go⟩
instance con40 {a0:(List State)}{a1:Int}{a2:Int}{r:Int}:CF Tryz.prog 40 (pf40 a0 a1 a2=some r) [iR eState_0 a0,I64 a1,I64 a2] [none,none,none] (I64 r):=⟨fun h=>by unfold pf40 at h; exact Con.au (N:=⟨48,[]⟩) [0,1,2,6,7,25,38] (.l2 (fun (s1:Int)=>[(7,I64 s1)]) [0,1,2,7] 0 (fun (x3:Unit)=>[]) [] (fun (x4:Int)=>[(6,I64 x4)]) [6] (.rj 2 [0,1,2,7,25] (fun (c8:Bool)=>[(25,BB c8)]) .e) .e .e) Tryz.func40 rfl rfl rfl rfl rfl go⟩
instance con43 {a0:Cell}{r:Int}:CF Tryz.prog 43 (pf43 a0=some r) [.agg (eCell_0.cells a0)] [none] (I64 r):=⟨fun h=>by unfold pf43 at h; exact Con.au (N:=⟨17,[]⟩) [1,2,3,9,13] (.jn [1,3] (fun (j1:Int)=>[(3,I64 j1)]) .e (.jn [3] (fun (j3:Int)=>[(3,I64 j3)]) .e .e)) Tryz.func43 rfl rfl rfl rfl rfl go⟩
instance con22 {a0:Grammar}{a1:(List State)}{a2:(List Look)}{r:(List Cell)}:CF Tryz.prog 22 (pf22 a0 a1 a2=some r) [.agg (eGrammar_0.cells a0),iR eState_0 a1,iR eLook_0 a2] [none,none,none] (iR eCell_0 r):=⟨fun h=>by unfold pf22 at h; exact Con.au (N:=⟨108,[]⟩) [1,2,3,6,7,8,9,10,11,12,13,17,24,41,72,90,102] (.lp (fun (s1:List Cell × Int)=>[(7,oR eCell_0 s1.1),(8,I64 s1.2)]) [1,2,3,7,8] 0 (fun (x2:List Cell)=>[(7,oR eCell_0 x2)]) [7] (.b (.lp (fun (s5:List Cell × Int)=>[(7,oR eCell_0 s5.1),(9,I64 s5.2)]) [1,2,3,7,8,9] 2 (fun (x6:List Cell)=>[(7,oR eCell_0 x6)]) [1,2,3,7,8] (.b (.jn [1,2,3,7,8,9] (fun (j9:List Cell)=>[(7,oR eCell_0 j9)]) (.lp (fun (s11:Bool × Int)=>[(4010,BB s11.1),(11,I64 s11.2)]) [1,2,3,7,8,9,10,11] 4 (fun (x12:Bool)=>[(4010,BB x12)]) [1,2,3,7,8,9,10] (.b (.rj 13 [1,2,3,7,8,9,10,11] (fun (c21:Bool)=>[(4010,BB c21)]) .e) .e) (.lp (fun (s22:List Int × Int)=>[(5010,iR eI s22.1),(13,I64 s22.2)]) [1,2,3,7,8,9,10,13] 6 (fun (x23:List Int)=>[(5010,iR eI x23)]) [1,2,3,7,8,9,10] (.b (.jn [1,2,3,7,8,9,10,13] (fun (j26:List Int)=>[(5010,iR eI j26)]) (.rj 17 [1,2,3,7,8,9,10,13,90] (fun (c31:Bool)=>[(90,BB c31)]) (.jn [1,2,3,7,8,9,10,13] (fun (j32:List Int)=>[(5010,iR eI j32)]) (.b (.rd 18 [[],[0],[],[],[2,3],[2,3,4],[2,3,4,5],rn 0 7 [],rn 0 8 [],rn 0 9 []] .e) .e) .e)) .e) .e) (.jn [1,2,3,7,8,9] (fun (j37:List Cell)=>[(7,oR eCell_0 j37)]) .e .e))) .e) .e) .e) .e) .e) Tryz.func22 rfl rfl rfl rfl rfl go⟩
instance con67 {a0:(List (List Int))}{a1:(List (List Int))}{r:(List (List Int))}:CF Tryz.prog 67 (pf67 a0 a1=some r) [oR (eM eI) a0,iR (eM eI) a1] [none,none] (oR (eM eI) r):=⟨fun h=>by unfold pf67 at h; exact Con.au (N:=⟨74,[]⟩) [0,1,4,5,6,7,8,9,10,11,15,30,42] (.lp (fun (s1:List (List Int) × Bool)=>[(0,oR (eM eI) s1.1),(5,BB s1.2)]) [0,1,5] 0 (fun (x2:List (List Int))=>[(0,oR (eM eI) x2)]) [0] (.b (.lp (fun (s5:List (List Int) × Bool × Int)=>[(0,oR (eM eI) s5.1),(5,BB s5.2.1),(6,I64 s5.2.2)]) [0,1,5,6] 2 (fun (x6:List (List Int) × Bool)=>[(0,oR (eM eI) x6.1),(5,BB x6.2)]) [0,1,5] (.b (.lp (fun (s11:List (List Int) × Int)=>[(0,oR (eM eI) s11.1),(9,I64 s11.2)]) [0,1,5,6,7,8,9] 4 (fun (x12:List (List Int))=>[(0,oR (eM eI) x12)]) [0,1,5,6,8] (.b (.lp (fun (s15:List (List Int) × Int)=>[(0,oR (eM eI) s15.1),(10,I64 s15.2)]) [0,1,5,6,7,8,9,10] 6 (fun (x16:List (List Int))=>[(0,oR (eM eI) x16)]) [0,1,5,6,7,8,9] (.b (.rd 15 [[],[],[],[],[2,3],[2,3,4],[],[],[],[7,8],[7,8,9],rn 6 5 [],rn 6 6 [],[],rn 6 8 [],rn 6 9 [],rn 2 14 [],rn 0 17 [],rn 0 18 []] .e) .e) .e) .e) (.rj 16 [0,1,5,6] (fun (c28:Bool)=>[(5,BB c28)]) .e)) .e) .e) .e) .e) Tryz.func67 rfl rfl rfl rfl rfl go⟩
instance con71 {a0:(List State)}{r:(List Trans)}:CF Tryz.prog 71 (pf71 a0=some r) [iR eState_0 a0] [none] (iR eTrans r):=⟨fun h=>by unfold pf71 at h; exact Con.au (N:=⟨47,[]⟩) [0,2,3,4,5,9,19,31] (.lp (fun (s1:List Trans × Int)=>[(3,oR eTrans s1.1),(4,I64 s1.2)]) [0,3,4] 0 (fun (x2:List Trans)=>[(3,oR eTrans x2)]) [3] (.b (.lp (fun (s5:List Trans × Int)=>[(3,oR eTrans s5.1),(5,I64 s5.2)]) [0,3,4,5] 2 (fun (x6:List Trans)=>[(3,oR eTrans x6)]) [0,3,4] (.b (.jn [0,3,4,5] (fun (j10:List Trans)=>[(3,oR eTrans j10)]) (.p (.jn [0,3,4,5] (fun (j13:List Trans)=>[(3,oR eTrans j13)]) .e .e)) .e) .e) .e) .e) .e) Tryz.func71 rfl rfl rfl rfl rfl go⟩
instance con94 {a0:(List Item)}{r:Bool}:CF Tryz.prog 94 (pf94 a0=some r) [iR eItem a0] [none] (BB r):=⟨fun h=>by unfold pf94 at h; exact Con.au (N:=⟨24,[]⟩) [0,2,3,7,23] (.l2 (fun (s1:Int)=>[(3,I64 s1)]) [0,3] 0 (fun (x3:Unit)=>[]) [] (fun (x4:Bool)=>[(2,BB x4)]) [2] (.b (.rj 4 [0,3,23] (fun (c9:Bool)=>[(23,BB c9)]) .e) .e) .e .e) Tryz.func94 rfl rfl rfl rfl rfl go⟩
instance con68 {a0:(List State)}{r:(List (List Int))}:CF Tryz.prog 68 (pf68 a0=some r) [iR eState_0 a0] [none] (oR (eM eI) r):=⟨fun h=>by unfold pf68 at h; exact Con.au (N:=⟨74,[]⟩) [0,2,3,4,5,6,7,8,14,34,45,57] (.lp (fun (s2:List (List Int) × Int)=>[(4,oR (eM eI) s2.1),(5,I64 s2.2)]) [0,3,4,5] 0 (fun (x3:List (List Int))=>[(4,oR (eM eI) x3)]) [4] (.b (.rd 7 [[],[],[],[1,2],[1,2,3],[1,2,3,4],[],[],[6,7],[6,7,8],[6,7,8,9],rn 0 11 [],rn 0 12 []] (.jn [0,3,4,5,6,7] (fun (j11:List Int)=>[(6,oR eI j11)]) .e (.fl 6 none eI (.lp (fun (s14:List Int × Int)=>[(6,iR eI s14.1),(8,I64 s14.2)]) [0,3,4,5,6,7,8] 2 (fun (x15:List Int)=>[(6,iR eI x15)]) [0,3,4,5,6] (.b (.jn [0,3,4,5,6,7,8] (fun (j19:List Int)=>[(6,iR eI j19)]) (.p (.jn [0,3,4,5,6,7,8] (fun (j22:List Int)=>[(6,iR eI j22)]) .e .e)) .e) .e) .e)))) .e) .e) Tryz.func68 rfl rfl rfl rfl rfl go⟩
instance con97 {a0:(List Bool)}{a1:(List Int)}{r:Bool}:CF Tryz.prog 97 (pf97 a0 a1=some r) [iR eB a0,iR eI a1] [none,none] (BB r):=⟨fun h=>by unfold pf97 at h; exact Con.au (N:=⟨28,[]⟩) [0,1,4,5,9,27] (.l2 (fun (s1:Int)=>[(5,I64 s1)]) [0,1,5] 0 (fun (x3:Unit)=>[]) [] (fun (x4:Bool)=>[(4,BB x4)]) [4] (.b (.rj 4 [0,1,5,27] (fun (c10:Bool)=>[(27,BB c10)]) .e) .e) .e .e) Tryz.func97 rfl rfl rfl rfl rfl go⟩
instance con95 {a0:Grammar}{r:(List Bool)}:CF Tryz.prog 95 (pf95 a0=some r) [.agg (eGrammar_0.cells a0)] [none] (iR eB r):=⟨fun h=>by unfold pf95 at h; exact Con.au (N:=⟨41,[]⟩) [1,2,3,4,5,6,11,16,35] (.lp (fun (s2:List Bool × Bool)=>[(3,oR eB s2.1),(4,BB s2.2)]) [1,3,4] 0 (fun (x3:List Bool)=>[(3,oR eB x3)]) [3] (.b (.lp (fun (s6:List Bool × Bool × Int)=>[(3,oR eB s6.1),(4,BB s6.2.1),(5,I64 s6.2.2)]) [1,3,4,5] 2 (fun (x7:List Bool × Bool)=>[(3,oR eB x7.1),(4,BB x7.2)]) [1,3,4] (.b (.jn [1,3,4,5] (fun (j10:List Bool × Bool)=>[(3,oR eB j10.1),(4,BB j10.2)]) (.rj 9 [1,3,4,5,6,35] (fun (c15:Bool)=>[(35,BB c15)]) (.jn [1,3,4,5] (fun (j16:List Bool × Bool)=>[(3,oR eB j16.1),(4,BB j16.2)]) .e .e)) .e) .e) .e) .e) .e) Tryz.func95 rfl rfl rfl rfl rfl go⟩
instance con96 {a0:(List Trans)}{a1:Int}{a2:Int}{r:Int}:CF Tryz.prog 96 (pf96 a0 a1 a2=some r) [iR eTrans a0,I64 a1,I64 a2] [none,none,none] (I64 r):=⟨fun h=>by unfold pf96 at h; exact Con.au (N:=⟨31,[]⟩) [0,1,2,6,7,11,29] (.l2 (fun (s1:Int)=>[(7,I64 s1)]) [0,1,2,7] 0 (fun (x3:Unit)=>[]) [] (fun (x4:Int)=>[(6,I64 x4)]) [6] (.b (.rj 4 [0,1,2,7,29] (fun (c9:Bool)=>[(29,BB c9)]) .e) .e) .e .e) Tryz.func96 rfl rfl rfl rfl rfl go⟩
instance con69 {a0:Grammar}{a1:(List State)}{r:(List (List Int))}:CF Tryz.prog 69 (pf69 a0 a1=some r) [.agg (eGrammar_0.cells a0),iR eState_0 a1] [none,none] (iR (eM eI) r):=⟨fun h=>by unfold pf69 at h; exact Con.au (N:=⟨74,[]⟩) [1,2,4,5,6,7,8,9,10,11,12,20,42,62] (.lp (fun (s3:List (List Int) × Int)=>[(7,oR (eM eI) s3.1),(8,I64 s3.2)]) [1,5,6,7,8] 0 (fun (x4:List (List Int))=>[(7,oR (eM eI) x4)]) [7] (.b (.rd 8 [[],[],[],[1,2],[1,2,3],[1,2,3,4],[],[],[6,7],[6,7,8],[6,7,8,9],rn 0 11 [],rn 0 12 []] (.lp (fun (s10:List Int × Int)=>[(9,iR eI s10.1),(11,I64 s10.2)]) [1,5,6,7,8,9,10,11] 2 (fun (x11:List Int)=>[(9,iR eI x11)]) [1,5,6,7,8,9] (.b (.jn [1,5,6,7,8,9,10,11] (fun (j15:List Int)=>[(9,iR eI j15)]) (.rj 13 [1,5,6,7,8,9,10,11,12,62] (fun (c20:Bool)=>[(62,BB c20)]) (.jn [1,5,6,7,8,9,10,11] (fun (j21:List Int)=>[(9,iR eI j21)]) .e .e)) .e) .e) .e)) .e) .e) Tryz.func69 rfl rfl rfl rfl rfl go⟩
instance con72 {a0:(List State)}{a1:Int}{a2:(List Int)}{r:Int}:CF Tryz.prog 72 (pf72 a0 a1 a2=some r) [iR eState_0 a0,I64 a1,iR eI a2] [none,none,none] (I64 r):=⟨fun h=>by unfold pf72 at h; exact Con.au (N:=⟨26,[]⟩) [0,1,2,6,7,15] (.lp (fun (s1:Int × Int)=>[(1,I64 s1.1),(7,I64 s1.2)]) [0,1,2,7] 0 (fun (x2:Int)=>[(1,I64 x2)]) [1] (.rj 2 [0,1,2,7,15] (fun (c5:Bool)=>[(15,BB c5)]) .e) .e) Tryz.func72 rfl rfl rfl rfl rfl go⟩
instance con70 {a0:Grammar}{a1:(List State)}{r:(List (List Int))}:CF Tryz.prog 70 (pf70 a0 a1=some r) [.agg (eGrammar_0.cells a0),iR eState_0 a1] [none,none] (iR (eM eI) r):=⟨fun h=>by unfold pf70 at h; exact Con.au (N:=⟨104,[]⟩) [1,2,4,5,6,7,8,9,10,11,12,13,24,31,52,56,72,84,93] (.lp (fun (s4:List (List Int) × Int)=>[(7,oR (eM eI) s4.1),(8,I64 s4.2)]) [1,2,5,6,7,8] 0 (fun (x5:List (List Int))=>[(7,oR (eM eI) x5)]) [7] (.b (.lp (fun (s8:List (List Int) × Int)=>[(7,oR (eM eI) s8.1),(9,I64 s8.2)]) [1,2,5,6,7,8,9] 2 (fun (x9:List (List Int))=>[(7,oR (eM eI) x9)]) [1,2,5,6,7,8] (.b (.jn [1,2,5,6,7,8,9] (fun (j12:List (List Int))=>[(7,oR (eM eI) j12)]) (.rd 11 [[],[0],[],[0,1,2],[0,1,2,3],rn 0 5 [],rn 0 6 [],[],[],[7,8],[7,8,9],[7,8,9,10],rn 0 12 []] (.b .e (.lp (fun (s17:List (List Int) × Int)=>[(7,oR (eM eI) s17.1),(11,I64 s17.2)]) [1,2,5,6,7,8,9,10,11] 4 (fun (x18:List (List Int))=>[(7,oR (eM eI) x18)]) [1,2,5,6,7,8,9] (.b (.jn [1,2,5,6,7,8,9,10,11] (fun (j21:List (List Int))=>[(7,oR (eM eI) j21)]) (.rj 15 [1,2,5,6,7,8,9,10,11,72] (fun (c26:Bool)=>[(72,BB c26)]) (.b .e (.rd 16 [[],[],[],[1,2],[1,2,3],[1,2,3,4],[],[],[6,7],rn 0 9 [],rn 0 10 []] (.jn [1,2,5,6,7,8,9,10,11] (fun (j31:List (List Int))=>[(7,oR (eM eI) j31)]) (.b (.jn [1,2,5,6,7,8,9,10,11] (fun (j35:List (List Int))=>[(7,oR (eM eI) j35)]) .e .e) .e) .e)))) .e) .e) .e))) .e) .e) .e) .e) .e) Tryz.func70 rfl rfl rfl rfl rfl go⟩
theorem con44l (a0:Grammar) (a1:(List State)) (r:(List (List Int))) (h:pf44 a0 a1=some r):Con Tryz.prog 44 [.agg (eGrammar_0.cells a0),iR eState_0 a1] [none,none] (iR (eM eI) r):=by
 unfold pf44 at h
 refine Con.go (N:=⟨15,[]⟩) Tryz.func44 q q q q (W.fin ?_)
 refine W.st [(0,.agg (eGrammar_0.cells a0)),(1,iR eState_0 a1)] ?_
 refine W.sq'<|W.rx [(1,_),(2,_)] (Rv (O.box (.aggF q q) q)<|Rv (O.az .knil)<|Fi (tn2 q q)) ?_
 refine Px.sq<|W.sq' ?_
 obtain ⟨x1,hx1,h⟩:=bnd h
 obtain ⟨x2,hx2,h⟩:=bnd h
 obtain ⟨x3,hx3,h⟩:=bnd h
 obtain ⟨x4,hx4,h⟩:=bnd h
 obtain ⟨x5,hx5,h⟩:=bnd h
 refine W.rdp [0,1,2,3,4,6,7,5,8,9,10] [[],[0],[],[],[0,1,2,3],[],[],rn 0 5 [],rn 0 8 [],rn 0 9 [],rn 0 10 []] [(4,_)] mixo (by kernel_rfl) (by kernel_rfl) (Dv 0 (O.mv (.imm q))<|Dc 1 (PC.go (.cc (.imm q) .nil) (CF.go hx1) call68 q)<|Dv 2 (O.ldON (cs':=[iR eTok a0.Toks,iR eNon a0.Nons,iR eProd_0 a0.Prods,SS a0.Pro,SS a0.Tail]) q (.obj q) at38 q q)<|Dv 3 (O.mv (.imm q))<|Dc 4 (PC.go (.cc (.aggF q q) (.cc (.imm q) .nil)) (CF.go hx2) call69 q)<|Dv 5 (O.ldON (cs':=[iR eTok a0.Toks,iR eNon a0.Nons,iR eProd_0 a0.Prods,SS a0.Pro,SS a0.Tail]) q (.obj q) at38 q q)<|Dv 6 (O.mv (.imm q))<|DL.bu 7 (G2:=[(10,oR (eM eI) x3),(1,iR eState_0 a1),(2,.obj (eGrammar_0.cells a0))]) (U:=[(6,12,some (iR eState_0 a1)),(5,11,some (.agg [iR eTok a0.Toks,iR eNon a0.Nons,iR eProd_0 a0.Prods,SS a0.Pro,SS a0.Tail]))]) (EffOk.v (EO.eff (EO.call q q (CallOk.tn (en:=(eM eI)) (L:=x1) (G2:=[(1,iR eState_0 a1),(2,.obj (eGrammar_0.cells a0))]) (ys:=[iR (eM eI) x2]) q q q q (CF.go hx3) call67 (tn2 q q) q q)))) q q (by kernel_rfl) q q q (.c (.inr (.inr (.inr (.inr (.inl ⟨_,_,_,q,NRc.nr⟩))))) q q q q q (Gd.wanted .none) (O.mv (.imm q)) (.c (.inr (.inr (.inr (.inr (.inr ⟨_,q,Plc.pl,cloN⟩))))) q q q q q (Gd.wanted .none) (O.ldON (cs':=[iR eTok a0.Toks,iR eNon a0.Nons,iR eProd_0 a0.Prods,SS a0.Pro,SS a0.Tail]) q (.obj q) at38 q q) .nil)) (by kernel_rfl)<|Dc 8 (PC.go (.cc (.aggF q q) (.cc (.imm q) .nil)) (CF.go hx4) call70 q)<|DL.bp 9 (G2:=[(14,oR (eM eI) x5)]) (EO.call q q (CallOk.tn (en:=(eM eI)) (L:=x3) (G2:=[]) (ys:=[iR (eM eI) x4]) q q q q (CF.go hx5) call67 .nil q q)) q q q q (by kernel_rfl) (by kernel_rfl)<|DL.bv 10 (G2:=[]) (EO.aR q q (.own q) q .nil q q) q q q q (by kernel_rfl) (by kernel_rfl)<|DL.fin q q q (.n q .nil)) ?_
 refine Px.sq<|W.fz (G1:=[(4,iR (eM eI) x5)]) [4] (.z q q .zz .nil) ?_
 refine W.rt ?_
 obtain rfl:=sm h
 exact Px.fin (Fin.ro (.f q q .nil) q (ode (by kernel_rfl)) (.no (.no .nil)) q (.inr q))
instance con44 {a0:Grammar}{a1:(List State)}{r:(List (List Int))}:CF Tryz.prog 44 (pf44 a0 a1=some r) [.agg (eGrammar_0.cells a0),iR eState_0 a1] [none,none] (iR (eM eI) r):=⟨con44l a0 a1 _⟩
instance con45 {a0:Grammar}{a1:(List Item)}{r:(List Int)}:CF Tryz.prog 45 (pf45 a0 a1=some r) [.agg (eGrammar_0.cells a0),iR eItem a1] [none,none] (iR eI r):=⟨fun h=>by unfold pf45 at h; exact Con.au (N:=⟨51,[]⟩) [1,2,4,5,6,7,14,41] (.lp (fun (s2:List Int × Int)=>[(5,oR eI s2.1),(7,I64 s2.2)]) [2,5,6,7] 0 (fun (x3:List Int)=>[(5,oR eI x3)]) [5] (.b (.jn [2,5,6,7] (fun (j6:List Int)=>[(5,oR eI j6)]) (.rk 6 [[],[],[0,1],[0,1,2],[0,1,2,3],rn 0 5 [],rn 0 6 [],rn 0 7 [],rn 0 7 [],rn 0 9 [],rn 0 10 [],rn 0 11 [],rn 0 7 [],rn 0 7 [12],rn 0 7 [],rn 0 7 [],rn 0 7 [14,15],rn 0 7 [14,15,16],rn 0 7 [14,15,16,17],rn 0 7 (rn 12 7 []),rn 0 7 (rn 12 8 []),rn 0 7 (rn 12 9 []),rn 0 7 (rn 12 10 []),rn 0 23 [],rn 0 24 []] [2,5,6,7,41] (fun (c12:Bool)=>[(41,BB c12)]) (.jn [2,5,6,7] (fun (j13:List Int)=>[(5,oR eI j13)]) .e .e)) .e) .e) .e) Tryz.func45 rfl rfl rfl rfl rfl go⟩
instance con46 {a0:Grammar}{a1:(List State)}{a2:Int}{a3:Int}{r:(List Int)}:CF Tryz.prog 46 (pf46 a0 a1 a2 a3=some r) [.agg (eGrammar_0.cells a0),iR eState_0 a1,I64 a2,I64 a3] [none,none,none,none] (iR eI r):=⟨fun h=>by unfold pf46 at h; exact Con.au (N:=⟨74,[]⟩) [1,2,3,4,8,9,10,11,30,36,68] (.rj 1 [1,2,3,4,30] (fun (c4:Bool)=>[(30,BB c4)]) (.b .e (.lp (fun (s7:List Int × Int)=>[(10,oR eI s7.1),(11,I64 s7.2)]) [1,2,3,4,9,10,11] 0 (fun (x8:List Int)=>[(10,oR eI x8)]) [10] (.b (.jn [1,2,3,4,9,10,11] (fun (j11:List Int)=>[(10,oR eI j11)]) (.rk 8 [[],[],[0,1],[0,1,2],[0,1,2,3],[],[5],[],[5,6,7],[5,6,7,8],rn 5 5 [],rn 5 6 [],rn 0 12 [],rn 0 13 [],rn 0 14 [],rn 0 14 [],rn 0 14 [],rn 0 14 [15,16],rn 0 14 [15,16,17],rn 0 14 [15,16,17,18],rn 0 14 [],rn 0 14 [20],rn 0 14 [],rn 0 14 [20,21,22],rn 0 14 [20,21,22,23],rn 0 14 (rn 20 5 []),rn 0 26 [],rn 0 14 [],rn 0 28 [],rn 0 29 []] [1,2,3,4,9,10,11,68] (fun (c18:Bool)=>[(68,BB c18)]) (.jn [1,2,3,4,9,10,11] (fun (j19:List Int)=>[(10,oR eI j19)]) .e .e)) .e) .e) .e))) Tryz.func46 rfl rfl rfl rfl rfl go⟩
instance con23 {a0:Grammar}{a1:(List State)}{r:(List Look)}:CF Tryz.prog 23 (pf23 a0 a1=some r) [.agg (eGrammar_0.cells a0),iR eState_0 a1] [none,none] (iR eLook_0 r):=⟨fun h=>by unfold pf23 at h; exact Con.au (N:=⟨87,[]⟩) [1,2,4,5,6,7,8,9,10,11,12,13,20,33,53,65] (.lp (fun (s2:List Look × Int)=>[(6,oR eLook_0 s2.1),(7,I64 s2.2)]) [1,2,5,6,7] 0 (fun (x3:List Look)=>[(6,oR eLook_0 x3)]) [6] (.b (.rd 6 [[],[],[],[1,2],[1,2,3],[1,2,3,4],rn 0 6 [],rn 0 7 []] (.lp (fun (s8:List Look × Int)=>[(6,oR eLook_0 s8.1),(9,I64 s8.2)]) [1,2,5,6,7,8,9] 2 (fun (x9:List Look)=>[(6,oR eLook_0 x9)]) [1,2,5,6,7] (.b (.rd 11 [[],[],[],[],[],[3,4],[3,4,5],rn 0 7 [],rn 0 8 []] (.lp (fun (s15:List Int × Int)=>[(3010,iR eI s15.1),(12,I64 s15.2)]) [1,2,5,6,7,8,9,10,11,12] 4 (fun (x16:List Int)=>[(3010,iR eI x16)]) [1,2,5,6,7,8,9,10] (.b (.lp (fun (s19:List Int × Int)=>[(3010,iR eI s19.1),(13,I64 s19.2)]) [1,2,5,6,7,8,9,10,11,12,13] 6 (fun (x20:List Int)=>[(3010,iR eI x20)]) [1,2,5,6,7,8,9,10,11,12] (.b (.rd 18 [[],[0],[],[],[],[3,4],[3,4,5],rn 2 5 [],rn 2 6 [],[],rn 2 8 [],rn 2 9 [],rn 0 12 [],rn 0 13 [],rn 0 14 []] .e) .e) .e) .e) .e)) .e) .e)) .e) .e) Tryz.func23 rfl rfl rfl rfl rfl go⟩
theorem con8l (a0:Source) (r:Grammar × (List State) × (List Cell) × Bool) (h:pf8 a0=some r):Con Tryz.prog 8 [.agg (eSource_0.cells a0)] [none] (.tup [.agg (eGrammar_0.cells r.1),iR eState_0 r.2.1,iR eCell_0 r.2.2.1,BB r.2.2.2]):=by
 unfold pf8 at h
 refine Con.go (N:=⟨26,[]⟩) Tryz.func8 q q q q (W.fin ?_)
 refine W.st [(0,.agg (eSource_0.cells a0))] ?_
 refine W.sq'<|W.rx [(1,_),(2,_)] (Rv (O.box (.aggF q q) q)<|Rv (O.al (cs:=[.nils,.nils,.nils,SS S0,SS S0]) ze38 q q)<|Rv (O.az .knil)<|Rv (O.az .knil)<|Vk q<|Fi (tn2 q q)) ?_
 refine Px.sq<|W.sq' ?_
 obtain ⟨x1,hx1,h⟩:=bnd h
 refine W.rx [(2,_),(6,_),(7,_),(8,_)] (Rv (O.ldON (cs':=[SS a0.Pro,iR eDecl_0 a0.Decls,iR eRule_0 a0.Rules,SS a0.Tail]) q (.obj q) at25 q q)<|Rc (PC.go (.cc (.aggF q q) .nil) (CF.go hx1) call21 q)<|Rv (O.mv (.tup q q))<|Rv (O.ex (y:=.agg (eGrammar_0.cells x1.1)) q q q)<|Rv (O.ex (y:=iR eState_0 x1.2.1) q q q)<|Rv (O.ex (y:=BB x1.2.2) q q q)<|Rv (O.al (cs:=[.nils,.nils,.nils,SS S0,SS S0]) ze38 q q)<|RunL.sO (G2:=[(2,_),(6,_),(13,_),(14,_)]) (cs2:=[iR eTok x1.1.Toks,iR eNon x1.1.Nons,iR eProd_0 x1.1.Prods,SS x1.1.Pro,SS x1.1.Tail]) q (.obj q) (.aggF q q) q sz38 q q q q (.n q q (.b q (.n q q (.n q q .nil))))<|Rv (O.az (.imm q))<|Va q<|Fi (tn4 q q q q)) ?_
 refine Px.sq<|W.sq' ?_
 refine W.sq'<|W.rx [(2,_),(6,_),(7,_),(16,_)] (Vm q<|Rv (O.not (.lit q))<|Fi (tn4 q q q q)) ?_
 refine Px.sq<|W.cnd q (fun hb2=>?_) (fun hb2=>?_)
 ·replace h:=cndT hb2 h
  refine W.sq'<|W.rx [(2,_),(3,_),(4,_),(5,_)] (Rv (O.ldON (cs':=[iR eTok x1.1.Toks,iR eNon x1.1.Nons,iR eProd_0 x1.1.Prods,SS x1.1.Pro,SS x1.1.Tail]) q (.obj q) at38 q q)<|RunL.sO (G2:=[(2,_)]) (cs2:=[iR eTok x1.1.Toks,iR eNon x1.1.Nons,iR eProd_0 x1.1.Prods,SS x1.1.Pro,SS x1.1.Tail]) q (.obj q) (.aggF q q) q sz38 q q q q (.b q .nil)<|Rv (O.az .knil)<|Rv (O.az .knil)<|Vk q<|Fi (tn4 q q q q)) ?_
  refine Px.sq<|W.fz (G1:=[(2,_),(3,iR eState_0 ([]:List State)),(4,iR eCell_0 ([]:List Cell)),(5,_)]) [3,4] (.n q q (.z q q .zz (.z q q .zz (.n q q .nil)))) ?_
  refine W.rt ?_
  refine Px.sqR ?_
  obtain rfl:=sm h
  exact Px.fin (Fin.ro (.c (ys0:=[iR eTok x1.1.Toks,iR eNon x1.1.Nons,iR eProd_0 x1.1.Prods,SS x1.1.Pro,SS x1.1.Tail]) q at38 q q q (.f q (.f q (.f q (.f q (.f q .nil))))) (.f q q (.f q q (.f q q .nil)))) q (ode (by kernel_rfl)) (.no .nil) q (.inr q))
 ·replace h:=cndF hb2 h
  refine W.sk<|Px.sq ?_
  refine W.sq' ?_
  obtain ⟨x3,hx3,h⟩:=bnd h
  obtain ⟨x4,hx4,h⟩:=bnd h
  refine W.rd [[],[],[],[],[],[],[4,5],rn 2 5 [],(0::rn 2 6 []),rn 0 9 [],rn 0 10 [],rn 0 11 []] [(2,_),(3,_),(4,_),(5,_)] mixo (by kernel_rfl) (Dv 0 (O.ldON (cs':=[iR eTok x1.1.Toks,iR eNon x1.1.Nons,iR eProd_0 x1.1.Prods,SS x1.1.Pro,SS x1.1.Tail]) q (.obj q) at38 q q)<|Dv 1 (O.mv (.imm q))<|Dv 2 (O.ldON (cs':=[iR eTok x1.1.Toks,iR eNon x1.1.Nons,iR eProd_0 x1.1.Prods,SS x1.1.Pro,SS x1.1.Tail]) q (.obj q) at38 q q)<|Dv 3 (O.mv (.imm q))<|Dv 4 (O.ldON (cs':=[iR eTok x1.1.Toks,iR eNon x1.1.Nons,iR eProd_0 x1.1.Prods,SS x1.1.Pro,SS x1.1.Tail]) q (.obj q) at38 q q)<|Dv 5 (O.mv (.imm q))<|Dc 6 (PC.go (.cc (.aggF q q) (.cc (.imm q) .nil)) (CF.go hx3) call23 q)<|Dc 7 (PC.go (.cc (.aggF q q) (.cc (.imm q) (.cc (.imm q) .nil))) (CF.go hx4) call22 q)<|DL.bu 8 (G2:=[(2,.obj (eGrammar_0.cells x1.1)),(7,iR eState_0 x1.2.1),(25,iR eCell_0 x4)]) (U:=[(1,19,some (iR eState_0 x1.2.1))]) (EffOk.v (EO.eff (EO.sO (G2:=[(2,.obj (eGrammar_0.cells x1.1)),(7,iR eState_0 x1.2.1),(25,iR eCell_0 x4)]) (cs2:=[iR eTok x1.1.Toks,iR eNon x1.1.Nons,iR eProd_0 x1.1.Prods,SS x1.1.Pro,SS x1.1.Tail]) q q q (.obj q) (.aggF q q) q sz38 q q q q (.b q (.n q q (.n q q .nil)))))) q q (by kernel_rfl) q q q (.c (.inr (.inr (.inr (.inr (.inl ⟨_,_,_,q,NRc.nr⟩))))) q q q q q (Gd.wanted .none) (O.mv (.imm q)) .nil) (by kernel_rfl)<|Dv 9 (O.az (.imm q))<|Dv 10 (O.az (.imm q))<|Dv 11 (O.az (.k q))<|DL.fin q q q (tn4 q q q q)) ?_
  refine Px.sq<|W.rt ?_
  obtain rfl:=sm h
  exact Px.fin (Fin.ro (.c (ys0:=[iR eTok x1.1.Toks,iR eNon x1.1.Nons,iR eProd_0 x1.1.Prods,SS x1.1.Pro,SS x1.1.Tail]) q at38 q q q (.f q (.f q (.f q (.f q (.f q .nil))))) (.f q q (.f q q (.f q q .nil)))) q (ode (by kernel_rfl)) (.no .nil) q (.inr q))
instance con8 {a0:Source}{r:Grammar × (List State) × (List Cell) × Bool}:CF Tryz.prog 8 (pf8 a0=some r) [.agg (eSource_0.cells a0)] [none] (.tup [.agg (eGrammar_0.cells r.1),iR eState_0 r.2.1,iR eCell_0 r.2.2.1,BB r.2.2.2]):=⟨con8l a0 _⟩
theorem con99l (a0:Int) (a1:Int) (r:Int × Int) (h:pf99 a0 a1=some r):Con Tryz.prog 99 [.lit (.int .u64 a0),.lit (.int .u64 a1)] [none,none] (.tup [.lit (.int .u64 r.1),.lit (.int .u64 r.2)]):=by
 unfold pf99 at h
 refine Con.go (N:=⟨51,[]⟩) Tryz.func99 q q q q (W.fin ?_)
 refine W.st [(0,.lit (.int .u64 a0)),(1,.lit (.int .u64 a1))] ?_
 refine W.sq'<|W.rx [(0,_),(1,_)] (Vk q<|Vk q<|Fi (tn2 q q)) ?_
 refine Px.sq<|W.sq' ?_
 refine W.rx [(0,_),(1,_),(6,_)] (Vm q<|Rv (O.and' (.lit q) (.k q))<|Va q<|Fi (tn3 q q q)) ?_
 refine Px.sq<|W.sq' ?_
 refine W.rx [(0,_),(1,_),(6,_),(7,_)] (Vm q<|Rv (O.shr (.lit q) (.k q) q)<|Va q<|Fi (tn4 q q q q)) ?_
 refine Px.sq<|W.sq' ?_
 refine W.rx [(0,_),(1,_),(6,_),(7,_),(8,_)] (Vm q<|Rv (O.and' (.lit q) (.k q))<|Va q<|Fi (tn5 q q q q q)) ?_
 refine Px.sq<|W.sq' ?_
 refine W.rx [(0,_),(1,_),(6,_),(7,_),(8,_),(9,_)] (Vm q<|Rv (O.shr (.lit q) (.k q) q)<|Va q<|Fi (tn6 q q q q q q)) ?_
 refine Px.sq<|W.sq' ?_
 refine W.rx [(0,_),(1,_),(6,_),(7,_),(8,_),(9,_),(10,_)] (Vm q<|Vm q<|Rv (O.mul (.lit q) (.lit q))<|Va q<|Fi (tn7 q q q q q q q)) ?_
 refine Px.sq<|W.sq' ?_
 refine W.rx [(0,_),(1,_),(6,_),(7,_),(9,_),(11,_)] (Vm q<|Vm q<|Rv (O.mul (.lit q) (.lit q))<|Vm q<|Rv (O.shr (.lit q) (.k q) q)<|Rv (O.add (.lit q) (.lit q))<|Va q<|Fi (tn6 q q q q q q)) ?_
 refine Px.sq<|W.sq' ?_
 refine W.rx [(0,_),(1,_),(6,_),(7,_),(9,_),(11,_),(12,_)] (Vm q<|Rv (O.and' (.lit q) (.k q))<|Va q<|Fi (tn7 q q q q q q q)) ?_
 refine Px.sq<|W.sq' ?_
 refine W.rx [(0,_),(1,_),(6,_),(7,_),(9,_),(12,_),(13,_)] (Vm q<|Rv (O.shr (.lit q) (.k q) q)<|Va q<|Fi (tn7 q q q q q q q)) ?_
 refine Px.sq<|W.sq' ?_
 refine W.rx [(0,_),(1,_),(7,_),(9,_),(12,_),(13,_)] (Vm q<|Vm q<|Vm q<|Rv (O.mul (.lit q) (.lit q))<|Rv (O.add (.lit q) (.lit q))<|RunL.re (G1:=[(0,_),(1,_),(7,_),(9,_),(13,_),(39,_)]) (tn6 q q q q q q)<|Va q<|Fi (tn6 q q q q q q)) ?_
 refine Px.sq<|W.sq' ?_
 refine W.rx [(0,_),(1,_),(4,_)] (Vm q<|Vm q<|Rv (O.mul (.lit q) (.lit q))<|Vm q<|Rv (O.add (.lit q) (.lit q))<|Vm q<|Rv (O.shr (.lit q) (.k q) q)<|Rv (O.add (.lit q) (.lit q))<|Va q<|Fi (tn3 q q q)) ?_
 refine Px.sq<|W.sq' ?_
 refine W.rx [(4,_),(5,_)] (Vm q<|Vm q<|Rv (O.mul (.lit q) (.lit q))<|Va q<|Fi (tn2 q q)) ?_
 refine Px.sq<|W.rt ?_
 obtain rfl:=sm h
 exact Px.fin (Fin.ro (.f q q (.f q q .nil)) q (ode (by kernel_rfl)) (.no (.no .nil)) q (.inr q))
instance con99 {a0:Int}{a1:Int}{r:Int × Int}:CF Tryz.prog 99 (pf99 a0 a1=some r) [.lit (.int .u64 a0),.lit (.int .u64 a1)] [none,none] (.tup [.lit (.int .u64 r.1),.lit (.int .u64 r.2)]):=⟨con99l a0 a1 _⟩
theorem con73l (a0:Int) (a1:Int) (r:Int × Int) (h:pf73 a0 a1=some r):Con Tryz.prog 73 [.lit (.int .u64 a0),.lit (.int .u64 a1)] [none,none] (.tup [.lit (.int .u64 r.1),.lit (.int .u64 r.2)]):=by
 unfold pf73 at h
 refine Con.go (N:=⟨30,[]⟩) Tryz.func73 q q q q (W.fin ?_)
 refine W.st [(0,.lit (.int .u64 a0)),(1,.lit (.int .u64 a1))] ?_
 refine W.sq'<|W.rx [(0,_),(1,_)] (Vk q<|Vk q<|Fi (tn2 q q)) ?_
 refine Px.sq<|W.sq' ?_
 refine W.ckF ?_
 refine W.sk<|Px.sq ?_
 refine W.sq' ?_
 obtain ⟨x1,hx1,h⟩:=bnd h
 refine W.rx [(8,_),(9,_)] (Vm q<|Vm q<|Rc (PC.go (.cc (.lit q) (.cc (.lit q) .nil)) (CF.go hx1) call99 q)<|Rv (O.mv (.tupF q q))<|Rv (O.ex (y:=.lit (.int .u64 x1.1)) q q q)<|Rv (O.ex (y:=.lit (.int .u64 x1.2)) q q q)<|Va q<|Va q<|Fi (tn2 q q)) ?_
 refine Px.sq<|W.sq' ?_
 refine W.rx [(4,_),(5,_)] (Vm q<|Vm q<|Va q<|Va q<|Fi (tn2 q q)) ?_
 refine Px.sq<|W.rt ?_
 obtain rfl:=sm h
 exact Px.fin (Fin.ro (.f q q (.f q q .nil)) q (ode (by kernel_rfl)) (.no (.no .nil)) q (.inr q))
instance con73 {a0:Int}{a1:Int}{r:Int × Int}:CF Tryz.prog 73 (pf73 a0 a1=some r) [.lit (.int .u64 a0),.lit (.int .u64 a1)] [none,none] (.tup [.lit (.int .u64 r.1),.lit (.int .u64 r.2)]):=⟨con73l a0 a1 _⟩
theorem con47l (a0:(List Int)) (a1:Int) (r:(List Int)) (h:pf47 a0 a1=some r):Con Tryz.prog 47 [iR eI a0,I64 a1] [none,none] (oR eI r):=by
 unfold pf47 at h
 refine Con.go (N:=⟨48,[]⟩) Tryz.func47 q q q q (W.fin ?_)
 refine W.st [(0,iR eI a0),(1,I64 a1)] ?_
 refine W.sq'<|W.rx [(0,_),(1,_)] (Rv (O.az .knil)<|Fi (tn2 q q)) ?_
 refine Px.sq<|W.sq' ?_
 refine W.sq'<|W.rx [(0,_),(1,_),(10,_)] (Vm q<|Rv (O.lss (.lit q) (.k q))<|Fi (tn3 q q q)) ?_
 refine Px.sq<|W.cnd q (fun hb1=>?_) (fun hb1=>?_)
 ·replace h:=cndT hb1 h
  cases h
 ·replace h:=cndF hb1 h
  refine W.sk<|Px.sq ?_
  refine W.sq' ?_
  obtain ⟨x2,hx2,h⟩:=bnd h
  refine W.rx [(0,_),(5,_),(6,_)] (Rv (O.mv (.imm q))<|Rv (O.lenI (.imm q) sl27)<|Rv (O.cvI (.lit q) it3 it162)<|Vm q<|Rv (O.cvI (.lit q) it3 it162)<|Rc (PC.go (.cc (.lit q) (.cc (.lit q) .nil)) (CF.go hx2) call73 q)<|Rv (O.mv (.tupF q q))<|Rv (O.ex (y:=.lit (.int .u64 x2.1)) q q q)<|Rv (O.ex (y:=.lit (.int .u64 x2.2)) q q q)<|Va q<|Va q<|Fi (tn3 q q q)) ?_
  refine Px.sq<|W.sq' ?_
  refine W.sq' ?_
  obtain ⟨c4,hj,h⟩:=bnd h
  refine W.rx [(0,iR eI a0),(6,.lit (.int .u64 x2.2)),(26,BB c4)] ?_ ?_
  ·refine Vm q<|Rv (O.gtr (.lit q) (.k q))<|Rv (O.mv (.lit q)) ?_
   rcases cnd hj with ⟨hb3,hj⟩ | ⟨hb3,hj⟩
   ·obtain rfl:=sm hj
    exact RunL.ps q q hb3 q q<|RunL.ps q q hb3 q q<|Rv (O.pkT (.lit q) hb3 (.k q))<|Fi (tn3 q q q)
   ·obtain rfl:=sm hj
    exact RunL.v (O.mv (.lit q)) q q (.yb q q hb3)<|RunL.v (O.gtr (.lit q) (.k q)) q q (.yb q q hb3)<|Rv (O.pkF (.lit q) hb3 (.lit q))<|Fi (tn3 q q q)
  refine Px.sq<|W.cnd q (fun hb5=>?_) (fun hb5=>?_)
  ·replace h:=cndT hb5 h
   cases h
  ·replace h:=cndF hb5 h
   refine W.sk<|Px.sq ?_
   refine W.sq' ?_
   obtain ⟨x6,hx6,h⟩:=bnd h
   refine W.rx [(0,_),(7,_)] (Vm q<|Rv (O.cvI (.lit q) it162 it3)<|Rv (O.mk (en:=eI) (z0:=0) sl27 (.lit q) (.lit q) ze3 q q hx6 bb3 q)<|RunL.ea (G2:=[(0,iR eI a0)]) q (EO.aR q q (.own q) q (.n q q .nil) q q)<|Fi (tn2 q q)) ?_
   refine Px.sq<|W.sq' ?_
   obtain ⟨x7,hx7,h⟩:=bnd h
   refine W.rx [(7,_),(8,_)] (Rv (O.mv (.own q))<|Rv (O.mv (.imm q))<|RunL.ef (G2:=(33,I64 ((min a0.length x6.length:Nat):Int))::[(7,oR eI x7)]) q (EO.cp (en:=eI) (L:=x6) (S:=a0) (L':=x7) (lo:=0) (nd:=x6.length) (r:=7) (G2:=[(7,oR eI x7)]) q q (Rd.opd (.brw q)) (.inr ⟨q,q⟩) (Rd.opd (.imm q)) SrcP.imm q q sl27 hx7 q (.b q .nil) q q)<|Va q<|Fi (tn2 q q)) ?_
   refine Px.sq<|W.sq' ?_
   refine W.bk ?_
   obtain ⟨x9,hl,h⟩:=bnd h
   refine W.tr (G1:=[(7,_),(8,_)]) (tn2 q q) ?_
   refine W.lp1 (s:=(x7,((min a0.length x6.length:Nat):Int))) (fun (s8:List Int × Int)=>[(7,oR eI s8.1),(8,I64 s8.2)]) 0 (fun (x9:List Int)=>[(7,oR eI x9)]) hl (fun s8 o h=>?_) ?_
   ·clear hl
    refine W.sq'<|W.sq' ?_
    refine W.rx [(7,_),(8,_),(37,_)] (Vm q<|Rv (O.mv (.own q))<|Rv (O.lenO (.brw q) sl27)<|Rv (O.lss (.lit q) (.lit q))<|Fi (tn3 q q q)) ?_
    refine Px.sq<|W.cnd q (fun hb11=>?_) (fun hb11=>?_)
    ·replace h:=cndT hb11 h
     refine W.sk<|Px.sq ?_
     refine W.bk<|W.tr (G1:=[(7,_),(8,_)]) (tn2 q q) ?_
     obtain ⟨x12,hx12,h⟩:=bnd h
     obtain ⟨x13,hx13,h⟩:=bnd h
     obtain ⟨x14,hx14,h⟩:=bnd h
     refine W.rd [[],[],[],[1,2],[],[],[4,5],rn 1 6 [],rn 0 8 [],rn 0 9 []] [(7,_),(8,_)] mixo (by kernel_rfl) (Dv 0 (O.mv (.lit q))<|Dv 1 (O.mv (.own q))<|Dv 2 (O.mv (.lit q))<|Dv 3 (O.slS (en:=eI) (L:=s8.1) (.brw q) (.lit q) q sl27 hx12)<|Dv 4 (O.mv (.own q))<|Dv 5 (O.mv (.lit q))<|Dv 6 (O.slH (en:=eI) (L:=s8.1) (.brw q) (.lit q) q sl27 hx13)<|DL.bu 7 (G2:=(45,I64 ((min (s8.1.take s8.2.toNat).length (s8.1.length - s8.2.toNat):Nat):Int))::[(7,oR eI x14),(8,I64 s8.2)]) (U:=[(0,38,some (I64 s8.2))]) (EffOk.v (EO.eff (EO.cp (en:=eI) (L:=s8.1) (S:=(s8.1.take s8.2.toNat)) (L':=x14) (lo:=s8.2.toNat) (nd:=(s8.1.length - s8.2.toNat)) (r:=7) (G2:=[(7,oR eI x14),(8,I64 s8.2)]) q q (Rd.opd (.sub q)) (.inl q) (Rd.opd (.brw q)) (SrcP.brw (en:=eI) (L:=s8.1) q (inO_le hx13)) q q sl27 hx14 q (.b q (.n q q .nil)) q q))) q q (by kernel_rfl) q q q (.c (.inr (.inl ⟨_,q⟩)) q q q q q (Gd.wanted .none) (O.mv (.lit q)) .nil) (by kernel_rfl)<|Dv 8 (O.add (.lit q) (.lit q))<|DL.bv 9 (G2:=[(7,oR eI x14)]) (EO.aG (y':=I64 (w64 (s8.2+((min (s8.1.take s8.2.toNat).length (s8.1.length - s8.2.toNat):Nat):Int)))) q q (.lit q) (.f .nil) .refl (.n q .nil) q q) q q q q (by kernel_rfl) (by kernel_rfl)<|DL.fin q q q (tn2 q q)) ?_
     refine Px.bk ?_
     obtain rfl:=sm h
     exact Px.go (tn2 q q)
    ·replace h:=cndF hb11 h
     refine W.xi ?_
     refine Px.sqE ?_
     obtain rfl:=sm h
     exact Px.x1 (.n q .nil)
   refine Px.bkH ?_
   refine Px.sq<|W.sq' ?_
   refine W.rx [(4,_)] (Rv (O.mv (.own q))<|RunL.ea (G2:=[]) q (EO.aR q q (.brw q) q .nil q q)<|Fi (.n q .nil)) ?_
   refine Px.sq<|W.rt ?_
   obtain rfl:=sm h
   exact Px.fin (Fin.ro (.o q .nil) q (ode (by kernel_rfl)) (.no (.no .nil)) q (.inr q))
instance con47 {a0:(List Int)}{a1:Int}{r:(List Int)}:CF Tryz.prog 47 (pf47 a0 a1=some r) [iR eI a0,I64 a1] [none,none] (oR eI r):=⟨con47l a0 a1 _⟩
theorem con24l (a0:Grammar) (a1:(List State)) (r:Dense) (h:pf24 a0 a1=some r):Con Tryz.prog 24 [.agg (eGrammar_0.cells a0),iR eState_0 a1] [none,none] (.agg [oR (eO eAct) r.Acts,oR (eM eI) r.Gotos]):=by
 unfold pf24 at h
 refine Con.go (N:=⟨57,[]⟩) Tryz.func24 q q q q (W.fin ?_)
 refine W.st [(0,.agg (eGrammar_0.cells a0)),(1,iR eState_0 a1)] ?_
 refine W.sq'<|W.rx [(1,_),(2,_),(4,_)] (Rv (O.box (.aggF q q) q)<|Rv (O.al (cs:=[.nils,.nils]) ze45 q q)<|Fi (tn3 q q q)) ?_
 refine Px.sq<|W.sq' ?_
 refine W.rx [(1,_),(2,_),(4,_),(5,_)] (Rv (O.al (cs:=[.nils,.nils]) ze45 q q)<|Fi (tn4 q q q q)) ?_
 refine Px.sq<|W.sq' ?_
 refine W.sq'<|W.rx [(2,_),(4,_),(5,_),(11,_),(12,_),(13,_)] (Rv (O.mv (.imm q))<|Rv (O.lenI (.imm q) sl39)<|Rv (O.mv (.k q))<|Fi (tn6 q q q q q q)) ?_
 refine Px.sq<|W.bk ?_
 obtain ⟨x2,hl,h⟩:=bnd h
 refine W.tr (G1:=[(2,_),(4,_),(5,.obj [oR (eO eAct) ([]:List (List Act)),oR (eM eI) ([]:List (List Int))]),(11,_),(12,_),(13,_)]) (.n q (.n q (.w q q (WkL.obj (.o (.o .nil))) (tn3 q q q)))) ?_
 refine W.lp1 (s:=(([]:List (List Act)),([]:List (List Int)),0)) (fun (s1:List (List Act) × List (List Int) × Int)=>[(2,.obj (eGrammar_0.cells a0)),(4,.obj [.nils,.nils]),(5,.obj [oR (eO eAct) s1.1,oR (eM eI) s1.2.1]),(11,iR eState_0 a1),(12,I64 (a1.length:Int)),(13,I64 s1.2.2)]) 0 (fun (x2:List (List Act) × List (List Int))=>[(4,.obj [.nils,.nils]),(5,.obj [oR (eO eAct) x2.1,oR (eM eI) x2.2])]) hl (fun s1 o h=>?_) ?_
 ·clear hl
  refine W.sq'<|W.rx [(2,_),(4,_),(5,_),(11,_),(12,_),(13,_),(14,_)] (Rv (O.lss (.lit q) (.lit q))<|Fi (tn7 q q q q q q q)) ?_
  refine Px.sq<|W.sq' ?_
  refine W.cnd q (fun hb4=>?_) (fun hb4=>?_)
  ·replace h:=cndT hb4 h
   refine W.sk<|Px.sq ?_
   refine W.sq'<|W.bk ?_
   refine W.sq' ?_
   obtain ⟨x5,hx5,h⟩:=bnd h
   refine W.rx [(2,_),(4,_),(5,_),(7,_),(11,_),(12,_),(13,_)] (Rv (O.ixI (.imm q) (.lit q) sl39 hx5)<|Rv (O.ldIN (cs':=[iR eItem x5.Kernel,iR eMove x5.Moves]) (.iptr q) at100 q q)<|Rv (O.al (cs:=[.nils,.nils]) ze100 q q)<|RunL.sO (G2:=[(2,_),(4,_),(5,_),(7,_),(11,_),(12,_),(13,_)]) (cs2:=[iR eItem x5.Kernel,iR eMove x5.Moves]) q (.obj q) (.aggF q q) q sz100 q q q q (.n q q (.n q q (.n q q (.b q (.n q q (.n q q (.n q q .nil)))))))<|Fi (tn7 q q q q q q q)) ?_
   refine Px.sq<|W.sq' ?_
   obtain ⟨x6,hx6,h⟩:=bnd h
   refine W.rx [(2,_),(4,_),(5,_),(7,_),(8,_),(11,_),(12,_),(13,_)] (RunL.vi (x:=iR eI [(-1)]) (O.bs (ys:=[I64 (-1)]) eI [(-1)] sl27 q q q q q q zt3 q q) q q .none<|Rv (O.fO q (.obj q) fd38_1 q)<|Rv (O.ldO (y:=iR eNon a0.Nons) q (.ptr q) ct35 q q)<|Rv (O.lenI (.imm q) sl35)<|Rc (PC.go (.cc (.imm q) (.cc (.lit q) .nil)) (CF.go hx6) call47 q)<|RunL.ea (G2:=[(2,.obj (eGrammar_0.cells a0)),(4,.obj [.nils,.nils]),(5,.obj [oR (eO eAct) s1.1,oR (eM eI) s1.2.1]),(7,.obj [iR eItem x5.Kernel,iR eMove x5.Moves]),(11,iR eState_0 a1),(12,I64 (a1.length:Int)),(13,I64 s1.2.2)]) q (EO.aR q q (.own q) q (.n q q (.n q q (.n q q (.n q q (.n q q (.n q q (.n q q .nil))))))) q q)<|Fi (tn8 q q q q q q q q)) ?_
   refine Px.sq<|W.sq' ?_
   refine W.sq'<|W.rx [(2,_),(4,_),(5,_),(8,_),(11,_),(12,_),(13,_),(23,_),(24,_),(25,_)] (Rv (O.fO q (.obj q) fd100_1 q)<|Rv (O.ldO (y:=iR eMove x5.Moves) q (.ptr q) ct98 q q)<|Rv (O.lenI (.imm q) sl98)<|Rv (O.mv (.k q))<|Fi (tn10 q q q q q q q q q q)) ?_
   refine Px.sq<|W.bk ?_
   obtain ⟨x8,hl,h⟩:=bnd h
   refine W.tr (G1:=[(2,_),(4,_),(5,_),(8,_),(11,_),(12,_),(13,_),(23,_),(24,_),(25,_)]) (tn10 q q q q q q q q q q) ?_
   refine W.lp1 (s:=(x6,0)) (fun (s7:List Int × Int)=>[(2,.obj (eGrammar_0.cells a0)),(4,.obj [.nils,.nils]),(5,.obj [oR (eO eAct) s1.1,oR (eM eI) s1.2.1]),(8,oR eI s7.1),(11,iR eState_0 a1),(12,I64 (a1.length:Int)),(13,I64 s1.2.2),(23,iR eMove x5.Moves),(24,I64 (x5.Moves.length:Int)),(25,I64 s7.2)]) 2 (fun (x8:List Int)=>[(2,.obj (eGrammar_0.cells a0)),(4,.obj [.nils,.nils]),(5,.obj [oR (eO eAct) s1.1,oR (eM eI) s1.2.1]),(8,oR eI x8),(11,iR eState_0 a1),(12,I64 (a1.length:Int)),(13,I64 s1.2.2)]) hl (fun s7 o h=>?_) ?_
   ·clear hl
    refine W.sq'<|W.rx [(2,_),(4,_),(5,_),(8,_),(11,_),(12,_),(13,_),(23,_),(24,_),(25,_),(26,_)] (Rv (O.lss (.lit q) (.lit q))<|Fi (tn11 q q q q q q q q q q q)) ?_
    refine Px.sq<|W.sq' ?_
    refine W.cnd q (fun hb10=>?_) (fun hb10=>?_)
    ·replace h:=cndT hb10 h
     refine W.sk<|Px.sq ?_
     refine W.sq' ?_
     obtain ⟨j11,hj,h⟩:=bnd h
     refine W.jn [(2,.obj (eGrammar_0.cells a0)),(4,.obj [.nils,.nils]),(5,.obj [oR (eO eAct) s1.1,oR (eM eI) s1.2.1]),(8,oR eI j11),(11,iR eState_0 a1),(12,I64 (a1.length:Int)),(13,I64 s1.2.2),(23,iR eMove x5.Moves),(24,I64 (x5.Moves.length:Int)),(25,I64 s7.2)] ?_ ?_
     ·clear h; have h:=hj; clear hj
      refine W.bk<|W.sq' ?_
      obtain ⟨x12,hx12,h⟩:=bnd h
      refine W.rx [(2,_),(4,_),(5,_),(8,_),(10,_),(11,_),(12,_),(13,_),(23,_),(24,_),(25,_)] (Rv (O.ixI (.imm q) (.lit q) sl98 hx12)<|Rv (O.ldIN (cs':=[I64 x12.Sym,I64 x12.To]) (.iptr q) at132 q q)<|Rv (O.al (cs:=[I64 0,I64 0]) ze132 q q)<|RunL.sO (G2:=[(2,_),(4,_),(5,_),(8,_),(10,_),(11,_),(12,_),(13,_),(23,_),(24,_),(25,_)]) (cs2:=[I64 x12.Sym,I64 x12.To]) q (.obj q) (.aggF q q) q sz132 q q q q (.n q q (.n q q (.n q q (.n q q (.b q (.n q q (.n q q (.n q q (.n q q (.n q q (.n q q .nil)))))))))))<|Fi (tn11 q q q q q q q q q q q)) ?_
      refine Px.sq<|W.sq' ?_
      refine W.rx [(2,_),(4,_),(5,_),(8,_),(10,_),(11,_),(12,_),(13,_),(23,_),(24,_),(25,_),(31,_)] (Rv (O.fO q (.obj q) fd132_0 q)<|Rv (O.ldO (y:=I64 x12.Sym) q (.ptr q) ct3 q q)<|Rv (O.geq (.lit q) (.k q))<|Fi (.n q (.n q (.n q (.n q (.n q (.n q (.n q (.n q (.n q (.n q (.n q (.n q .nil))))))))))))) ?_
      refine Px.sq ?_
      obtain ⟨j13,hj,h⟩:=bnd h
      refine W.jn [(2,.obj (eGrammar_0.cells a0)),(4,.obj [.nils,.nils]),(5,.obj [oR (eO eAct) s1.1,oR (eM eI) s1.2.1]),(8,oR eI j13),(11,iR eState_0 a1),(12,I64 (a1.length:Int)),(13,I64 s1.2.2),(23,iR eMove x5.Moves),(24,I64 (x5.Moves.length:Int)),(25,I64 s7.2)] ?_ ?_
      ·clear h; have h:=hj; clear hj
       refine W.cnd q (fun hb14=>?_) (fun hb14=>?_)
       ·replace h:=cndT hb14 h
        obtain ⟨x15,hx15,h⟩:=bnd h
        refine W.rx [(2,_),(4,_),(5,_),(8,_),(11,_),(12,_),(13,_),(23,_),(24,_),(25,_)] (Rv (O.mv (.own q))<|Rv (O.fO q (.obj q) fd132_0 q)<|Rv (O.ldO (y:=I64 x12.Sym) q (.ptr q) ct3 q q)<|Rv (O.sub (.lit q) (.k q))<|Rv (O.fO q (.obj q) fd132_1 q)<|Rv (O.ldO (y:=I64 x12.To) q (.ptr q) ct3 q q)<|Rv (O.ixO (en:=eI) q (.brw q) (.lit q) sl27 hx15 q)<|RunL.ef (G2:=[(2,.obj (eGrammar_0.cells a0)),(4,.obj [.nils,.nils]),(5,.obj [oR (eO eAct) s1.1,oR (eM eI) s1.2.1]),(8,oR eI (s7.1.set (w64 (x12.Sym - 1000)).toNat x12.To)),(11,iR eState_0 a1),(12,I64 (a1.length:Int)),(13,I64 s1.2.2),(23,iR eMove x5.Moves),(24,I64 (x5.Moves.length:Int)),(25,I64 s7.2)]) q (EO.stE (en:=eI) (y2:=x12.To) (cs':=[I64 x12.To]) (x2:=oR eI (s7.1.set (w64 (x12.Sym - 1000)).toNat x12.To)) q q (.ptr q) (.lit q) q hx15 sz3 q q q q q q q (.n q q (.n q q (.n q q (.b q (.n q q (.n q q (.n q q (.n q q (.n q q (.n q q .nil)))))))))))<|Fi (tn10 q q q q q q q q q q)) ?_
        obtain rfl:=sm h
        exact Px.jn (tn10 q q q q q q q q q q)
       ·replace h:=cndF hb14 h
        refine W.sk ?_
        obtain rfl:=sm h
        exact Px.jn (tn10 q q q q q q q q q q)
      refine Px.bk ?_
      obtain rfl:=sm h
      exact Px.jn (tn10 q q q q q q q q q q)
     refine Px.sq<|W.rx [(2,_),(4,_),(5,_),(8,_),(11,_),(12,_),(13,_),(23,_),(24,_),(25,_)] (Rv (O.add (.lit q) (.k q))<|RunL.re (G1:=[(2,_),(4,_),(5,_),(8,_),(11,_),(12,_),(13,_),(23,_),(24,_),(39,_)]) (tn10 q q q q q q q q q q)<|Vm q<|Fi (tn10 q q q q q q q q q q)) ?_
     obtain rfl:=sm h
     exact Px.go (tn10 q q q q q q q q q q)
    ·replace h:=cndF hb10 h
     refine W.xi ?_
     refine Px.sqE ?_
     obtain rfl:=sm h
     exact Px.x1 (tn7 q q q q q q q)
   refine Px.bkH ?_
   refine Px.sq<|W.sq' ?_
   obtain ⟨x16,hx16,h⟩:=bnd h
   refine W.rx [(2,_),(4,_),(5,_),(11,_),(12,_),(13,_)] (Rv (O.fO q (.obj q) fd45_1 q)<|Rv (O.ldO (y:=.brw (eM eI).z ⟨5,[1]⟩ s1.2.1.length) q (.ptr q) ct26 q q)<|Rv (O.mv (.own q))<|Rv (O.bsL (ys:=[.brw eI.z ⟨8,[]⟩ x8.length]) (cs:=[.brw eI.z ⟨8,[]⟩ x8.length]) sl26 q q q q q zt27 q q)<|Rv (O.apL (en:=(eM eI)) (M:=[x8]) (r:=x16) (.brw q) q (.own q) q q q q ap26 q hx16)<|Rv (O.fO q (.obj q) fd45_1 q)<|RunL.ef (G2:=[(2,.obj (eGrammar_0.cells a0)),(4,.obj [.nils,.nils]),(5,.obj [oR (eO eAct) s1.1,oR (eM eI) (s1.2.1++[x8])]),(11,iR eState_0 a1),(12,I64 (a1.length:Int)),(13,I64 s1.2.2)]) q (EO.stP (g1:=_) (en:=(eM eI)) (M:=[x8]) (cs2:=[oR (eO eAct) s1.1,oR (eM eI) (s1.2.1++[x8])]) q q (.ptr q) (.pend q) q q q (.r q .nil) (.z .nil) q q sz26 q q q q (.n q q (.n q q (.b q (.n q q (.n q q (.n q q .nil)))))))<|Fi (tn6 q q q q q q)) ?_
   refine Px.sq ?_
   obtain ⟨x17,hx17,h⟩:=bnd h
   obtain ⟨x18,hx18,h⟩:=bnd h
   refine W.rd [[],[0],[],[2],[2,3],[2,3,4],[2,3,4,5],rn 0 7 [],rn 0 8 [],rn 0 9 []] [(2,_),(4,_),(5,_),(11,_),(12,_),(13,_)] mixo (by kernel_rfl) (Dv 0 (O.fO q (.obj q) fd45_0 q)<|Dv 1 (O.ldO (y:=.brw (eO eAct).z ⟨5,[0]⟩ s1.1.length) q (.ptr q) ct43 q q)<|Dv 2 (O.fO q (.obj q) fd38_0 q)<|Dv 3 (O.ldO (y:=iR eTok a0.Toks) q (.ptr q) ct34 q q)<|Dv 4 (O.lenI (.imm q) sl34)<|Dv 5 (O.mk (en:=eAct) (z0:=(⟨0,0⟩:Act)) sl86 (.lit q) (.lit q) ze83 q q hx17 bb83 q)<|Dv 6 (O.bsL (ys:=[.brw eAct.z ⟨51,[]⟩ x17.length]) (cs:=[.brw eAct.z ⟨51,[]⟩ x17.length]) sl43 q q q q q zt86 q q)<|Dv 7 (O.apL (en:=(eO eAct)) (M:=[x17]) (r:=x18) (.brw q) q (.own q) q q q q ap43 q hx18)<|Dv 8 (O.fO q (.obj q) fd45_0 q)<|DL.bp 9 (G2:=[(2,.obj (eGrammar_0.cells a0)),(4,.obj [.nils,.nils]),(5,.obj [oR (eO eAct) (s1.1++[x17]),oR (eM eI) (s1.2.1++[x8])]),(11,iR eState_0 a1),(12,I64 (a1.length:Int)),(13,I64 s1.2.2)]) (EO.stP (g1:=_) (en:=(eO eAct)) (M:=[x17]) (cs2:=[oR (eO eAct) (s1.1++[x17]),oR (eM eI) (s1.2.1++[x8])]) q q (.ptr q) (.pend q) q q q (.r q .nil) (.f .nil) q q sz43 q q q q (.n q q (.n q q (.b q (.n q q (.n q q (.n q q .nil))))))) q q q q (by kernel_rfl) (by kernel_rfl)<|DL.fin q q q (tn6 q q q q q q)) ?_
   refine Px.bk ?_
   refine Px.sq<|W.rx [(2,_),(4,_),(5,_),(11,_),(12,_),(13,_)] (Rv (O.add (.lit q) (.k q))<|RunL.re (G1:=[(2,_),(4,_),(5,_),(11,_),(12,_),(55,_)]) (tn6 q q q q q q)<|Vm q<|Fi (tn6 q q q q q q)) ?_
   obtain rfl:=sm h
   exact Px.go (tn6 q q q q q q)
  ·replace h:=cndF hb4 h
   refine W.xi ?_
   refine Px.sqE ?_
   obtain rfl:=sm h
   exact Px.x1 (tn2 q q)
 refine Px.bkH ?_
 refine Px.sq<|W.sq' ?_
 refine W.rx [(4,_)] (Rv (O.ldON (cs':=[.brw (eO eAct).z ⟨5,[0]⟩ x2.1.length,.brw (eM eI).z ⟨5,[1]⟩ x2.2.length]) q (.obj q) at45 q q)<|RunL.ef (G2:=[(4,.obj [oR (eO eAct) x2.1,oR (eM eI) x2.2])]) q (EO.stB (y':=.agg [oR (eO eAct) x2.1,oR (eM eI) x2.2]) (cs2:=[oR (eO eAct) x2.1,oR (eM eI) x2.2]) q q (.obj q) (.aggF q q) (.ag (.r q (.r q .nil)) .nil) (FzL.agg (.f (.f .nil))) q sz45 q q q q q (.b q .nil))<|Fi (.n q .nil)) ?_
 refine Px.sq<|W.rt ?_
 obtain rfl:=sm h
 exact Px.fin (Fin.ro (.c (ys0:=[.brw (eO eAct).z ⟨4,[0]⟩ x2.1.length,.brw (eM eI).z ⟨4,[1]⟩ x2.2.length]) q at45 q q q (.o q (.o q .nil)) .nil) q (ode (by kernel_rfl)) (.no (.no .nil)) q (.inr q))
instance con24 {a0:Grammar}{a1:(List State)}{r:Dense}:CF Tryz.prog 24 (pf24 a0 a1=some r) [.agg (eGrammar_0.cells a0),iR eState_0 a1] [none,none] (.agg [oR (eO eAct) r.Acts,oR (eM eI) r.Gotos]):=⟨con24l a0 a1 _⟩
theorem con26l (a0:(List Int)) (r:Int) (h:pf26 a0=some r):Con Tryz.prog 26 [iR eI a0] [none] (I64 r):=by
 unfold pf26 at h
 refine Con.go (N:=⟨25,[]⟩) Tryz.func26 q q q q (W.fin ?_)
 refine W.st [(0,iR eI a0)] ?_
 refine W.sq'<|W.rx [(0,_)] (Vk q<|Fi (.n q .nil)) ?_
 refine Px.sq<|W.sq' ?_
 refine W.sq'<|W.rx [(0,_),(7,_)] (Rv (O.mv (.imm q))<|Rv (O.lenI (.imm q) sl27)<|Rv (O.lss (.lit q) (.k q))<|Fi (tn2 q q)) ?_
 refine Px.sq<|W.cnd q (fun hb1=>?_) (fun hb1=>?_)
 ·replace h:=cndT hb1 h
  cases h
 ·replace h:=cndF hb1 h
  refine W.sk<|Px.sq ?_
  refine W.sq' ?_
  obtain ⟨x2,hx2,h⟩:=bnd h
  refine W.rx [(0,_),(3,_)] (Rv (O.mv (.imm q))<|Rv (O.ixI (.imm q) (.k q) sl27 hx2)<|Rv (O.ldI (x:=I64 x2) (.iptr q) ct3 q)<|Va q<|Fi (tn2 q q)) ?_
  refine Px.sq<|W.sq' ?_
  refine W.sq'<|W.rx [(0,_),(3,_),(4,_)] (Vk q<|Fi (tn3 q q q)) ?_
  refine Px.sq<|W.bk ?_
  obtain ⟨x4,hl,h⟩:=bnd h
  refine W.tr (G1:=[(0,_),(3,_),(4,_)]) (tn3 q q q) ?_
  refine W.lp1 (s:=(x2,1)) (fun (s3:Int × Int)=>[(0,iR eI a0),(3,I64 s3.1),(4,I64 s3.2)]) 0 (fun (x4:Int)=>[(3,I64 x4)]) hl (fun s3 o h=>?_) ?_
  ·clear hl
   refine W.sq'<|W.sq' ?_
   refine W.rx [(0,_),(3,_),(4,_),(15,_)] (Vm q<|Rv (O.mv (.imm q))<|Rv (O.lenI (.imm q) sl27)<|Rv (O.lss (.lit q) (.lit q))<|Fi (tn4 q q q q)) ?_
   refine Px.sq<|W.cnd q (fun hb6=>?_) (fun hb6=>?_)
   ·replace h:=cndT hb6 h
    refine W.sk<|Px.sq ?_
    refine W.sq'<|W.bk ?_
    obtain ⟨x7,hx7,h⟩:=bnd h
    refine W.rx [(0,_),(3,_),(4,_)] (Vm q<|Rv (O.mv (.imm q))<|Vm q<|Rv (O.ixI (.imm q) (.lit q) sl27 hx7)<|Rv (O.ldI (x:=I64 x7) (.iptr q) ct3 q)<|Rv (O.min' (.lit q) (.lit q))<|RunL.re (G1:=[(0,_),(4,_),(23,_)]) (tn3 q q q)<|Va q<|Fi (tn3 q q q)) ?_
    refine Px.bk ?_
    refine Px.sq<|W.rx [(0,_),(3,_),(4,_)] (Vm q<|Rv (O.add (.lit q) (.k q))<|RunL.re (G1:=[(0,_),(3,_),(17,_)]) (tn3 q q q)<|Va q<|Fi (tn3 q q q)) ?_
    obtain rfl:=sm h
    exact Px.go (tn3 q q q)
   ·replace h:=cndF hb6 h
    refine W.xi ?_
    refine Px.sqE ?_
    obtain rfl:=sm h
    exact Px.x1 (.n q .nil)
  refine Px.bkH ?_
  refine Px.sq<|W.sq' ?_
  refine W.rx [(2,_)] (Vm q<|Va q<|Fi (.n q .nil)) ?_
  refine Px.sq<|W.rt ?_
  obtain rfl:=sm h
  exact Px.fin (Fin.ro (.f q q .nil) q (ode (by kernel_rfl)) (.no .nil) q (.inr q))
instance con26 {a0:(List Int)}{r:Int}:CF Tryz.prog 26 (pf26 a0=some r) [iR eI a0] [none] (I64 r):=⟨con26l a0 _⟩
instance con75 {a0:Grammar}{a1:Int}{r:Int × Int}:CF Tryz.prog 75 (pf75 a0 a1=some r) [.agg (eGrammar_0.cells a0),I64 a1] [none,none] (.tup [I64 r.1,I64 r.2]):=⟨fun h=>by unfold pf75 at h; exact Con.au (N:=⟨27,[]⟩) [1,2,4,5,14] (.rj 1 [1,2,14] (fun (c2:Bool)=>[(14,BB c2)]) (.b .e (.rd 3 [[],[0],[],[0,1,2],[0,1,2,3],rn 0 5 [],[],[6],[],[6,7,8],[6,7,8,9],rn 6 5 [],rn 0 6 [],rn 0 13 []] .e))) Tryz.func75 rfl rfl rfl rfl rfl go⟩
instance con74 {a0:Grammar}{a1:Int}{r:Int × Int}:CF Tryz.prog 74 (pf74 a0 a1=some r) [.agg (eGrammar_0.cells a0),I64 a1] [none,none] (.tup [I64 r.1,I64 r.2]):=⟨fun h=>by unfold pf74 at h; exact Con.au (N:=⟨25,[]⟩) [1,2,4,5,14] (.rj 1 [1,2,14] (fun (c2:Bool)=>[(14,BB c2)]) (.b .e (.rd 3 [[],[],[1],[],[1,2,3],[1,2,3,4],rn 1 5 [],rn 0 7 [],rn 0 8 [],rn 0 8 [],rn 0 10 [],rn 0 11 []] .e))) Tryz.func74 rfl rfl rfl rfl rfl go⟩
instance con48 {a0:Grammar}{a1:Int}{a2:Int}{r:Int}:CF Tryz.prog 48 (pf48 a0 a1 a2=some r) [.agg (eGrammar_0.cells a0),I64 a1,I64 a2] [none,none,none] (I64 r):=⟨fun h=>by unfold pf48 at h; exact Con.au (N:=⟨51,[]⟩) [1,2,3,6,7,9,10,23,30,43] (.rj 3 [7,9,10,23] (fun (c4:Bool)=>[(23,BB c4)]) (.b .e (.rj 5 [7,9,10,30] (fun (c8:Bool)=>[(30,BB c8)]) (.b .e (.rj 7 [43] (fun (c11:Bool)=>[(43,BB c11)]) .e))))) Tryz.func48 rfl rfl rfl rfl rfl go⟩
instance con25 {a0:Grammar}{a1:Cell}{r:Act × Bool}:CF Tryz.prog 25 (pf25 a0 a1=some r) [.agg (eGrammar_0.cells a0),.agg (eCell_0.cells a1)] [none,none] (.tup [.agg [I64 r.1.Kind,I64 r.1.N],BB r.2]):=⟨fun h=>by unfold pf25 at h; exact Con.au (N:=⟨51,[]⟩) [2,3,4,5,6,7,11,13,23,27,36,37,40,43] .e Tryz.func25 rfl rfl rfl rfl rfl go⟩
theorem con9l (a0:Grammar) (a1:(List State)) (a2:(List Cell)) (r:Dense × (List Clash)) (h:pf9 a0 a1 a2=some r):Con Tryz.prog 9 [.agg (eGrammar_0.cells a0),iR eState_0 a1,iR eCell_0 a2] [none,none,none] (.tup [.agg [iR (eM eAct) r.1.Acts,iR (eM eI) r.1.Gotos],iR eClash r.2]):=by
 unfold pf9 at h
 refine Con.go (N:=⟨83,[]⟩) Tryz.func9 q q q q (W.fin ?_)
 refine W.st [(0,.agg (eGrammar_0.cells a0)),(1,iR eState_0 a1),(2,iR eCell_0 a2)] ?_
 refine W.sq'<|W.rx [(1,_),(2,_),(3,_),(6,_)] (Rv (O.box (.aggF q q) q)<|Rv (O.al (cs:=[.nils,.nils]) ze45 q q)<|Rv (O.az .knil)<|Fi (tn4 q q q q)) ?_
 refine Px.sq<|W.sq' ?_
 obtain ⟨x1,hx1,h⟩:=bnd h
 refine W.rx [(2,_),(3,_),(6,_),(8,_)] (Rv (O.ldON (cs':=[iR eTok a0.Toks,iR eNon a0.Nons,iR eProd_0 a0.Prods,SS a0.Pro,SS a0.Tail]) q (.obj q) at38 q q)<|Rv (O.mv (.imm q))<|Rc (PC.go (.cc (.aggF q q) (.cc (.imm q) .nil)) (CF.go hx1) call24 q)<|Rv (O.al (cs:=[.nils,.nils]) ze45 q q)<|RunL.ef (G2:=[(2,iR eCell_0 a2),(3,.obj (eGrammar_0.cells a0)),(6,.obj [.nils,.nils]),(8,.obj [oR (eO eAct) x1.Acts,oR (eM eI) x1.Gotos])]) q (EO.stB (y':=.agg [oR (eO eAct) x1.Acts,oR (eM eI) x1.Gotos]) (cs2:=[oR (eO eAct) x1.Acts,oR (eM eI) x1.Gotos]) q q (.obj q) (.agg q q) (.ag (.r q (.r q .nil)) .nil) (FzL.agg (.f (.f .nil))) q sz45 q q q q q (.n q q (.n q q (.n q q (.b q .nil)))))<|Fi (tn4 q q q q)) ?_
 refine Px.sq<|W.sq' ?_
 refine W.rx [(2,_),(3,_),(6,_),(8,_),(9,_)] (Rv (O.az .knil)<|Fi (tn5 q q q q q)) ?_
 refine Px.sq<|W.sq' ?_
 refine W.sq'<|W.rx [(3,_),(6,_),(8,_),(9,_),(20,_),(21,_),(22,_)] (Rv (O.mv (.imm q))<|Rv (O.lenI (.imm q) sl40)<|Rv (O.mv (.k q))<|Fi (tn7 q q q q q q q)) ?_
 refine Px.sq<|W.bk ?_
 obtain ⟨x3,hl,h⟩:=bnd h
 refine W.tr (G1:=[(3,_),(6,_),(8,_),(9,oR eClash ([]:List Clash)),(20,_),(21,_),(22,_)]) (.n q (.n q (.n q (.w q q .nilOwn (tn3 q q q))))) ?_
 refine W.lp1 (s:=(x1.Acts,([]:List Clash),0)) (fun (s2:List (List Act) × List Clash × Int)=>[(3,.obj (eGrammar_0.cells a0)),(6,.obj [.nils,.nils]),(8,.obj [oR (eO eAct) s2.1,oR (eM eI) x1.Gotos]),(9,oR eClash s2.2.1),(20,iR eCell_0 a2),(21,I64 (a2.length:Int)),(22,I64 s2.2.2)]) 0 (fun (x3:List (List Act) × List Clash)=>[(6,.obj [.nils,.nils]),(8,.obj [oR (eO eAct) x3.1,oR (eM eI) x1.Gotos]),(9,oR eClash x3.2)]) hl (fun s2 o h=>?_) ?_
 ·clear hl
  refine W.sq'<|W.rx [(3,_),(6,_),(8,_),(9,_),(20,_),(21,_),(22,_),(23,_)] (Rv (O.lss (.lit q) (.lit q))<|Fi (tn8 q q q q q q q q)) ?_
  refine Px.sq<|W.sq' ?_
  refine W.cnd q (fun hb5=>?_) (fun hb5=>?_)
  ·replace h:=cndT hb5 h
   refine W.sk<|Px.sq ?_
   refine W.sq' ?_
   obtain ⟨j6,hj,h⟩:=bnd h
   refine W.jn [(3,.obj (eGrammar_0.cells a0)),(6,.obj [.nils,.nils]),(8,.obj [oR (eO eAct) j6.1,oR (eM eI) x1.Gotos]),(9,oR eClash j6.2),(20,iR eCell_0 a2),(21,I64 (a2.length:Int)),(22,I64 s2.2.2)] ?_ ?_
   ·clear h; have h:=hj; clear hj
    refine W.bk<|W.sq' ?_
    obtain ⟨x7,hx7,h⟩:=bnd h
    refine W.rx [(3,_),(6,_),(8,_),(9,_),(11,_),(20,_),(21,_),(22,_)] (Rv (O.ixI (.imm q) (.lit q) sl40 hx7)<|Rv (O.ldIN (cs':=[I64 x7.State,I64 x7.Tok,I64 x7.Shift,BB x7.Accept,iR eI x7.Prods]) (.iptr q) at81 q q)<|Rv (O.al (cs:=[I64 0,I64 0,I64 0,BB false,.nils]) ze81 q q)<|RunL.sO (G2:=[(3,_),(6,_),(8,_),(9,_),(11,_),(20,_),(21,_),(22,_)]) (cs2:=[I64 x7.State,I64 x7.Tok,I64 x7.Shift,BB x7.Accept,iR eI x7.Prods]) q (.obj q) (.aggF q q) q sz81 q q q q (.n q q (.n q q (.n q q (.n q q (.b q (.n q q (.n q q (.n q q .nil))))))))<|Fi (tn8 q q q q q q q q)) ?_
    refine Px.sq<|W.sq' ?_
    obtain ⟨x8,hx8,h⟩:=bnd h
    refine W.rx [(3,_),(6,_),(8,_),(9,_),(11,_),(12,_),(13,_),(20,_),(21,_),(22,_)] (Rv (O.ldON (cs':=[iR eTok a0.Toks,iR eNon a0.Nons,iR eProd_0 a0.Prods,SS a0.Pro,SS a0.Tail]) q (.obj q) at38 q q)<|Rv (O.ldON (cs':=[I64 x7.State,I64 x7.Tok,I64 x7.Shift,BB x7.Accept,iR eI x7.Prods]) q (.obj q) at81 q q)<|Rc (PC.go (.cc (.aggF q q) (.cc (.aggF q q) .nil)) (CF.go hx8) call25 q)<|Rv (O.mv (.tup q q))<|Rv (O.ex (y:=.agg [I64 x8.1.Kind,I64 x8.1.N]) q q q)<|Rv (O.ex (y:=BB x8.2) q q q)<|Rv (O.al (cs:=[I64 0,I64 0]) ze83 q q)<|RunL.sO (G2:=[(3,_),(6,_),(8,_),(9,_),(11,_),(12,_),(20,_),(21,_),(22,_),(31,_)]) (cs2:=[I64 x8.1.Kind,I64 x8.1.N]) q (.obj q) (.aggF q q) q sz83 q q q q (.n q q (.n q q (.n q q (.n q q (.n q q (.b q (.n q q (.n q q (.n q q (.n q q .nil))))))))))<|Va q<|Fi (tn10 q q q q q q q q q q)) ?_
    refine Px.sq<|W.sq' ?_
    obtain ⟨x9,hx9,h⟩:=bnd h
    obtain ⟨x10,hx10,h⟩:=bnd h
    refine W.rd [[],[0],[],[2],[0,1,2,3],rn 0 5 [],[],[6],[],rn 0 9 [],rn 0 10 []] [(3,_),(6,_),(8,_),(9,_),(11,_),(13,_),(20,_),(21,_),(22,_)] mixo (by kernel_rfl) (Dv 0 (O.fO q (.obj q) fd45_0 q)<|Dv 1 (O.ldO (y:=.brw (eO eAct).z ⟨8,[0]⟩ s2.1.length) q (.ptr q) ct43 q q)<|Dv 2 (O.fO q (.obj q) fd81_0 q)<|Dv 3 (O.ldO (y:=I64 x7.State) q (.ptr q) ct3 q q)<|Dv 4 (O.ixO (en:=(eO eAct)) q (.brw q) (.lit q) sl43 hx9 q)<|Dv 5 (O.ldE (en:=(eO eAct)) (x':=.brw eAct.z ⟨8,[0,x7.State.toNat * (eO eAct).z+0]⟩ x9.length) q (.ptr q) ct86 hx9 q q)<|Dv 6 (O.fO q (.obj q) fd81_1 q)<|Dv 7 (O.ldO (y:=I64 x7.Tok) q (.ptr q) ct3 q q)<|Dv 8 (O.ldON (cs':=[I64 x8.1.Kind,I64 x8.1.N]) q (.obj q) at83 q q)<|Dv 9 (O.ixO (en:=eAct) (atP_el (r:=8) (path:=[0]) (o:=0) (en:=(eO eAct)) q hx9 q) (.brw q) (.lit q) sl86 hx10 q)<|DL.bp 10 (G2:=[(3,.obj (eGrammar_0.cells a0)),(6,.obj [.nils,.nils]),(8,.obj [oR (eO eAct) (s2.1.set x7.State.toNat (x9.set x7.Tok.toNat x8.1)),oR (eM eI) x1.Gotos]),(9,oR eClash s2.2.1),(11,.obj (eCell_0.cells x7)),(13,BB x8.2),(20,iR eCell_0 a2),(21,I64 (a2.length:Int)),(22,I64 s2.2.2)]) (EO.stD (en:=eAct) (LL:=s2.1) (L:=x9) (r:=8) (path:=[0]) (i:=x7.State) (m:=x7.Tok) (o:=0) (y2:=x8.1) (cs':=[I64 x8.1.Kind,I64 x8.1.N]) (x2:=.obj [oR (eO eAct) (s2.1.set x7.State.toNat (x9.set x7.Tok.toNat x8.1)),oR (eM eI) x1.Gotos]) q q (.ptr q) (.aggF q q) q hx9 hx10 sz83 q q q q q q q (.n q q (.n q q (.b q (.n q q (.n q q (.n q q (.n q q (.n q q (.n q q .nil)))))))))) q q q q (by kernel_rfl) (by kernel_rfl)<|DL.fin q q q (tn9 q q q q q q q q q)) ?_
    refine Px.sq<|W.sq' ?_
    refine W.sq'<|W.rx [(3,_),(6,_),(8,_),(9,_),(11,_),(13,_),(20,_),(21,_),(22,_),(45,_)] (Rv (O.fO q (.obj q) fd81_4 q)<|Rv (O.ldO (y:=iR eI x7.Prods) q (.ptr q) ct27 q q)<|Rv (O.lenI (.imm q) sl27)<|Rv (O.eql (.lit q) (.k q))<|Fi (tn10 q q q q q q q q q q)) ?_
    refine Px.sq<|W.cnd q (fun hb11=>?_) (fun hb11=>?_)
    ·replace h:=cndT hb11 h
     refine W.xi ?_
     refine Px.sqE ?_
     refine Px.bkH ?_
     obtain rfl:=sm h
     exact Px.jn (tn7 q q q q q q q)
    ·replace h:=cndF hb11 h
     refine W.sk<|Px.sq ?_
     refine W.sq' ?_
     obtain ⟨x12,hx12,h⟩:=bnd h
     refine W.rx [(3,_),(6,_),(8,_),(9,_),(11,_),(13,_),(14,_),(20,_),(21,_),(22,_)] (Rv (O.fO q (.obj q) fd81_4 q)<|Rv (O.ldO (y:=iR eI x7.Prods) q (.ptr q) ct27 q q)<|Rc (PC.go (.cc (.imm q) .nil) (CF.go hx12) call26 q)<|Va q<|Fi (tn10 q q q q q q q q q q)) ?_
     refine Px.sq<|W.sq' ?_
     refine W.sq'<|W.rx [(3,_),(6,_),(8,_),(9,_),(11,_),(13,_),(14,_),(20,_),(21,_),(22,_),(50,_),(51,_),(52,_)] (Rv (O.fO q (.obj q) fd81_4 q)<|Rv (O.ldO (y:=iR eI x7.Prods) q (.ptr q) ct27 q q)<|Rv (O.lenI (.imm q) sl27)<|Rv (O.mv (.k q))<|Fi (.n q (.n q (.n q (.n q (.n q (.n q (.n q (.n q (.n q (.n q (.n q (.n q (.n q .nil)))))))))))))) ?_
     refine Px.sq<|W.bk ?_
     obtain ⟨x14,hl,h⟩:=bnd h
     refine W.tr (G1:=[(3,_),(6,_),(8,_),(9,_),(11,_),(13,_),(14,_),(20,_),(21,_),(22,_),(50,_),(51,_),(52,_)]) (.n q (.n q (.n q (.n q (.n q (.n q (.n q (.n q (.n q (.n q (.n q (.n q (.n q .nil))))))))))))) ?_
     refine W.lp1 (s:=(s2.2.1,0)) (fun (s13:List Clash × Int)=>[(3,.obj (eGrammar_0.cells a0)),(6,.obj [.nils,.nils]),(8,.obj [oR (eO eAct) (s2.1.set x7.State.toNat (x9.set x7.Tok.toNat x8.1)),oR (eM eI) x1.Gotos]),(9,oR eClash s13.1),(11,.obj (eCell_0.cells x7)),(13,BB x8.2),(14,I64 x12),(20,iR eCell_0 a2),(21,I64 (a2.length:Int)),(22,I64 s2.2.2),(50,iR eI x7.Prods),(51,I64 (x7.Prods.length:Int)),(52,I64 s13.2)]) 2 (fun (x14:List Clash)=>[(3,.obj (eGrammar_0.cells a0)),(6,.obj [.nils,.nils]),(8,.obj [oR (eO eAct) (s2.1.set x7.State.toNat (x9.set x7.Tok.toNat x8.1)),oR (eM eI) x1.Gotos]),(9,oR eClash x14),(11,.obj (eCell_0.cells x7)),(13,BB x8.2),(14,I64 x12),(20,iR eCell_0 a2),(21,I64 (a2.length:Int)),(22,I64 s2.2.2)]) hl (fun s13 o h=>?_) ?_
     ·clear hl
      refine W.sq'<|W.rx [(3,_),(6,_),(8,_),(9,_),(11,_),(13,_),(14,_),(20,_),(21,_),(22,_),(50,_),(51,_),(52,_),(53,_)] (Rv (O.lss (.lit q) (.lit q))<|Fi (.n q (.n q (.n q (.n q (.n q (.n q (.n q (.n q (.n q (.n q (.n q (.n q (.n q (.n q .nil))))))))))))))) ?_
      refine Px.sq<|W.sq' ?_
      refine W.cnd q (fun hb16=>?_) (fun hb16=>?_)
      ·replace h:=cndT hb16 h
       refine W.sk<|Px.sq ?_
       refine W.sq' ?_
       obtain ⟨j17,hj,h⟩:=bnd h
       refine W.jn [(3,.obj (eGrammar_0.cells a0)),(6,.obj [.nils,.nils]),(8,.obj [oR (eO eAct) (s2.1.set x7.State.toNat (x9.set x7.Tok.toNat x8.1)),oR (eM eI) x1.Gotos]),(9,oR eClash j17),(11,.obj (eCell_0.cells x7)),(13,BB x8.2),(14,I64 x12),(20,iR eCell_0 a2),(21,I64 (a2.length:Int)),(22,I64 s2.2.2),(50,iR eI x7.Prods),(51,I64 (x7.Prods.length:Int)),(52,I64 s13.2)] ?_ ?_
       ·clear h; have h:=hj; clear hj
        refine W.bk<|W.sq' ?_
        obtain ⟨x18,hx18,h⟩:=bnd h
        refine W.rx [(3,_),(6,_),(8,_),(9,_),(11,_),(13,_),(14,_),(16,_),(20,_),(21,_),(22,_),(50,_),(51,_),(52,_)] (Rv (O.ixI (.imm q) (.lit q) sl27 hx18)<|Rv (O.ldI (x:=I64 x18) (.iptr q) ct3 q)<|Va q<|Fi (.n q (.n q (.n q (.n q (.n q (.n q (.n q (.n q (.n q (.n q (.n q (.n q (.n q (.n q .nil))))))))))))))) ?_
        refine Px.sq<|W.sq' ?_
        refine W.rx [(3,_),(6,_),(8,_),(9,_),(11,_),(13,_),(14,_),(16,_),(20,_),(21,_),(22,_),(50,_),(51,_),(52,_),(58,_)] (Vm q<|Vm q<|Rv (O.neq (.lit q) (.lit q))<|Fi (.n q (.n q (.n q (.n q (.n q (.n q (.n q (.n q (.n q (.n q (.n q (.n q (.n q (.n q (.n q .nil)))))))))))))))) ?_
        refine Px.sq ?_
        obtain ⟨j19,hj,h⟩:=bnd h
        refine W.jn [(3,.obj (eGrammar_0.cells a0)),(6,.obj [.nils,.nils]),(8,.obj [oR (eO eAct) (s2.1.set x7.State.toNat (x9.set x7.Tok.toNat x8.1)),oR (eM eI) x1.Gotos]),(9,oR eClash j19),(11,.obj (eCell_0.cells x7)),(13,BB x8.2),(14,I64 x12),(20,iR eCell_0 a2),(21,I64 (a2.length:Int)),(22,I64 s2.2.2),(50,iR eI x7.Prods),(51,I64 (x7.Prods.length:Int)),(52,I64 s13.2)] ?_ ?_
        ·clear h; have h:=hj; clear hj
         refine W.cnd q (fun hb20=>?_) (fun hb20=>?_)
         ·replace h:=cndT hb20 h
          obtain ⟨x21,hx21,h⟩:=bnd h
          refine W.rx [(3,_),(6,_),(8,_),(9,_),(11,_),(13,_),(14,_),(20,_),(21,_),(22,_),(50,_),(51,_),(52,_)] (Rv (O.mv (.own q))<|Rv (O.fO q (.obj q) fd81_0 q)<|Rv (O.ldO (y:=I64 x7.State) q (.ptr q) ct3 q q)<|Rv (O.fO q (.obj q) fd81_1 q)<|Rv (O.ldO (y:=I64 x7.Tok) q (.ptr q) ct3 q q)<|Vm q<|Vm q<|Rv (O.bu (cs:=[I64 x7.State,I64 x7.Tok,I64 x12,I64 x18]) sc89 ze89 q q q)<|RunL.vi (x:=iR eClash [(⟨x7.State,x7.Tok,x12,x18⟩:Clash)]) (O.bs (ys:=[.agg [I64 x7.State,I64 x7.Tok,I64 x12,I64 x18]]) eClash [(⟨x7.State,x7.Tok,x12,x18⟩:Clash)] sl46 q q q q q q zt89 q q) q q .none<|Rv (O.ap (en:=eClash) (r:=x21) (.brw q) q (.imm q) .i ap46 q hx21)<|RunL.ea (G2:=[(3,.obj (eGrammar_0.cells a0)),(6,.obj [.nils,.nils]),(8,.obj [oR (eO eAct) (s2.1.set x7.State.toNat (x9.set x7.Tok.toNat x8.1)),oR (eM eI) x1.Gotos]),(11,.obj (eCell_0.cells x7)),(13,BB x8.2),(14,I64 x12),(20,iR eCell_0 a2),(21,I64 (a2.length:Int)),(22,I64 s2.2.2),(50,iR eI x7.Prods),(51,I64 (x7.Prods.length:Int)),(52,I64 s13.2)]) q (EO.aP q q (.pend q) q q q (.n q q (.n q q (.n q q (.n q q (.n q q (.n q q (.n q q (.n q q (.n q q (.n q q (.n q q (.n q q .nil)))))))))))) q q)<|Fi (.n q (.n q (.n q (.n q (.n q (.n q (.n q (.n q (.n q (.n q (.n q (.n q (.n q .nil)))))))))))))) ?_
          obtain rfl:=sm h
          exact Px.jn (.n q (.n q (.n q (.n q (.n q (.n q (.n q (.n q (.n q (.n q (.n q (.n q (.n q .nil)))))))))))))
         ·replace h:=cndF hb20 h
          refine W.sk ?_
          obtain rfl:=sm h
          exact Px.jn (.n q (.n q (.n q (.n q (.n q (.n q (.n q (.n q (.n q (.n q (.n q (.n q (.n q .nil)))))))))))))
        refine Px.bk ?_
        obtain rfl:=sm h
        exact Px.jn (.n q (.n q (.n q (.n q (.n q (.n q (.n q (.n q (.n q (.n q (.n q (.n q (.n q .nil)))))))))))))
       refine Px.sq<|W.rx [(3,_),(6,_),(8,_),(9,_),(11,_),(13,_),(14,_),(20,_),(21,_),(22,_),(50,_),(51,_),(52,_)] (Rv (O.add (.lit q) (.k q))<|RunL.re (G1:=[(3,_),(6,_),(8,_),(9,_),(11,_),(13,_),(14,_),(20,_),(21,_),(22,_),(50,_),(51,_),(69,_)]) (.n q (.n q (.n q (.n q (.n q (.n q (.n q (.n q (.n q (.n q (.n q (.n q (.n q .nil)))))))))))))<|Vm q<|Fi (.n q (.n q (.n q (.n q (.n q (.n q (.n q (.n q (.n q (.n q (.n q (.n q (.n q .nil)))))))))))))) ?_
       obtain rfl:=sm h
       exact Px.go (.n q (.n q (.n q (.n q (.n q (.n q (.n q (.n q (.n q (.n q (.n q (.n q (.n q .nil)))))))))))))
      ·replace h:=cndF hb16 h
       refine W.xi ?_
       refine Px.sqE ?_
       obtain rfl:=sm h
       exact Px.x1 (tn10 q q q q q q q q q q)
     refine Px.bkH ?_
     refine Px.sq<|W.sq' ?_
     refine W.rx [(3,_),(6,_),(8,_),(9,_),(11,_),(14,_),(20,_),(21,_),(22,_),(70,_)] (Vm q<|Fi (tn10 q q q q q q q q q q)) ?_
     refine Px.sq ?_
     obtain ⟨j22,hj,h⟩:=bnd h
     refine W.jn [(3,.obj (eGrammar_0.cells a0)),(6,.obj [.nils,.nils]),(8,.obj [oR (eO eAct) (s2.1.set x7.State.toNat (x9.set x7.Tok.toNat x8.1)),oR (eM eI) x1.Gotos]),(9,oR eClash j22),(20,iR eCell_0 a2),(21,I64 (a2.length:Int)),(22,I64 s2.2.2)] ?_ ?_
     ·clear h; have h:=hj; clear hj
      refine W.cnd q (fun hb23=>?_) (fun hb23=>?_)
      ·replace h:=cndT hb23 h
       obtain ⟨x24,hx24,h⟩:=bnd h
       refine W.rx [(3,_),(6,_),(8,_),(9,_),(20,_),(21,_),(22,_)] (Rv (O.mv (.own q))<|Rv (O.fO q (.obj q) fd81_0 q)<|Rv (O.ldO (y:=I64 x7.State) q (.ptr q) ct3 q q)<|Rv (O.fO q (.obj q) fd81_1 q)<|Rv (O.ldO (y:=I64 x7.Tok) q (.ptr q) ct3 q q)<|Vm q<|Rv (O.bu (cs:=[I64 x7.State,I64 x7.Tok,I64 (-1),I64 x12]) sc89 ze89 q q q)<|RunL.vi (x:=iR eClash [(⟨x7.State,x7.Tok,(-1),x12⟩:Clash)]) (O.bs (ys:=[.agg [I64 x7.State,I64 x7.Tok,I64 (-1),I64 x12]]) eClash [(⟨x7.State,x7.Tok,(-1),x12⟩:Clash)] sl46 q q q q q q zt89 q q) q q .none<|Rv (O.ap (en:=eClash) (r:=x24) (.brw q) q (.imm q) .i ap46 q hx24)<|RunL.ea (G2:=[(3,.obj (eGrammar_0.cells a0)),(6,.obj [.nils,.nils]),(8,.obj [oR (eO eAct) (s2.1.set x7.State.toNat (x9.set x7.Tok.toNat x8.1)),oR (eM eI) x1.Gotos]),(20,iR eCell_0 a2),(21,I64 (a2.length:Int)),(22,I64 s2.2.2)]) q (EO.aP q q (.pend q) q q q (.n q q (.n q q (.n q q (.n q q (.n q q (.n q q .nil)))))) q q)<|Fi (tn7 q q q q q q q)) ?_
       obtain rfl:=sm h
       exact Px.jn (tn7 q q q q q q q)
      ·replace h:=cndF hb23 h
       refine W.sk ?_
       obtain rfl:=sm h
       exact Px.jn (tn7 q q q q q q q)
     refine Px.bk ?_
     obtain rfl:=sm h
     exact Px.jn (tn7 q q q q q q q)
   refine Px.sq<|W.rx [(3,_),(6,_),(8,_),(9,_),(20,_),(21,_),(22,_)] (Rv (O.add (.lit q) (.k q))<|RunL.re (G1:=[(3,_),(6,_),(8,_),(9,_),(20,_),(21,_),(80,_)]) (tn7 q q q q q q q)<|Vm q<|Fi (tn7 q q q q q q q)) ?_
   obtain rfl:=sm h
   exact Px.go (tn7 q q q q q q q)
  ·replace h:=cndF hb5 h
   refine W.xi ?_
   refine Px.sqE ?_
   obtain rfl:=sm h
   exact Px.x1 (tn3 q q q)
 refine Px.bkH ?_
 refine Px.sq<|W.sq' ?_
 refine W.rx [(6,_),(7,_)] (Rv (O.ldON (cs':=[.brw (eO eAct).z ⟨8,[0]⟩ x3.1.length,.brw (eM eI).z ⟨8,[1]⟩ x1.Gotos.length]) q (.obj q) at45 q q)<|Rv (O.mv (.own q))<|RunL.ef (G2:=[(6,.obj [oR (eO eAct) x3.1,oR (eM eI) x1.Gotos]),(9,oR eClash x3.2),(82,.brw eClash.z ⟨9,[]⟩ x3.2.length)]) q (EO.stB (y':=.agg [oR (eO eAct) x3.1,oR (eM eI) x1.Gotos]) (cs2:=[oR (eO eAct) x3.1,oR (eM eI) x1.Gotos]) q q (.obj q) (.aggF q q) (.ag (.r q (.r q .nil)) .nil) (FzL.agg (.f (.f .nil))) q sz45 q q q q q (.b q (.n q q (.w (en:=eClash) q q q q .nil))))<|RunL.ea (G2:=[(6,.obj [oR (eO eAct) x3.1,oR (eM eI) x1.Gotos])]) q (EO.aR q q (.brw q) q (.n q q .nil) q q)<|Fi (tn2 q q)) ?_
 refine Px.sq<|W.fz (G1:=[(6,.obj [iR (eM eAct) x3.1,iR (eM eI) x1.Gotos]),(7,iR eClash x3.2)]) [6,7] (.z q q (FzL.obj (.z (.z .nil))) (.z q q .zz .nil)) ?_
 refine W.rt ?_
 obtain rfl:=sm h
 exact Px.fin (Fin.ro (.c (ys0:=[iR (eM eAct) x3.1,iR (eM eI) x1.Gotos]) q at45 q q q (.f q (.f q .nil)) (.f q q .nil)) q (ode (by kernel_rfl)) (.no (.no (.no .nil))) q (.inr q))
end Go.Proofs
