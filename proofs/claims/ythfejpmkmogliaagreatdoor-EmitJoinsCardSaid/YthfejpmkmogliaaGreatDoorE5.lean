/-
  What is proved here: parts of the proof that the last text states: rules for walks through code, and of this program's functions what they answer. No condition of their own.
-/
import Derived.KernelRfl
import Derived.ProofKit
import Derived.RowKit3
import Derived.Test.YthfejpmkmogliaaGreatDoorRows
import Derived.Test.YthfejpmkmogliaaGreatDoorE4
namespace Go.Proofs
open Go Go.Own
set_option maxRecDepth 100000
set_option maxHeartbeats 4000000
set_option synthInstance.maxHeartbeats 1000000
set_option synthInstance.maxSize 10000
set_option linter.unusedVariables false
instance con91 {a0:(List State)}{r:(List Trans)}:CF Tryz.prog 91 (pf91 a0=some r) [iR eState_0 a0] [none] (iR eTrans r):=⟨fun h=>by unfold pf91 at h; exact Con.au (N:=⟨47,[]⟩) [0,2,3,4,5,9,19,31] (.lp (fun (s1:List Trans × Int)=>[(3,oR eTrans s1.1),(4,I64 s1.2)]) [0,3,4] 0 (fun (x2:List Trans)=>[(3,oR eTrans x2)]) [3] (.b (.lp (fun (s5:List Trans × Int)=>[(3,oR eTrans s5.1),(5,I64 s5.2)]) [0,3,4,5] 2 (fun (x6:List Trans)=>[(3,oR eTrans x6)]) [0,3,4] (.b (.jn [0,3,4,5] (fun (j10:List Trans)=>[(3,oR eTrans j10)]) (.p (.jn [0,3,4,5] (fun (j13:List Trans)=>[(3,oR eTrans j13)]) .e .e)) .e) .e) .e) .e) .e) Tryz.func91 rfl rfl rfl rfl rfl goW⟩
instance con110 {a0:(List Item)}{r:Bool}:CF Tryz.prog 110 (pf110 a0=some r) [iR eItem a0] [none] (BB r):=⟨fun h=>by unfold pf110 at h; exact Con.au (N:=⟨24,[]⟩) [0,2,3,7,23] (.l2 (fun (s1:Int)=>[(3,I64 s1)]) [0,3] 0 (fun (x3:Unit)=>[]) [] (fun (x4:Bool)=>[(2,BB x4)]) [2] (.b (.rj 4 [0,3,23] (fun (c9:Bool)=>[(23,BB c9)]) .e) .e) .e .e) Tryz.func110 rfl rfl rfl rfl rfl goW⟩
instance con88 {a0:(List State)}{r:(List (List Int))}:CF Tryz.prog 88 (pf88 a0=some r) [iR eState_0 a0] [none] (oR (eM eI) r):=⟨fun h=>by unfold pf88 at h; exact Con.au (N:=⟨74,[]⟩) [0,2,3,4,5,6,7,8,14,34,45,57] (.lp (fun (s2:List (List Int) × Int)=>[(4,oR (eM eI) s2.1),(5,I64 s2.2)]) [0,3,4,5] 0 (fun (x3:List (List Int))=>[(4,oR (eM eI) x3)]) [4] (.b (.rd 7 [[],[],[],[1,2],[1,2,3],[1,2,3,4],[],[],[6,7],[6,7,8],[6,7,8,9],rn 0 11 [],rn 0 12 []] (.jn [0,3,4,5,6,7] (fun (j11:List Int)=>[(6,oR eI j11)]) .e (.fl 6 none eI (.lp (fun (s14:List Int × Int)=>[(6,iR eI s14.1),(8,I64 s14.2)]) [0,3,4,5,6,7,8] 2 (fun (x15:List Int)=>[(6,iR eI x15)]) [0,3,4,5,6] (.b (.jn [0,3,4,5,6,7,8] (fun (j19:List Int)=>[(6,iR eI j19)]) (.p (.jn [0,3,4,5,6,7,8] (fun (j22:List Int)=>[(6,iR eI j22)]) .e .e)) .e) .e) .e)))) .e) .e) Tryz.func88 rfl rfl rfl rfl rfl goW⟩
instance con113 {a0:(List Bool)}{a1:(List Int)}{r:Bool}:CF Tryz.prog 113 (pf113 a0 a1=some r) [iR eB a0,iR eI a1] [none,none] (BB r):=⟨fun h=>by unfold pf113 at h; exact Con.au (N:=⟨28,[]⟩) [0,1,4,5,9,27] (.l2 (fun (s1:Int)=>[(5,I64 s1)]) [0,1,5] 0 (fun (x3:Unit)=>[]) [] (fun (x4:Bool)=>[(4,BB x4)]) [4] (.b (.rj 4 [0,1,5,27] (fun (c10:Bool)=>[(27,BB c10)]) .e) .e) .e .e) Tryz.func113 rfl rfl rfl rfl rfl goW⟩
instance con111 {a0:Grammar}{r:(List Bool)}:CF Tryz.prog 111 (pf111 a0=some r) [.agg (eGrammar_0.cells a0)] [none] (iR eB r):=⟨fun h=>by unfold pf111 at h; exact Con.au (N:=⟨41,[]⟩) [1,2,3,4,5,6,11,16,35] (.lp (fun (s2:List Bool × Bool)=>[(3,oR eB s2.1),(4,BB s2.2)]) [1,3,4] 0 (fun (x3:List Bool)=>[(3,oR eB x3)]) [3] (.b (.lp (fun (s6:List Bool × Bool × Int)=>[(3,oR eB s6.1),(4,BB s6.2.1),(5,I64 s6.2.2)]) [1,3,4,5] 2 (fun (x7:List Bool × Bool)=>[(3,oR eB x7.1),(4,BB x7.2)]) [1,3,4] (.b (.jn [1,3,4,5] (fun (j10:List Bool × Bool)=>[(3,oR eB j10.1),(4,BB j10.2)]) (.rj 9 [1,3,4,5,6,35] (fun (c15:Bool)=>[(35,BB c15)]) (.jn [1,3,4,5] (fun (j16:List Bool × Bool)=>[(3,oR eB j16.1),(4,BB j16.2)]) .e .e)) .e) .e) .e) .e) .e) Tryz.func111 rfl rfl rfl rfl rfl goW⟩
instance con112 {a0:(List Trans)}{a1:Int}{a2:Int}{r:Int}:CF Tryz.prog 112 (pf112 a0 a1 a2=some r) [iR eTrans a0,I64 a1,I64 a2] [none,none,none] (I64 r):=⟨fun h=>by unfold pf112 at h; exact Con.au (N:=⟨31,[]⟩) [0,1,2,6,7,11,29] (.l2 (fun (s1:Int)=>[(7,I64 s1)]) [0,1,2,7] 0 (fun (x3:Unit)=>[]) [] (fun (x4:Int)=>[(6,I64 x4)]) [6] (.b (.rj 4 [0,1,2,7,29] (fun (c9:Bool)=>[(29,BB c9)]) .e) .e) .e .e) Tryz.func112 rfl rfl rfl rfl rfl goW⟩
instance con89 {a0:Grammar}{a1:(List State)}{r:(List (List Int))}:CF Tryz.prog 89 (pf89 a0 a1=some r) [.agg (eGrammar_0.cells a0),iR eState_0 a1] [none,none] (iR (eM eI) r):=⟨fun h=>by unfold pf89 at h; exact Con.au (N:=⟨74,[]⟩) [1,2,4,5,6,7,8,9,10,11,12,20,42,62] (.lp (fun (s3:List (List Int) × Int)=>[(7,oR (eM eI) s3.1),(8,I64 s3.2)]) [1,5,6,7,8] 0 (fun (x4:List (List Int))=>[(7,oR (eM eI) x4)]) [7] (.b (.rd 8 [[],[],[],[1,2],[1,2,3],[1,2,3,4],[],[],[6,7],[6,7,8],[6,7,8,9],rn 0 11 [],rn 0 12 []] (.lp (fun (s10:List Int × Int)=>[(9,iR eI s10.1),(11,I64 s10.2)]) [1,5,6,7,8,9,10,11] 2 (fun (x11:List Int)=>[(9,iR eI x11)]) [1,5,6,7,8,9] (.b (.jn [1,5,6,7,8,9,10,11] (fun (j15:List Int)=>[(9,iR eI j15)]) (.rj 13 [1,5,6,7,8,9,10,11,12,62] (fun (c20:Bool)=>[(62,BB c20)]) (.jn [1,5,6,7,8,9,10,11] (fun (j21:List Int)=>[(9,iR eI j21)]) .e .e)) .e) .e) .e)) .e) .e) Tryz.func89 rfl rfl rfl rfl rfl goW⟩
instance con92 {a0:(List State)}{a1:Int}{a2:(List Int)}{r:Int}:CF Tryz.prog 92 (pf92 a0 a1 a2=some r) [iR eState_0 a0,I64 a1,iR eI a2] [none,none,none] (I64 r):=⟨fun h=>by unfold pf92 at h; exact Con.au (N:=⟨26,[]⟩) [0,1,2,6,7,15] (.lp (fun (s1:Int × Int)=>[(1,I64 s1.1),(7,I64 s1.2)]) [0,1,2,7] 0 (fun (x2:Int)=>[(1,I64 x2)]) [1] (.rj 2 [0,1,2,7,15] (fun (c5:Bool)=>[(15,BB c5)]) .e) .e) Tryz.func92 rfl rfl rfl rfl rfl goW⟩
instance con90 {a0:Grammar}{a1:(List State)}{r:(List (List Int))}:CF Tryz.prog 90 (pf90 a0 a1=some r) [.agg (eGrammar_0.cells a0),iR eState_0 a1] [none,none] (iR (eM eI) r):=⟨fun h=>by unfold pf90 at h; exact Con.au (N:=⟨104,[]⟩) [1,2,4,5,6,7,8,9,10,11,12,13,24,31,52,56,72,84,93] (.lp (fun (s4:List (List Int) × Int)=>[(7,oR (eM eI) s4.1),(8,I64 s4.2)]) [1,2,5,6,7,8] 0 (fun (x5:List (List Int))=>[(7,oR (eM eI) x5)]) [7] (.b (.lp (fun (s8:List (List Int) × Int)=>[(7,oR (eM eI) s8.1),(9,I64 s8.2)]) [1,2,5,6,7,8,9] 2 (fun (x9:List (List Int))=>[(7,oR (eM eI) x9)]) [1,2,5,6,7,8] (.b (.jn [1,2,5,6,7,8,9] (fun (j12:List (List Int))=>[(7,oR (eM eI) j12)]) (.rd 11 [[],[0],[],[0,1,2],[0,1,2,3],rn 0 5 [],rn 0 6 [],[],[],[7,8],[7,8,9],[7,8,9,10],rn 0 12 []] (.b .e (.lp (fun (s17:List (List Int) × Int)=>[(7,oR (eM eI) s17.1),(11,I64 s17.2)]) [1,2,5,6,7,8,9,10,11] 4 (fun (x18:List (List Int))=>[(7,oR (eM eI) x18)]) [1,2,5,6,7,8,9] (.b (.jn [1,2,5,6,7,8,9,10,11] (fun (j21:List (List Int))=>[(7,oR (eM eI) j21)]) (.rj 15 [1,2,5,6,7,8,9,10,11,72] (fun (c26:Bool)=>[(72,BB c26)]) (.b .e (.rd 16 [[],[],[],[1,2],[1,2,3],[1,2,3,4],[],[],[6,7],rn 0 9 [],rn 0 10 []] (.jn [1,2,5,6,7,8,9,10,11] (fun (j31:List (List Int))=>[(7,oR (eM eI) j31)]) (.b (.jn [1,2,5,6,7,8,9,10,11] (fun (j35:List (List Int))=>[(7,oR (eM eI) j35)]) .e .e) .e) .e)))) .e) .e) .e))) .e) .e) .e) .e) .e) Tryz.func90 rfl rfl rfl rfl rfl goW⟩
theorem con69l (a0:Grammar) (a1:(List State)) (r:(List (List Int))) (h:pf69 a0 a1=some r):Con Tryz.prog 69 [.agg (eGrammar_0.cells a0),iR eState_0 a1] [none,none] (iR (eM eI) r):=by
 unfold pf69 at h
 refine Con.go (N:=⟨15,[]⟩) Tryz.func69 q q q q (W.fin ?_)
 refine W.st [(0,.agg (eGrammar_0.cells a0)),(1,iR eState_0 a1)] ?_
 refine W.rq [1,2] (Rv (O.box (.aggF q q) q)<|RunL.au) ?_
 refine W.sq'<|bd h fun x1 hx1 h=>bd h fun x2 hx2 h=>bd h fun x3 hx3 h=>bd h fun x4 hx4 h=>bd h fun x5 hx5 h=>W.rdp [0,1,2,3,4,6,7,5,8,9,10] [[],[0],[],[],[0,1,2,3],[],[],rn 0 5 [],rn 0 8 [],rn 0 9 [],rn 0 10 []] [(4,_)] mixo (by kernel_rfl) (by kernel_rfl) (Dv 0 (O.mv (.imm q))<|Dc 1 (PC.go (.cc (.imm q) .nil) (CF.go hx1) call88 q)<|Dv 2 (O.ldON (cs':=[iR eTok a0.Toks,iR eNon a0.Nons,iR eProd_0 a0.Prods,SS a0.Pro,SS a0.Tail]) q (.obj q) at43 q q)<|Dv 3 (O.mv (.imm q))<|Dc 4 (PC.go (.cc (.aggF q q) (.cc (.imm q) .nil)) (CF.go hx2) call89 q)<|Dv 5 (O.ldON (cs':=[iR eTok a0.Toks,iR eNon a0.Nons,iR eProd_0 a0.Prods,SS a0.Pro,SS a0.Tail]) q (.obj q) at43 q q)<|Dv 6 (O.mv (.imm q))<|DL.bu 7 (G2:=[(10,oR (eM eI) x3),(1,iR eState_0 a1),(2,.obj (eGrammar_0.cells a0))]) (U:=[(6,12,some (iR eState_0 a1)),(5,11,some (.agg [iR eTok a0.Toks,iR eNon a0.Nons,iR eProd_0 a0.Prods,SS a0.Pro,SS a0.Tail]))]) (EffOk.v (EO.eff (EO.call q q (CallOk.tn (en:=(eM eI)) (L:=x1) (G2:=[(1,iR eState_0 a1),(2,.obj (eGrammar_0.cells a0))]) (ys:=[iR (eM eI) x2]) q q q q (CF.go hx3) call87 (tn2 q q) q q)))) q q (by kernel_rfl) q q q (.c (.inr (.inr (.inr (.inr (.inl ⟨_,_,_,q,NRc.nr⟩))))) q q q q q (Gd.wanted .none) (O.mv (.imm q)) (.c (.inr (.inr (.inr (.inr (.inr ⟨_,q,Plc.pl,cloN⟩))))) q q q q q (Gd.wanted .none) (O.ldON (cs':=[iR eTok a0.Toks,iR eNon a0.Nons,iR eProd_0 a0.Prods,SS a0.Pro,SS a0.Tail]) q (.obj q) at43 q q) .nil)) (by kernel_rfl)<|Dc 8 (PC.go (.cc (.aggF q q) (.cc (.imm q) .nil)) (CF.go hx4) call90 q)<|DL.bp 9 (G2:=[(14,oR (eM eI) x5)]) (EO.call q q (CallOk.tn (en:=(eM eI)) (L:=x3) (G2:=[]) (ys:=[iR (eM eI) x4]) q q q q (CF.go hx5) call87 .nil q q)) q q q q (by kernel_rfl) (by kernel_rfl)<|DL.bv 10 (G2:=[]) (EO.aR q q (.own q) q .nil q q) q q q q (by kernel_rfl) (by kernel_rfl)<|DL.fin q q q (.n q .nil)) ?_
 refine Px.sq<|W.fz (G1:=[(4,iR (eM eI) x5)]) [4] (.z q q .zz .nil) ?_
 exact W.rt<|sm h ▸ Pq
instance con69 {a0:Grammar}{a1:(List State)}{r:(List (List Int))}:CF Tryz.prog 69 (pf69 a0 a1=some r) [.agg (eGrammar_0.cells a0),iR eState_0 a1] [none,none] (iR (eM eI) r):=⟨con69l a0 a1 _⟩
instance con70 {a0:Grammar}{a1:(List Item)}{r:(List Int)}:CF Tryz.prog 70 (pf70 a0 a1=some r) [.agg (eGrammar_0.cells a0),iR eItem a1] [none,none] (iR eI r):=⟨fun h=>by unfold pf70 at h; exact Con.au (N:=⟨51,[]⟩) [1,2,4,5,6,7,14,41] (.lp (fun (s2:List Int × Int)=>[(5,oR eI s2.1),(7,I64 s2.2)]) [2,5,6,7] 0 (fun (x3:List Int)=>[(5,oR eI x3)]) [5] (.b (.jn [2,5,6,7] (fun (j6:List Int)=>[(5,oR eI j6)]) (.rk 6 [[],[],[0,1],[0,1,2],[0,1,2,3],rn 0 5 [],rn 0 6 [],rn 0 7 [],rn 0 7 [],rn 0 9 [],rn 0 10 [],rn 0 11 [],rn 0 7 [],rn 0 7 [12],rn 0 7 [],rn 0 7 [],rn 0 7 [14,15],rn 0 7 [14,15,16],rn 0 7 [14,15,16,17],rn 0 7 (rn 12 7 []),rn 0 7 (rn 12 8 []),rn 0 7 (rn 12 9 []),rn 0 7 (rn 12 10 []),rn 0 23 [],rn 0 24 []] [2,5,6,7,41] (fun (c12:Bool)=>[(41,BB c12)]) (.jn [2,5,6,7] (fun (j13:List Int)=>[(5,oR eI j13)]) .e .e)) .e) .e) .e) Tryz.func70 rfl rfl rfl rfl rfl goW⟩
instance con71 {a0:Grammar}{a1:(List State)}{a2:Int}{a3:Int}{r:(List Int)}:CF Tryz.prog 71 (pf71 a0 a1 a2 a3=some r) [.agg (eGrammar_0.cells a0),iR eState_0 a1,I64 a2,I64 a3] [none,none,none,none] (iR eI r):=⟨fun h=>by unfold pf71 at h; exact Con.au (N:=⟨74,[]⟩) [1,2,3,4,8,9,10,11,30,36,68] (.rj 1 [1,2,3,4,30] (fun (c4:Bool)=>[(30,BB c4)]) (.b .e (.lp (fun (s7:List Int × Int)=>[(10,oR eI s7.1),(11,I64 s7.2)]) [1,2,3,4,9,10,11] 0 (fun (x8:List Int)=>[(10,oR eI x8)]) [10] (.b (.jn [1,2,3,4,9,10,11] (fun (j11:List Int)=>[(10,oR eI j11)]) (.rk 8 [[],[],[0,1],[0,1,2],[0,1,2,3],[],[5],[],[5,6,7],[5,6,7,8],rn 5 5 [],rn 5 6 [],rn 0 12 [],rn 0 13 [],rn 0 14 [],rn 0 14 [],rn 0 14 [],rn 0 14 [15,16],rn 0 14 [15,16,17],rn 0 14 [15,16,17,18],rn 0 14 [],rn 0 14 [20],rn 0 14 [],rn 0 14 [20,21,22],rn 0 14 [20,21,22,23],rn 0 14 (rn 20 5 []),rn 0 26 [],rn 0 14 [],rn 0 28 [],rn 0 29 []] [1,2,3,4,9,10,11,68] (fun (c18:Bool)=>[(68,BB c18)]) (.jn [1,2,3,4,9,10,11] (fun (j19:List Int)=>[(10,oR eI j19)]) .e .e)) .e) .e) .e))) Tryz.func71 rfl rfl rfl rfl rfl goW⟩
instance con51 {a0:Grammar}{a1:(List State)}{r:(List Look)}:CF Tryz.prog 51 (pf51 a0 a1=some r) [.agg (eGrammar_0.cells a0),iR eState_0 a1] [none,none] (iR eLook_0 r):=⟨fun h=>by unfold pf51 at h; exact Con.au (N:=⟨87,[]⟩) [1,2,4,5,6,7,8,9,10,11,12,13,20,33,53,65] (.lp (fun (s2:List Look × Int)=>[(6,oR eLook_0 s2.1),(7,I64 s2.2)]) [1,2,5,6,7] 0 (fun (x3:List Look)=>[(6,oR eLook_0 x3)]) [6] (.b (.rd 6 [[],[],[],[1,2],[1,2,3],[1,2,3,4],rn 0 6 [],rn 0 7 []] (.lp (fun (s8:List Look × Int)=>[(6,oR eLook_0 s8.1),(9,I64 s8.2)]) [1,2,5,6,7,8,9] 2 (fun (x9:List Look)=>[(6,oR eLook_0 x9)]) [1,2,5,6,7] (.b (.rd 11 [[],[],[],[],[],[3,4],[3,4,5],rn 0 7 [],rn 0 8 []] (.lp (fun (s15:List Int × Int)=>[(3010,iR eI s15.1),(12,I64 s15.2)]) [1,2,5,6,7,8,9,10,11,12] 4 (fun (x16:List Int)=>[(3010,iR eI x16)]) [1,2,5,6,7,8,9,10] (.b (.lp (fun (s19:List Int × Int)=>[(3010,iR eI s19.1),(13,I64 s19.2)]) [1,2,5,6,7,8,9,10,11,12,13] 6 (fun (x20:List Int)=>[(3010,iR eI x20)]) [1,2,5,6,7,8,9,10,11,12] (.b (.rd 18 [[],[0],[],[],[],[3,4],[3,4,5],rn 2 5 [],rn 2 6 [],[],rn 2 8 [],rn 2 9 [],rn 0 12 [],rn 0 13 [],rn 0 14 []] .e) .e) .e) .e) .e)) .e) .e)) .e) .e) Tryz.func51 rfl rfl rfl rfl rfl goW⟩
theorem con38l (a0:Source) (r:Grammar × (List State) × (List Cell) × Bool) (h:pf38 a0=some r):Con Tryz.prog 38 [.agg (eSource_0.cells a0)] [none] (.tup [.agg (eGrammar_0.cells r.1),iR eState_0 r.2.1,iR eCell_0 r.2.2.1,BB r.2.2.2]):=by
 unfold pf38 at h
 refine Con.go (N:=⟨26,[]⟩) Tryz.func38 q q q q (W.fin ?_)
 refine W.st [(0,.agg (eSource_0.cells a0))] ?_
 refine W.rq [1,2] (Rv (O.box (.aggF q q) q)<|Rv (O.al (cs:=[.nils,.nils,.nils,SS S0,SS S0]) ze43 q q)<|RunL.au) ?_
 refine bd h fun x1 hx1 h=>W.rq [2,6,7,8] (Rv (O.ldON (cs':=eSource_0.cells a0) q .z4 at32 q q)<|Rc (PC.gz (.cc (.aggF q q) .nil) (CF.go hx1))<|Rv (O.mv (.tup q q))<|Rv (O.ex (y:=.agg (eGrammar_0.cells x1.1)) q q q)<|Rv (O.ex (y:=iR eState_0 x1.2.1) q q q)<|Rv (O.ex (y:=BB x1.2.2) q q q)<|Rv (O.al (cs:=[.nils,.nils,.nils,SS S0,SS S0]) ze43 q q)<|RunL.f' (EO.sva [2,6,13,14])<|RunL.au) ?_
 refine W.sq'<|W.aq [2,6,7,16] ?_
 refine W.ch h q (fun hb2 h=>?_) (fun hb2 h=>?_)
 ·refine W.rq [2,3,4,5] (Rv (O.ldON (cs':=eGrammar_0.cells x1.1) q .z4 at43 q q)<|RunL.f' (EO.sva [2])<|RunL.au) ?_
  refine W.fz (G1:=[(2,_),(3,iR eState_0 ([]:List State)),(4,iR eCell_0 ([]:List Cell)),(5,_)]) [3,4] (.n q q (.z q q .zz (.z q q .zz (.n q q .nil)))) ?_
  exact W.rt<|Px.sqR<|sm h ▸ Pr (.c (ys0:=eGrammar_0.cells x1.1) q at43 q q q (.f q (.f q (.f q (.f q (.f q .nil))))) (.f q q (.f q q (.f q q .nil))))
 ·refine W.sk<|Px.sq<|W.sq'<|bd h fun x3 hx3 h=>bd h fun x4 hx4 h=>W.rd [[],[],[],[],[],[],[4,5],rn 2 5 [],(0::rn 2 6 []),rn 0 9 [],rn 0 10 [],rn 0 11 []] [(2,_),(3,_),(4,_),(5,_)] mixo (by kernel_rfl) (Dv 0 (O.ldON (cs':=eGrammar_0.cells x1.1) q .z4 at43 q q)<|Dv 1 (O.mv .z2)<|Dv 2 (O.ldON (cs':=eGrammar_0.cells x1.1) q .z4 at43 q q)<|Dv 3 (O.mv .z2)<|Dv 4 (O.ldON (cs':=eGrammar_0.cells x1.1) q .z4 at43 q q)<|Dv 5 (O.mv .z2)<|Dc 6 (PC.gz (.cc (.aggF q q) (.cc (.imm q) .nil)) (CF.go hx3))<|Dc 7 (PC.gz (.cc (.aggF q q) (.cc (.imm q) (.cc (.imm q) .nil))) (CF.go hx4))<|DL.bu 8 (G2:=[(2,.obj (eGrammar_0.cells x1.1)),(7,iR eState_0 x1.2.1),(25,iR eCell_0 x4)]) (U:=[(1,19,some (iR eState_0 x1.2.1))]) (EffOk.v (EO.eff (EO.sO (G2:=[(2,.obj (eGrammar_0.cells x1.1)),(7,iR eState_0 x1.2.1),(25,iR eCell_0 x4)]) (cs2:=eGrammar_0.cells x1.1) q q q (.obj q) (.aggF q q) q sz43 q q q q (.b q (.n q q (.n q q .nil)))))) q q (by kernel_rfl) q q q (.c (.inr (.inr (.inr (.inr (.inl ⟨_,_,_,q,NRc.nr⟩))))) q q q q q (Gd.wanted .none) (O.mv .z2) .nil) (by kernel_rfl)<|Dv 9 (O.az .z2)<|Dv 10 (O.az .z2)<|Dv 11 (O.az (.k q))<|DL.fin q q q (tn4 q q q q)) ?_
  exact Px.sq<|W.rt<|sm h ▸ Pr (.c (ys0:=eGrammar_0.cells x1.1) q at43 q q q (.f q (.f q (.f q (.f q (.f q .nil))))) (.f q q (.f q q (.f q q .nil))))
instance con38 {a0:Source}{r:Grammar × (List State) × (List Cell) × Bool}:CF Tryz.prog 38 (pf38 a0=some r) [.agg (eSource_0.cells a0)] [none] (.tup [.agg (eGrammar_0.cells r.1),iR eState_0 r.2.1,iR eCell_0 r.2.2.1,BB r.2.2.2]):=⟨con38l a0 _⟩
instance con93 {a0:Grammar}{a1:Int}{r:Int × Int}:CF Tryz.prog 93 (pf93 a0 a1=some r) [.agg (eGrammar_0.cells a0),I64 a1] [none,none] (.tup [I64 r.1,I64 r.2]):=⟨fun h=>by unfold pf93 at h; exact Con.au (N:=⟨39,[]⟩) [1,2,4,5,6,24] (.rj 1 [1,2,24] (fun (c4:Bool)=>[(24,BB c4)]) (.b .e (.rd 3 [[],[0],[],[2],[],[2,3,4],[2,3,4,5],rn 2 5 [],rn 0 8 [],rn 0 9 [],[],rn 0 11 []] (.rd 4 [[],[0],[],[2],[0,1],rn 0 5 []] .e)))) Tryz.func93 rfl rfl rfl rfl rfl goW⟩
instance con72 {a0:Grammar}{a1:Int}{a2:Int}{r:Int}:CF Tryz.prog 72 (pf72 a0 a1 a2=some r) [.agg (eGrammar_0.cells a0),I64 a1,I64 a2] [none,none,none] (I64 r):=⟨fun h=>by unfold pf72 at h; exact Con.au (N:=⟨61,[]⟩) [1,2,3,6,7,9,37,43,48,53,57] (.rj 2 [2,3,7,37] (fun (c6:Bool)=>[(37,BB c6)]) .e) Tryz.func72 rfl rfl rfl rfl rfl goW⟩
theorem con52l (a0:Grammar) (a1:Cell) (r:Act × (List Clash)) (h:pf52 a0 a1=some r):Con Tryz.prog 52 [.agg (eGrammar_0.cells a0),.agg (eCell_0.cells a1)] [none,none] (.tup [.agg [I64 r.1.Kind,I64 r.1.N],iR eClash r.2]):=by
 unfold pf52 at h
 refine Con.go (N:=⟨97,[]⟩) Tryz.func52 q q q q (W.fin ?_)
 refine W.st [(0,.agg (eGrammar_0.cells a0)),(1,.agg (eCell_0.cells a1))] ?_
 refine W.rq [2,3,4] (Rv (O.box (.aggF q q) q)<|Rv (O.box (.aggF q q) q)<|Rv (O.al (cs:=[I64 0,I64 0]) ze132 q q)<|RunL.au) ?_
 refine W.aq [2,3,4,6] ?_
 refine W.sq'<|W.aq [2,3,4,6,7] ?_
 refine W.bk<|bd h fun x2 hl h=>W.l1 (([]:List Clash),1) (fun (s1:List Clash × Int)=>[(6,oR eClash s1.1),(7,I64 s1.2)]) [2,3,4,6,7] 0 (fun (x2:List Clash)=>[(6,oR eClash x2)]) [2,3,4,6] hl (fun s1 o h=>?_) ?_
 ·clear hl
  refine W.sq'<|W.aq [2,3,4,6,7,15] ?_
  refine W.ch h q (fun hb4 h=>?_) (fun hb4 h=>?_)
  ·refine W.sk<|Px.sq<|W.sq'<|W.bk<|W.tr (G1:=[(2,_),(3,_),(4,_),(6,_),(7,_)]) (tn5 q q q q q) ?_
   refine bd h fun x5 hx5 h=>bd h fun x6 hx6 h=>bd h fun x7 hx7 h=>W.rd [[],[],[1],[],[3],[],[5],[5,6],[5,6,7],[],[9],[],[9,10,11],[9,10,11,12],rn 1 13 [],rn 1 14 [],rn 0 16 [],rn 0 17 []] [(2,_),(3,_),(4,_),(6,_),(7,_)] mixo (by kernel_rfl) (Dv 0 (O.mv .z3)<|Dv 1 O.y1<|Dv 2 O.y3<|Dv 3 O.y1<|Dv 4 O.y3<|Dv 5 O.y1<|Dv 6 (O.y5 (y:=iR eI a1.Prods))<|Dv 7 (O.ixI .z2 .z8 sl22 hx5)<|Dv 8 (O.y6 (x:=I64 x5))<|Dv 9 O.y1<|Dv 10 (O.y5 (y:=iR eI a1.Prods))<|Dv 11 (O.mv (.lit q))<|Dv 12 (O.y4 hx6)<|Dv 13 (O.y6 (x:=I64 x6))<|Dv 14 (O.bu (cs:=[I64 a1.State,I64 a1.Tok,I64 x5,I64 x6]) sc173 ze173 q q q)<|DL.vi 15 (x:=iR eClash [(⟨a1.State,a1.Tok,x5,x6⟩:Clash)]) (O.bs (ys:=[.agg [I64 a1.State,I64 a1.Tok,I64 x5,I64 x6]]) eClash [(⟨a1.State,a1.Tok,x5,x6⟩:Clash)] sl103 q q q q q q zt173 q q) q q q q .none<|Dv 16 (O.ap (en:=eClash) (r:=x7) .z6 q .z2 .i ap103 q hx7)<|DL.bvz 17 (EO.apq [2,3,4,7])<|DL.fin q q q (tn5 q q q q q)) ?_
   refine Px.bk<|Px.sq<|W.rk [2,3,4,6,7] (Vm q<|Rv (O.add .z1 .z8)<|RunL.rk [2,3,4,6,17] q<|RunL.au) ?_
   exact sm h ▸ Px.gt
  ·exact W.xi<|Px.sqE<|sm h ▸ Px.t1
 refine Px.bkH<|Px.sq<|W.rq [2,3,4,6,8] (Rv O.y1<|Rv O.y3<|Rv (O.bu (cs:=[I64 1,I64 a1.Shift]) sc132 ze132 q q q)<|Rv (O.al (cs:=[I64 0,I64 0]) ze132 q q)<|RunL.f' (EO.sva [2,3,4,6,8])<|Fk q) ?_
 refine W.sq'<|W.aq [2,3,4,6,8,39] ?_
 refine bd h fun j8 hj h=>W.jq [2,3,4,6,8] [(8,.obj [I64 j8.1,I64 j8.2])] ?_ ?_
 ·clear h; have h:=hj; clear hj
  refine W.ch h q (fun hb9 h=>?_) (fun hb9 h=>?_)
  ·refine W.rk [2,3,4,6,8] (Rv (O.bu (cs:=[I64 3,I64 0]) sc132 ze132 q q q)<|RunL.f' (EO.sva [2,3,4,6,8])<|Fk q) ?_
   exact sm h ▸ Px.jt
  ·exact W.sk<|sm h ▸ Px.jt
 refine Px.sq<|W.sq'<|W.aq [2,3,4,6,8,44] ?_
 refine W.ch h q (fun hb10 h=>?_) (fun hb10 h=>?_)
 ·refine W.rq [4,5] (Rv (O.ldON (cs':=[I64 j8.1,I64 j8.2]) q .z4 at132 q q)<|Rv (O.mv .z3)<|RunL.sO (G2:=[(4,_),(6,_),(46,.brw eClash.z ⟨6,[]⟩ x2.length)]) (cs2:=[I64 j8.1,I64 j8.2]) q (.obj q) (.aggF q q) q sz132 q q q q (.b q (.n q q (.w (en:=eClash) q q q q .nil)))<|RunL.a' (EO.ar [4])<|Fk q) ?_
  refine W.fz (G1:=[(4,_),(5,iR eClash x2)]) [5] (.n q q (.z q q .zz .nil)) ?_
  exact W.rt<|Px.sqR<|sm h ▸ Pr (.c (ys0:=[I64 j8.1,I64 j8.2]) q at132 q q q (.f q (.f q .nil)) (.f q q .nil))
 ·refine W.sk<|Px.sq<|bd h fun x11 hx11 h=>W.aq [2,3,4,6,8,9] ?_
  refine W.sq'<|bd h fun c13 hj h=>W.rz [2,3,4,6,8,9,58] [(58,BB c13)] ?_ ?_
  ·refine Rv O.y1<|Rv O.y3<|Rv (O.lss .z1 .z8)<|Rv (O.mv (.lit q)) ?_
   rcases cnd hj with ⟨hb12,hj⟩ | ⟨hb12,hj⟩
   ·exact sm hj ▸ RunL.au
   ·exact sm hj ▸ RunL.au
  refine W.ch h q (fun hb14 h=>?_) (fun hb14 h=>?_)
  ·refine W.rq [4,5] (Vm q<|Rv (O.bu (cs:=[I64 2,I64 x11]) sc132 ze132 q q q)<|Rv (O.mv .z3)<|RunL.sO (G2:=[(4,_),(6,_),(61,.brw eClash.z ⟨6,[]⟩ x2.length)]) (cs2:=[I64 2,I64 x11]) q (.obj q) (.aggF q q) q sz132 q q q q (.b q (.n q q (.w (en:=eClash) q q q q .nil)))<|RunL.a' (EO.ar [4])<|Fk q) ?_
   refine W.fz (G1:=[(4,_),(5,iR eClash x2)]) [5] (.n q q (.z q q .zz .nil)) ?_
   exact W.rt<|Px.sqR<|sm h ▸ Pr (.c (ys0:=[I64 2,I64 x11]) q at132 q q q (.f q (.f q .nil)) (.f q q .nil))
  ·refine W.sk<|Px.sq<|bd h fun x15 hx15 h=>W.rq [3,4,6,8,9,10] (Rv (O.ldON (cs':=eGrammar_0.cells a0) q .z4 at43 q q)<|Vm q<|Rv O.y1<|Rv O.y3<|Rc (PC.gz (.cc (.aggF q q) (.cc (.lit q) (.cc (.lit q) .nil))) (CF.go hx15))<|RunL.au) ?_
   refine W.sq'<|W.bk<|bd h fun c17 hj h=>W.rz [3,4,6,8,9,10,67] [(67,BB c17)] ?_ ?_
   ·refine Rv O.y1<|Rv O.y3<|Rv (O.mv (.lit q)) ?_
    rcases cnd hj with ⟨hb16,hj⟩ | ⟨hb16,hj⟩
    ·exact sm hj ▸ RunL.au
    ·exact sm hj ▸ RunL.au
   refine W.ch h q (fun hb18 h=>?_) (fun hb18 h=>?_)
   ·refine W.sq'<|bd h fun x19 hx19 h=>W.rd [[],[],[],[2],[],[4],[],rn 2 5 [],rn 2 6 [],rn 1 8 [],rn 0 10 [],rn 0 11 []] [(4,_),(5,_)] mixo (by kernel_rfl) (Dv 0 (O.ldON (cs':=[I64 j8.1,I64 j8.2]) q .z4 at132 q q)<|Dv 1 (O.mv .z3)<|Dv 2 O.y1<|Dv 3 O.y3<|Dv 4 O.y1<|Dv 5 O.y3<|Dv 6 (O.mv (.lit q))<|Dv 7 (O.bu (cs:=[I64 a1.State,I64 a1.Tok,I64 (-1),I64 x11]) sc173 ze173 q q q)<|DL.vi 8 (x:=iR eClash [(⟨a1.State,a1.Tok,(-1),x11⟩:Clash)]) (O.bs (ys:=[.agg [I64 a1.State,I64 a1.Tok,I64 (-1),I64 x11]]) eClash [(⟨a1.State,a1.Tok,(-1),x11⟩:Clash)] sl103 q q q q q q zt173 q q) q q q q .none<|Dv 9 (O.ap (en:=eClash) (r:=x19) .z6 q .z2 .i ap103 q hx19)<|DL.bw 10 (G2:=[(4,.obj [I64 j8.1,I64 j8.2]),(83,oR eClash (x2++[(⟨a1.State,a1.Tok,(-1),x11⟩:Clash)]))]) (EffOk.settle (ts:=[83]) (xs:=[.brw eClash.z ⟨83,[]⟩ (x2.length+[(⟨a1.State,a1.Tok,(-1),x11⟩:Clash)].length)]) (ys:=[.own eClash.z (x2.length+[(⟨a1.State,a1.Tok,(-1),x11⟩:Clash)].length) (rowc eClash x2++rowc eClash [(⟨a1.State,a1.Tok,(-1),x11⟩:Clash)])]) (g2:=get [(4,.obj [I64 0,I64 0]),(6,.dead),(74,.agg [I64 j8.1,I64 j8.2]),(83,oR eClash (x2++[(⟨a1.State,a1.Tok,(-1),x11⟩:Clash)]))]) q (TkL.take (.pn q q q .ns .nil)) (by decide) q (all1 q) (Trim.keep (.n q (.n q (.n q (.e q (oR_app _ _ _) .nil))))) (EO.eff (EO.sO (G2:=[(4,.obj [I64 j8.1,I64 j8.2]),(83,oR eClash (x2++[(⟨a1.State,a1.Tok,(-1),x11⟩:Clash)]))]) (cs2:=[I64 j8.1,I64 j8.2]) q q q (.obj q) (.aggF q q) q sz132 q q q q (.b q (.n q q .nil))))) q q (by kernel_rfl) q q (by kernel_rfl)<|DL.bvz 11 (EO.ar [4])<|DL.fin q q q (tn2 q q)) ?_
    refine Px.sq<|W.fz (G1:=[(4,_),(5,iR eClash (x2++[(⟨a1.State,a1.Tok,(-1),x11⟩:Clash)]))]) [5] (.n q q (.z q q .zz .nil)) ?_
    exact W.rt<|Px.bkR<|Px.sqR<|sm h ▸ Pr (.c (ys0:=[I64 j8.1,I64 j8.2]) q at132 q q q (.f q (.f q .nil)) (.f q q .nil))
   ·refine W.aq [4,6,8,9,10,84] ?_
    refine W.ch h q (fun hb20 h=>?_) (fun hb20 h=>?_)
    ·refine W.rq [4,5] (Vm q<|Rv (O.bu (cs:=[I64 2,I64 x11]) sc132 ze132 q q q)<|Rv (O.mv .z3)<|RunL.sO (G2:=[(4,_),(6,_),(89,.brw eClash.z ⟨6,[]⟩ x2.length)]) (cs2:=[I64 2,I64 x11]) q (.obj q) (.aggF q q) q sz132 q q q q (.b q (.n q q (.w (en:=eClash) q q q q .nil)))<|RunL.a' (EO.ar [4])<|Fk q) ?_
     refine W.fz (G1:=[(4,_),(5,iR eClash x2)]) [5] (.n q q (.z q q .zz .nil)) ?_
     exact W.rt<|Px.bkR<|Px.sqR<|sm h ▸ Pr (.c (ys0:=[I64 2,I64 x11]) q at132 q q q (.f q (.f q .nil)) (.f q q .nil))
    ·refine W.aq [4,6,8,90] ?_
     refine W.ch h q (fun hb21 h=>?_) (fun hb21 h=>?_)
     ·refine W.rq [4,5] (Rv (O.bu (cs:=[I64 4,I64 0]) sc132 ze132 q q q)<|Rv (O.mv .z3)<|RunL.sO (G2:=[(4,_),(6,_),(94,.brw eClash.z ⟨6,[]⟩ x2.length)]) (cs2:=[I64 4,I64 0]) q (.obj q) (.aggF q q) q sz132 q q q q (.b q (.n q q (.w (en:=eClash) q q q q .nil)))<|RunL.a' (EO.ar [4])<|Fk q) ?_
      refine W.fz (G1:=[(4,_),(5,iR eClash x2)]) [5] (.n q q (.z q q .zz .nil)) ?_
      exact W.rt<|Px.bkR<|Px.sqR<|sm h ▸ Pr (.c (ys0:=[I64 4,I64 0]) q at132 q q q (.f q (.f q .nil)) (.f q q .nil))
     ·refine W.sk<|Px.bk<|Px.sq<|W.rq [4,5] (Rv (O.ldON (cs':=[I64 j8.1,I64 j8.2]) q .z4 at132 q q)<|Rv (O.mv .z3)<|RunL.sO (G2:=[(4,_),(6,_),(96,.brw eClash.z ⟨6,[]⟩ x2.length)]) (cs2:=[I64 j8.1,I64 j8.2]) q (.obj q) (.aggF q q) q sz132 q q q q (.b q (.n q q (.w (en:=eClash) q q q q .nil)))<|RunL.a' (EO.ar [4])<|Fk q) ?_
      refine W.fz (G1:=[(4,_),(5,iR eClash x2)]) [5] (.n q q (.z q q .zz .nil)) ?_
      exact W.rt<|sm h ▸ Pr (.c (ys0:=[I64 j8.1,I64 j8.2]) q at132 q q q (.f q (.f q .nil)) (.f q q .nil))
instance con52 {a0:Grammar}{a1:Cell}{r:Act × (List Clash)}:CF Tryz.prog 52 (pf52 a0 a1=some r) [.agg (eGrammar_0.cells a0),.agg (eCell_0.cells a1)] [none,none] (.tup [.agg [I64 r.1.Kind,I64 r.1.N],iR eClash r.2]):=⟨con52l a0 a1 _⟩
theorem con39l (a0:Grammar) (a1:(List State)) (a2:(List Cell)) (r:Dense × (List Clash)) (h:pf39 a0 a1 a2=some r):Con Tryz.prog 39 [.agg (eGrammar_0.cells a0),iR eState_0 a1,iR eCell_0 a2] [none,none,none] (.tup [.agg [iR (eM eAct) r.1.Acts,iR (eM eI) r.1.Gotos],iR eClash r.2]):=by
 unfold pf39 at h
 refine Con.go (N:=⟨92,[]⟩) Tryz.func39 q q q q (W.fin ?_)
 refine W.st [(0,.agg (eGrammar_0.cells a0)),(1,iR eState_0 a1),(2,iR eCell_0 a2)] ?_
 refine W.rq [1,2,3,6] (Rv (O.box (.aggF q q) q)<|Rv (O.al (cs:=[.nils,.nils]) ze87 q q)<|RunL.au) ?_
 refine W.rq [1,2,3,6,8] (Rv (O.al (cs:=[.nils,.nils]) ze87 q q)<|Fk q) ?_
 refine W.aq [1,2,3,6,8,9] ?_
 refine W.sq'<|W.aq [1,2,3,6,8,9,10] ?_
 refine W.bk<|bd h fun x2 hl h=>W.l1 (([]:List (List Act)),([]:List (List Int)),([]:List Clash),0) (fun (s1:List (List Act) × List (List Int) × List Clash × Int)=>[(8,.obj [oR (eM eAct) s1.1,oR (eM eI) s1.2.1]),(9,oR eClash s1.2.2.1),(10,I64 s1.2.2.2)]) [1,2,3,6,8,9,10] 0 (fun (x2:List (List Act) × List (List Int) × List Clash)=>[(8,.obj [oR (eM eAct) x2.1,oR (eM eI) x2.2.1]),(9,oR eClash x2.2.2)]) [6,8,9] hl (fun s1 o h=>?_) ?_
 ·clear hl
  refine W.sq'<|W.aq [1,2,3,6,8,9,10,20] ?_
  refine W.ch h q (fun hb4 h=>?_) (fun hb4 h=>?_)
  ·refine W.sk<|Px.sq<|W.sq'<|W.bk<|bd h fun x5 hx5 h=>W.rq [1,2,3,6,8,9,10,11] (Rv O.y1<|Rv (O.y5 (y:=iR eTok a0.Toks))<|Rv O.y9<|Rv (O.mk (en:=eAct) (z0:=(⟨0,0⟩:Act)) sl128 .z1 .z1 ze132 q q hx5 bb132 q)<|RunL.a' (EO.ar [1,2,3,6,8,9,10])<|Fk q) ?_
   refine W.sq'<|W.aq [1,2,3,6,8,9,10,11,12] ?_
   refine W.bk<|bd h fun x7 hl h=>W.l1 (s1.2.2.1,x5,0) (fun (s6:List Clash × List Act × Int)=>[(9,oR eClash s6.1),(11,oR eAct s6.2.1),(12,I64 s6.2.2)]) [1,2,3,6,8,9,10,11,12] 2 (fun (x7:List Clash × List Act)=>[(9,oR eClash x7.1),(11,oR eAct x7.2)]) [1,2,3,6,8,9,10,11] hl (fun s6 o h=>?_) ?_
   ·clear hl
    refine W.sq'<|W.aq [1,2,3,6,8,9,10,11,12,30] ?_
    refine W.ch h q (fun hb9 h=>?_) (fun hb9 h=>?_)
    ·refine W.sk<|Px.sq<|W.sq'<|bd h fun j10 hj h=>W.jq [1,2,3,6,8,9,10,11,12] [(9,oR eClash j10.1),(11,oR eAct j10.2)] ?_ ?_
     ·clear h; have h:=hj; clear hj
      refine W.bk<|bd h fun x11 hx11 h=>W.aq [1,2,3,6,8,9,10,11,12,39] ?_
      refine bd h fun j12 hj h=>W.jq [1,2,3,6,8,9,10,11,12] [(9,oR eClash j12.1),(11,oR eAct j12.2)] ?_ ?_
      ·clear h; have h:=hj; clear hj
       refine W.ch h q (fun hb13 h=>?_) (fun hb13 h=>?_)
       ·refine W.sq'<|bd h fun x14 hx14 h=>bd h fun x15 hx15 h=>W.rd [[],[],[],[1,2],[1,2,3],rn 0 5 [],rn 0 6 [],rn 0 7 [],rn 0 7 [],[],rn 0 8 [9],rn 0 11 []] [(1,_),(2,_),(3,_),(6,_),(8,_),(9,_),(10,_),(11,_),(12,_),(13,_),(14,_)] mixo (by kernel_rfl) (Dv 0 (O.ldON (cs':=eGrammar_0.cells a0) q .z4 at43 q q)<|Dv 1 (O.mv .z2)<|Dv 2 (O.mv (.lit q))<|Dv 3 (O.y4 hx14)<|Dv 4 (O.ldIN (cs':=eCell_0.cells x14) .z7 at130 q q)<|Dc 5 (PC.gz (.cc (.aggF q q) (.cc (.aggF q q) .nil)) (CF.go hx15))<|Dv 6 (O.mv (.tup q q))<|Dv 7 (O.ex (y:=.agg [I64 x15.1.Kind,I64 x15.1.N]) q q q)<|Dv 8 (O.ex (y:=iR eClash x15.2) q q q)<|Dv 9 (O.al (cs:=[I64 0,I64 0]) ze132 q q)<|DL.bu 10 (G2:=[(1,iR eState_0 a1),(2,iR eCell_0 a2),(3,.obj (eGrammar_0.cells a0)),(6,.obj [.nils,.nils]),(8,.obj [oR (eM eAct) s1.1,oR (eM eI) s1.2.1]),(9,oR eClash s6.1),(10,I64 s1.2.2.2),(11,oR eAct s6.2.1),(12,I64 s6.2.2),(13,.obj [I64 x15.1.Kind,I64 x15.1.N]),(40,.tup [.agg [I64 x15.1.Kind,I64 x15.1.N],iR eClash x15.2])]) (U:=[(8,48,some (iR eClash x15.2))]) (EffOk.v (EO.eff (EO.sO (G2:=[(1,iR eState_0 a1),(2,iR eCell_0 a2),(3,.obj (eGrammar_0.cells a0)),(6,.obj [.nils,.nils]),(8,.obj [oR (eM eAct) s1.1,oR (eM eI) s1.2.1]),(9,oR eClash s6.1),(10,I64 s1.2.2.2),(11,oR eAct s6.2.1),(12,I64 s6.2.2),(13,.obj [I64 x15.1.Kind,I64 x15.1.N]),(40,.tup [.agg [I64 x15.1.Kind,I64 x15.1.N],iR eClash x15.2])]) (cs2:=[I64 x15.1.Kind,I64 x15.1.N]) q q q (.obj q) (.aggF q q) q sz132 q q q q (.n q q (.n q q (.n q q (.n q q (.n q q (.n q q (.n q q (.n q q (.n q q (.b q (.n q q .nil)))))))))))))) q q (by kernel_rfl) q q q (.c (.inr (.inr (.inr (.inr (.inl ⟨_,_,_,q,NRc.nr⟩))))) q q q q q (Gd.wanted .none) (O.ex (y:=iR eClash x15.2) q q q) .nil) (by kernel_rfl)<|Dv 11 (O.az .z2)<|DL.fin q q q (tn11 q q q q q q q q q q q)) ?_
        refine Px.sq<|W.sq'<|bd h fun x16 hx16 h=>bd h fun x17 hx17 h=>W.rd [[],[],[],[1,2],[1,2,3],[1,2,3,4],[],rn 0 7 [],rn 0 8 []] [(1,_),(2,_),(3,_),(6,_),(8,_),(9,_),(10,_),(11,_),(12,_),(14,_)] mixo (by kernel_rfl) (Dv 0 (O.mv .z3)<|Dv 1 (O.mv .z2)<|Dv 2 (O.mv (.lit q))<|Dv 3 (O.y4 hx16)<|Dv 4 O.y8<|Dv 5 (O.y6 (x:=I64 x16.Tok))<|Dv 6 (O.ldON (cs':=[I64 x15.1.Kind,I64 x15.1.N]) q .z4 at132 q q)<|Dv 7 (O.ixO (en:=eAct) q .z6 .z1 sl128 hx17 q)<|DL.bpz 8 (EO.se (en:=eAct) (y2:=x15.1) [1,2,3,6,8,9,10,11,12,14] hx17)<|DL.fin q q q (tn10 q q q q q q q q q q)) ?_
        refine Px.sq<|bd h fun x18 hx18 h=>W.rk [1,2,3,6,8,9,10,11,12] (Rv (O.mv .z3)<|Rv (O.mv .z2)<|Rv (O.ap (en:=eClash) (r:=x18) .z6 q .z2 .i ap103 q hx18)<|RunL.a' (EO.apq [1,2,3,6,8,10,11,12])<|Fk q) ?_
        exact sm h ▸ Px.jt
       ·exact W.sk<|sm h ▸ Px.jt
      exact Px.bk<|sm h ▸ Px.jt
     refine Px.sq<|W.rk [1,2,3,6,8,9,10,11,12] (Vm q<|Rv (O.add .z1 .z8)<|RunL.rk [1,2,3,6,8,9,10,11,32] q<|RunL.au) ?_
     exact sm h ▸ Px.gt
    ·exact W.xi<|Px.sqE<|sm h ▸ Px.t1
   refine Px.bkH<|Px.sq<|bd h fun x19 hx19 h=>W.rq [1,2,3,6,8,9,10,11,15] (Rv O.y1<|Rv (O.y5 (y:=iR eNon a0.Nons))<|Rv O.y9<|Rv (O.mk (en:=eI) (z0:=0) sl22 .z1 .z1 ze3 q q hx19 bb3 q)<|RunL.a' (EO.ar [1,2,3,6,8,9,10,11])<|Fk q) ?_
   refine W.sq'<|W.aq [1,2,3,6,8,9,10,11,15,16] ?_
   refine W.bk<|bd h fun x21 hl h=>W.l1 (x19,0) (fun (s20:List Int × Int)=>[(15,oR eI s20.1),(16,I64 s20.2)]) [1,2,3,6,8,9,10,11,15,16] 4 (fun (x21:List Int)=>[(15,oR eI x21)]) [1,2,3,6,8,9,10,11,15] hl (fun s20 o h=>?_) ?_
   ·clear hl
    refine W.sq'<|W.aq [1,2,3,6,8,9,10,11,15,16,67] ?_
    refine W.ch h q (fun hb23 h=>?_) (fun hb23 h=>?_)
    ·refine W.sk<|Px.sq<|W.sq'<|W.bk<|bd h fun x24 hx24 h=>bd h fun x25 hx25 h=>W.rk [1,2,3,6,8,9,10,11,15,16] (Rv (O.mv .z3)<|Vm q<|Rv (O.mv .z2)<|Vm q<|Vm q<|Rv (O.add .z8 .z1)<|Rc (PC.gz (.cc (.imm q) (.cc (.lit q) (.cc (.lit q) .nil))) (CF.go hx24))<|Rv (O.ixO (en:=eI) q .z6 .z1 sl22 hx25 q)<|RunL.f' (EO.se (en:=eI) (y2:=x24) [1,2,3,6,8,9,10,11,15,16] hx25)<|Fk q) ?_
     refine Px.bk<|Px.sq<|W.rk [1,2,3,6,8,9,10,11,15,16] (Vm q<|Rv (O.add .z1 .z8)<|RunL.rk [1,2,3,6,8,9,10,11,15,69] q<|RunL.au) ?_
     exact sm h ▸ Px.gt
    ·exact W.xi<|Px.sqE<|sm h ▸ Px.t1
   refine Px.bkH<|Px.sq<|W.fz (G1:=[(1,_),(2,_),(3,_),(6,_),(8,_),(9,_),(10,_),(11,iR eAct x7.2),(15,iR eI x21)]) [11,15] (.n q q (.n q q (.n q q (.n q q (.n q q (.n q q (.n q q (.z q q .zz (.z q q .zz .nil))))))))) ?_
   refine bd h fun x26 hx26 h=>bd h fun x27 hx27 h=>W.rd [[],[0],[],[2],[0,1,2,3],[],[5],[],[7],rn 0 9 [],rn 0 7 [],rn 0 11 [],rn 0 12 [],rn 0 13 []] [(1,_),(2,_),(3,_),(6,_),(8,_),(9,_),(10,_)] mixo (by kernel_rfl) (Dv 0 O.y1<|Dv 1 (O.y5 (y:=.brw (eM eAct).z ⟨8,[0]⟩ s1.1.length))<|Dv 2 (O.mv .z2)<|DL.vi 3 (x:=iR (eM eAct) [x7.2]) (O.bs (ys:=[iR eAct x7.2]) (eM eAct) [x7.2] sl85 q q q q q q zt128 q q) q q q q .none<|Dv 4 (O.ap (en:=(eM eAct)) (r:=x26) .z6 q .z2 .i ap85 q hx26)<|Dv 5 O.y1<|Dv 6 (O.y5 (y:=.brw (eM eI).z ⟨8,[1]⟩ s1.2.1.length))<|Dv 7 (O.mv .z2)<|DL.vi 8 (x:=iR (eM eI) [x21]) (O.bs (ys:=[iR eI x21]) (eM eI) [x21] sl33 q q q q q q zt22 q q) q q q q .none<|Dv 9 (O.ap' (en:=(eM eI)) (r:=x27) .z6 q .z2 .i ap33 q hx27 (noQ_spec (by kernel_rfl) (by kernel_rfl)))<|Dv 10 O.y1<|DL.bw 11 (G2:=[(1,iR eState_0 a1),(2,iR eCell_0 a2),(3,.obj (eGrammar_0.cells a0)),(6,.obj [.nils,.nils]),(8,.obj [oR (eM eAct) (s1.1++[x7.2]),.dead]),(9,oR eClash x7.1),(10,I64 s1.2.2.2),(87,oR (eM eI) (s1.2.1++[x21]))]) (EffOk.settle (ts:=[82,87]) (xs:=[.brw (eM eAct).z ⟨82,[]⟩ (s1.1.length+[x7.2].length),.brw (eM eI).z ⟨87,[]⟩ (s1.2.1.length+[x21].length)]) (ys:=[.own (eM eAct).z (s1.1.length+[x7.2].length) (rowc (eM eAct) s1.1++rowc (eM eAct) [x7.2]),.own (eM eI).z (s1.2.1.length+[x21].length) (rowc (eM eI) s1.2.1++rowc (eM eI) [x21])]) (g2:=get [(1,iR eState_0 a1),(2,iR eCell_0 a2),(3,.obj (eGrammar_0.cells a0)),(6,.obj [.nils,.nils]),(8,.obj [.dead,.dead]),(9,oR eClash x7.1),(10,I64 s1.2.2.2),(82,oR (eM eAct) (s1.1++[x7.2])),(87,oR (eM eI) (s1.2.1++[x21])),(88,.ptr ⟨8,[]⟩ 0)]) q (TkL.take (.pn q q q .ns (.pn q q q .ns .nil))) (by decide) q (all2 q q) (Trim.keep (.n q (.n q (.n q (.n q (.n q (.n q (.n q (.e q (oR_app _ _ _) (.e q (oR_app _ _ _) (.q q q q .nil))))))))))) (EO.eff (EO.stB (y':=oR (eM eAct) (s1.1++[x7.2])) (cs2:=[oR (eM eAct) (s1.1++[x7.2]),.dead]) q q (.ptr q) (.own q) (.r q .nil) .refl q sz85 q q q q q (.n q q (.n q q (.n q q (.n q q (.b q (.n q q (.n q q (.n q q .nil))))))))))) q q (by kernel_rfl) q q (by kernel_rfl)<|Dv 12 O.y1<|DL.bpz 13 (EO.sw [1,2,3,6,8,9,10])<|DL.fin q q q (tn7 q q q q q q q)) ?_
   refine Px.bk<|Px.sq<|W.rk [1,2,3,6,8,9,10] (Vm q<|Rv (O.add .z1 .z8)<|RunL.rk [1,2,3,6,8,9,22] q<|RunL.au) ?_
   exact sm h ▸ Px.gt
  ·exact W.xi<|Px.sqE<|sm h ▸ Px.t1
 refine Px.bkH<|Px.sq<|W.sq'<|W.fz (G1:=[(6,_),(8,.obj [iR (eM eAct) x2.1,iR (eM eI) x2.2.1]),(9,_)]) [8] (.n q q (.z q q (FzL.obj (.z (.z .nil))) (.n q q .nil))) ?_
 refine W.rk [6,7] (Rv (O.ldON (cs':=[iR (eM eAct) x2.1,iR (eM eI) x2.2.1]) q .z4 at87 q q)<|Rv (O.mv .z3)<|RunL.sO (G2:=[(6,_),(9,_),(91,.brw eClash.z ⟨9,[]⟩ x2.2.2.length)]) (cs2:=[iR (eM eAct) x2.1,iR (eM eI) x2.2.1]) q (.obj q) (.aggF q q) q sz87 q q q q (.b q (.n q q (.w (en:=eClash) q q q q .nil)))<|RunL.a' (EO.ar [6])<|Fk q) ?_
 refine Px.sq<|W.fz (G1:=[(6,_),(7,iR eClash x2.2.2)]) [7] (.n q q (.z q q .zz .nil)) ?_
 exact W.rt<|sm h ▸ Pr (.c (ys0:=[iR (eM eAct) x2.1,iR (eM eI) x2.2.1]) q at87 q q q (.f q (.f q .nil)) (.f q q .nil))
instance con39 {a0:Grammar}{a1:(List State)}{a2:(List Cell)}{r:Dense × (List Clash)}:CF Tryz.prog 39 (pf39 a0 a1 a2=some r) [.agg (eGrammar_0.cells a0),iR eState_0 a1,iR eCell_0 a2] [none,none,none] (.tup [.agg [iR (eM eAct) r.1.Acts,iR (eM eI) r.1.Gotos],iR eClash r.2]):=⟨con39l a0 a1 a2 _⟩
instance con40 {a0:(List Cell)}{r:Int}:CF Tryz.prog 40 (pf40 a0=some r) [iR eCell_0 a0] [none] (I64 r):=⟨fun h=>by unfold pf40 at h; exact Con.au (N:=⟨20,[]⟩) [0,2,3,4,8,16] (.lp (fun (s1:Int × Int)=>[(3,I64 s1.1),(4,I64 s1.2)]) [0,3,4] 0 (fun (x2:Int)=>[(3,I64 x2)]) [3] (.b (.jn [0,3,4] (fun (j5:Int)=>[(3,I64 j5)]) (.p (.jn [0,3,4] (fun (j8:Int)=>[(3,I64 j8)]) .e .e)) .e) .e) .e) Tryz.func40 rfl rfl rfl rfl rfl goW⟩
theorem con28l (a0:Source) (r:Grammar × Dense × Int × Bool) (h:pf28 a0=some r):Con Tryz.prog 28 [.agg (eSource_0.cells a0)] [none] (.tup [.agg (eGrammar_0.cells r.1),.agg [iR (eM eAct) r.2.1.Acts,iR (eM eI) r.2.1.Gotos],I64 r.2.2.1,BB r.2.2.2]):=by
 unfold pf28 at h
 refine Con.go (N:=⟨34,[]⟩) Tryz.func28 q q q q (W.fin ?_)
 refine W.st [(0,.agg (eSource_0.cells a0))] ?_
 refine W.rq [1,2,3] (Rv (O.box (.aggF q q) q)<|Rv (O.al (cs:=[.nils,.nils,.nils,SS S0,SS S0]) ze43 q q)<|Rv (O.al (cs:=[.nils,.nils]) ze87 q q)<|RunL.au) ?_
 refine bd h fun x1 hx1 h=>W.rq [2,3,6,7,8,9] (Rv (O.ldON (cs':=eSource_0.cells a0) q .z4 at32 q q)<|Rc (PC.gz (.cc (.aggF q q) .nil) (CF.go hx1))<|Rv (O.mv (.tup q q))<|Rv (O.ex (y:=.agg (eGrammar_0.cells x1.1)) q q q)<|Rv (O.ex (y:=iR eState_0 x1.2.1) q q q)<|Rv (O.ex (y:=iR eCell_0 x1.2.2.1) q q q)<|Rv (O.ex (y:=BB x1.2.2.2) q q q)<|Rv (O.al (cs:=[.nils,.nils,.nils,SS S0,SS S0]) ze43 q q)<|RunL.f' (EO.sva [2,3,6,16,17,18])<|RunL.au) ?_
 refine W.sq'<|W.aq [2,3,6,7,8,20] ?_
 refine W.ch h q (fun hb2 h=>?_) (fun hb2 h=>?_)
 ·refine W.rq [2,3,4,5] (Rv (O.ldON (cs':=eGrammar_0.cells x1.1) q .z4 at43 q q)<|Rv (O.bu (cs:=[.nils,.nils]) sc87 ze87 q q q)<|RunL.f' (EO.sva [2,3,22])<|RunL.f' (EO.sva [2,3])<|RunL.au) ?_
  refine W.fz (G1:=[(2,_),(3,.obj [iR (eM eAct) ([]:List (List Act)),iR (eM eI) ([]:List (List Int))]),(4,_),(5,_)]) [3] (.n q q (.z q q (FzL.obj (.z (.z .nil))) (.n q q (.n q q .nil)))) ?_
  exact W.rt<|Px.sqR<|sm h ▸ Pr (.c (ys0:=eGrammar_0.cells x1.1) q at43 q q q (.f q (.f q (.f q (.f q (.f q .nil))))) (.c (ys0:=[iR (eM eAct) ([]:List (List Act)),iR (eM eI) ([]:List (List Int))]) q at87 q q q (.f q (.f q .nil)) (.f q q (.f q q .nil))))
 ·refine W.sk<|Px.sq<|bd h fun x3 hx3 h=>W.rq [2,3,6,8,10] (Rv (O.ldON (cs':=eGrammar_0.cells x1.1) q .z4 at43 q q)<|Rv (O.mv .z2)<|Rv (O.mv .z2)<|Rc (PC.gz (.cc (.aggF q q) (.cc (.imm q) (.cc (.imm q) .nil))) (CF.go hx3))<|Rv (O.mv (.tup q q))<|Rv (O.ex (y:=.agg [iR (eM eAct) x3.1.Acts,iR (eM eI) x3.1.Gotos]) q q q)<|Rv (O.ex (y:=iR eClash x3.2) q q q)<|Rv (O.al (cs:=[.nils,.nils]) ze87 q q)<|RunL.f' (EO.sva [2,3,6,8,10,29])<|RunL.au) ?_
  refine W.sq'<|bd h fun x4 hx4 h=>W.rd [[],[],[],[2],[0,2,3],rn 0 5 [],rn 0 6 [],rn 0 7 []] [(2,_),(3,_),(4,_),(5,_)] mixo (by kernel_rfl) (Dv 0 (O.ldON (cs':=eGrammar_0.cells x1.1) q .z4 at43 q q)<|Dv 1 (O.ldON (cs':=[iR (eM eAct) x3.1.Acts,iR (eM eI) x3.1.Gotos]) q .z4 at87 q q)<|Dv 2 (O.mv .z2)<|Dc 3 (PC.gz (.cc (.imm q) .nil) (CF.go hx4))<|DL.bu 4 (G2:=[(2,.obj (eGrammar_0.cells x1.1)),(3,.obj [.nils,.nils]),(10,.obj [iR (eM eAct) x3.1.Acts,iR (eM eI) x3.1.Gotos]),(33,I64 x4)]) (U:=[(1,31,some (.agg [iR (eM eAct) x3.1.Acts,iR (eM eI) x3.1.Gotos]))]) (EffOk.v (EO.eff (EO.sO (G2:=[(2,.obj (eGrammar_0.cells x1.1)),(3,.obj [.nils,.nils]),(10,.obj [iR (eM eAct) x3.1.Acts,iR (eM eI) x3.1.Gotos]),(33,I64 x4)]) (cs2:=eGrammar_0.cells x1.1) q q q (.obj q) (.aggF q q) q sz43 q q q q (.b q (.n q q (.n q q (.n q q .nil))))))) q q (by kernel_rfl) q q q (.c (.inr (.inr (.inr (.inr (.inr ⟨_,q,Plc.pl,cloN⟩))))) q q q q q (Gd.wanted .none) (O.ldON (cs':=[iR (eM eAct) x3.1.Acts,iR (eM eI) x3.1.Gotos]) q .z4 at87 q q) .nil) (by kernel_rfl)<|DL.bpz 5 (EO.sva [2,3,33])<|Dv 6 (O.az (.lit q))<|Dv 7 (O.az (.k q))<|DL.fin q q q (tn4 q q q q)) ?_
  exact Px.sq<|W.rt<|sm h ▸ Pr (.c (ys0:=eGrammar_0.cells x1.1) q at43 q q q (.f q (.f q (.f q (.f q (.f q .nil))))) (.c (ys0:=[iR (eM eAct) x3.1.Acts,iR (eM eI) x3.1.Gotos]) q at87 q q q (.f q (.f q .nil)) (.f q q (.f q q .nil))))
instance con28 {a0:Source}{r:Grammar × Dense × Int × Bool}:CF Tryz.prog 28 (pf28 a0=some r) [.agg (eSource_0.cells a0)] [none] (.tup [.agg (eGrammar_0.cells r.1),.agg [iR (eM eAct) r.2.1.Acts,iR (eM eI) r.2.1.Gotos],I64 r.2.2.1,BB r.2.2.2]):=⟨con28l a0 _⟩
instance con75 {a0:ByteArray}{a1:Int}{r:Piece × Int × Int}:CF Tryz.prog 75 (pf75 a0 a1=some r) [SS a0,I64 a1] [none,none] (.tup [.agg (ePiece.cells r.1),I64 r.2.1,I64 r.2.2]):=⟨fun h=>by unfold pf75 at h; exact Con.au (N:=⟨123,[]⟩) [0,1,4,5,6,7,8,9,10,11,23,51,74,91,95,106,111] (.rj 3 [0,1,4,7,8,23] (fun (c3:Bool)=>[(23,BB c3)]) (.b (.rj 5 [0,1,4,7,9,51] (fun (c10:Bool)=>[(51,BB c10)]) (.b .e (.rj 9 [0,1,4,7,8,74] (fun (c15:Bool)=>[(74,BB c15)]) (.b .e (.lp (fun (s17:Int × Int)=>[(10,I64 s17.1),(11,I64 s17.2)]) [0,1,4,7,8,10,11] 0 (fun (x18:Int × Int)=>[(10,I64 x18.1),(11,I64 x18.2)]) [1,4,7,8,10,11] (.rj 13 [0,1,4,7,8,10,11,91] (fun (c23:Bool)=>[(91,BB c23)]) (.b (.p (.jn [0,1,4,7,8,10,11] (fun (j25:Int)=>[(10,I64 j25)]) .e .e)) .e)) .e))))) (.rj 9 [0,1,4,7,8,74] (fun (c32:Bool)=>[(74,BB c32)]) (.b .e (.lp (fun (s34:Int × Int)=>[(10,I64 s34.1),(11,I64 s34.2)]) [0,1,4,7,8,10,11] 0 (fun (x35:Int × Int)=>[(10,I64 x35.1),(11,I64 x35.2)]) [1,4,7,8,10,11] (.rj 13 [0,1,4,7,8,10,11,91] (fun (c40:Bool)=>[(91,BB c40)]) (.b (.p (.jn [0,1,4,7,8,10,11] (fun (j42:Int)=>[(10,I64 j42)]) .e .e)) .e)) .e))))) Tryz.func75 rfl rfl rfl rfl rfl goW⟩
instance con55 {a0:ByteArray}{r:(List Piece) × Int}:CF Tryz.prog 55 (pf55 a0=some r) [SS a0] [none] (.tup [iR ePiece r.1,I64 r.2]):=⟨fun h=>by unfold pf55 at h; exact Con.au (N:=⟨78,[]⟩) [0,2,3,4,5,6,7,8,9,10,15,19,25,30,41,44,49,69] (.b .e (.l2 (fun (s3:List Piece × Int × Int)=>[(4,oR ePiece s3.1),(5,I64 s3.2.1),(6,I64 s3.2.2)]) [0,4,5,6] 0 (fun (x5:List Piece × Int)=>[(4,oR ePiece x5.1),(5,I64 x5.2)]) [0,4,5] (fun (x6:List Piece × Int)=>[(2,iR ePiece x6.1),(3,I64 x6.2)]) [2,3] (.b (.b .e (.b .e (.b .e (.b .e (.jn [0,4,6,8,9] (fun (j15:List Piece)=>[(4,oR ePiece j15)]) .e .e))))) .e) (.jn [4] (fun (j20:List Piece)=>[(4,oR ePiece j20)]) .e .e) .e)) Tryz.func55 rfl rfl rfl rfl rfl goW⟩
instance con56 {a0:Grammar}{a1:Int}{r:ByteArray}:CF Tryz.prog 56 (pf56 a0 a1=some r) [.agg (eGrammar_0.cells a0),I64 a1] [none,none] (SS r):=⟨fun h=>by unfold pf56 at h; exact Con.au (N:=⟨20,[]⟩) [1,2,4,6] .e Tryz.func56 rfl rfl rfl rfl rfl goW⟩
instance con41 {a0:Grammar}{a1:Int}{r:ByteArray × Int × ByteArray}:CF Tryz.prog 41 (pf41 a0 a1=some r) [.agg (eGrammar_0.cells a0),I64 a1] [none,none] (.tup [SS r.1,I64 r.2.1,SS r.2.2]):=⟨fun h=>by unfold pf41 at h; exact Con.au (N:=⟨124,[]⟩) [1,2,4,5,6,7,8,9,10,11,12,13,31,44,49,61,75,86,95,104,109,118] (.rj 1 [1,2,31] (fun (c4:Bool)=>[(31,BB c4)]) (.b .e (.b .e (.l2 (fun (s9:ByteArray × Int)=>[(10,SS s9.1),(11,I64 s9.2)]) [2,7,8,10,11] 0 (fun (x11:ByteArray)=>[(10,SS x11)]) [10] (fun (x12:ByteArray × Int × ByteArray)=>[(4,SS x12.1),(5,I64 x12.2.1),(6,SS x12.2.2)]) [4,5,6] (.b (.b .e (.b (.jn [2,7,8,10,11,12] (fun (j21:ByteArray)=>[(12,SS j21)]) .e (.jn [2,7,8,10,11] (fun (j24:ByteArray)=>[(10,SS j24)]) .e .e)) (.rj 14 [2,7,8,10,11,12,13,75] (fun (c30:Bool)=>[(75,BB c30)]) (.b .e (.jn [2,7,8,10,11,12] (fun (j38:ByteArray)=>[(12,SS j38)]) (.b (.rd 18 [[],[],[1],[],[3],[1,2,3,4],rn 1 5 [],rn 0 7 [],rn 0 8 []] .e) .e) (.jn [2,7,8,10,11] (fun (j42:ByteArray)=>[(10,SS j42)]) .e .e)))))) .e) .e .e)))) Tryz.func41 rfl rfl rfl rfl rfl goW⟩
instance con29 {a0:Grammar}{r:(List ByteArray) × Int × Int × ByteArray}:CF Tryz.prog 29 (pf29 a0=some r) [.agg (eGrammar_0.cells a0)] [none] (.tup [iR eS r.1,I64 r.2.1,I64 r.2.2.1,SS r.2.2.2]):=⟨fun h=>by unfold pf29 at h; exact Con.au (N:=⟨40,[]⟩) [1,2,3,4,5,6,7,8,9,10,15,26] (.l2 (fun (s1:List ByteArray × Int)=>[(6,oR eS s1.1),(7,I64 s1.2)]) [1,6,7] 0 (fun (x3:List ByteArray)=>[(6,oR eS x3)]) [6] (fun (x4:List ByteArray × Int × Int × ByteArray)=>[(2,iR eS x4.1),(3,I64 x4.2.1),(4,I64 x4.2.2.1),(5,SS x4.2.2.2)]) [2,3,4,5] (.b (.b (.rd 7 [[],[],[1],[],[1,2,3],[1,2,3,4],rn 1 5 [],[],[],[0,8],rn 0 7 [8,9],rn 0 11 []] .e) .e) .e) .e .e) Tryz.func29 rfl rfl rfl rfl rfl goW⟩
theorem con42l (a0:(List Row)) (r:(List Int) × (List (List Pair))) (h:pf42 a0=some r):Con Tryz.prog 42 [iR eRow_0 a0] [none] (.tup [iR eI r.1,iR (eM ePair) r.2]):=by
 unfold pf42 at h
 refine Con.go (N:=⟨31,[]⟩) Tryz.func42 q q q q (W.fin ?_)
 refine W.st [(0,iR eRow_0 a0)] ?_
 refine W.aq [0] ?_
 refine W.aq [0,4] ?_
 refine W.aq [0,4,5] ?_
 refine W.sq'<|W.aq [0,4,5,6] ?_
 refine W.bk<|bd h fun x2 hl h=>W.l1 (([]:List Int),([]:List (List Pair)),0) (fun (s1:List Int × List (List Pair) × Int)=>[(4,oR eI s1.1),(5,oR (eM ePair) s1.2.1),(6,I64 s1.2.2)]) [0,4,5,6] 0 (fun (x2:List Int × List (List Pair))=>[(4,oR eI x2.1),(5,oR (eM ePair) x2.2)]) [4,5] hl (fun s1 o h=>?_) ?_
 ·clear hl
  refine W.sq'<|W.aq [0,4,5,6,10] ?_
  refine W.ch h q (fun hb4 h=>?_) (fun hb4 h=>?_)
  ·refine W.sk<|Px.sq<|W.sq'<|W.bk<|W.tr (G1:=[(0,_),(4,_),(5,_),(6,_)]) (tn4 q q q q) ?_
   refine bd h fun x5 hx5 h=>bd h fun x6 hx6 h=>bd h fun x7 hx7 h=>bd h fun x8 hx8 h=>W.rd [[],[],[],[1,2],[1,2,3],[1,2,3,4],rn 1 5 [],rn 0 7 [],[],[],[],[9,10],[9,10,11],[9,10,11,12],rn 9 5 [],rn 0 15 [],rn 0 16 [],rn 0 17 []] [(0,_),(4,_),(5,_),(6,_)] mixo (by kernel_rfl) (Dv 0 (O.mv .z3)<|Dv 1 (O.mv .z2)<|Dv 2 (O.mv (.lit q))<|Dv 3 (O.y4 hx5)<|Dv 4 O.y8<|Dv 5 (O.y6 (x:=I64 x5.Def))<|DL.vi 6 (x:=iR eI [x5.Def]) (O.bs (ys:=[I64 x5.Def]) eI [x5.Def] sl22 q q q q q q zt3 q q) q q q q .none<|Dv 7 (O.ap (en:=eI) (r:=x6) .z6 q .z2 .i ap22 q hx6)<|Dv 8 (O.mv .z3)<|Dv 9 (O.mv .z2)<|Dv 10 (O.mv (.lit q))<|Dv 11 (O.y4 hx7)<|Dv 12 O.y8<|Dv 13 (O.y6 (x:=iR ePair x7.Pairs))<|DL.vi 14 (x:=iR (eM ePair) [x7.Pairs]) (O.bs (ys:=[iR ePair x7.Pairs]) (eM ePair) [x7.Pairs] sl111 q q q q q q zt46 q q) q q q q .none<|Dv 15 (O.ap' (en:=(eM ePair)) (r:=x8) .z6 q .z2 .i ap111 q hx8 (noQ_spec (by kernel_rfl) (by kernel_rfl)))<|DL.bwv 16 (G2:=[(0,iR eRow_0 a0),(6,I64 s1.2.2),(28,oR (eM ePair) (s1.2.1++[x7.Pairs]))]) (EffOk.settle (ts:=[20,28]) (xs:=[.brw eI.z ⟨20,[]⟩ (s1.1.length+[x5.Def].length),.brw (eM ePair).z ⟨28,[]⟩ (s1.2.1.length+[x7.Pairs].length)]) (ys:=[.own eI.z (s1.1.length+[x5.Def].length) (rowc eI s1.1++rowc eI [x5.Def]),.own (eM ePair).z (s1.2.1.length+[x7.Pairs].length) (rowc (eM ePair) s1.2.1++rowc (eM ePair) [x7.Pairs])]) (g2:=get [(0,iR eRow_0 a0),(4,.dead),(5,.dead),(6,I64 s1.2.2),(20,oR eI (s1.1++[x5.Def])),(28,oR (eM ePair) (s1.2.1++[x7.Pairs]))]) q (TkL.take (.pn q q q .ns (.pn q q q .ns .nil))) (by decide) q (all2 q q) (Trim.keep (.n q (.n q (.n q (.n q (.e q (oR_app _ _ _) (.e q (oR_app _ _ _) .nil))))))) (EO.eff (EO.aR q q (.own q) q (.n q q (.n q q (.n q q .nil))) q q))) q q (by kernel_rfl) q q (by kernel_rfl)<|DL.bvz 17 (EO.ar [0,4,6])<|DL.fin q q q (tn4 q q q q)) ?_
   refine Px.bk<|Px.sq<|W.rk [0,4,5,6] (Vm q<|Rv (O.add .z1 .z8)<|RunL.rk [0,4,5,12] q<|RunL.au) ?_
   exact sm h ▸ Px.gt
  ·exact W.xi<|Px.sqE<|sm h ▸ Px.t1
 refine Px.bkH<|Px.sq<|W.rq [2,3] (Rv (O.mv .z3)<|Rv (O.mv .z3)<|RunL.ea (G2:=[(5,oR (eM ePair) x2.2),(30,.brw (eM ePair).z ⟨5,[]⟩ x2.2.length)]) q (EO.aR q q (.brw q) q (.n q q (.w (en:=(eM ePair)) q q q .nil)) q q)<|RunL.a' (EO.ar [2])<|Fk q) ?_
 refine W.fz (G1:=[(2,iR eI x2.1),(3,iR (eM ePair) x2.2)]) [2,3] (.z q q .zz (.z q q .zz .nil)) ?_
 exact W.rt<|sm h ▸ Pr (.f q q (.f q q .nil))
instance con42 {a0:(List Row)}{r:(List Int) × (List (List Pair))}:CF Tryz.prog 42 (pf42 a0=some r) [iR eRow_0 a0] [none] (.tup [iR eI r.1,iR (eM ePair) r.2]):=⟨con42l a0 _⟩
instance con57 {a0:(List Int)}{r:Int}:CF Tryz.prog 57 (pf57 a0=some r) [iR eI a0] [none] (I64 r):=⟨fun h=>by unfold pf57 at h; exact Con.au (N:=⟨54,[]⟩) [0,2,3,4,5,6,7,8,9,13,25,31,42,47] (.lp (fun (s1:List Int × Int)=>[(3,iR eI s1.1),(4,I64 s1.2)]) [0,3,4] 0 (fun (x2:List Int)=>[(3,iR eI x2)]) [0,3] .e (.lp (fun (s7:Int × Int × Int)=>[(5,I64 s7.1),(6,I64 s7.2.1),(7,I64 s7.2.2)]) [0,3,5,6,7] 2 (fun (x8:Int)=>[(5,I64 x8)]) [5] (.b (.jn [0,3,5,6,7] (fun (j11:Int × Int)=>[(5,I64 j11.1),(6,I64 j11.2)]) (.lp (fun (s12:Int × Int)=>[(8,I64 s12.1),(9,I64 s12.2)]) [0,3,5,6,7,8,9] 4 (fun (x13:Int)=>[(8,I64 x13)]) [0,3,5,6,7,8] (.b (.jn [0,3,5,6,7,8,9] (fun (j16:Int)=>[(8,I64 j16)]) (.rd 14 [[],[],[0,1],[0,1,2],[],[],[4,5],[4,5,6],rn 0 8 []] (.jn [0,3,5,6,7,8,9] (fun (j19:Int)=>[(8,I64 j19)]) .e .e)) .e) .e) (.jn [0,3,5,6,7] (fun (j21:Int × Int)=>[(5,I64 j21.1),(6,I64 j21.2)]) .e .e)) .e) .e) .e)) Tryz.func57 rfl rfl rfl rfl rfl goW⟩
instance con58 {a0:Act}{r:Int}:CF Tryz.prog 58 (pf58 a0=some r) [.agg [I64 a0.Kind,I64 a0.N]] [none] (I64 r):=⟨fun h=>by unfold pf58 at h; exact Con.au (N:=⟨55,[]⟩) [1,2,3,20,37,46] (.rj 1 [1,3] (fun (c3:Bool)=>[(3,BB c3)]) (.b .e (.rj 3 [1,20] (fun (c7:Bool)=>[(20,BB c7)]) (.b .e (.rj 5 [1,37] (fun (c10:Bool)=>[(37,BB c10)]) (.b .e (.rj 7 [46] (fun (c13:Bool)=>[(46,BB c13)]) .e))))))) Tryz.func58 rfl rfl rfl rfl rfl goW⟩
instance con43 {a0:Dense}{r:(List Row)}:CF Tryz.prog 43 (pf43 a0=some r) [.agg [iR (eM eAct) a0.Acts,iR (eM eI) a0.Gotos]] [none] (iR eRow_0 r):=⟨fun h=>by unfold pf43 at h; exact Con.au (N:=⟨99,[]⟩) [1,2,3,4,5,6,7,8,9,14,24,36,59,84] (.lp (fun (s1:List Row × Int)=>[(3,oR eRow_0 s1.1),(4,I64 s1.2)]) [1,3,4] 0 (fun (x2:List Row)=>[(3,oR eRow_0 x2)]) [3] (.b (.lp (fun (s5:List Int × Int)=>[(5,oR eI s5.1),(6,I64 s5.2)]) [1,3,4,5,6] 2 (fun (x6:List Int)=>[(5,oR eI x6)]) [1,3,4,5] (.b (.jn [1,3,4,5,6] (fun (j10:List Int)=>[(5,oR eI j10)]) (.p (.jn [1,3,4,5,6] (fun (j13:List Int)=>[(5,oR eI j13)]) .e .e)) .e) .e) (.lp (fun (s19:List Pair × Int)=>[(2007,oR ePair s19.1),(8,I64 s19.2)]) [1,3,4,7,8] 4 (fun (x20:List Pair)=>[(2007,oR ePair x20)]) [1,3,4,7] (.b (.jn [1,3,4,7,8] (fun (j24:List Pair)=>[(2007,oR ePair j24)]) (.rj 16 [1,3,4,7,8,9,84] (fun (c29:Bool)=>[(84,BB c29)]) (.jn [1,3,4,7,8] (fun (j30:List Pair)=>[(2007,oR ePair j30)]) (.b (.rd 17 [[],[0],[],[],[3],[2,3,4],[2,3,4,5],rn 0 7 [],rn 0 8 [],rn 0 9 []] .e) .e) .e)) .e) .e) (.fz 18 7 (some 1) ePair .e))) .e) .e) Tryz.func43 rfl rfl rfl rfl rfl goW⟩
instance con59 {a0:(List (List Pair))}{r:Bool}:CF Tryz.prog 59 (pf59 a0=some r) [iR (eM ePair) a0] [none] (BB r):=⟨fun h=>by unfold pf59 at h; exact Con.au (N:=⟨67,[]⟩) [0,2,3,4,5,8,12,21,55] (.b .e (.l2 (fun (s2:Int)=>[(3,I64 s2)]) [0,3] 0 (fun (x4:Unit)=>[]) [] (fun (x5:Bool)=>[(2,BB x5)]) [2] (.b (.l2 (fun (s7:List Int × Int)=>[(4,oR eI s7.1),(5,I64 s7.2)]) [0,3,4,5] 2 (fun (x9:Unit)=>[]) [0,3] (fun (x10:Bool)=>[(2,BB x10)]) [2] (.b (.rj 10 [0,3,4,5,55] (fun (c22:Bool)=>[(55,BB c22)]) .e) .e) .e .e) .e) .e .e)) Tryz.func59 rfl rfl rfl rfl rfl goW⟩
instance con60 {a0:(List Int)}{a1:(List Pair)}{a2:Int}{r:Bool}:CF Tryz.prog 60 (pf60 a0 a1 a2=some r) [iR eI a0,iR ePair a1,I64 a2] [none,none,none] (BB r):=⟨fun h=>by unfold pf60 at h; exact Con.au (N:=⟨33,[]⟩) [0,1,2,6,7,8,12,32] (.l2 (fun (s1:Int)=>[(7,I64 s1)]) [0,1,2,7] 0 (fun (x3:Unit)=>[]) [] (fun (x4:Bool)=>[(6,BB x4)]) [6] (.b (.rj 5 [0,1,2,7,32] (fun (c9:Bool)=>[(32,BB c9)]) .e) .e) .e .e) Tryz.func60 rfl rfl rfl rfl rfl goW⟩
theorem con44l (a0:(List (List Pair))) (r:Comb) (h:pf44 a0=some r):Con Tryz.prog 44 [iR (eM ePair) a0] [none] (.agg (eComb_0.cells r)):=by
 unfold pf44 at h
 refine Con.go (N:=⟨139,[]⟩) Tryz.func44 q q q q (W.fin ?_)
 refine W.st [(0,iR (eM ePair) a0)] ?_
 refine W.rq [0,2] (Rv (O.al (cs:=[.nils,.nils,.nils]) ze45 q q)<|Fk q) ?_
 refine W.sq'<|bd h fun x1 hx1 h=>W.rq [0,2,11] (Rv (O.mv .z2)<|Rc (PC.gz (.cc (.imm q) .nil) (CF.go hx1))<|RunL.au) ?_
 refine W.ch h q (fun hb2 h=>?_) (fun hb2 h=>?_)
 ·refine W.rq [2] (Rv (O.bu (cs:=[.nils,.nils,.nils]) sc45 ze45 q q q)<|RunL.f' (EO.sva [2])<|Fk q) ?_
  refine W.fz (G1:=[(2,.obj [iR eI ([]:List Int),iR eI ([]:List Int),iR eI ([]:List Int)])]) [2] (.z q q (FzL.obj (.z (.z (.z .nil)))) .nil) ?_
  exact W.rt<|Px.sqR<|sm h ▸ Pr (.c (ys0:=[iR eI ([]:List Int),iR eI ([]:List Int),iR eI ([]:List Int)]) q at45 q q q (.f q (.f q (.f q .nil))) .nil)
 ·refine W.sk<|Px.sq<|bd h fun x3 hx3 h=>W.rq [0,2,3] (Rv (O.mv .z2)<|Rv O.y9<|Rv (O.mk (en:=eI) (z0:=0) sl22 .z1 .z1 ze3 q q hx3 bb3 q)<|Rv (O.bu (cs:=[.brw eI.z ⟨15,[]⟩ x3.length,.nils,.nils]) sc45 ze45 q q q)<|Rv (O.al (cs:=[.nils,.nils,.nils]) ze45 q q)<|RunL.ef (G2:=[(0,iR (eM ePair) a0),(2,.obj [.nils,.nils,.nils]),(3,.obj [oR eI x3,oR eI ([]:List Int),oR eI ([]:List Int)])]) q (EO.stB (y':=.agg [oR eI x3,oR eI ([]:List Int),oR eI ([]:List Int)]) (cs2:=[oR eI x3,oR eI ([]:List Int),oR eI ([]:List Int)]) q q (.obj q) (.aggF q q) (.ag (.r q (.f (.f .nil))) .nil) (FzL.agg (.f (.o (.o .nil)))) q sz45 q q q q q (.n q q (.n q q (.b q .nil))))<|Fk q) ?_
  refine bd h fun x4 hx4 h=>W.rq [0,2,3,4] (Rv (O.mv .z2)<|Rv O.y9<|Rv (O.mk (en:=eB) (z0:=false) sl56 .z1 .z1 ze4 q q hx4 bb4 q)<|RunL.a' (EO.ar [0,2,3])<|Fk q) ?_
  refine W.bk<|bd h fun x6 hl h=>W.l2 ((⟨x3,([]:List Int),([]:List Int)⟩:Comb),x4) (fun (s5:Comb × List Bool)=>[(3,.obj (eComb_r.cells s5.1)),(4,oR eB s5.2)]) [0,2,3,4] 0 (fun (x7:Unit)=>[]) [] (fun (x8:Comb)=>[(2,.obj (eComb_0.cells x8))]) [2] hl (fun s5 o h=>?_) (fun x7 hx=>?_) (fun x8 hx=>?_)
  ·clear hl
   refine W.bk<|W.aq [0,2,3,4,5] ?_
   refine W.sq'<|W.aq [0,2,3,4,5,6] ?_
   refine W.bk<|bd h fun x10 hl h=>W.l1 ((-1),0) (fun (s9:Int × Int)=>[(5,I64 s9.1),(6,I64 s9.2)]) [0,2,3,4,5,6] 2 (fun (x10:Int)=>[(5,I64 x10)]) [0,2,3,4,5] hl (fun s9 o h=>?_) ?_
   ·clear hl
    refine W.sq'<|W.aq [0,2,3,4,5,6,23] ?_
    refine W.ch h q (fun hb12 h=>?_) (fun hb12 h=>?_)
    ·refine W.sk<|Px.sq<|W.sq'<|bd h fun j13 hj h=>W.jq [0,2,3,4,5,6] [(5,I64 j13)] ?_ ?_
     ·clear h; have h:=hj; clear hj
      refine W.bk<|W.sq'<|bd h fun c21 hj h=>W.rd [[],[],[0,1],[0,1,2],[0,1,2,3],rn 0 5 [],rn 0 6 [],rn 0 6 [],rn 0 8 [],rn 0 9 [],rn 0 10 [],rn 0 11 [],rn 0 12 [],rn 0 13 [],rn 0 14 [],rn 0 15 [],rn 0 16 [],rn 0 17 [],rn 0 17 [],rn 0 19 [],rn 0 20 [],rn 0 21 [],rn 0 17 [],rn 0 17 [],rn 0 17 [22,23],rn 0 17 [22,23,24],rn 0 17 [22,23,24,25],rn 0 27 [],rn 0 28 [],rn 0 29 []] [(0,iR (eM ePair) a0),(2,.obj [.nils,.nils,.nils]),(3,.obj (eComb_r.cells s5.1)),(4,oR eB s5.2),(5,I64 s9.1),(6,I64 s9.2),(55,BB c21)] mixo (by kernel_rfl) ?_ ?_
      ·refine Dv 0 (O.mv .z3)<|Dv 1 (O.mv (.lit q)) ?_
       refine bd hj fun x14 hx14 hj=>Dv 2 (O.ixO (en:=eB) q .z6 .z1 sl56 hx14 q)<|Dv 3 (O.ldE (en:=eB) (x':=BB x14) q .z5 ct4 hx14 q q)<|Dv 4 (O.not .z1)<|Dv 5 (O.mv (.lit q)) ?_
       rcases cnd hj with ⟨hb15,hj⟩ | ⟨hb15,hj⟩
       ·refine DYv 6 hb15 (O.mv .z2)<|DYv 7 hb15 (O.mv (.lit q)) ?_
        refine bd hj fun x16 hx16 hj=>DYv 8 hb15 (O.y4 hx16)<|DYv 9 hb15 (O.y6 (x:=iR ePair x16))<|DYv 10 hb15 O.y9<|DYv 11 hb15 (O.gtr .z1 .z8)<|Dv 12 (O.pkT .z1 hb15 .z1)<|Dv 13 (O.mv (.lit q)) ?_
        rcases cnd hj with ⟨hb17,hj⟩ | ⟨hb17,hj⟩
        ·refine DYv 14 hb17 (O.mv (.lit q))<|DYv 15 hb17 (O.lss .z1 .z8)<|DYv 16 hb17 (O.mv (.lit q)) ?_
         rcases cnd hj with ⟨hb18,hj⟩ | ⟨hb18,hj⟩
         ·exact sm hj ▸ (DPs 17 hb18<|DPs 18 hb18<|DPs 19 hb18<|DPs 20 hb18<|DPs 21 hb18<|DPs 22 hb18<|DPs 23 hb18<|DPs 24 hb18<|DPs 25 hb18<|DPs 26 hb18<|DPs 27 hb18<|DYv 28 hb17 (O.pkT .z1 hb18 .z8)<|Dv 29 (O.pkT .z1 hb17 .z1)<|DL.fin q q q (tn7 q q q q q q q))
         ·refine DYv 17 hb18 (O.mv .z2)<|DYv 18 hb18 (O.mv (.lit q)) ?_
          refine bd hj fun x19 hx19 hj=>DYv 19 hb18 (O.y4 hx19)<|DYv 20 hb18 (O.y6 (x:=iR ePair x19))<|DYv 21 hb18 O.y9<|DYv 22 hb18 (O.mv .z2)<|DYv 23 hb18 (O.mv (.lit q)) ?_
          exact bd hj fun x20 hx20 hj=>sm hj ▸ (DYv 24 hb18 (O.y4 hx20)<|DYv 25 hb18 (O.y6 (x:=iR ePair x20))<|DYv 26 hb18 O.y9<|DYv 27 hb18 (O.gtr .z1 .z1)<|DYv 28 hb17 (O.pkF .z1 hb18 .z1)<|Dv 29 (O.pkT .z1 hb17 .z1)<|DL.fin q q q (tn7 q q q q q q q))
        ·exact sm hj ▸ (DPs 14 hb17<|DPs 15 hb17<|DPs 16 hb17<|DPu 17<|DPu 18<|DPu 19<|DPu 20<|DPu 21<|DPu 22<|DPu 23<|DPu 24<|DPu 25<|DPu 26<|DPu 27<|DPs 28 hb17<|Dv 29 (O.pkF .z1 hb17 .z8)<|DL.fin q q q (tn7 q q q q q q q))
       ·exact sm hj ▸ (DPs 6 hb15<|DPs 7 hb15<|DPs 8 hb15<|DPs 9 hb15<|DPs 10 hb15<|DPs 11 hb15<|Dv 12 (O.pkF .z1 hb15 .z8)<|Dv 13 (O.mv (.lit q))<|DPs 14 q<|DPs 15 q<|DPs 16 q<|DPu 17<|DPu 18<|DPu 19<|DPu 20<|DPu 21<|DPu 22<|DPu 23<|DPu 24<|DPu 25<|DPu 26<|DPu 27<|DPs 28 q<|Dv 29 (O.pkF .z1 q .z8)<|DL.fin q q q (tn7 q q q q q q q))
      refine Px.sq<|bd h fun j22 hj h=>W.jq [0,2,3,4,5,6] [(5,I64 j22)] ?_ ?_
      ·clear h; have h:=hj; clear hj
       refine W.ch h q (fun hb23 h=>?_) (fun hb23 h=>?_)
       ·refine W.rk [0,2,3,4,5,6] (Vm q<|RunL.rk [0,2,3,4,6,56] q<|RunL.au) ?_
        exact sm h ▸ Px.jt
       ·exact W.sk<|sm h ▸ Px.jt
      exact Px.bk<|sm h ▸ Px.jt
     refine Px.sq<|W.rk [0,2,3,4,5,6] (Vm q<|Rv (O.add .z1 .z8)<|RunL.rk [0,2,3,4,5,25] q<|RunL.au) ?_
     exact sm h ▸ Px.gt
    ·exact W.xi<|Px.sqE<|sm h ▸ Px.t1
   refine Px.bkH<|Px.sq<|W.sq'<|W.aq [0,2,3,4,5,58] ?_
   refine W.ch h q (fun hb24 h=>?_) (fun hb24 h=>?_)
   ·refine W.sq'<|W.fz (G1:=[(0,_),(2,_),(3,.obj [iR eI s5.1.Base,oR eI s5.1.Val,oR eI s5.1.Chk]),(4,_),(5,_),(58,_)]) [3] (.n q q (.n q q (.z q q (FzL.obj (.z (.f (.f .nil)))) (.n q q (.n q q (.n q q .nil)))))) ?_
    refine W.fz (G1:=[(0,_),(2,_),(3,.obj [iR eI s5.1.Base,iR eI s5.1.Val,oR eI s5.1.Chk]),(4,_),(5,_),(58,_)]) [3] (.n q q (.n q q (.z q q (FzL.obj (.f (.z (.f .nil)))) (.n q q (.n q q (.n q q .nil)))))) ?_
    refine W.fz (G1:=[(0,_),(2,_),(3,.obj (eComb_0.cells s5.1)),(4,_),(5,_),(58,_)]) [3] (.n q q (.n q q (.z q q (FzL.obj (.f (.f (.z .nil)))) (.n q q (.n q q (.n q q .nil)))))) ?_
    refine W.rk [2] (Rv (O.ldON (cs':=eComb_0.cells s5.1) q .z4 at45 q q)<|RunL.f' (EO.sva [2])<|Fk q) ?_
    exact Px.sq<|W.rt<|Px.sqR<|Px.bkR<|sm h ▸ Px.r2 (.n q .nil)
   ·refine W.sk<|Px.sq<|bd h fun x25 hx25 h=>W.rq [0,2,3,4,5] (Rv (O.mv .z3)<|Vm q<|Rv (O.ixO (en:=eB) q .z6 .z1 sl56 hx25 q)<|RunL.f' (EO.se (en:=eB) (y2:=true) [0,2,3,4,5] hx25)<|Fk q) ?_
    refine W.sq'<|W.bk<|bd h fun x27 hl h=>W.l1 s5.1.Base (fun (s26:List Int)=>[(3,.obj [oR eI s26,oR eI s5.1.Val,oR eI s5.1.Chk])]) [0,2,3,4,5] 4 (fun (x27:List Int)=>[(3,.obj [oR eI x27,oR eI s5.1.Val,oR eI s5.1.Chk])]) [0,2,3,4,5] hl (fun s26 o h=>?_) ?_
    ·clear hl
     refine W.sq'<|W.sq'<|bd h fun x29 hx29 h=>bd h fun x30 hx30 h=>bd h fun x31 hx31 h=>W.rd [[],[0],[],[],[2,3],[2,3,4],[],[6],[],[6,7,8],[6,7,8,9],rn 0 11 [],rn 0 12 []] [(0,_),(2,_),(3,_),(4,_),(5,_),(75,_)] mixo (by kernel_rfl) (Dv 0 O.y1<|Dv 1 (O.y5 (y:=.brw eI.z ⟨3,[2]⟩ s5.1.Chk.length))<|Dv 2 (O.mv .z2)<|Dv 3 (O.mv (.lit q))<|Dv 4 (O.y4 hx29)<|Dv 5 (O.y6 (x:=iR ePair x29))<|Dv 6 O.y1<|Dv 7 (O.y5 (y:=.brw eI.z ⟨3,[0]⟩ s26.length))<|Dv 8 (O.mv (.lit q))<|Dv 9 (O.ixO (en:=eI) q .z6 .z1 sl22 hx30 q)<|Dv 10 (O.ldE (en:=eI) (x':=I64 x30) q .z5 ct3 hx30 q q)<|Dc 11 (PC.vz (ys:=[.brw eI.z ⟨3,[2]⟩ s5.1.Chk.length,iR ePair x29,I64 x30]) q (.c (.row q) (.s (.s .nil))) (CF.go hx31))<|Dv 12 (O.not .z1)<|DL.fin q q q (tn6 q q q q q q)) ?_
     refine Px.sq<|W.ch h q (fun hb32 h=>?_) (fun hb32 h=>?_)
     ·refine W.sk<|Px.sq<|W.bk<|bd h fun x33 hx33 h=>W.rk [0,2,3,4,5] (Rv O.y1<|Rv (O.y5 (y:=.brw eI.z ⟨3,[0]⟩ s26.length))<|Vm q<|Rv (O.ixO (en:=eI) q .z6 .z1 sl22 hx33 q)<|Rv (O.ldE (en:=eI) (x':=I64 x33) q .z5 ct3 hx33 q q)<|Rv (O.add .z1 .z8)<|Rv (O.ixO (en:=eI) q .z6 .z1 sl22 hx33 q)<|RunL.f' (EO.se (en:=eI) (y2:=w64 (x33+1)) [0,2,3,4,5] hx33)<|Fk q) ?_
      exact Px.bk<|sm h ▸ Px.gt
     ·exact W.xi<|Px.sqE<|sm h ▸ Px.t1
    refine Px.bkH<|Px.sq<|W.aq [0,2,3,4,5,7] ?_
    refine W.bk<|bd h fun x35 hl h=>W.l1 (s5.1.Val,s5.1.Chk,0) (fun (s34:List Int × List Int × Int)=>[(3,.obj [oR eI x27,oR eI s34.1,oR eI s34.2.1]),(7,I64 s34.2.2)]) [0,2,3,4,5,7] 6 (fun (x35:List Int × List Int)=>[(3,.obj [oR eI x27,oR eI x35.1,oR eI x35.2])]) [0,2,3,4] hl (fun s34 o h=>?_) ?_
    ·clear hl
     refine W.sq'<|bd h fun x37 hx37 h=>W.aq [0,2,3,4,5,7,89] ?_
     refine W.ch h q (fun hb38 h=>?_) (fun hb38 h=>?_)
     ·refine W.sk<|Px.sq<|W.sq'<|W.bk<|W.sq'<|bd h fun x39 hx39 h=>bd h fun x40 hx40 h=>bd h fun x41 hx41 h=>W.rd [[],[0],[],[0,1,2],[0,1,2,3],[],[],[5,6],[5,6,7],[],rn 5 5 [],rn 5 6 [],rn 5 7 [],rn 0 13 [],rn 0 14 []] [(0,_),(2,_),(3,_),(4,_),(5,_),(7,_),(8,_)] mixo (by kernel_rfl) (Dv 0 O.y1<|Dv 1 (O.y5 (y:=.brw eI.z ⟨3,[0]⟩ x27.length))<|Dv 2 (O.mv (.lit q))<|Dv 3 (O.ixO (en:=eI) q .z6 .z1 sl22 hx39 q)<|Dv 4 (O.ldE (en:=eI) (x':=I64 x39) q .z5 ct3 hx39 q q)<|Dv 5 (O.mv .z2)<|Dv 6 (O.mv (.lit q))<|Dv 7 (O.y4 hx40)<|Dv 8 (O.y6 (x:=iR ePair x40))<|Dv 9 (O.mv (.lit q))<|Dv 10 (O.y4 hx41)<|Dv 11 O.y8<|Dv 12 (O.y6 (x:=I64 x41.At))<|Dv 13 (O.add .z1 .z1)<|Dv 14 (O.az (.lit q))<|DL.fin q q q (tn7 q q q q q q q)) ?_
      refine Px.sq<|W.sq'<|W.bk<|bd h fun x43 hl h=>W.l1 (s34.1,s34.2.1) (fun (s42:List Int × List Int)=>[(3,.obj [oR eI x27,oR eI s42.1,oR eI s42.2])]) [0,2,3,4,5,7,8] 8 (fun (x43:List Int × List Int)=>[(3,.obj [oR eI x27,oR eI x43.1,oR eI x43.2])]) [0,2,3,4,5,7,8] hl (fun s42 o h=>?_) ?_
      ·clear hl
       refine W.sq'<|W.aq [0,2,3,4,5,7,8,110] ?_
       refine W.ch h q (fun hb45 h=>?_) (fun hb45 h=>?_)
       ·refine W.sk<|Px.sq<|W.bk<|bd h fun x46 hx46 h=>bd h fun x47 hx47 h=>W.rd [[],[0],[],[0,1,2],[],[4],[],rn 0 7 [],rn 0 6 [],rn 0 9 [],rn 0 10 [],rn 0 11 []] [(0,_),(2,_),(3,_),(4,_),(5,_),(7,_),(8,_)] mixo (by kernel_rfl) (Dv 0 O.y1<|Dv 1 (O.y5 (y:=.brw eI.z ⟨3,[2]⟩ s42.2.length))<|DL.vi 2 (x:=iR eI [0]) (O.bs (ys:=[I64 0]) eI [0] sl22 q q q q q q zt3 q q) q q q q .none<|Dv 3 (O.ap (en:=eI) (r:=x46) .z6 q .z2 .i ap22 q hx46)<|Dv 4 O.y1<|Dv 5 (O.y5 (y:=.brw eI.z ⟨3,[1]⟩ s42.1.length))<|DL.vi 6 (x:=iR eI [0]) (O.bs (ys:=[I64 0]) eI [0] sl22 q q q q q q zt3 q q) q q q q .none<|Dv 7 (O.ap' (en:=eI) (r:=x47) .z6 q .z2 .i ap22 q hx47 (noQ_spec (by kernel_rfl) (by kernel_rfl)))<|Dv 8 O.y1<|DL.bw 9 (G2:=[(0,iR (eM ePair) a0),(2,.obj [.nils,.nils,.nils]),(3,.obj [oR eI x27,.dead,oR eI (s42.2++[0])]),(4,oR eB (s5.2.set x10.toNat true)),(5,I64 x10),(7,I64 s34.2.2),(8,I64 (w64 (x39+x41.At))),(118,oR eI (s42.1++[0]))]) (EffOk.settle (ts:=[114,118]) (xs:=[.brw eI.z ⟨114,[]⟩ (s42.2.length+[0].length),.brw eI.z ⟨118,[]⟩ (s42.1.length+[0].length)]) (ys:=[.own eI.z (s42.2.length+[0].length) (rowc eI s42.2++rowc eI [0]),.own eI.z (s42.1.length+[0].length) (rowc eI s42.1++rowc eI [0])]) (g2:=get [(0,iR (eM ePair) a0),(2,.obj [.nils,.nils,.nils]),(3,.obj [oR eI x27,.dead,.dead]),(4,oR eB (s5.2.set x10.toNat true)),(5,I64 x10),(7,I64 s34.2.2),(8,I64 (w64 (x39+x41.At))),(114,oR eI (s42.2++[0])),(118,oR eI (s42.1++[0])),(119,.ptr ⟨3,[]⟩ 2)]) q (TkL.take (.pn q q q .ns (.pn q q q .ns .nil))) (by decide) q (all2 q q) (Trim.keep (.n q (.n q (.n q (.n q (.n q (.n q (.n q (.e q (oR_app _ _ _) (.e q (oR_app _ _ _) (.q q q q .nil))))))))))) (EO.eff (EO.stB (y':=oR eI (s42.2++[0])) (cs2:=[oR eI x27,.dead,oR eI (s42.2++[0])]) q q (.ptr q) (.own q) (.r q .nil) .refl q sz22 q q q q q (.n q q (.n q q (.b q (.n q q (.n q q (.n q q (.n q q (.n q q .nil))))))))))) q q (by kernel_rfl) q q (by kernel_rfl)<|Dv 10 O.y1<|DL.bpz 11 (EO.sw [0,2,3,4,5,7,8])<|DL.fin q q q (tn7 q q q q q q q)) ?_
        exact Px.bk<|sm h ▸ Px.gt
       ·exact W.xi<|Px.sqE<|sm h ▸ Px.t1
      refine Px.bkH<|Px.sq<|bd h fun x48 hx48 h=>bd h fun x49 hx49 h=>bd h fun x50 hx50 h=>bd h fun x51 hx51 h=>W.rd [[],[0],[],[],[3],[],[],[6],[],[],[8,9],[8,9,10],[],rn 8 5 [],rn 8 6 [],rn 8 7 [],(0::1::2::rn 6 10 []),(0::1::2::rn 6 11 []),rn 0 18 [],rn 0 19 []] [(0,_),(2,_),(3,_),(4,_),(5,_),(7,_)] mixo (by kernel_rfl) (Dv 0 O.y1<|Dv 1 (O.y5 (y:=.brw eI.z ⟨3,[2]⟩ x43.2.length))<|Dv 2 (O.mv (.lit q))<|Dv 3 O.y1<|Dv 4 (O.y5 (y:=.brw eI.z ⟨3,[1]⟩ x43.1.length))<|Dv 5 (O.mv (.lit q))<|Dv 6 (O.mv (.lit q))<|Dv 7 (O.add .z1 .z8)<|Dv 8 (O.mv .z2)<|Dv 9 (O.mv (.lit q))<|Dv 10 (O.y4 hx48)<|Dv 11 (O.y6 (x:=iR ePair x48))<|Dv 12 (O.mv (.lit q))<|Dv 13 (O.y4 hx49)<|Dv 14 O.y8<|Dv 15 (O.y6 (x:=I64 x49.Val))<|Dv 16 (O.ixO (en:=eI) q .z6 .z1 sl22 hx50 q)<|DL.bz 17 (G2:=[(0,iR (eM ePair) a0),(2,.obj [.nils,.nils,.nils]),(3,.obj [oR eI x27,oR eI x43.1,oR eI (x43.2.set (w64 (x39+x41.At)).toNat (w64 (x10+1)))]),(4,oR eB (s5.2.set x10.toNat true)),(5,I64 x10),(7,I64 s34.2.2),(8,I64 (w64 (x39+x41.At))),(136,I64 x49.Val)]) (U:=[(5,126,some (I64 (w64 (x39+x41.At)))),(4,125,some (.brw eI.z ⟨3,[1]⟩ x43.1.length)),(3,124,some (.ptr ⟨3,[]⟩ 1))]) (ps:=[⟨3,[1]⟩]) (EffOk.cell (r:=3) (k0:=1) (y:=oR eI x43.1) (g5:=get [(0,iR (eM ePair) a0),(2,.obj [.nils,.nils,.nils]),(3,.obj [oR eI x27,oR eI x43.1,oR eI (x43.2.set (w64 (x39+x41.At)).toNat (w64 (x10+1)))]),(4,oR eB (s5.2.set x10.toNat true)),(5,I64 x10),(7,I64 s34.2.2),(8,I64 (w64 (x39+x41.At))),(136,I64 x49.Val)]) q q NRc.nr (fun v _=>⟨get [(0,iR (eM ePair) a0),(2,.obj [.nils,.nils,.nils]),(3,.obj [oR eI x27,.lit v,oR eI x43.2]),(4,oR eB (s5.2.set x10.toNat true)),(5,I64 x10),(7,I64 s34.2.2),(8,I64 (w64 (x39+x41.At))),(128,I64 (w64 (x10+1))),(136,I64 x49.Val),(137,.ptr ⟨3,[2]⟩ ((w64 (x39+x41.At)).toNat * eI.z+0))],get [(0,iR (eM ePair) a0),(2,.obj [.nils,.nils,.nils]),(3,.obj [oR eI x27,.lit v,oR eI (x43.2.set (w64 (x39+x41.At)).toNat (w64 (x10+1)))]),(4,oR eB (s5.2.set x10.toNat true)),(5,I64 x10),(7,I64 s34.2.2),(8,I64 (w64 (x39+x41.At))),(136,I64 x49.Val)],Trim.keep (.n q (.n q (.n q (.n q (.n q (.n q (.n q (.n q (.n q (.r q (RK.el (en:=eI) q hx50 q) npPtr .nil)))))))))),EO.eff (EO.stE (en:=eI) (y2:=w64 (x10+1)) (cs':=[I64 (w64 (x10+1))]) (x2:=.obj [oR eI x27,.lit v,oR eI (x43.2.set (w64 (x39+x41.At)).toNat (w64 (x10+1)))]) q q (.ptr q) (.lit q) q hx50 sz3 q q q q q q q (.n q q (.n q q (.b q (.n q q (.n q q (.n q q (.n q q (.n q q .nil))))))))),q,Trim.keep (tn8 q q q q q q q q)⟩)) q q (by kernel_rfl) q q q (.c (.inr (.inl ⟨_,q⟩)) q q q q q (Gd.wanted .none) (O.mv (.lit q)) (.c (.inl ⟨3,[1],_,_,_,_,q,by simp,q,q,Nat.le_refl _⟩) q q q q q (Gd.wanted .none) (O.ldO (y:=.brw eI.z ⟨3,[1]⟩ x43.1.length) q .z5 ct22 q q) (.c (.inr (.inr (.inr (.inl ⟨3,_,_,q,q,of_blt q,by simp,_,q,of_blt q⟩)))) q q q q q (Gd.wanted .none) (O.fO q .z4 fd45_1 q) .nil))) (by kernel_rfl)<|Dv 18 (O.ixO (en:=eI) q .z6 .z1 sl22 hx51 q)<|DL.bpz 19 (EO.se (en:=eI) (y2:=x49.Val) [0,2,3,4,5,7] hx51)<|DL.fin q q q (tn6 q q q q q q)) ?_
      refine Px.bk<|Px.sq<|W.rk [0,2,3,4,5,7] (Vm q<|Rv (O.add .z1 .z8)<|RunL.rk [0,2,3,4,5,91] q<|RunL.au) ?_
      exact sm h ▸ Px.gt
     ·exact W.xi<|Px.sqE<|sm h ▸ Px.t1
    exact Px.bkH<|Px.bk<|sm h ▸ Px.gt
  ·subst hx
   cases h
  ·subst hx
   exact Px.bkR<|sm h ▸ Pr (.c (ys0:=eComb_0.cells x8) q at45 q q q (.f q (.f q (.f q .nil))) .nil)
instance con44 {a0:(List (List Pair))}{r:Comb}:CF Tryz.prog 44 (pf44 a0=some r) [iR (eM ePair) a0] [none] (.agg (eComb_0.cells r)):=⟨con44l a0 _⟩
instance con45 {a0:Dense}{r:(List Row)}:CF Tryz.prog 45 (pf45 a0=some r) [.agg [iR (eM eAct) a0.Acts,iR (eM eI) a0.Gotos]] [none] (iR eRow_0 r):=⟨fun h=>by unfold pf45 at h; exact Con.au (N:=⟨91,[]⟩) [1,2,3,4,5,6,7,8,9,22,29,40,59,77] (.lp (fun (s1:List Row × Int)=>[(3,oR eRow_0 s1.1),(4,I64 s1.2)]) [1,3,4] 0 (fun (x2:List Row)=>[(3,oR eRow_0 x2)]) [3] (.rj 3 [1,3,4,22] (fun (c6:Bool)=>[(22,BB c6)]) (.b (.lp (fun (s8:List Int × Int)=>[(5,oR eI s8.1),(6,I64 s8.2)]) [1,3,4,5,6] 2 (fun (x9:List Int)=>[(5,oR eI x9)]) [1,3,4,5] (.b (.jn [1,3,4,5,6] (fun (j12:List Int)=>[(5,oR eI j12)]) (.p (.jn [1,3,4,5,6] (fun (j15:List Int)=>[(5,oR eI j15)]) .e .e)) .e) .e) (.lp (fun (s21:List Pair × Int)=>[(2007,oR ePair s21.1),(8,I64 s21.2)]) [1,3,4,7,8] 4 (fun (x22:List Pair)=>[(2007,oR ePair x22)]) [1,3,4,7] (.b (.jn [1,3,4,7,8] (fun (j25:List Pair)=>[(2007,oR ePair j25)]) (.rj 16 [1,3,4,7,8,9,77] (fun (c29:Bool)=>[(77,BB c29)]) (.jn [1,3,4,7,8] (fun (j30:List Pair)=>[(2007,oR ePair j30)]) .e .e)) .e) .e) (.fz 18 7 (some 1) ePair .e))) .e)) .e) Tryz.func45 rfl rfl rfl rfl rfl goW⟩
instance con46 {a0:Grammar}{r:(List Pair)}:CF Tryz.prog 46 (pf46 a0=some r) [.agg (eGrammar_0.cells a0)] [none] (iR ePair r):=⟨fun h=>by unfold pf46 at h; exact Con.au (N:=⟨64,[]⟩) [1,2,3,4,5,6,7,12,21,33,40,53] (.lp (fun (s1:List Int × Int)=>[(3,iR eI s1.1),(4,I64 s1.2)]) [1,3,4] 0 (fun (x2:List Int)=>[(3,iR eI x2)]) [1,3] (.b (.jn [1,3,4] (fun (j5:List Int)=>[(3,iR eI j5)]) (.p (.jn [1,3,4] (fun (j7:List Int)=>[(3,iR eI j7)]) .e .e)) .e) .e) (.lp (fun (s11:List Pair × Int)=>[(5,oR ePair s11.1),(6,I64 s11.2)]) [1,3,5,6] 2 (fun (x12:List Pair)=>[(5,oR ePair x12)]) [5] (.b (.lp (fun (s15:List Pair × Int)=>[(5,oR ePair s15.1),(7,I64 s15.2)]) [1,3,5,6,7] 4 (fun (x16:List Pair)=>[(5,oR ePair x16)]) [1,3,5,6] (.b (.jn [1,3,5,6,7] (fun (j19:List Pair)=>[(5,oR ePair j19)]) (.rd 14 [[],[0],[],[0,1,2],[0,1,2,3],rn 0 5 [],[],[],[6,7],[6,7,8],rn 0 10 []] (.jn [1,3,5,6,7] (fun (j22:List Pair)=>[(5,oR ePair j22)]) .e .e)) .e) .e) .e) .e) .e)) Tryz.func46 rfl rfl rfl rfl rfl goW⟩
theorem con30l (a0:Grammar) (a1:Dense) (r:Tables) (h:pf30 a0 a1=some r):Con Tryz.prog 30 [.agg (eGrammar_0.cells a0),.agg [iR (eM eAct) a1.Acts,iR (eM eI) a1.Gotos]] [none,none] (.agg (eTables_0.cells r)):=by
 unfold pf30 at h
 refine Con.go (N:=⟨65,[]⟩) Tryz.func30 q q q q (W.fin ?_)
 refine W.st [(0,.agg (eGrammar_0.cells a0)),(1,.agg [iR (eM eAct) a1.Acts,iR (eM eI) a1.Gotos])] ?_
 refine W.rq [2,3,4] (Rv (O.box (.aggF q q) q)<|Rv (O.box (.aggF q q) q)<|Rv (O.al (cs:=[.nils,.nils,.nils,.nils,.nils,.nils,.nils,.nils,.nils,.nils,.nils]) ze48 q q)<|Fk q) ?_
 refine W.rq [2,3,4,5] (Rv (O.al (cs:=[.nils,.nils,.nils,.nils,.nils,.nils,.nils,.nils,.nils,.nils,.nils]) ze48 q q)<|Fk q) ?_
 refine bd h fun x1 hx1 h=>bd h fun x2 hx2 h=>W.rq [2,3,4,5,6,7] (Rv (O.ldON (cs':=[iR (eM eAct) a1.Acts,iR (eM eI) a1.Gotos]) q .z4 at87 q q)<|Rc (PC.gz (.cc (.aggF q q) .nil) (CF.go hx1))<|Rc (PC.gz (.cc (.imm q) .nil) (CF.go hx2))<|Rv (O.mv (.tupF q q))<|Rv (O.ex (y:=iR eI x2.1) q q q)<|Rv (O.ex (y:=iR (eM ePair) x2.2) q q q)<|RunL.au) ?_
 refine bd h fun x3 hx3 h=>W.rq [2,3,4,5] (Rv (O.mv .z2)<|Rv (O.mv .z2)<|Rc (PC.gz (.cc (.imm q) .nil) (CF.go hx3))<|Rv O.y1<|RunL.f' (EO.sv1 [2,3,4,5,17])<|Rv O.y1<|RunL.f' (EO.sva [2,3,4,5])<|Fk q) ?_
 refine bd h fun x4 hx4 h=>bd h fun x5 hx5 h=>W.rq [2,4,5,6,7] (Rv (O.ldON (cs':=[iR (eM eAct) a1.Acts,iR (eM eI) a1.Gotos]) q .z4 at87 q q)<|Rc (PC.gz (.cc (.aggF q q) .nil) (CF.go hx4))<|Rc (PC.gz (.cc (.imm q) .nil) (CF.go hx5))<|Rv (O.mv (.tupF q q))<|Rv (O.ex (y:=iR eI x5.1) q q q)<|Rv (O.ex (y:=iR (eM ePair) x5.2) q q q)<|RunL.au) ?_
 refine bd h fun x6 hx6 h=>W.rq [2,4,5] (Rv (O.mv .z2)<|Rv (O.mv .z2)<|Rc (PC.gz (.cc (.imm q) .nil) (CF.go hx6))<|Rv O.y1<|RunL.f' (EO.sv1 [2,4,5,28])<|Rv O.y1<|RunL.f' (EO.sva [2,4,5])<|Fk q) ?_
 refine W.sq'<|W.aq [2,4,5,8] ?_
 refine W.bk<|bd h fun x8 hl h=>W.l1 (([]:List Int),([]:List Int),0) (fun (s7:List Int × List Int × Int)=>[(5,.obj [iR eI x2.1,iR eI x3.Base,iR eI x3.Val,iR eI x3.Chk,iR eI x5.1,iR eI x6.Base,iR eI x6.Val,iR eI x6.Chk,oR eI s7.1,oR eI s7.2.1,.nils]),(8,I64 s7.2.2)]) [2,4,5,8] 0 (fun (x8:List Int × List Int)=>[(5,.obj [iR eI x2.1,iR eI x3.Base,iR eI x3.Val,iR eI x3.Chk,iR eI x5.1,iR eI x6.Base,iR eI x6.Val,iR eI x6.Chk,oR eI x8.1,oR eI x8.2,.nils])]) [2,4,5] hl (fun s7 o h=>?_) ?_
 ·clear hl
  refine W.sq'<|W.aq [2,4,5,8,35] ?_
  refine W.ch h q (fun hb10 h=>?_) (fun hb10 h=>?_)
  ·refine W.sk<|Px.sq<|W.sq'<|W.bk<|bd h fun x11 hx11 h=>bd h fun x12 hx12 h=>bd h fun x13 hx13 h=>bd h fun x14 hx14 h=>W.rd [[],[0],[],[2],[],[2,3,4],[2,3,4,5],rn 2 5 [],rn 2 6 [],rn 0 9 [],[],[10],[],[12],[],[12,13,14],[12,13,14,15],rn 12 5 [],rn 12 6 [],rn 12 7 [],rn 0 20 [],rn 0 12 [],rn 0 22 [],rn 0 23 [],rn 0 24 []] [(2,_),(4,_),(5,_),(8,_)] mixo (by kernel_rfl) (Dv 0 O.y1<|Dv 1 (O.y5 (y:=.brw eI.z ⟨5,[8]⟩ s7.1.length))<|Dv 2 O.y1<|Dv 3 (O.y5 (y:=iR eProd_0 a0.Prods))<|Dv 4 (O.mv (.lit q))<|Dv 5 (O.y4 hx11)<|Dv 6 O.y8<|Dv 7 (O.y6 (x:=I64 x11.Left))<|DL.vi 8 (x:=iR eI [x11.Left]) (O.bs (ys:=[I64 x11.Left]) eI [x11.Left] sl22 q q q q q q zt3 q q) q q q q .none<|Dv 9 (O.ap (en:=eI) (r:=x12) .z6 q .z2 .i ap22 q hx12)<|Dv 10 O.y1<|Dv 11 (O.y5 (y:=.brw eI.z ⟨5,[9]⟩ s7.2.1.length))<|Dv 12 O.y1<|Dv 13 (O.y5 (y:=iR eProd_0 a0.Prods))<|Dv 14 (O.mv (.lit q))<|Dv 15 (O.y4 hx13)<|Dv 16 O.y8<|Dv 17 (O.y6 (x:=iR eI x13.Right))<|Dv 18 O.y9<|DL.vi 19 (x:=iR eI [(x13.Right.length:Int)]) (O.bs (ys:=[I64 (x13.Right.length:Int)]) eI [(x13.Right.length:Int)] sl22 q q q q q q zt3 q q) q q q q .none<|Dv 20 (O.ap' (en:=eI) (r:=x14) .z6 q .z2 .i ap22 q hx14 (noQ_spec (by kernel_rfl) (by kernel_rfl)))<|Dv 21 O.y1<|DL.bw 22 (G2:=[(2,.obj (eGrammar_0.cells a0)),(4,.obj [.nils,.nils,.nils,.nils,.nils,.nils,.nils,.nils,.nils,.nils,.nils]),(5,.obj [iR eI x2.1,iR eI x3.Base,iR eI x3.Val,iR eI x3.Chk,iR eI x5.1,iR eI x6.Base,iR eI x6.Val,iR eI x6.Chk,oR eI (s7.1++[x11.Left]),.dead,.nils]),(8,I64 s7.2.2),(58,oR eI (s7.2.1++[(x13.Right.length:Int)]))]) (EffOk.settle (ts:=[47,58]) (xs:=[.brw eI.z ⟨47,[]⟩ (s7.1.length+[x11.Left].length),.brw eI.z ⟨58,[]⟩ (s7.2.1.length+[(x13.Right.length:Int)].length)]) (ys:=[.own eI.z (s7.1.length+[x11.Left].length) (rowc eI s7.1++rowc eI [x11.Left]),.own eI.z (s7.2.1.length+[(x13.Right.length:Int)].length) (rowc eI s7.2.1++rowc eI [(x13.Right.length:Int)])]) (g2:=get [(2,.obj (eGrammar_0.cells a0)),(4,.obj [.nils,.nils,.nils,.nils,.nils,.nils,.nils,.nils,.nils,.nils,.nils]),(5,.obj [iR eI x2.1,iR eI x3.Base,iR eI x3.Val,iR eI x3.Chk,iR eI x5.1,iR eI x6.Base,iR eI x6.Val,iR eI x6.Chk,.dead,.dead,.nils]),(8,I64 s7.2.2),(47,oR eI (s7.1++[x11.Left])),(58,oR eI (s7.2.1++[(x13.Right.length:Int)])),(59,.ptr ⟨5,[]⟩ 8)]) q (TkL.take (.pn q q q .ns (.pn q q q .ns .nil))) (by decide) q (all2 q q) (Trim.keep (.n q (.n q (.n q (.n q (.e q (oR_app _ _ _) (.e q (oR_app _ _ _) (.q q q q .nil)))))))) (EO.eff (EO.stB (y':=oR eI (s7.1++[x11.Left])) (cs2:=[iR eI x2.1,iR eI x3.Base,iR eI x3.Val,iR eI x3.Chk,iR eI x5.1,iR eI x6.Base,iR eI x6.Val,iR eI x6.Chk,oR eI (s7.1++[x11.Left]),.dead,.nils]) q q (.ptr q) (.own q) (.r q .nil) .refl q sz22 q q q q q (.n q q (.n q q (.b q (.n q q (.n q q .nil)))))))) q q (by kernel_rfl) q q (by kernel_rfl)<|Dv 23 O.y1<|DL.bpz 24 (EO.sw [2,4,5,8])<|DL.fin q q q (tn4 q q q q)) ?_
   refine Px.bk<|Px.sq<|W.rk [2,4,5,8] (Vm q<|Rv (O.add .z1 .z8)<|RunL.rk [2,4,5,37] q<|RunL.au) ?_
   exact sm h ▸ Px.gt
  ·exact W.xi<|Px.sqE<|sm h ▸ Px.t1
 refine Px.bkH<|Px.sq<|bd h fun x15 hx15 h=>W.rq [4,5] (Rv (O.ldON (cs':=eGrammar_0.cells a0) q .z4 at43 q q)<|Rc (PC.gz (.cc (.aggF q q) .nil) (CF.go hx15))<|Rv O.y1<|RunL.f' (EO.sv1 [4,5])<|Fk q) ?_
 refine W.sq'<|W.fz (G1:=[(4,_),(5,.obj [iR eI x2.1,iR eI x3.Base,iR eI x3.Val,iR eI x3.Chk,iR eI x5.1,iR eI x6.Base,iR eI x6.Val,iR eI x6.Chk,iR eI x8.1,iR eI x8.2,iR ePair x15])]) [5] (.n q q (.z q q (FzL.obj (.f (.f (.f (.f (.f (.f (.f (.f (.z (.z (.f .nil)))))))))))) .nil)) ?_
 refine W.rk [4] (Rv (O.ldON (cs':=[iR eI x2.1,iR eI x3.Base,iR eI x3.Val,iR eI x3.Chk,iR eI x5.1,iR eI x6.Base,iR eI x6.Val,iR eI x6.Chk,iR eI x8.1,iR eI x8.2,iR ePair x15]) q .z4 at48 q q)<|RunL.f' (EO.sva [4])<|Fk q) ?_
 exact Px.sq<|W.rt<|sm h ▸ Pr (.c (ys0:=[iR eI x2.1,iR eI x3.Base,iR eI x3.Val,iR eI x3.Chk,iR eI x5.1,iR eI x6.Base,iR eI x6.Val,iR eI x6.Chk,iR eI x8.1,iR eI x8.2,iR ePair x15]) q at48 q q q (.f q (.f q (.f q (.f q (.f q (.f q (.f q (.f q (.f q (.f q (.f q .nil))))))))))) .nil)
instance con30 {a0:Grammar}{a1:Dense}{r:Tables}:CF Tryz.prog 30 (pf30 a0 a1=some r) [.agg (eGrammar_0.cells a0),.agg [iR (eM eAct) a1.Acts,iR (eM eI) a1.Gotos]] [none,none] (.agg (eTables_0.cells r)):=⟨con30l a0 a1 _⟩
theorem con15l (a0:Source) (r:Grammar × Tables × (List ByteArray) × Bool) (h:pf15 a0=some r):Con Tryz.prog 15 [.agg (eSource_0.cells a0)] [none] (.tup [.agg (eGrammar_0.cells r.1),.agg (eTables_0.cells r.2.1),iR eS r.2.2.1,BB r.2.2.2]):=by
 unfold pf15 at h
 refine Con.go (N:=⟨39,[]⟩) Tryz.func15 q q q q (W.fin ?_)
 refine W.st [(0,.agg (eSource_0.cells a0))] ?_
 refine W.rq [1,2,3] (Rv (O.box (.aggF q q) q)<|Rv (O.al (cs:=[.nils,.nils,.nils,SS S0,SS S0]) ze43 q q)<|Rv (O.al (cs:=[.nils,.nils,.nils,.nils,.nils,.nils,.nils,.nils,.nils,.nils,.nils]) ze48 q q)<|RunL.au) ?_
 refine bd h fun x1 hx1 h=>W.rq [2,3,6,7,9] (Rv (O.ldON (cs':=eSource_0.cells a0) q .z4 at32 q q)<|Rc (PC.gz (.cc (.aggF q q) .nil) (CF.go hx1))<|Rv (O.mv (.tup q q))<|Rv (O.ex (y:=.agg (eGrammar_0.cells x1.1)) q q q)<|Rv (O.ex (y:=.agg [iR (eM eAct) x1.2.1.Acts,iR (eM eI) x1.2.1.Gotos]) q q q)<|Rv (O.ex (y:=I64 x1.2.2.1) q q q)<|Rv (O.ex (y:=BB x1.2.2.2) q q q)<|Rv (O.al (cs:=[.nils,.nils,.nils,SS S0,SS S0]) ze43 q q)<|Rv (O.al (cs:=[.nils,.nils]) ze87 q q)<|RunL.f' (EO.sva [2,3,6,7,18,19,20])<|RunL.f' (EO.sva [2,3,6,7,19,20])<|RunL.au) ?_
 refine W.sq'<|W.aq [2,3,6,7,22] ?_
 refine W.ch h q (fun hb2 h=>?_) (fun hb2 h=>?_)
 ·refine W.rq [2,3,4,5] (Rv (O.ldON (cs':=eGrammar_0.cells x1.1) q .z4 at43 q q)<|Rv (O.bu (cs:=[.nils,.nils,.nils,.nils,.nils,.nils,.nils,.nils,.nils,.nils,.nils]) sc48 ze48 q q q)<|RunL.f' (EO.sva [2,3,24])<|RunL.f' (EO.sva [2,3])<|RunL.au) ?_
  refine W.fz (G1:=[(2,_),(3,.obj [iR eI ([]:List Int),iR eI ([]:List Int),iR eI ([]:List Int),iR eI ([]:List Int),iR eI ([]:List Int),iR eI ([]:List Int),iR eI ([]:List Int),iR eI ([]:List Int),iR eI ([]:List Int),iR eI ([]:List Int),iR ePair ([]:List Pair)]),(4,iR eS ([]:List ByteArray)),(5,_)]) [3,4] (.n q q (.z q q (FzL.obj (.z (.z (.z (.z (.z (.z (.z (.z (.z (.z (.z .nil)))))))))))) (.z q q .zz (.n q q .nil)))) ?_
  exact W.rt<|Px.sqR<|sm h ▸ Pr (.c (ys0:=eGrammar_0.cells x1.1) q at43 q q q (.f q (.f q (.f q (.f q (.f q .nil))))) (.c (ys0:=[iR eI ([]:List Int),iR eI ([]:List Int),iR eI ([]:List Int),iR eI ([]:List Int),iR eI ([]:List Int),iR eI ([]:List Int),iR eI ([]:List Int),iR eI ([]:List Int),iR eI ([]:List Int),iR eI ([]:List Int),iR ePair ([]:List Pair)]) q at48 q q q (.f q (.f q (.f q (.f q (.f q (.f q (.f q (.f q (.f q (.f q (.f q .nil))))))))))) (.f q q (.f q q .nil))))
 ·refine W.sk<|Px.sq<|bd h fun x3 hx3 h=>W.rq [2,3,6,7,10,11] (Rv (O.ldON (cs':=eGrammar_0.cells x1.1) q .z4 at43 q q)<|Rc (PC.gz (.cc (.aggF q q) .nil) (CF.go hx3))<|Rv (O.mv (.tupF q q))<|Rv (O.ex (y:=iR eS x3.1) q q q)<|Rv (O.ex (y:=I64 x3.2.1) q q q)<|Rv (O.ex (y:=I64 x3.2.2.1) q q q)<|Rv (O.ex (y:=SS x3.2.2.2) q q q)<|RunL.au) ?_
  refine W.sq'<|bd h fun x4 hx4 h=>W.rd [[],[],[],[1,2],[],[],[5],[0,1,2,3],[0,1,2,3,7],rn 0 5 [7,8],rn 0 10 []] [(2,_),(3,_),(4,_),(5,_)] mixo (by kernel_rfl) (Dv 0 (O.ldON (cs':=eGrammar_0.cells x1.1) q .z4 at43 q q)<|Dv 1 (O.ldON (cs':=eGrammar_0.cells x1.1) q .z4 at43 q q)<|Dv 2 (O.ldON (cs':=[iR (eM eAct) x1.2.1.Acts,iR (eM eI) x1.2.1.Gotos]) q .z4 at87 q q)<|Dc 3 (PC.gz (.cc (.aggF q q) (.cc (.aggF q q) .nil)) (CF.go hx4))<|Dv 4 (O.mv .z2)<|Dv 5 (O.mv (.lit q))<|Dv 6 (O.eql .z1 .z8)<|DL.bu 7 (G2:=[(2,.obj (eGrammar_0.cells x1.1)),(3,.obj [.nils,.nils,.nils,.nils,.nils,.nils,.nils,.nils,.nils,.nils,.nils]),(10,iR eS x3.1),(11,I64 x3.2.1),(35,.agg (eTables_0.cells x4))]) (U:=[(6,38,some (BB (decide (x3.2.1=0)))),(5,37,some (I64 x3.2.1)),(4,36,some (iR eS x3.1))]) (EffOk.v (EO.eff (EO.sO (G2:=[(2,.obj (eGrammar_0.cells x1.1)),(3,.obj [.nils,.nils,.nils,.nils,.nils,.nils,.nils,.nils,.nils,.nils,.nils]),(10,iR eS x3.1),(11,I64 x3.2.1),(35,.agg (eTables_0.cells x4))]) (cs2:=eGrammar_0.cells x1.1) q q q (.obj q) (.aggF q q) q sz43 q q q q (.b q (.n q q (.n q q (.n q q (.n q q .nil)))))))) q q (by kernel_rfl) q q q (.c (.inr (.inl ⟨_,q⟩)) q q q q q (Gd.wanted .none) (O.eql .z1 .z8) (.c (.inr (.inl ⟨_,q⟩)) q q q q q (Gd.wanted .none) (O.mv (.lit q)) (.c (.inr (.inr (.inr (.inr (.inl ⟨_,_,_,q,NRc.nr⟩))))) q q q q q (Gd.wanted .none) (O.mv .z2) .nil))) (by kernel_rfl)<|DL.bu 8 (G2:=[(2,.obj (eGrammar_0.cells x1.1)),(3,.obj (eTables_0.cells x4)),(10,iR eS x3.1),(11,I64 x3.2.1)]) (U:=[(6,38,some (BB (decide (x3.2.1=0)))),(5,37,some (I64 x3.2.1)),(4,36,some (iR eS x3.1))]) (EffOk.v (EO.eff (EO.sO (G2:=[(2,.obj (eGrammar_0.cells x1.1)),(3,.obj (eTables_0.cells x4)),(10,iR eS x3.1),(11,I64 x3.2.1)]) (cs2:=eTables_0.cells x4) q q q (.obj q) (.aggF q q) q sz48 q q q q (.n q q (.b q (.n q q (.n q q .nil))))))) q q (by kernel_rfl) q q q (.c (.inr (.inl ⟨_,q⟩)) q q q q q (Gd.wanted .none) (O.eql .z1 .z8) (.c (.inr (.inl ⟨_,q⟩)) q q q q q (Gd.wanted .none) (O.mv (.lit q)) (.c (.inr (.inr (.inr (.inr (.inl ⟨_,_,_,q,NRc.nr⟩))))) q q q q q (Gd.wanted .none) (O.mv .z2) .nil))) (by kernel_rfl)<|Dv 9 (O.az .z2)<|Dv 10 (O.az (.lit q))<|DL.fin q q q (tn4 q q q q)) ?_
  exact Px.sq<|W.rt<|sm h ▸ Pr (.c (ys0:=eGrammar_0.cells x1.1) q at43 q q q (.f q (.f q (.f q (.f q (.f q .nil))))) (.c (ys0:=eTables_0.cells x4) q at48 q q q (.f q (.f q (.f q (.f q (.f q (.f q (.f q (.f q (.f q (.f q (.f q .nil))))))))))) (.f q q (.f q q .nil))))
instance con15 {a0:Source}{r:Grammar × Tables × (List ByteArray) × Bool}:CF Tryz.prog 15 (pf15 a0=some r) [.agg (eSource_0.cells a0)] [none] (.tup [.agg (eGrammar_0.cells r.1),.agg (eTables_0.cells r.2.1),iR eS r.2.2.1,BB r.2.2.2]):=⟨con15l a0 _⟩
theorem con31l (a0:Tables) (r:(List (List Int))) (h:pf31 a0=some r):Con Tryz.prog 31 [.agg (eTables_0.cells a0)] [none] (iR (eM eI) r):=by
 unfold pf31 at h
 refine Con.go (N:=⟨54,[]⟩) Tryz.func31 q q q q (W.fin ?_)
 refine W.st [(0,.agg (eTables_0.cells a0))] ?_
 refine W.rq [1] (Rv (O.box (.aggF q q) q)<|RunL.au) ?_
 refine W.aq [1,3,4] ?_
 refine W.sq'<|W.rq [1,3,4,8,9,10] (Rv O.y1<|Rv (O.y5 (y:=iR ePair a0.Nums))<|Rv O.y9<|Rv (O.mv .z8)<|Fk q) ?_
 refine W.bk<|bd h fun x2 hl h=>W.l1 (([]:List Int),([]:List Int),0) (fun (s1:List Int × List Int × Int)=>[(3,oR eI s1.1),(4,oR eI s1.2.1),(10,I64 s1.2.2)]) [1,3,4,8,9,10] 0 (fun (x2:List Int × List Int)=>[(3,oR eI x2.1),(4,oR eI x2.2)]) [1,3,4] hl (fun s1 o h=>?_) ?_
 ·clear hl
  refine W.aq [1,3,4,8,9,10,11] ?_
  refine W.sq'<|W.ch h q (fun hb4 h=>?_) (fun hb4 h=>?_)
  ·refine W.sk<|Px.sq<|W.sq'<|W.bk<|bd h fun x5 hx5 h=>W.rq [1,3,4,6,8,9,10] (Rv (O.y4 hx5)<|Rv (O.ldIN (cs':=[I64 x5.At,I64 x5.Val]) .z7 at119 q q)<|Rv (O.al (cs:=[I64 0,I64 0]) ze119 q q)<|RunL.f' (EO.sva [1,3,4,6,8,9,10])<|Fk q) ?_
   refine W.tr (G1:=[(1,_),(3,_),(4,_),(6,_),(8,_),(9,_),(10,_)]) (tn7 q q q q q q q) ?_
   refine bd h fun x6 hx6 h=>bd h fun x7 hx7 h=>W.rd [[],[],[1],[1,2],[0,1,2,3],[],[],[6],[6,7],rn 0 9 [],rn 0 10 [],rn 0 11 []] [(1,_),(3,_),(4,_),(8,_),(9,_),(10,_)] mixo (by kernel_rfl) (Dv 0 (O.mv .z3)<|Dv 1 O.y1<|Dv 2 O.y3<|DL.vi 3 (x:=iR eI [x5.At]) (O.bs (ys:=[I64 x5.At]) eI [x5.At] sl22 q q q q q q zt3 q q) q q q q .none<|Dv 4 (O.ap (en:=eI) (r:=x6) .z6 q .z2 .i ap22 q hx6)<|Dv 5 (O.mv .z3)<|Dv 6 O.y1<|Dv 7 O.y3<|DL.vi 8 (x:=iR eI [x5.Val]) (O.bs (ys:=[I64 x5.Val]) eI [x5.Val] sl22 q q q q q q zt3 q q) q q q q .none<|Dv 9 (O.ap' (en:=eI) (r:=x7) .z6 q .z2 .i ap22 q hx7 (noQ_spec (by kernel_rfl) (by kernel_rfl)))<|DL.bwv 10 (G2:=[(1,.obj (eTables_0.cells a0)),(8,iR ePair a0.Nums),(9,I64 (a0.Nums.length:Int)),(10,I64 s1.2.2),(23,oR eI (s1.2.1++[x5.Val]))]) (EffOk.settle (ts:=[18,23]) (xs:=[.brw eI.z ⟨18,[]⟩ (s1.1.length+[x5.At].length),.brw eI.z ⟨23,[]⟩ (s1.2.1.length+[x5.Val].length)]) (ys:=[.own eI.z (s1.1.length+[x5.At].length) (rowc eI s1.1++rowc eI [x5.At]),.own eI.z (s1.2.1.length+[x5.Val].length) (rowc eI s1.2.1++rowc eI [x5.Val])]) (g2:=get [(1,.obj (eTables_0.cells a0)),(3,.dead),(4,.dead),(8,iR ePair a0.Nums),(9,I64 (a0.Nums.length:Int)),(10,I64 s1.2.2),(18,oR eI (s1.1++[x5.At])),(23,oR eI (s1.2.1++[x5.Val]))]) q (TkL.take (.pn q q q .ns (.pn q q q .ns .nil))) (by decide) q (all2 q q) (Trim.keep (.n q (.n q (.n q (.n q (.n q (.n q (.e q (oR_app _ _ _) (.e q (oR_app _ _ _) .nil))))))))) (EO.eff (EO.aR q q (.own q) q (.n q q (.n q q (.n q q (.n q q (.n q q .nil))))) q q))) q q (by kernel_rfl) q q (by kernel_rfl)<|DL.bvz 11 (EO.ar [1,3,8,9,10])<|DL.fin q q q (tn6 q q q q q q)) ?_
   refine Px.bk<|Px.sq<|W.rk [1,3,4,8,9,10] (Rv (O.add .z1 .z8)<|RunL.rk [1,3,4,8,9,24] q<|RunL.au) ?_
   exact sm h ▸ Px.gt
  ·exact W.xi<|Px.sqE<|sm h ▸ Px.t1
 refine Px.bkH<|Px.sq<|W.rq [2] (Rv O.y1<|Rv (O.y5 (y:=iR eI a0.Def))<|Rv O.y1<|Rv O.y2<|Rv (O.y5 (y:=iR eI a0.Acts.Base))<|Rv O.y1<|Rv O.y2<|Rv (O.y5 (y:=iR eI a0.Acts.Val))<|Rv O.y1<|Rv O.y2<|Rv (O.y5 (y:=iR eI a0.Acts.Chk))<|Rv O.y1<|Rv (O.y5 (y:=iR eI a0.GoDef))<|Rv O.y1<|Rv O.y2<|Rv (O.y5 (y:=iR eI a0.Gos.Base))<|Rv O.y1<|Rv O.y2<|Rv (O.y5 (y:=iR eI a0.Gos.Val))<|Rv O.y1<|Rv O.y2<|Rv (O.y5 (y:=iR eI a0.Gos.Chk))<|Rv O.y1<|Rv (O.y5 (y:=iR eI a0.Left))<|Rv O.y1<|Rv (O.y5 (y:=iR eI a0.Len))<|Rv (O.mv .z3)<|Rv (O.mv .z3)<|Rv (O.bsL (ys:=[iR eI a0.Def,iR eI a0.Acts.Base,iR eI a0.Acts.Val,iR eI a0.Acts.Chk,iR eI a0.GoDef,iR eI a0.Gos.Base,iR eI a0.Gos.Val,iR eI a0.Gos.Chk,iR eI a0.Left,iR eI a0.Len,.brw eI.z ⟨3,[]⟩ x2.1.length,.brw eI.z ⟨4,[]⟩ x2.2.length]) (cs:=[iR eI a0.Def,iR eI a0.Acts.Base,iR eI a0.Acts.Val,iR eI a0.Acts.Chk,iR eI a0.GoDef,iR eI a0.Gos.Base,iR eI a0.Gos.Val,iR eI a0.Gos.Chk,iR eI a0.Left,iR eI a0.Len,.brw eI.z ⟨3,[]⟩ x2.1.length,.brw eI.z ⟨4,[]⟩ x2.2.length]) sl33 q q q q q zt22 q q)<|RunL.ea (G2:=[]) q (EO.aG (y':=oR (eM eI) [a0.Def,a0.Acts.Base,a0.Acts.Val,a0.Acts.Chk,a0.GoDef,a0.Gos.Base,a0.Gos.Val,a0.Gos.Chk,a0.Left,a0.Len,x2.1,x2.2]) q q (.own q) (.l q q (.f (.f (.f (.f (.f (.f (.f (.f (.f (.f (.r q (.r q .nil)))))))))))) .nil) (FzL.own (.f (.f (.f (.f (.f (.f (.f (.f (.f (.f (.z (.z .nil))))))))))))) .nil q q)<|Fk q) ?_
 refine W.fz (G1:=[(2,iR (eM eI) [a0.Def,a0.Acts.Base,a0.Acts.Val,a0.Acts.Chk,a0.GoDef,a0.Gos.Base,a0.Gos.Val,a0.Gos.Chk,a0.Left,a0.Len,x2.1,x2.2])]) [2] (.z q q .zz .nil) ?_
 exact W.rt<|sm h ▸ Pq
instance con31 {a0:Tables}{r:(List (List Int))}:CF Tryz.prog 31 (pf31 a0=some r) [.agg (eTables_0.cells a0)] [none] (iR (eM eI) r):=⟨con31l a0 _⟩
instance con32  {r:(List ByteArray)}:CF Tryz.prog 32 (pf32 =some r) [] [] (iR eS r):=⟨fun h=>by unfold pf32 at h; exact Con.au (N:=⟨2,[]⟩) [0] .e Tryz.func32 rfl rfl rfl rfl rfl goW⟩
instance con16 {a0:Grammar}{a1:Tables}{a2:(List ByteArray)}{r:ByteArray}:CF Tryz.prog 16 (pf16 a0 a1 a2=some r) [.agg (eGrammar_0.cells a0),.agg (eTables_0.cells a1),iR eS a2] [none,none,none] (SS r):=⟨fun h=>by unfold pf16 at h; exact Con.au (N:=⟨94,[]⟩) [2,3,4,6,7,8,9,10,11,12,13,14,27,28,29,30,40,54,55,56,57,71,72,73,74,79] (.rd 2 [[],[0],[0,1],[0,1,2],[0,1,2,3],rn 0 5 [],[],[6],rn 0 8 [],rn 0 9 [],rn 0 10 []] (.lp (fun (s7:ByteArray × Int)=>[(2007,.brow 5 (Lib.strCells s7.1)),(29,I64 s7.2)]) [2,3,4,7,27,28,29] 0 (fun (x8:ByteArray)=>[(2007,.brow 5 (Lib.strCells x8))]) [2,3,4,7] (.b (.jn [2,3,4,7,27,28,29] (fun (j11:ByteArray)=>[(2007,.brow 5 (Lib.strCells j11))]) (.rj 6 [2,3,4,7,9,27,28,29,40] (fun (c14:Bool)=>[(40,BB c14)]) (.jn [2,3,4,7,27,28,29] (fun (j15:ByteArray)=>[(2007,.brow 5 (Lib.strCells j15))]) (.b (.rd 7 [[],[0],[0,1],[0,1,2],[],[4],[4,5],rn 0 7 [],rn 0 8 [],rn 0 9 []] .e) .e) .e)) .e) .e) (.lp (fun (s25:ByteArray × Int)=>[(2007,.brow 5 (Lib.strCells s25.1)),(56,I64 s25.2)]) [2,3,7,10,54,55,56] 2 (fun (x26:ByteArray)=>[(2007,.brow 5 (Lib.strCells x26))]) [2,3,7] .e (.lp (fun (s35:ByteArray × Int)=>[(2007,.brow 5 (Lib.strCells s35.1)),(73,I64 s35.2)]) [3,7,71,72,73] 4 (fun (x36:ByteArray)=>[(2007,.brow 5 (Lib.strCells x36))]) [3,7] (.b (.jn [3,7,71,72,73] (fun (j39:ByteArray)=>[(2007,.brow 5 (Lib.strCells j39))]) (.p (.jn [3,7,71,72,73] (fun (j41:ByteArray)=>[(2007,.brow 5 (Lib.strCells j41))]) .e .e)) .e) .e) .e)))) Tryz.func16 rfl rfl rfl rfl rfl goW⟩
theorem con8l  (r:Bool) (h:pf8 =some r):Con Tryz.prog 8 [] [] (BB r):=by
 unfold pf8 at h
 refine Con.go (N:=⟨35,[]⟩) Tryz.func8 q q q q (W.fin ?_)
 refine W.st [] ?_
 refine W.sq'<|W.rx [] (Vk q<|Fi .nil) ?_
 refine Px.sq<|W.sq' ?_
 obtain ⟨x1,hx1,h⟩:=bnd h
 refine W.rx [(1,_),(2,_),(3,_),(4,_)] (Rv (O.bu (cs:=[SS ({ data:=#[120] }),BB true,I64 0,I64 0]) sc62 ze62 q q q)<|Rv (O.bu (cs:=[SS ({ data:=#[120] }),BB true,I64 0,I64 0,SS S0,I64 0]) sc67 ze67 q q q)<|Rv (O.bu (cs:=[SS S0,BB false,I64 0,I64 0,SS ({ data:=#[123,102,40,41,125] }),I64 0]) sc67 ze67 q q q)<|RunL.vi (x:=iR ePart [(⟨(⟨{ data:=#[120] },true,0,0⟩:Sym),S0,0⟩:Part),(⟨(⟨S0,false,0,0⟩:Sym),{ data:=#[123,102,40,41,125] },0⟩:Part)]) (O.bs (ys:=[.agg [SS ({ data:=#[120] }),BB true,I64 0,I64 0,SS S0,I64 0],.agg [SS S0,BB false,I64 0,I64 0,SS ({ data:=#[123,102,40,41,125] }),I64 0]]) ePart [(⟨(⟨{ data:=#[120] },true,0,0⟩:Sym),S0,0⟩:Part),(⟨(⟨S0,false,0,0⟩:Sym),{ data:=#[123,102,40,41,125] },0⟩:Part)] sl68 q q q q q q zt67 q q) q q .none<|Rv (O.bu (cs:=[iR ePart [(⟨(⟨{ data:=#[120] },true,0,0⟩:Sym),S0,0⟩:Part),(⟨(⟨S0,false,0,0⟩:Sym),{ data:=#[123,102,40,41,125] },0⟩:Part)],SS S0,BB false,I64 0,I64 0,I64 0]) sc70 ze70 q q q)<|RunL.vi (x:=iR eAlt_0 [(⟨[(⟨(⟨{ data:=#[120] },true,0,0⟩:Sym),S0,0⟩:Part),(⟨(⟨S0,false,0,0⟩:Sym),{ data:=#[123,102,40,41,125] },0⟩:Part)],(⟨S0,false,0,0⟩:Sym),0⟩:Alt)]) (O.bs (ys:=[.agg [iR ePart [(⟨(⟨{ data:=#[120] },true,0,0⟩:Sym),S0,0⟩:Part),(⟨(⟨S0,false,0,0⟩:Sym),{ data:=#[123,102,40,41,125] },0⟩:Part)],SS S0,BB false,I64 0,I64 0,I64 0]]) eAlt_0 [(⟨[(⟨(⟨{ data:=#[120] },true,0,0⟩:Sym),S0,0⟩:Part),(⟨(⟨S0,false,0,0⟩:Sym),{ data:=#[123,102,40,41,125] },0⟩:Part)],(⟨S0,false,0,0⟩:Sym),0⟩:Alt)] sl63 q q q q q q zt70 q q) q q .none<|Rv (O.bu (cs:=[SS ({ data:=#[115] }),iR eAlt_0 [(⟨[(⟨(⟨{ data:=#[120] },true,0,0⟩:Sym),S0,0⟩:Part),(⟨(⟨S0,false,0,0⟩:Sym),{ data:=#[123,102,40,41,125] },0⟩:Part)],(⟨S0,false,0,0⟩:Sym),0⟩:Alt)],I64 0]) sc65 ze65 q q q)<|RunL.vi (x:=iR eRule_0 [(⟨{ data:=#[115] },[(⟨[(⟨(⟨{ data:=#[120] },true,0,0⟩:Sym),S0,0⟩:Part),(⟨(⟨S0,false,0,0⟩:Sym),{ data:=#[123,102,40,41,125] },0⟩:Part)],(⟨S0,false,0,0⟩:Sym),0⟩:Alt)],0⟩:Rule)]) (O.bs (ys:=[.agg [SS ({ data:=#[115] }),iR eAlt_0 [(⟨[(⟨(⟨{ data:=#[120] },true,0,0⟩:Sym),S0,0⟩:Part),(⟨(⟨S0,false,0,0⟩:Sym),{ data:=#[123,102,40,41,125] },0⟩:Part)],(⟨S0,false,0,0⟩:Sym),0⟩:Alt)],I64 0]]) eRule_0 [(⟨{ data:=#[115] },[(⟨[(⟨(⟨{ data:=#[120] },true,0,0⟩:Sym),S0,0⟩:Part),(⟨(⟨S0,false,0,0⟩:Sym),{ data:=#[123,102,40,41,125] },0⟩:Part)],(⟨S0,false,0,0⟩:Sym),0⟩:Alt)],0⟩:Rule)] sl30 q q q q q q zt65 q q) q q .none<|RunL.vi (x:=.agg [SS ({ data:=#[112] }),iR eDecl_0 ([]:List Decl),iR eRule_0 [(⟨{ data:=#[115] },[(⟨[(⟨(⟨{ data:=#[120] },true,0,0⟩:Sym),S0,0⟩:Part),(⟨(⟨S0,false,0,0⟩:Sym),{ data:=#[123,102,40,41,125] },0⟩:Part)],(⟨S0,false,0,0⟩:Sym),0⟩:Alt)],0⟩:Rule)],SS ({ data:=#[116] })]) (O.bu (cs:=[SS ({ data:=#[112] }),.nils,iR eRule_0 [(⟨{ data:=#[115] },[(⟨[(⟨(⟨{ data:=#[120] },true,0,0⟩:Sym),S0,0⟩:Part),(⟨(⟨S0,false,0,0⟩:Sym),{ data:=#[123,102,40,41,125] },0⟩:Part)],(⟨S0,false,0,0⟩:Sym),0⟩:Alt)],0⟩:Rule)],SS ({ data:=#[116] })]) sc32 ze32 q q q) q q .none<|Rc (PC.go (.cc (.aggF q q) .nil) (CF.go hx1) call15 q)<|Rv (O.mv (.tup q q))<|Rv (O.ex (y:=.agg (eGrammar_0.cells x1.1)) q q q)<|Rv (O.ex (y:=.agg (eTables_0.cells x1.2.1)) q q q)<|Rv (O.ex (y:=iR eS x1.2.2.1) q q q)<|Rv (O.ex (y:=BB x1.2.2.2) q q q)<|Rv (O.al (cs:=[.nils,.nils,.nils,SS S0,SS S0]) ze43 q q)<|Rv (O.al (cs:=[.nils,.nils,.nils,.nils,.nils,.nils,.nils,.nils,.nils,.nils,.nils]) ze48 q q)<|RunL.sO (G2:=[(1,_),(2,_),(18,_),(19,_),(20,_)]) (cs2:=[iR eTok x1.1.Toks,iR eNon x1.1.Nons,iR eProd_0 x1.1.Prods,SS x1.1.Pro,SS x1.1.Tail]) q (.obj q) (.aggF q q) q sz43 q q q q (.b q (.n q q (.n q q (.n q q (.n q q .nil)))))<|RunL.sO (G2:=[(1,_),(2,_),(19,_),(20,_)]) (cs2:=[iR eI x1.2.1.Def,iR eI x1.2.1.Acts.Base,iR eI x1.2.1.Acts.Val,iR eI x1.2.1.Acts.Chk,iR eI x1.2.1.GoDef,iR eI x1.2.1.Gos.Base,iR eI x1.2.1.Gos.Val,iR eI x1.2.1.Gos.Chk,iR eI x1.2.1.Left,iR eI x1.2.1.Len,iR ePair x1.2.1.Nums]) q (.obj q) (.aggF q q) q sz48 q q q q (.n q q (.b q (.n q q (.n q q .nil))))<|Rv (O.az (.imm q))<|Va q<|Fi (tn4 q q q q)) ?_
 refine Px.sq<|W.sq' ?_
 obtain ⟨x2,hx2,h⟩:=bnd h
 refine W.rx [(4,_),(5,_)] (Rv (O.ldON (cs':=[iR eTok x1.1.Toks,iR eNon x1.1.Nons,iR eProd_0 x1.1.Prods,SS x1.1.Pro,SS x1.1.Tail]) q (.obj q) at43 q q)<|Rv (O.ldON (cs':=[iR eI x1.2.1.Def,iR eI x1.2.1.Acts.Base,iR eI x1.2.1.Acts.Val,iR eI x1.2.1.Acts.Chk,iR eI x1.2.1.GoDef,iR eI x1.2.1.Gos.Base,iR eI x1.2.1.Gos.Val,iR eI x1.2.1.Gos.Chk,iR eI x1.2.1.Left,iR eI x1.2.1.Len,iR ePair x1.2.1.Nums]) q (.obj q) at48 q q)<|Rv (O.mv (.imm q))<|Rc (PC.go (.cc (.aggF q q) (.cc (.aggF q q) (.cc (.imm q) .nil))) (CF.go hx2) call16 q)<|Va q<|Fi (tn2 q q)) ?_
 refine Px.sq<|W.sq' ?_
 obtain ⟨c6,hj,h⟩:=bnd h
 refine W.rx [(0,BB c6)] ?_ ?_
 ·refine Vm q<|Rv (O.mv (.lit q)) ?_
  rcases cnd hj with ⟨hb3,hj⟩ | ⟨hb3,hj⟩
  ·refine RunL.vi (x:=iR eI [(-1),2]) (O.bs (ys:=[I64 (-1),I64 2]) eI [(-1),2] sl22 q q q q q q zt3 q q) q q (.yb q q hb3) ?_
   obtain ⟨x4,hx4,hj⟩:=bnd hj
   refine RunL.c (PC.go (.cc (.k q) (.cc (.imm q) .nil)) (CF.go hx4) call11 q) q q (.yb q q hb3)<|RunL.v (O.eqS (.lit q) (.k q)) q q (.yb q q hb3)<|Rv (O.pkT (.lit q) hb3 (.lit q))<|Rv (O.mv (.lit q)) ?_
   rcases cnd hj with ⟨hb5,hj⟩ | ⟨hb5,hj⟩
   ·obtain rfl:=sm hj
    exact RunL.v (O.mv (.lit q)) q q (.yb q q hb5)<|RunL.v (O.eqS (.lit q) (.k q)) q q (.yb q q hb5)<|Rv (O.pkT (.lit q) hb5 (.lit q))<|Va q<|Fi (.n q .nil)
   ·obtain rfl:=sm hj
    exact RunL.ps q q hb5 q q<|RunL.ps q q hb5 q q<|Rv (O.pkF (.lit q) hb5 (.k q))<|Va q<|Fi (.n q .nil)
  ·obtain rfl:=sm hj
   exact RunL.ps q q hb3 q q<|RunL.ps q q hb3 q q<|RunL.ps q q hb3 q q<|Rv (O.pkF (.lit q) hb3 (.k q))<|Vm q<|RunL.ps q q q q q<|RunL.ps q q q q q<|Rv (O.pkF (.lit q) q (.k q))<|Va q<|Fi (.n q .nil)
 refine Px.sq<|W.rt ?_
 obtain rfl:=sm h
 exact Px.fin (Fin.ro (.f q q .nil) q (ode (by kernel_rfl)) .nil q (.inr q))
instance con8  {r:Bool}:CF Tryz.prog 8 (pf8 =some r) [] [] (BB r):=⟨con8l  _⟩
instance con9 {a0:ByteArray}{a1:Int}{r:ByteArray}:CF Tryz.prog 9 (pf9 a0 a1=some r) [SS a0,I64 a1] [none,none] (SS r):=⟨fun h=>by unfold pf9 at h; exact Con.au (N:=⟨13,[]⟩) [0,1,4,8] .e Tryz.func9 rfl rfl rfl rfl rfl goW⟩
instance con10 {a0:(List Int)}{a1:Int}{r:(List Int)}:CF Tryz.prog 10 (pf10 a0 a1=some r) [iR eI a0,I64 a1] [none,none] (iR eI r):=⟨fun h=>by unfold pf10 at h; exact Con.au (N:=⟨13,[]⟩) [0,1,4,8] .e Tryz.func10 rfl rfl rfl rfl rfl goW⟩
instance con12 {a0:ByteArray}{a1:(List Int)}{r:ByteArray}:CF Tryz.prog 12 (pf12 a0 a1=some r) [SS a0,iR eI a1] [none,none] (SS r):=⟨fun h=>by unfold pf12 at h; exact Con.au (N:=⟨29,[]⟩) [0,1,4,5,6,13,17] (.lp (fun (s3:ByteArray × Int)=>[(5,SS s3.1),(6,I64 s3.2)]) [1,5,6] 0 (fun (x4:ByteArray)=>[(5,SS x4)]) [5] (.b (.p (.jn [1,5,6] (fun (j7:ByteArray)=>[(5,SS j7)]) .e .e)) .e) .e) Tryz.func12 rfl rfl rfl rfl rfl goW⟩
instance con3 {a0:ByteArray}{a1:(List Int)}{r:Bool}:CF Tryz.prog 3 (pf3 a0 a1=some r) [SS a0,iR eI a1] [none,none] (BB r):=⟨fun h=>by unfold pf3 at h; exact Con.au (N:=⟨18,[]⟩) [0,1,4,6] .e Tryz.func3 rfl rfl rfl rfl rfl goW⟩
theorem con4l (a0:ByteArray) (a1:(List Int)) (a2:(List Int)) (r:Bool) (h:pf4 a0 a1 a2=some r):Con Tryz.prog 4 [SS a0,iR eI a1,iR eI a2] [none,none,none] (BB r):=by
 unfold pf4 at h
 refine Con.go (N:=⟨78,[]⟩) Tryz.func4 q q q q (W.fin ?_)
 refine W.st [(0,SS a0),(1,iR eI a1),(2,iR eI a2)] ?_
 refine W.sq'<|W.rx [(0,_),(1,_),(2,_)] (Vk q<|Fi (tn3 q q q)) ?_
 refine Px.sq<|W.sq' ?_
 refine W.sq' ?_
 obtain ⟨x1,hx1,h⟩:=bnd h
 refine W.rx [(0,_),(1,_),(2,_),(12,_)] (Rc (PC.go .nil (CF.go hx1) call8 q)<|Rv (O.not (.lit q))<|Fi (tn4 q q q q)) ?_
 refine Px.sq<|W.cnd q (fun hb2=>?_) (fun hb2=>?_)
 ·replace h:=cndT hb2 h
  refine W.sq'<|W.rx [(6,_)] (Vk q<|Fi (.n q .nil)) ?_
  refine Px.sq<|W.rt ?_
  refine Px.sqR ?_
  obtain rfl:=sm h
  exact Px.fin (Fin.ro (.f q q .nil) q (ode (by kernel_rfl)) (.no (.no (.no .nil))) q (.inr q))
 ·replace h:=cndF hb2 h
  refine W.sk<|Px.sq ?_
  refine W.sq' ?_
  obtain ⟨x3,hx3,h⟩:=bnd h
  obtain ⟨x4,hx4,h⟩:=bnd h
  obtain ⟨x5,hx5,h⟩:=bnd h
  refine W.rx [(0,_),(1,_),(2,_)] (Vm q<|Rc (PC.go (.cc (.lit q) (.cc (.k q) .nil)) (CF.go hx3) call9 q)<|Rv (O.mv (.imm q))<|Rc (PC.go (.cc (.imm q) (.cc (.k q) .nil)) (CF.go hx4) call10 q)<|Rv (O.mv (.imm q))<|Rc (PC.go (.cc (.imm q) (.cc (.k q) .nil)) (CF.go hx5) call10 q)<|RunL.re (G1:=[(14,_),(16,_),(18,_)]) (tn3 q q q)<|Va q<|Rv (O.az (.imm q))<|Rv (O.az (.imm q))<|Fi (tn3 q q q)) ?_
  refine Px.sq<|W.sq' ?_
  obtain ⟨x6,hx6,h⟩:=bnd h
  obtain ⟨x7,hx7,h⟩:=bnd h
  refine W.rx [(0,_),(1,_),(2,_),(7,_),(8,_)] (Vm q<|Rv (O.mv (.imm q))<|Rc (PC.go (.cc (.lit q) (.cc (.imm q) .nil)) (CF.go hx6) call11 q)<|Rv (O.mv (.imm q))<|Rc (PC.go (.cc (.k q) (.cc (.imm q) .nil)) (CF.go hx7) call11 q)<|Va q<|Va q<|Fi (tn5 q q q q q)) ?_
  refine Px.sq<|W.sq' ?_
  refine W.rx [(0,_),(1,_),(2,_),(7,_),(8,_),(9,_)] (Vk q<|Fi (tn6 q q q q q q)) ?_
  refine Px.sq<|W.sq' ?_
  refine W.sq' ?_
  obtain ⟨c13,hj,h⟩:=bnd h
  refine W.rx [(0,SS x3),(1,iR eI x4),(2,iR eI x5),(7,SS x6),(8,SS x7),(9,SS ({ data:=#[118,97,114,32,32,61,32,91,93,105,110,116,123] })),(49,BB c13)] ?_ ?_
  ·refine Vm q<|Rv (O.lenS (.lit q) st9)<|Rv (O.eql (.lit q) (.k q))<|Rv (O.mv (.lit q)) ?_
   rcases cnd hj with ⟨hb8,hj⟩ | ⟨hb8,hj⟩
   ·obtain rfl:=sm hj
    exact RunL.ps q q hb8 q q<|RunL.ps q q hb8 q q<|RunL.ps q q hb8 q q<|RunL.ps q q hb8 q q<|RunL.ps q q hb8 q q<|Rv (O.pkT (.lit q) hb8 (.k q))<|Vm q<|RunL.ps q q q q q<|RunL.ps q q q q q<|RunL.ps q q q q q<|RunL.ps q q q q q<|RunL.ps q q q q q<|RunL.ps q q q q q<|Rv (O.pkT (.lit q) q (.k q))<|Vm q<|RunL.ps q q q q q<|RunL.ps q q q q q<|RunL.ps q q q q q<|RunL.ps q q q q q<|RunL.ps q q q q q<|RunL.ps q q q q q<|Rv (O.pkT (.lit q) q (.k q))<|Fi (tn7 q q q q q q q)
   ·refine RunL.v (O.mv (.lit q)) q q (.yb q q hb8)<|RunL.v (O.lenS (.lit q) st9) q q (.yb q q hb8)<|RunL.v (O.mv (.lit q)) q q (.yb q q hb8)<|RunL.v (O.lenS (.lit q) st9) q q (.yb q q hb8)<|RunL.v (O.lss (.lit q) (.lit q)) q q (.yb q q hb8)<|Rv (O.pkF (.lit q) hb8 (.lit q))<|Rv (O.mv (.lit q)) ?_
    rcases cnd hj with ⟨hb9,hj⟩ | ⟨hb9,hj⟩
    ·obtain rfl:=sm hj
     exact RunL.ps q q hb9 q q<|RunL.ps q q hb9 q q<|RunL.ps q q hb9 q q<|RunL.ps q q hb9 q q<|RunL.ps q q hb9 q q<|RunL.ps q q hb9 q q<|Rv (O.pkT (.lit q) hb9 (.k q))<|Vm q<|RunL.ps q q q q q<|RunL.ps q q q q q<|RunL.ps q q q q q<|RunL.ps q q q q q<|RunL.ps q q q q q<|RunL.ps q q q q q<|Rv (O.pkT (.lit q) q (.k q))<|Fi (tn7 q q q q q q q)
    ·refine RunL.v (O.mv (.lit q)) q q (.yb q q hb9)<|RunL.v (O.mv (.lit q)) q q (.yb q q hb9)<|RunL.v (O.lenS (.lit q) st9) q q (.yb q q hb9) ?_
     obtain ⟨x10,hx10,hj⟩:=bnd hj
     refine RunL.v (O.sl0 (.lit q) (.lit q) st9 hx10) q q (.yb q q hb9)<|RunL.v (O.mv (.lit q)) q q (.yb q q hb9)<|RunL.v (O.neS (.lit q) (.lit q)) q q (.yb q q hb9)<|Rv (O.pkF (.lit q) hb9 (.lit q))<|Rv (O.mv (.lit q)) ?_
     rcases cnd hj with ⟨hb11,hj⟩ | ⟨hb11,hj⟩
     ·obtain rfl:=sm hj
      exact RunL.ps q q hb11 q q<|RunL.ps q q hb11 q q<|RunL.ps q q hb11 q q<|RunL.ps q q hb11 q q<|RunL.ps q q hb11 q q<|RunL.ps q q hb11 q q<|Rv (O.pkT (.lit q) hb11 (.k q))<|Fi (tn7 q q q q q q q)
     ·refine RunL.v (O.mv (.lit q)) q q (.yb q q hb11)<|RunL.v (O.mv (.lit q)) q q (.yb q q hb11)<|RunL.v (O.lenS (.lit q) st9) q q (.yb q q hb11)<|RunL.v (O.sub (.lit q) (.k q)) q q (.yb q q hb11) ?_
      obtain ⟨x12,hx12,hj⟩:=bnd hj
      obtain rfl:=sm hj
      exact RunL.v (O.at' (.lit q) (.lit q) st9 hx12) q q (.yb q q hb11)<|RunL.v (O.neq (.lit q) (.k q)) q q (.yb q q hb11)<|Rv (O.pkF (.lit q) hb11 (.lit q))<|Fi (tn7 q q q q q q q)
  refine Px.sq<|W.cnd q (fun hb14=>?_) (fun hb14=>?_)
  ·replace h:=cndT hb14 h
   refine W.sq'<|W.rx [(6,_)] (Vk q<|Fi (.n q .nil)) ?_
   refine Px.sq<|W.rt ?_
   refine Px.sqR ?_
   obtain rfl:=sm h
   exact Px.fin (Fin.ro (.f q q .nil) q (ode (by kernel_rfl)) (.no (.no (.no .nil))) q (.inr q))
  ·replace h:=cndF hb14 h
   refine W.sk<|Px.sq ?_
   refine W.sq'<|W.rx [(0,_),(1,_),(2,_),(7,_),(8,_),(9,_),(10,_)] (Vk q<|Fi (tn7 q q q q q q q)) ?_
   refine Px.sq<|W.sq' ?_
   refine W.sq' ?_
   obtain ⟨c16,hj,h⟩:=bnd h
   refine W.rx [(0,SS x3),(1,iR eI x4),(2,iR eI x5),(7,SS x6),(8,SS x7),(9,SS ({ data:=#[118,97,114,32,32,61,32,91,93,105,110,116,123] })),(10,SS ({ data:=#[44,32] })),(57,BB c16)] ?_ ?_
   ·refine Rv (O.mv (.imm q))<|Rv (O.lenI (.imm q) sl22)<|Rv (O.eql (.lit q) (.k q))<|Rv (O.mv (.lit q)) ?_
    rcases cnd hj with ⟨hb15,hj⟩ | ⟨hb15,hj⟩
    ·obtain rfl:=sm hj
     exact RunL.ps q q hb15 q q<|RunL.ps q q hb15 q q<|RunL.ps q q hb15 q q<|Rv (O.pkT (.lit q) hb15 (.k q))<|Fi (tn8 q q q q q q q q)
    ·obtain rfl:=sm hj
     exact RunL.v (O.mv (.imm q)) q q (.yb q q hb15)<|RunL.v (O.lenI (.imm q) sl22) q q (.yb q q hb15)<|RunL.v (O.eql (.lit q) (.k q)) q q (.yb q q hb15)<|Rv (O.pkF (.lit q) hb15 (.lit q))<|Fi (tn8 q q q q q q q q)
   refine Px.sq ?_
   obtain ⟨j17,hj,h⟩:=bnd h
   refine W.jn [(0,SS x3),(1,iR eI x4),(2,iR eI x5),(7,SS x6),(8,SS x7),(9,SS ({ data:=#[118,97,114,32,32,61,32,91,93,105,110,116,123] })),(10,SS j17)] ?_ ?_
   ·clear h; have h:=hj; clear hj
    refine W.cnd q (fun hb18=>?_) (fun hb18=>?_)
    ·replace h:=cndT hb18 h
     refine W.rx [(0,_),(1,_),(2,_),(7,_),(8,_),(9,_),(10,_)] (RunL.re (G1:=[(0,_),(1,_),(2,_),(7,_),(8,_),(9,_)]) (tn6 q q q q q q)<|Vk q<|Fi (tn7 q q q q q q q)) ?_
     obtain rfl:=sm h
     exact Px.jn (tn7 q q q q q q q)
    ·replace h:=cndF hb18 h
     refine W.sk ?_
     obtain rfl:=sm h
     exact Px.jn (tn7 q q q q q q q)
   refine Px.sq<|W.sq' ?_
   obtain ⟨x19,hx19,h⟩:=bnd h
   obtain ⟨x20,hx20,h⟩:=bnd h
   obtain ⟨x21,hx21,h⟩:=bnd h
   obtain ⟨x22,hx22,h⟩:=bnd h
   obtain ⟨x23,hx23,h⟩:=bnd h
   obtain ⟨x24,hx24,h⟩:=bnd h
   obtain ⟨x25,hx25,h⟩:=bnd h
   refine W.rd [[],[],[],[1,2],[],[1,2,3,4],rn 0 6 [],[],[],[8],[8,9],[7,8,9,10],[],rn 7 6 [],[],[],[15],[14,15,16],rn 7 11 [],rn 0 19 [],rn 0 20 []] [(6,_)] mixo (by kernel_rfl) (Dv 0 (O.mv (.lit q))<|Dv 1 (O.bs (ys:=[]) eI ([]:List Int) sl22 q q q q q q zt3 q q)<|Dv 2 (O.mv (.imm q))<|Dv 3 (O.ap (en:=eI) (r:=x19) (.own q) q (.imm q) .i ap22 q hx19)<|Dv 4 (O.mv (.imm q))<|Dv 5 (O.ap2 (en:=eI) (r:=x20) (.pend q) q q (.imm q) .i ap22 q hx20)<|Dc 6 (PC.vw (ys:=[SS x3,.brw eI.z ⟨63,[]⟩ (([]:List Int).length+x4.length+x5.length)]) q (.s (.c (View.pd2 (e:=eI) (L:=([]:List Int)) (M2:=x4) (M:=x5) q q q) .nil)) (CF.go hx21) call11 q)<|Dv 7 (O.mv (.lit q))<|Dv 8 (O.mv (.lit q))<|Dv 9 (O.lenS (.lit q) st9)<|Dv 10 (O.sub (.lit q) (.k q))<|Dv 11 (O.sl0 (.lit q) (.lit q) st9 hx22)<|Dv 12 (O.mv (.lit q))<|Dv 13 (O.cat (.lit q) (.lit q) hx23)<|Dv 14 (O.mv (.lit q))<|Dv 15 (O.mv (.lit q))<|Dv 16 (O.lenS (.lit q) st9)<|Dv 17 (O.sl1 (.lit q) (.lit q) st9 hx24)<|Dv 18 (O.cat (.lit q) (.lit q) hx25)<|Dv 19 (O.eqS (.lit q) (.lit q))<|Dv 20 (O.az (.lit q))<|DL.fin q q q (.n q .nil)) ?_
   refine Px.sq<|W.rt ?_
   obtain rfl:=sm h
   exact Px.fin (Fin.ro (.f q q .nil) q (ode (by kernel_rfl)) (.no (.no (.no .nil))) q (.inr q))
instance con4 {a0:ByteArray}{a1:(List Int)}{a2:(List Int)}{r:Bool}:CF Tryz.prog 4 (pf4 a0 a1 a2=some r) [SS a0,iR eI a1,iR eI a2] [none,none,none] (BB r):=⟨con4l a0 a1 a2 _⟩
end Go.Proofs
namespace Go.Own
open Go Go.ChangeShapes Go.WideShapes Go.ChangeAt Go.RowKit
variable {H:Type}{enc:TypeId × Value->H}{P:Program}
theorem post_old {f:Func}{s:ChangeSpec}{apart fresh handsOn again:Bool}{W W':World}{args:Array Value}{v:Value}{ds gs:List (DataW H)}{before pa pv:List MemPlace}
  (hW:DataW.Whole enc P f.params.toList s.vars apart W args.toList ds gs before) (hk:Kp W W') (hps:before=pa++pv)
  (hres:∀ (b:Nat) (sp:Nat->Bool) (hd:Bool),DataW.TrodAll enc P W' b sp hd f.resultTypes.toList (v.resultList f.resultTypes.size) (s.fn H (ds++gs)).results [])
  (hargs:∀ sp:Nat->Bool,(∀ p∈before,sp p.block=true)->DataW.TrodAll enc P W' 0 sp true f.params.toList args.toList (s.fn H (ds++gs)).args pa)
  (hvars:∀ sp:Nat->Bool,(∀ p∈before,sp p.block=true)->DataW.TrodVars enc P W' sp s.vars (s.fn H (ds++gs)).vars pv)
  (hok:∀ (j:Nat) (t:TypeId) (r:Value),f.resultTypes[j]?=some t->(v.resultList f.resultTypes.size)[j]?=some r->Value.okWide P W' .any 0 t r) :
  s.post enc P f apart fresh handsOn again W args v W':=by
 subst hps
 have hlt:∀ p∈pa++pv,p.block<W.heap.size:=fun p hp=>hW.lt p hp
 have hsp:∀ p∈pa++pv,(fun b=>decide (b<W.heap.size)) p.block=true:=fun p hp=>decide_eq_true (hlt p hp)
 have hWh:=hW
 obtain ⟨_,_,_,_,_,hz,hn⟩:=hWh
 have ht:=trodAll_append (hargs (fun _=>true) (fun _ _=>rfl)) (hres 0 (fun _=>true) true)
 refine ⟨ds,gs,pa++pv,[],pa,pv,hW,hres _ _ _,hargs _ hsp,hvars _ hsp,hk.kept _,fun _=>⟨hok,_,_,pa++pv,⟨_,pv,ht,hvars _ (fun _ _=>rfl),rfl,fun b off hp=>?_,hn⟩,fun p hp _=>hp⟩⟩
 rw [hk.fz _ (hlt _ hp)]
 exact hz b off hp
end Go.Own
namespace Go.Proofs
open Go Go.Own
set_option maxRecDepth 100000
theorem uI:Tryz.prog.underlying 3=some (.int .i64):=by kernel_rfl
theorem uS:Tryz.prog.underlying 9=some .string:=by kernel_rfl
def okI (n:Int):Prop:=(Lit.int .i64 n).wf=true
def okS (s:ByteArray):Prop:=s.size<=maxLen
def okL {α:Type}(p:α->Prop) (l:List α):Prop:=l.length<=maxLen/\∀ x∈l,p x
theorem aI:Ar Tryz.prog eI 3 okI:=.int uI (by kernel_rfl) fun _=>rfl
theorem aS:Ar Tryz.prog eS 9 okS:=.str uS (by kernel_rfl) fun _=>rfl
theorem uLI:Tryz.prog.underlying 22=some (.slice 3):=by kernel_rfl
theorem aLI:Ar Tryz.prog (eM eI) 22 (okL okI):=aI.slice (t:=22) uLI (by kernel_rfl) (by decide)
theorem okI.le {n:Int}(h:okI n):-9223372036854775808<=n/\n<=9223372036854775807:=by
 have h:IntKind.min .i64<=n/\n<=IntKind.max .i64:=by simpa [okI,Lit.wf] using h
 simpa [IntKind.min,IntKind.max,IntKind.signed,IntKind.bits] using h
theorem pLaid:laidOutB Tryz.prog=true:=by kernel_rfl
theorem pMaps:mapsRowed Tryz.prog=true:=by kernel_rfl
theorem pFull:((List.range Tryz.prog.types.size).all fun t=>match Tryz.prog.underlying t with | some (.slice e)=>decide (0<Tryz.prog.cellsOf e) | _=>true)=true:=by kernel_rfl
end Go.Proofs
