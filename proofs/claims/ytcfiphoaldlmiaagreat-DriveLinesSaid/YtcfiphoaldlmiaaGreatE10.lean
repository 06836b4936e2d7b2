/- Parts of the proof that the last text states. -/
import Derived.Test.YtcfiphoaldlmiaaGreatRows
import Derived.Test.YtcfiphoaldlmiaaGreatE9
namespace Go.Proofs
open Go Go.Own
set_option maxRecDepth 100000
set_option maxHeartbeats 4000000
set_option synthInstance.maxHeartbeats 1000000
set_option synthInstance.maxSize 10000
set_option linter.unusedVariables false
instance con31 {a0:drive_driver}{r:drive_driver}:CF Tryz.prog 31 (pf31 a0=some r) [.obj (edrive_driver_r.cells a0)] [some (.obj [iR eI r.f_t.Def,iR eI r.f_t.Acts.Base,iR eI r.f_t.Acts.Val,iR eI r.f_t.Acts.Chk,iR eI r.f_t.GoDef,iR eI r.f_t.Gos.Base,iR eI r.f_t.Gos.Val,iR eI r.f_t.Gos.Chk,iR eI r.f_t.Left,iR eI r.f_t.Len,iR ePair r.f_t.Nums,oR eI r.f_toks,I64 r.f_depth,I64 r.f_steps,oR eI r.f_stack,oR eNode r.f_nodes,I64 r.f_flag,I64 r.f_p.Kind,I64 r.f_p.At,I64 r.f_p.Steps,I64 r.f_p.Deep,oR eI r.f_p.Prods,oR eUpset r.f_p.Upsets,oR eI r.f_p.Lost,I64 r.f_p.Tree.Sym,I64 r.f_p.Tree.Prod,I64 r.f_p.Tree.At,rI 4 r.f_p.Tree.Kids])] (.tup []):=⟨con31l a0 _⟩
theorem con15l (a0:drive_driver) (r:drive_driver) (h:pf15 a0=some r):Con Tryz.prog 15 [.obj (edrive_driver_r.cells a0)] [some (.obj [iR eI r.f_t.Def,iR eI r.f_t.Acts.Base,iR eI r.f_t.Acts.Val,iR eI r.f_t.Acts.Chk,iR eI r.f_t.GoDef,iR eI r.f_t.Gos.Base,iR eI r.f_t.Gos.Val,iR eI r.f_t.Gos.Chk,iR eI r.f_t.Left,iR eI r.f_t.Len,iR ePair r.f_t.Nums,oR eI r.f_toks,I64 r.f_depth,I64 r.f_steps,oR eI r.f_stack,oR eNode r.f_nodes,I64 r.f_flag,I64 r.f_p.Kind,I64 r.f_p.At,I64 r.f_p.Steps,I64 r.f_p.Deep,oR eI r.f_p.Prods,oR eUpset r.f_p.Upsets,oR eI r.f_p.Lost,I64 r.f_p.Tree.Sym,I64 r.f_p.Tree.Prod,I64 r.f_p.Tree.At,rI 4 r.f_p.Tree.Kids])] (.tup []):=by
 unfold pf15 at h
 refine Con.go (N:=⟨67,[0]⟩) Tryz.func15 q q q q (W.fin ?_)
 refine W.st [(0,.obj (edrive_driver_r.cells a0))] ?_
 refine bd h fun x1 hx1 h=>bd h fun x2 hx2 h=>W.rq [0,2] (Rv (O.mv .z4)<|Rv (O.mv .z4)<|Rc (PC.vz (ys:=[.ptr ⟨0,[]⟩ 0]) q (.c (View.p0 q q) .nil) (CF.go hx1))<|Rc (PC.vz (ys:=[.ptr ⟨0,[]⟩ 0,I64 x1]) q (.c (View.p0 q q) (.s .nil)) (CF.go hx2))<|Rv (O.al (cs:=[I64 0,I64 0]) ze96 q q)<|RunL.f' (EO.sva [0,2])<|Fk q) ?_
 refine W.aq [0,2,8] ?_
 refine bd h fun j3 hj h=>W.jq [0] [(0,.obj (edrive_driver_r.cells j3))] ?_ ?_
 ·clear h; have h:=hj; clear hj
  refine W.bk<|W.aq [0,2,8,11] ?_
  refine bd h fun j4 hj h=>W.jq [0] [(0,.obj (edrive_driver_r.cells j4))] ?_ ?_
  ·clear h; have h:=hj; clear hj
   refine W.ch h q (fun hb5 h=>?_) (fun hb5 h=>?_)
   ·refine W.sq'<|bd h fun x6 hx6 h=>bd h fun x7 hx7 h=>bd h fun x8 hx8 h=>W.rd [[],[],[1],[],[],[4],[3,4,5],rn 0 7 []] [(0,_),(20,_)] mixo (by kernel_rfl) (Dv 0 (O.mv .z4)<|Dv 1 O.y1<|Dv 2 O.y3<|Dv 3 (O.mv .z4)<|Dv 4 (O.mv .z4)<|Dc 5 (PC.vz (ys:=[.ptr ⟨0,[]⟩ 0]) q (.c (View.p0 q q) .nil) (CF.go hx6))<|Dc 6 (PC.vz (ys:=[.ptr ⟨0,[]⟩ 0,I64 x6]) (hr:=oo29 hx7) q (.c (View.p0 q q) (.s .nil)) (CF.go hx7))<|DL.bpz 7 (G2:=[(20,BB x8.1),(0,.obj (edrive_driver_r.cells x8.2))]) (EO.call q q (CallOk.ln (G2:=[]) (A:=[]) (ys:=[.ptr ⟨0,[]⟩ 0,I64 x2.N,I64 0,.agg (eNode.cells x7)]) (args:=[.obj (edrive_driver_r.cells a0),I64 x2.N,I64 0,.agg (eNode.cells x7)]) (cs':=edrive_driver_r.cells x8.2) (k0:=0) q q q q (.b q (.n q (.n q (.n q .nil)))) q (CF.go hx8) call28 .nil q q .nil .nil q))<|DL.fin q q q (tn2 q q)) ?_
    refine Px.sq<|bd h fun j9 hj h=>W.jq [0] [(0,.obj [iR eI x8.2.f_t.Def,iR eI x8.2.f_t.Acts.Base,iR eI x8.2.f_t.Acts.Val,iR eI x8.2.f_t.Acts.Chk,iR eI x8.2.f_t.GoDef,iR eI x8.2.f_t.Gos.Base,iR eI x8.2.f_t.Gos.Val,iR eI x8.2.f_t.Gos.Chk,iR eI x8.2.f_t.Left,iR eI x8.2.f_t.Len,iR ePair x8.2.f_t.Nums,oR eI x8.2.f_toks,I64 x8.2.f_depth,I64 x8.2.f_steps,oR eI x8.2.f_stack,oR eNode x8.2.f_nodes,I64 j9.1,I64 x8.2.f_p.Kind,I64 j9.2,I64 x8.2.f_p.Steps,I64 x8.2.f_p.Deep,oR eI x8.2.f_p.Prods,oR eUpset x8.2.f_p.Upsets,oR eI x8.2.f_p.Lost,I64 x8.2.f_p.Tree.Sym,I64 x8.2.f_p.Tree.Prod,I64 x8.2.f_p.Tree.At,rI 4 x8.2.f_p.Tree.Kids])] ?_ ?_
    ·clear h; have h:=hj; clear hj
     refine W.ch h q (fun hb10 h=>?_) (fun hb10 h=>?_)
     ·refine W.rq [0] (Rv (O.mv .z4)<|Rv (O.nlP .z5)<|Rv O.y2<|Rv O.y2<|Rv O.y3<|Rv (O.add .z1 .z8)<|Rv (O.nlP .z5)<|Rv O.y2<|Rv O.y2<|RunL.f' (EO.sv1 [0])<|Fk q) ?_
      refine W.rk [0] (Rv (O.mv .z4)<|Rv (O.mv .z4)<|Rv (O.nlP .z5)<|Rv O.y2<|Rv O.y3<|Rv (O.sub .z1 .z8)<|Rv (O.max' .z1 .z8)<|Rv (O.nlP .z5)<|Rv O.y2<|RunL.f' (EO.sv1 [0])<|Fk q) ?_
      exact sm h ▸ Px.jt
     ·exact W.sk<|sm h ▸ Px.jt
    exact sm h ▸ Px.jt
   ·refine W.aq [0,2,8,39] ?_
    refine bd h fun j11 hj h=>W.jq [0] [(0,.obj (edrive_driver_r.cells j11))] ?_ ?_
    ·clear h; have h:=hj; clear hj
     refine W.ch h q (fun hb12 h=>?_) (fun hb12 h=>?_)
     ·refine bd h fun x13 hx13 h=>W.rk [0] (Rv (O.mv .z4)<|Rv O.y1<|Rv O.y3<|RunL.ef q (EO.call q q (CallOk.ln (G2:=[]) (A:=[]) (ys:=[.ptr ⟨0,[]⟩ 0,I64 x2.N]) (args:=[.obj (edrive_driver_r.cells a0),I64 x2.N]) (cs':=edrive_driver_r.cells x13) (k0:=0) q q q q (.b q (.n q .nil)) q (CF.go hx13) call30 .nil q q .nil .nil q))<|Fk q) ?_
      exact sm h ▸ Px.jt
     ·refine W.aq [0,45] ?_
      refine bd h fun j14 hj h=>W.jq [0] [(0,.obj (edrive_driver_r.cells j14))] ?_ ?_
      ·clear h; have h:=hj; clear hj
       refine W.ch h q (fun hb15 h=>?_) (fun hb15 h=>?_)
       ·refine bd h fun x16 hx16 h=>W.rd [[],[],[],[2],[2,3],[2,3,4],[],[6],[6,7],[6,7,8],[6,7,8,9],rn 6 5 [],rn 2 10 [],rn 2 11 [],(0::rn 2 12 []),(0::rn 2 13 []),(0::rn 2 14 []),(0::rn 2 15 []),rn 0 18 [],rn 0 19 [],rn 0 20 [],rn 0 21 []] [(0,_)] mixo (by kernel_rfl) (Dv 0 (O.mv .z4)<|Dv 1 (O.mv .z4)<|Dv 2 (O.mv .z4)<|Dv 3 (O.nlP .z5)<|Dv 4 O.y2<|Dv 5 (O.y5 (y:=.brw eNode.z ⟨0,[15]⟩ a0.f_nodes.length))<|Dv 6 (O.mv .z4)<|Dv 7 (O.nlP .z5)<|Dv 8 O.y2<|Dv 9 (O.y5 (y:=.brw eNode.z ⟨0,[15]⟩ a0.f_nodes.length))<|Dv 10 (O.lenO .z6 sl39)<|Dv 11 (O.sub .z1 .z8)<|Dv 12 (O.ixO (en:=eNode) q .z6 .z1 sl39 hx16 q)<|Dv 13 (O.ldEN (en:=eNode) (cs':=eNode.cells x16) q .z5 at41 hx16 q q)<|Dv 14 (O.nlP .z5)<|Dv 15 O.y2<|Dv 16 O.y2<|DL.bu 17 (G2:=[(0,.obj [iR eI a0.f_t.Def,iR eI a0.f_t.Acts.Base,iR eI a0.f_t.Acts.Val,iR eI a0.f_t.Acts.Chk,iR eI a0.f_t.GoDef,iR eI a0.f_t.Gos.Base,iR eI a0.f_t.Gos.Val,iR eI a0.f_t.Gos.Chk,iR eI a0.f_t.Left,iR eI a0.f_t.Len,iR ePair a0.f_t.Nums,oR eI a0.f_toks,I64 a0.f_depth,I64 a0.f_steps,oR eI a0.f_stack,oR eNode a0.f_nodes,I64 a0.f_flag,I64 1,I64 a0.f_p.At,I64 a0.f_p.Steps,I64 a0.f_p.Deep,oR eI a0.f_p.Prods,oR eUpset a0.f_p.Upsets,oR eI a0.f_p.Lost,I64 a0.f_p.Tree.Sym,I64 a0.f_p.Tree.Prod,I64 a0.f_p.Tree.At,rI 4 a0.f_p.Tree.Kids]),(60,.agg (eNode.cells x16))]) (U:=[(1,48,some (.ptr ⟨0,[]⟩ 0))]) (EffOk.v (EO.eff (EO.sO (G2:=[(0,.obj [iR eI a0.f_t.Def,iR eI a0.f_t.Acts.Base,iR eI a0.f_t.Acts.Val,iR eI a0.f_t.Acts.Chk,iR eI a0.f_t.GoDef,iR eI a0.f_t.Gos.Base,iR eI a0.f_t.Gos.Val,iR eI a0.f_t.Gos.Chk,iR eI a0.f_t.Left,iR eI a0.f_t.Len,iR ePair a0.f_t.Nums,oR eI a0.f_toks,I64 a0.f_depth,I64 a0.f_steps,oR eI a0.f_stack,oR eNode a0.f_nodes,I64 a0.f_flag,I64 1,I64 a0.f_p.At,I64 a0.f_p.Steps,I64 a0.f_p.Deep,oR eI a0.f_p.Prods,oR eUpset a0.f_p.Upsets,oR eI a0.f_p.Lost,I64 a0.f_p.Tree.Sym,I64 a0.f_p.Tree.Prod,I64 a0.f_p.Tree.At,rI 4 a0.f_p.Tree.Kids]),(60,.agg (eNode.cells x16))]) (cs2:=[iR eI a0.f_t.Def,iR eI a0.f_t.Acts.Base,iR eI a0.f_t.Acts.Val,iR eI a0.f_t.Acts.Chk,iR eI a0.f_t.GoDef,iR eI a0.f_t.Gos.Base,iR eI a0.f_t.Gos.Val,iR eI a0.f_t.Gos.Chk,iR eI a0.f_t.Left,iR eI a0.f_t.Len,iR ePair a0.f_t.Nums,oR eI a0.f_toks,I64 a0.f_depth,I64 a0.f_steps,oR eI a0.f_stack,oR eNode a0.f_nodes,I64 a0.f_flag,I64 1,I64 a0.f_p.At,I64 a0.f_p.Steps,I64 a0.f_p.Deep,oR eI a0.f_p.Prods,oR eUpset a0.f_p.Upsets,oR eI a0.f_p.Lost,I64 a0.f_p.Tree.Sym,I64 a0.f_p.Tree.Prod,I64 a0.f_p.Tree.At,rI 4 a0.f_p.Tree.Kids]) q q q (.ptr q) (.k q) q sz3 q q q q (.b q (.n q q .nil))))) q q (by kernel_rfl) q q q (.c (.inr (.inr (.inr (.inl ⟨0,_,_,q,q,of_blt q,by simp,_,q,of_blt q⟩)))) q q q q q (Gd.wanted .none) (O.mv .z4) .nil) (by kernel_rfl)<|Dv 18 (O.nlP .z5)<|Dv 19 O.y2<|Dv 20 O.y2<|DL.bpz 21 (EO.sva [0])<|DL.fin q q q (.n q .nil)) ?_
        exact sm h ▸ Px.jt
       ·refine bd h fun x17 hx17 h=>W.rk [0] (Rv (O.mv .z4)<|RunL.ef q (EO.call q q (CallOk.ln (G2:=[]) (A:=[]) (ys:=[.ptr ⟨0,[]⟩ 0]) (args:=[.obj (edrive_driver_r.cells a0)]) (cs':=edrive_driver_r.cells x17) (k0:=0) q q q q (.b q .nil) q (CF.go hx17) call31 .nil q q .nil .nil q))<|Fk q) ?_
        exact sm h ▸ Px.jt
      exact sm h ▸ Px.jt
    exact sm h ▸ Px.jt
  exact Px.bk<|sm h ▸ Px.jt
 exact sm h ▸ Px.fin (Fin.ro .nil q (ode (by kernel_rfl)) (.so q q .nil) q (.inl q))
instance con15 {a0:drive_driver}{r:drive_driver}:CF Tryz.prog 15 (pf15 a0=some r) [.obj (edrive_driver_r.cells a0)] [some (.obj [iR eI r.f_t.Def,iR eI r.f_t.Acts.Base,iR eI r.f_t.Acts.Val,iR eI r.f_t.Acts.Chk,iR eI r.f_t.GoDef,iR eI r.f_t.Gos.Base,iR eI r.f_t.Gos.Val,iR eI r.f_t.Gos.Chk,iR eI r.f_t.Left,iR eI r.f_t.Len,iR ePair r.f_t.Nums,oR eI r.f_toks,I64 r.f_depth,I64 r.f_steps,oR eI r.f_stack,oR eNode r.f_nodes,I64 r.f_flag,I64 r.f_p.Kind,I64 r.f_p.At,I64 r.f_p.Steps,I64 r.f_p.Deep,oR eI r.f_p.Prods,oR eUpset r.f_p.Upsets,oR eI r.f_p.Lost,I64 r.f_p.Tree.Sym,I64 r.f_p.Tree.Prod,I64 r.f_p.Tree.At,rI 4 r.f_p.Tree.Kids])] (.tup []):=⟨con15l a0 _⟩
theorem con7l (a0:Tables) (a1:(List Int)) (a2:Int) (a3:Int) (r:Parse) (h:pf7 a0 a1 a2 a3=some r):Con Tryz.prog 7 [.agg (eTables_0.cells a0),iR eI a1,I64 a2,I64 a3] [none,none,none,none] (.agg (eParse_0.cells r)):=by
 unfold pf7 at h
 refine Con.go (N:=⟨62,[]⟩) Tryz.func7 q q q q (W.fin ?_)
 refine W.st [(0,.agg (eTables_0.cells a0)),(1,iR eI a1),(2,I64 a2),(3,I64 a3)] ?_
 refine W.sq'<|W.rx [(1,_),(2,_),(3,_),(4,_),(8,_)] (Rv (O.box (.aggF q q) q)<|Rv (O.al (cs:=[I64 0,I64 0,I64 0,I64 0,.nils,.nils,.nils,I64 0,I64 0,I64 0,.nils]) ze43 q q)<|Fi (tn5 q q q q q)) ?_
 refine Px.sq<|W.sq' ?_
 refine W.rx [(1,_),(2,_),(3,_),(4,_),(8,_),(9,_)] (Rv (O.ldON (cs':=[iR eI a0.Def,iR eI a0.Acts.Base,iR eI a0.Acts.Val,iR eI a0.Acts.Chk,iR eI a0.GoDef,iR eI a0.Gos.Base,iR eI a0.Gos.Val,iR eI a0.Gos.Chk,iR eI a0.Left,iR eI a0.Len,iR ePair a0.Nums]) q (.obj q) at49 q q)<|Rv (O.bsL (ys:=[I64 0]) (cs:=[I64 0]) sl22 q q q q q zt3 q q)<|Rv (O.bu (cs:=[iR eI a0.Def,iR eI a0.Acts.Base,iR eI a0.Acts.Val,iR eI a0.Acts.Chk,iR eI a0.GoDef,iR eI a0.Gos.Base,iR eI a0.Gos.Val,iR eI a0.Gos.Chk,iR eI a0.Left,iR eI a0.Len,iR ePair a0.Nums,.nils,I64 0,I64 0,.brw 1 ⟨13,[]⟩ 1,.nils,I64 0,I64 0,I64 0,I64 0,I64 0,.nils,.nils,.nils,I64 0,I64 0,I64 0,.nils]) sc73 ze73 q q q)<|Rv (O.box (.aggF q q) q)<|RunL.ea (G2:=[(1,iR eI a1),(2,I64 a2),(3,I64 a3),(4,.obj (eTables_0.cells a0)),(8,.obj [I64 0,I64 0,I64 0,I64 0,.nils,.nils,.nils,I64 0,I64 0,I64 0,.nils])]) q (EO.aG (y':=.obj [iR eI a0.Def,iR eI a0.Acts.Base,iR eI a0.Acts.Val,iR eI a0.Acts.Chk,iR eI a0.GoDef,iR eI a0.Gos.Base,iR eI a0.Gos.Val,iR eI a0.Gos.Chk,iR eI a0.Left,iR eI a0.Len,iR ePair a0.Nums,.nils,I64 0,I64 0,oR eI [0],.nils,I64 0,I64 0,I64 0,I64 0,I64 0,.nils,.nils,.nils,I64 0,I64 0,I64 0,.nils]) q q (.obj q) (.b q (.f (.f (.f (.f (.f (.f (.f (.f (.f (.f (.f (.f (.f (.f (.l q q (.f .nil) (.f (.f (.f (.f (.f (.f (.f (.f (.f (.f (.f (.f (.f .nil)))))))))))))))))))))))))))) .nil) .refl (tn5 q q q q q) q q)<|Fi (tn6 q q q q q q)) ?_
 refine Px.sq<|W.sq' ?_
 refine W.rx [(1,_),(4,_),(8,_),(9,_)] (Rv (O.mv (.obj q))<|Rv (O.mv (.obj q))<|Vm q<|Rv (O.max' (.lit q) (.k q))<|Rv (O.min' (.lit q) (.k q))<|Vm q<|Rv (O.max' (.lit q) (.k q))<|Rv (O.min' (.lit q) (.k q))<|Rv (O.nlP (.ptr q))<|Rv (O.fO q (.ptr q) fd73_2 q)<|RunL.sO (G2:=[(1,_),(4,_),(8,_),(9,_),(17,.ptr ⟨9,[]⟩ 0),(23,_)]) (cs2:=[iR eI a0.Def,iR eI a0.Acts.Base,iR eI a0.Acts.Val,iR eI a0.Acts.Chk,iR eI a0.GoDef,iR eI a0.Gos.Base,iR eI a0.Gos.Val,iR eI a0.Gos.Chk,iR eI a0.Left,iR eI a0.Len,iR ePair a0.Nums,.nils,I64 (min (max a2 0) 100000),I64 0,oR eI [0],.nils,I64 0,I64 0,I64 0,I64 0,I64 0,.nils,.nils,.nils,I64 0,I64 0,I64 0,.nils]) q (.ptr q) (.lit q) q sz3 q q q q (.n q q (.n q q (.n q q (.b q (.p q q q q q q (.n q q .nil))))))<|Rv (O.nlP (.ptr q))<|Rv (O.fO q (.ptr q) fd73_3 q)<|RunL.sO (G2:=[(1,_),(4,_),(8,_),(9,_)]) (cs2:=[iR eI a0.Def,iR eI a0.Acts.Base,iR eI a0.Acts.Val,iR eI a0.Acts.Chk,iR eI a0.GoDef,iR eI a0.Gos.Base,iR eI a0.Gos.Val,iR eI a0.Gos.Chk,iR eI a0.Left,iR eI a0.Len,iR ePair a0.Nums,.nils,I64 (min (max a2 0) 100000),I64 (min (max a3 0) 1000000),oR eI [0],.nils,I64 0,I64 0,I64 0,I64 0,I64 0,.nils,.nils,.nils,I64 0,I64 0,I64 0,.nils]) q (.ptr q) (.lit q) q sz3 q q q q (.n q q (.n q q (.n q q (.b q .nil))))<|Fi (tn4 q q q q)) ?_
 refine Px.sq<|W.sq' ?_
 refine W.sq'<|W.rx [(4,_),(8,_),(9,_),(28,_),(29,_),(30,_)] (Rv (O.mv (.imm q))<|Rv (O.lenI (.imm q) sl22)<|Rv (O.mv (.k q))<|Fi (tn6 q q q q q q)) ?_
 refine Px.sq ?_
 obtain ⟨j1,hj,h⟩:=bnd h
 refine W.jn [(8,.obj [I64 0,I64 0,I64 0,I64 0,.nils,.nils,.nils,I64 0,I64 0,I64 0,.nils]),(9,.obj [iR eI a0.Def,iR eI a0.Acts.Base,iR eI a0.Acts.Val,iR eI a0.Acts.Chk,iR eI a0.GoDef,iR eI a0.Gos.Base,iR eI a0.Gos.Val,iR eI a0.Gos.Chk,iR eI a0.Left,iR eI a0.Len,iR ePair a0.Nums,oR eI j1,I64 (min (max a2 0) 100000),I64 (min (max a3 0) 1000000),oR eI [0],.nils,I64 0,I64 0,I64 0,I64 0,I64 0,.nils,.nils,.nils,I64 0,I64 0,I64 0,.nils])] ?_ ?_
 ·clear h; have h:=hj; clear hj
  refine W.bk ?_
  obtain ⟨x3,hl,h⟩:=bnd h
  refine W.tr (G1:=[(4,_),(8,_),(9,.obj [iR eI a0.Def,iR eI a0.Acts.Base,iR eI a0.Acts.Val,iR eI a0.Acts.Chk,iR eI a0.GoDef,iR eI a0.Gos.Base,iR eI a0.Gos.Val,iR eI a0.Gos.Chk,iR eI a0.Left,iR eI a0.Len,iR ePair a0.Nums,oR eI ([]:List Int),I64 (min (max a2 0) 100000),I64 (min (max a3 0) 1000000),oR eI [0],.nils,I64 0,I64 0,I64 0,I64 0,I64 0,.nils,.nils,.nils,I64 0,I64 0,I64 0,.nils]),(28,_),(29,_),(30,_)]) (.n q (.n q (.w q q (WkL.obj (.f (.f (.f (.f (.f (.f (.f (.f (.f (.f (.f (.o (.f (.f (.f (.f (.f (.f (.f (.f (.f (.f (.f (.f (.f (.f (.f (.f .nil))))))))))))))))))))))))))))) (tn3 q q q)))) ?_
  refine W.lp1 (s:=(([]:List Int),0)) (fun (s2:List Int × Int)=>[(4,.obj (eTables_0.cells a0)),(8,.obj [I64 0,I64 0,I64 0,I64 0,.nils,.nils,.nils,I64 0,I64 0,I64 0,.nils]),(9,.obj [iR eI a0.Def,iR eI a0.Acts.Base,iR eI a0.Acts.Val,iR eI a0.Acts.Chk,iR eI a0.GoDef,iR eI a0.Gos.Base,iR eI a0.Gos.Val,iR eI a0.Gos.Chk,iR eI a0.Left,iR eI a0.Len,iR ePair a0.Nums,oR eI s2.1,I64 (min (max a2 0) 100000),I64 (min (max a3 0) 1000000),oR eI [0],.nils,I64 0,I64 0,I64 0,I64 0,I64 0,.nils,.nils,.nils,I64 0,I64 0,I64 0,.nils]),(28,iR eI a1),(29,I64 (a1.length:Int)),(30,I64 s2.2)]) 0 (fun (x3:List Int)=>[(8,.obj [I64 0,I64 0,I64 0,I64 0,.nils,.nils,.nils,I64 0,I64 0,I64 0,.nils]),(9,.obj [iR eI a0.Def,iR eI a0.Acts.Base,iR eI a0.Acts.Val,iR eI a0.Acts.Chk,iR eI a0.GoDef,iR eI a0.Gos.Base,iR eI a0.Gos.Val,iR eI a0.Gos.Chk,iR eI a0.Left,iR eI a0.Len,iR ePair a0.Nums,oR eI x3,I64 (min (max a2 0) 100000),I64 (min (max a3 0) 1000000),oR eI [0],.nils,I64 0,I64 0,I64 0,I64 0,I64 0,.nils,.nils,.nils,I64 0,I64 0,I64 0,.nils])]) hl (fun s2 o h=>?_) ?_
  ·clear hl
   refine W.sq'<|W.ax [(4,_),(8,_),(9,_),(28,_),(29,_),(30,_),(31,_)] ?_
   refine Px.sq<|W.sq' ?_
   refine W.cnd q (fun hb5=>?_) (fun hb5=>?_)
   ·replace h:=cndT hb5 h
    refine W.sk<|Px.sq ?_
    refine W.sq'<|W.bk ?_
    refine W.sq' ?_
    obtain ⟨x6,hx6,h⟩:=bnd h
    refine W.ax [(4,_),(8,_),(9,_),(11,_),(28,_),(29,_),(30,_)] ?_
    refine Px.sq<|W.sq' ?_
    refine W.sq'<|W.ax [(4,_),(8,_),(9,_),(11,_),(28,_),(29,_),(30,_),(35,_)] ?_
    refine Px.sq<|W.cnd q (fun hb7=>?_) (fun hb7=>?_)
    ·replace h:=cndT hb7 h
     refine W.xi ?_
     refine Px.sqE ?_
     refine Px.bkM q ?_
     refine Px.sqE ?_
     obtain rfl:=sm h
     exact Px.x1 (tn2 q q)
    ·replace h:=cndF hb7 h
     refine W.sk<|Px.sq ?_
     obtain ⟨x8,hx8,h⟩:=bnd h
     obtain ⟨x9,hx9,h⟩:=bnd h
     refine W.rd [[],[],[1],[1,2],[1,2,3],[],[5],[],[5,6,7],[5,6,7,8],rn 1 9 [],rn 0 11 [],rn 0 12 [],rn 0 13 []] [(4,_),(8,_),(9,_),(28,_),(29,_),(30,_)] mixo (by kernel_rfl) (Dv 0 (O.mv (.obj q))<|Dv 1 (O.mv (.obj q))<|Dv 2 (O.nlP (.ptr q))<|Dv 3 (O.fO q (.ptr q) fd73_1 q)<|Dv 4 (O.ldO (y:=.brw eI.z ⟨9,[11]⟩ s2.1.length) q (.ptr q) ct22 q q)<|Dv 5 (O.fO q (.obj q) fd49_6 q)<|Dv 6 (O.ldO (y:=iR ePair a0.Nums) q (.ptr q) ct47 q q)<|Dv 7 (O.mv (.lit q))<|Dc 8 (PC.go (.cc (.imm q) (.cc (.lit q) .nil)) (CF.go hx8) call14 q)<|DL.vi 9 (x:=iR eI [x8]) (O.bs (ys:=[I64 x8]) eI [x8] sl22 q q q q q q zt3 q q) q q q q .none<|Dv 10 (O.ap (en:=eI) (r:=x9) (.brw q) q (.imm q) .i ap22 q hx9)<|Dv 11 (O.nlP (.ptr q))<|Dv 12 (O.fO q (.ptr q) fd73_1 q)<|DL.bp 13 (G2:=[(4,.obj (eTables_0.cells a0)),(8,.obj [I64 0,I64 0,I64 0,I64 0,.nils,.nils,.nils,I64 0,I64 0,I64 0,.nils]),(9,.obj [iR eI a0.Def,iR eI a0.Acts.Base,iR eI a0.Acts.Val,iR eI a0.Acts.Chk,iR eI a0.GoDef,iR eI a0.Gos.Base,iR eI a0.Gos.Val,iR eI a0.Gos.Chk,iR eI a0.Left,iR eI a0.Len,iR ePair a0.Nums,oR eI (s2.1++[x8]),I64 (min (max a2 0) 100000),I64 (min (max a3 0) 1000000),oR eI [0],.nils,I64 0,I64 0,I64 0,I64 0,I64 0,.nils,.nils,.nils,I64 0,I64 0,I64 0,.nils]),(28,iR eI a1),(29,I64 (a1.length:Int)),(30,I64 s2.2)]) (EO.stP (g1:=_) (en:=eI) (M:=[x8]) (cs2:=[iR eI a0.Def,iR eI a0.Acts.Base,iR eI a0.Acts.Val,iR eI a0.Acts.Chk,iR eI a0.GoDef,iR eI a0.Gos.Base,iR eI a0.Gos.Val,iR eI a0.Gos.Chk,iR eI a0.Left,iR eI a0.Len,iR ePair a0.Nums,oR eI (s2.1++[x8]),I64 (min (max a2 0) 100000),I64 (min (max a3 0) 1000000),oR eI [0],.nils,I64 0,I64 0,I64 0,I64 0,I64 0,.nils,.nils,.nils,I64 0,I64 0,I64 0,.nils]) q q (.ptr q) (.pend q) q q q .ns .rf q q sz22 q q q q (.n q q (.n q q (.b q (.n q q (.n q q (.n q q .nil))))))) q q q q (by kernel_rfl) (by kernel_rfl)<|DL.fin q q q (tn6 q q q q q q)) ?_
     refine Px.bk ?_
     refine Px.sq<|W.rx [(4,_),(8,_),(9,_),(28,_),(29,_),(30,_)] (Rv (O.add (.lit q) (.k q))<|RunL.re (G1:=[(4,_),(8,_),(9,_),(28,_),(29,_),(49,_)]) (tn6 q q q q q q)<|RunL.au) ?_
     obtain rfl:=sm h
     exact Px.go (tn6 q q q q q q)
   ·replace h:=cndF hb5 h
    refine W.xi ?_
    refine Px.sqE ?_
    obtain rfl:=sm h
    exact Px.x1 (tn2 q q)
  refine Px.bkH ?_
  obtain rfl:=sm h
  exact Px.jn (tn2 q q)
 refine Px.sq<|W.sq' ?_
 refine W.bk ?_
 obtain ⟨x11,hl,h⟩:=bnd h
 refine W.tr (G1:=[(8,_),(9,.obj [iR eI (((⟨a0,j1,min (max a2 0) 100000,min (max a3 0) 1000000,[0],[],0,(⟨0,0,0,0,[],[],[],(⟨0,0,0,ri0⟩:Node)⟩:Parse)⟩:drive_driver).f_t).Def),iR eI ((((⟨a0,j1,min (max a2 0) 100000,min (max a3 0) 1000000,[0],[],0,(⟨0,0,0,0,[],[],[],(⟨0,0,0,ri0⟩:Node)⟩:Parse)⟩:drive_driver).f_t).Acts).Base),iR eI ((((⟨a0,j1,min (max a2 0) 100000,min (max a3 0) 1000000,[0],[],0,(⟨0,0,0,0,[],[],[],(⟨0,0,0,ri0⟩:Node)⟩:Parse)⟩:drive_driver).f_t).Acts).Val),iR eI ((((⟨a0,j1,min (max a2 0) 100000,min (max a3 0) 1000000,[0],[],0,(⟨0,0,0,0,[],[],[],(⟨0,0,0,ri0⟩:Node)⟩:Parse)⟩:drive_driver).f_t).Acts).Chk),iR eI (((⟨a0,j1,min (max a2 0) 100000,min (max a3 0) 1000000,[0],[],0,(⟨0,0,0,0,[],[],[],(⟨0,0,0,ri0⟩:Node)⟩:Parse)⟩:drive_driver).f_t).GoDef),iR eI ((((⟨a0,j1,min (max a2 0) 100000,min (max a3 0) 1000000,[0],[],0,(⟨0,0,0,0,[],[],[],(⟨0,0,0,ri0⟩:Node)⟩:Parse)⟩:drive_driver).f_t).Gos).Base),iR eI ((((⟨a0,j1,min (max a2 0) 100000,min (max a3 0) 1000000,[0],[],0,(⟨0,0,0,0,[],[],[],(⟨0,0,0,ri0⟩:Node)⟩:Parse)⟩:drive_driver).f_t).Gos).Val),iR eI ((((⟨a0,j1,min (max a2 0) 100000,min (max a3 0) 1000000,[0],[],0,(⟨0,0,0,0,[],[],[],(⟨0,0,0,ri0⟩:Node)⟩:Parse)⟩:drive_driver).f_t).Gos).Chk),iR eI (((⟨a0,j1,min (max a2 0) 100000,min (max a3 0) 1000000,[0],[],0,(⟨0,0,0,0,[],[],[],(⟨0,0,0,ri0⟩:Node)⟩:Parse)⟩:drive_driver).f_t).Left),iR eI (((⟨a0,j1,min (max a2 0) 100000,min (max a3 0) 1000000,[0],[],0,(⟨0,0,0,0,[],[],[],(⟨0,0,0,ri0⟩:Node)⟩:Parse)⟩:drive_driver).f_t).Len),iR ePair (((⟨a0,j1,min (max a2 0) 100000,min (max a3 0) 1000000,[0],[],0,(⟨0,0,0,0,[],[],[],(⟨0,0,0,ri0⟩:Node)⟩:Parse)⟩:drive_driver).f_t).Nums),oR eI ((⟨a0,j1,min (max a2 0) 100000,min (max a3 0) 1000000,[0],[],0,(⟨0,0,0,0,[],[],[],(⟨0,0,0,ri0⟩:Node)⟩:Parse)⟩:drive_driver).f_toks),I64 ((⟨a0,j1,min (max a2 0) 100000,min (max a3 0) 1000000,[0],[],0,(⟨0,0,0,0,[],[],[],(⟨0,0,0,ri0⟩:Node)⟩:Parse)⟩:drive_driver).f_depth),I64 ((⟨a0,j1,min (max a2 0) 100000,min (max a3 0) 1000000,[0],[],0,(⟨0,0,0,0,[],[],[],(⟨0,0,0,ri0⟩:Node)⟩:Parse)⟩:drive_driver).f_steps),oR eI ((⟨a0,j1,min (max a2 0) 100000,min (max a3 0) 1000000,[0],[],0,(⟨0,0,0,0,[],[],[],(⟨0,0,0,ri0⟩:Node)⟩:Parse)⟩:drive_driver).f_stack),oR eNode ((⟨a0,j1,min (max a2 0) 100000,min (max a3 0) 1000000,[0],[],0,(⟨0,0,0,0,[],[],[],(⟨0,0,0,ri0⟩:Node)⟩:Parse)⟩:drive_driver).f_nodes),I64 ((⟨a0,j1,min (max a2 0) 100000,min (max a3 0) 1000000,[0],[],0,(⟨0,0,0,0,[],[],[],(⟨0,0,0,ri0⟩:Node)⟩:Parse)⟩:drive_driver).f_flag),I64 (((⟨a0,j1,min (max a2 0) 100000,min (max a3 0) 1000000,[0],[],0,(⟨0,0,0,0,[],[],[],(⟨0,0,0,ri0⟩:Node)⟩:Parse)⟩:drive_driver).f_p).Kind),I64 (((⟨a0,j1,min (max a2 0) 100000,min (max a3 0) 1000000,[0],[],0,(⟨0,0,0,0,[],[],[],(⟨0,0,0,ri0⟩:Node)⟩:Parse)⟩:drive_driver).f_p).At),I64 (((⟨a0,j1,min (max a2 0) 100000,min (max a3 0) 1000000,[0],[],0,(⟨0,0,0,0,[],[],[],(⟨0,0,0,ri0⟩:Node)⟩:Parse)⟩:drive_driver).f_p).Steps),I64 (((⟨a0,j1,min (max a2 0) 100000,min (max a3 0) 1000000,[0],[],0,(⟨0,0,0,0,[],[],[],(⟨0,0,0,ri0⟩:Node)⟩:Parse)⟩:drive_driver).f_p).Deep),oR eI (((⟨a0,j1,min (max a2 0) 100000,min (max a3 0) 1000000,[0],[],0,(⟨0,0,0,0,[],[],[],(⟨0,0,0,ri0⟩:Node)⟩:Parse)⟩:drive_driver).f_p).Prods),oR eUpset (((⟨a0,j1,min (max a2 0) 100000,min (max a3 0) 1000000,[0],[],0,(⟨0,0,0,0,[],[],[],(⟨0,0,0,ri0⟩:Node)⟩:Parse)⟩:drive_driver).f_p).Upsets),oR eI (((⟨a0,j1,min (max a2 0) 100000,min (max a3 0) 1000000,[0],[],0,(⟨0,0,0,0,[],[],[],(⟨0,0,0,ri0⟩:Node)⟩:Parse)⟩:drive_driver).f_p).Lost),I64 ((((⟨a0,j1,min (max a2 0) 100000,min (max a3 0) 1000000,[0],[],0,(⟨0,0,0,0,[],[],[],(⟨0,0,0,ri0⟩:Node)⟩:Parse)⟩:drive_driver).f_p).Tree).Sym),I64 ((((⟨a0,j1,min (max a2 0) 100000,min (max a3 0) 1000000,[0],[],0,(⟨0,0,0,0,[],[],[],(⟨0,0,0,ri0⟩:Node)⟩:Parse)⟩:drive_driver).f_p).Tree).Prod),I64 ((((⟨a0,j1,min (max a2 0) 100000,min (max a3 0) 1000000,[0],[],0,(⟨0,0,0,0,[],[],[],(⟨0,0,0,ri0⟩:Node)⟩:Parse)⟩:drive_driver).f_p).Tree).At),rI 4 ((((⟨a0,j1,min (max a2 0) 100000,min (max a3 0) 1000000,[0],[],0,(⟨0,0,0,0,[],[],[],(⟨0,0,0,ri0⟩:Node)⟩:Parse)⟩:drive_driver).f_p).Tree).Kids)])]) (.n q (.w q q (WkL.obj (.f (.f (.f (.f (.f (.f (.f (.f (.f (.f (.f (.f (.f (.f (.f (.o (.f (.f (.f (.f (.f (.o (.o (.o (.f (.f (.f (.i .nil))))))))))))))))))))))))))))) .nil)) ?_
 refine W.lp1 (s:=(⟨a0,j1,min (max a2 0) 100000,min (max a3 0) 1000000,[0],[],0,(⟨0,0,0,0,[],[],[],(⟨0,0,0,ri0⟩:Node)⟩:Parse)⟩:drive_driver)) (fun (s10:drive_driver)=>[(8,.obj [I64 0,I64 0,I64 0,I64 0,.nils,.nils,.nils,I64 0,I64 0,I64 0,.nils]),(9,.obj (edrive_driver_r.cells s10))]) 2 (fun (x11:drive_driver)=>[(8,.obj [I64 0,I64 0,I64 0,I64 0,.nils,.nils,.nils,I64 0,I64 0,I64 0,.nils]),(9,.obj (edrive_driver_r.cells x11))]) hl (fun s10 o h=>?_) ?_
 ·clear hl
  refine W.sq'<|W.sq' ?_
  refine W.ax [(8,_),(9,_),(55,_)] ?_
  refine Px.sq<|W.cnd q (fun hb13=>?_) (fun hb13=>?_)
  ·replace h:=cndT hb13 h
   refine W.sk<|Px.sq ?_
   refine W.bk ?_
   obtain ⟨x14,hx14,h⟩:=bnd h
   refine W.rx [(8,_),(9,_)] (Rv (O.mv (.obj q))<|RunL.ef q (EO.call q q (CallOk.ln (G2:=[(8,.obj [I64 0,I64 0,I64 0,I64 0,.nils,.nils,.nils,I64 0,I64 0,I64 0,.nils])]) (A:=[]) (ys:=[.ptr ⟨9,[]⟩ 0]) (args:=[.obj (edrive_driver_r.cells s10)]) (cs':=[iR eI x14.f_t.Def,iR eI x14.f_t.Acts.Base,iR eI x14.f_t.Acts.Val,iR eI x14.f_t.Acts.Chk,iR eI x14.f_t.GoDef,iR eI x14.f_t.Gos.Base,iR eI x14.f_t.Gos.Val,iR eI x14.f_t.Gos.Chk,iR eI x14.f_t.Left,iR eI x14.f_t.Len,iR ePair x14.f_t.Nums,oR eI x14.f_toks,I64 x14.f_depth,I64 x14.f_steps,oR eI x14.f_stack,oR eNode x14.f_nodes,I64 x14.f_flag,I64 x14.f_p.Kind,I64 x14.f_p.At,I64 x14.f_p.Steps,I64 x14.f_p.Deep,oR eI x14.f_p.Prods,oR eUpset x14.f_p.Upsets,oR eI x14.f_p.Lost,I64 x14.f_p.Tree.Sym,I64 x14.f_p.Tree.Prod,I64 x14.f_p.Tree.At,rI 4 x14.f_p.Tree.Kids]) (k0:=0) q q q q (.b q .nil) q (CF.go hx14) call15 (.n q .nil) q q (.n q .nil) .nil q))<|Fi (tn2 q q)) ?_
   refine Px.bk ?_
   obtain rfl:=sm h
   exact Px.go (tn2 q q)
  ·replace h:=cndF hb13 h
   refine W.xi ?_
   refine Px.sqE ?_
   obtain rfl:=sm h
   exact Px.x1 (tn2 q q)
 refine Px.bkH ?_
 refine Px.sq<|W.sq' ?_
 refine W.fz (G1:=[(8,_),(9,.obj [iR eI x11.f_t.Def,iR eI x11.f_t.Acts.Base,iR eI x11.f_t.Acts.Val,iR eI x11.f_t.Acts.Chk,iR eI x11.f_t.GoDef,iR eI x11.f_t.Gos.Base,iR eI x11.f_t.Gos.Val,iR eI x11.f_t.Gos.Chk,iR eI x11.f_t.Left,iR eI x11.f_t.Len,iR ePair x11.f_t.Nums,oR eI x11.f_toks,I64 x11.f_depth,I64 x11.f_steps,oR eI x11.f_stack,oR eNode x11.f_nodes,I64 x11.f_flag,I64 x11.f_p.Kind,I64 x11.f_p.At,I64 x11.f_p.Steps,I64 x11.f_p.Deep,iR eI x11.f_p.Prods,iR eUpset x11.f_p.Upsets,iR eI x11.f_p.Lost,I64 x11.f_p.Tree.Sym,I64 x11.f_p.Tree.Prod,I64 x11.f_p.Tree.At,rI 4 x11.f_p.Tree.Kids])]) [9] (.n q q (.z q q (FzL.obj (.f (.f (.f (.f (.f (.f (.f (.f (.f (.f (.f (.f (.f (.f (.f (.f (.f (.f (.f (.f (.f (.z (.z (.z (.f (.f (.f (.f .nil))))))))))))))))))))))))))))) .nil)) ?_
 refine W.rx [(8,_)] (Rv (O.mv (.obj q))<|Rv (O.nlP (.ptr q))<|Rv (O.fO q (.ptr q) fd73_7 q)<|Rv (O.ldON (cs':=[I64 x11.f_p.Kind,I64 x11.f_p.At,I64 x11.f_p.Steps,I64 x11.f_p.Deep,iR eI x11.f_p.Prods,iR eUpset x11.f_p.Upsets,iR eI x11.f_p.Lost,I64 x11.f_p.Tree.Sym,I64 x11.f_p.Tree.Prod,I64 x11.f_p.Tree.At,rI 4 x11.f_p.Tree.Kids]) q (.ptr q) at43 q q)<|RunL.sO (G2:=[(8,_)]) (cs2:=[I64 x11.f_p.Kind,I64 x11.f_p.At,I64 x11.f_p.Steps,I64 x11.f_p.Deep,iR eI x11.f_p.Prods,iR eUpset x11.f_p.Upsets,iR eI x11.f_p.Lost,I64 x11.f_p.Tree.Sym,I64 x11.f_p.Tree.Prod,I64 x11.f_p.Tree.At,rI 4 x11.f_p.Tree.Kids]) q (.obj q) (.aggF q q) q sz43 q q q q (.b q .nil)<|Fi (.n q .nil)) ?_
 refine Px.sq<|W.rt ?_
 obtain rfl:=sm h
 exact Px.fin (Fin.ro (.c (ys0:=[I64 x11.f_p.Kind,I64 x11.f_p.At,I64 x11.f_p.Steps,I64 x11.f_p.Deep,iR eI x11.f_p.Prods,iR eUpset x11.f_p.Upsets,iR eI x11.f_p.Lost,I64 x11.f_p.Tree.Sym,I64 x11.f_p.Tree.Prod,I64 x11.f_p.Tree.At,rI 4 x11.f_p.Tree.Kids]) q at43 q q q (.f q (.f q (.f q (.f q (.f q (.f q (.f q (.f q (.f q (.f q (.f q .nil))))))))))) .nil) q (ode (by kernel_rfl)) (.no (.no (.no (.no .nil)))) q (.inr q))
instance con7 {a0:Tables}{a1:(List Int)}{a2:Int}{a3:Int}{r:Parse}:CF Tryz.prog 7 (pf7 a0 a1 a2 a3=some r) [.agg (eTables_0.cells a0),iR eI a1,I64 a2,I64 a3] [none,none,none,none] (.agg (eParse_0.cells r)):=⟨con7l a0 a1 a2 a3 _⟩
theorem con49l (a0:(List (List Pair))) (r:Bool) (h:pf49 a0=some r):Con Tryz.prog 49 [iR (eM ePair) a0] [none] (BB r):=by
 unfold pf49 at h
 refine Con.go (N:=⟨42,[]⟩) Tryz.func49 q q q q (W.fin ?_)
 refine W.st [(0,iR (eM ePair) a0)] ?_
 refine W.aq [0] ?_
 refine W.sq'<|W.aq [0,10] ?_
 refine W.ch h q (fun hb1 h=>?_) (fun hb1 h=>?_)
 ·refine W.aq [2] ?_
  exact W.rt<|Px.sqR<|sm h ▸ Pq
 ·refine W.sk<|Px.sq<|W.sq'<|W.rq [11,12,13] (Rv (O.mv .z2)<|Rv O.y9<|Rv (O.mv .z8)<|Fk q) ?_
  refine W.bk<|bd h fun x3 hl h=>W.l2 0 (fun (s2:Int)=>[(13,I64 s2)]) [11,12,13] 0 (fun (x4:Unit)=>[]) [] (fun (x5:Bool)=>[(2,BB x5)]) [2] hl (fun s2 o h=>?_) (fun x4 hx=>?_) (fun x5 hx=>?_)
  ·clear hl
   refine W.aq [11,12,13,14] ?_
   refine W.sq'<|W.ch h q (fun hb6 h=>?_) (fun hb6 h=>?_)
   ·refine W.sk<|Px.sq<|W.sq'<|W.bk<|bd h fun x7 hx7 h=>W.aq [4,11,12,13] ?_
    refine W.rq [4,5,11,12,13] (Rv (O.al (cs:=rowc eB (List.replicate 1000 false)) ze159 (by kernel_rfl) (by kernel_rfl))<|Fk q) ?_
    refine W.rq [5,11,12,13,17,18,19] (Rv (O.mv .z2)<|Rv O.y9<|Rv (O.mv .z8)<|Fk q) ?_
    refine W.bk<|bd h fun x9 hl h=>W.l2 ((List.replicate 1000 false),0) (fun (s8:List Bool × Int)=>[(5,.obj (rowc eB s8.1)),(19,I64 s8.2)]) [5,11,12,13,17,18,19] 2 (fun (x10:Unit)=>[]) [11,12,13] (fun (x11:Bool)=>[(2,BB x11)]) [2] hl (fun s8 o h=>?_) (fun x10 hx=>?_) (fun x11 hx=>?_)
    ·clear hl
     refine W.aq [5,11,12,13,17,18,19,20] ?_
     refine W.sq'<|W.ch h q (fun hb12 h=>?_) (fun hb12 h=>?_)
     ·refine W.sk<|Px.sq<|W.sq'<|W.bk<|bd h fun x13 hx13 h=>W.rq [5,7,11,12,13,17,18,19] (Rv (O.y4 hx13)<|Rv (O.ldIN (cs':=[I64 x13.At,I64 x13.Val]) .z7 at93 q q)<|Rv (O.al (cs:=[I64 0,I64 0]) ze93 q q)<|RunL.f' (EO.sva [5,7,11,12,13,17,18,19])<|Fk q) ?_
      refine W.sq'<|bd h fun c17 hj h=>W.rz [5,7,11,12,13,17,18,19,36] [(36,BB c17)] ?_ ?_
      ·refine Rv O.y1<|Rv O.y3<|Rv (O.lss .z1 .z8)<|Rv (O.mv (.lit q)) ?_
       rcases cnd hj with ⟨hb14,hj⟩ | ⟨hb14,hj⟩
       ·exact sm hj ▸ RunL.au
       ·refine Yv hb14 O.y1<|Yv hb14 O.y3<|Yv hb14 (O.geq .z1 .z8)<|Rv (O.pkF .z1 hb14 .z1)<|Rv (O.mv (.lit q)) ?_
        rcases cnd hj with ⟨hb15,hj⟩ | ⟨hb15,hj⟩
        ·exact sm hj ▸ RunL.au
        ·refine Yv hb15 O.y1<|Yv hb15 O.y3 ?_
         exact bd hj fun x16 hx16 hj=>sm hj ▸ (Yv hb15 (O.ixA (en:=eB) (L:=s8.1) q q .z1 ar159 hx16)<|Yv hb15 (O.ldA (en:=eB) (L:=s8.1) q .z5 (idxA_spec hx16).2 q ct4 (fun _=>q))<|RunL.au)
      refine W.ch h q (fun hb18 h=>?_) (fun hb18 h=>?_)
      ·refine W.aq [2] ?_
       exact W.rt<|Px.sqR<|Px.bkR<|Px.sqR<|sm h ▸ Px.r2 (.n q .nil)
      ·refine W.sk<|Px.sq<|bd h fun x19 hx19 h=>W.rk [5,11,12,13,17,18,19] (Rv O.y1<|Rv O.y3<|Rv (O.ixA (en:=eB) (L:=s8.1) q q .z1 ar159 hx19)<|RunL.sA (G2:=[(5,.obj (rowc eB (s8.1.set x13.At.toNat true))),(11,iR (eM ePair) a0),(12,I64 (a0.length:Int)),(13,I64 s2),(17,iR ePair x7),(18,I64 (x7.length:Int)),(19,I64 s8.2)]) (en:=eB) (L:=s8.1) (y2:=true) q q (.ptr q) (.k q) (idxA_spec hx19).2 q q sz4 q (.b q (.n q q (.n q q (.n q q (.n q q (.n q q (.n q q .nil)))))))<|Fk q) ?_
       refine Px.bk<|Px.sq<|W.rk [5,11,12,13,17,18,19] (Rv (O.add .z1 .z8)<|RunL.rk [5,11,12,13,17,18,40] q<|RunL.au) ?_
       exact sm h ▸ Px.gt
     ·exact W.xi<|Px.sqE<|sm h ▸ Px.x2 (tn3 q q q)
    ·subst hx
     refine Px.bkH<|Px.bk<|Px.sq<|W.rk [11,12,13] (Rv (O.add .z1 .z8)<|RunL.rk [11,12,41] q<|RunL.au) ?_
     exact sm h ▸ Px.gt
    ·subst hx
     exact Px.bkR<|Px.bkR<|Px.sqR<|sm h ▸ Px.r2 (.n q .nil)
   ·exact W.xi<|Px.sqE<|sm h ▸ Px.x2 .nil
  ·subst hx
   refine Px.bkH<|Px.sq<|W.aq [2] ?_
   exact W.rt<|sm h ▸ Pq
  ·subst hx
   exact Px.bkR<|Px.sqR<|sm h ▸ Pq
instance con49 {a0:(List (List Pair))}{r:Bool}:CF Tryz.prog 49 (pf49 a0=some r) [iR (eM ePair) a0] [none] (BB r):=⟨con49l a0 _⟩
instance con52 {a0:(List Int)}{r:Int}:CF Tryz.prog 52 (pf52 a0=some r) [iR eI a0] [none] (I64 r):=⟨fun h=>by unfold pf52 at h; exact Con.au (N:=⟨18,[]⟩) [0,2,3,5,6,7,8,9,14] (.l2 (fun (s1:Int)=>[(8,I64 s1)]) [3,6,7,8] 0 (fun (x3:Unit)=>[]) [3] (fun (x4:Int)=>[(2,I64 x4)]) [2] .e .e .e) Tryz.func52 rfl rfl rfl rfl rfl goW⟩
instance con51 {a0:Int}{a1:Int}{c0:(List (List Pair))}{r:Int}:CF Tryz.prog 51 (pf51 a0 a1 c0=some r) [I64 a0,I64 a1,.iptr ([iR (eM ePair) c0])] [none,none,none] (I64 r):=⟨fun h=>by unfold pf51 at h; exact Con.au (N:=⟨22,[]⟩) [0,1,2,5] (.rd 1 [[],[],[0,1],[0,1,2],[0,1,2,3],[],[],[5,6],[5,6,7],[5,6,7,8],rn 0 10 [],[],[],rn 0 13 [],rn 0 14 [],rn 0 15 [],rn 0 16 []] .e) Tryz.func51 rfl rfl rfl rfl rfl goW⟩
instance con68 {a0:Pair}{c0:Int}{c1:(List Int)}{r:Bool}:CF Tryz.prog 68 (pf68 a0 c0 c1=some r) [.agg [I64 a0.At,I64 a0.Val],.iptr ([I64 c0]),.iptr ([iR eI c1])] [none,none,none] (BB r):=⟨fun h=>by unfold pf68 at h; exact Con.au (N:=⟨22,[]⟩) [1,2,3,4] (.rj 1 [4] (fun (c3:Bool)=>[(4,BB c3)]) .e) Tryz.func68 rfl rfl rfl rfl rfl goW⟩
theorem con100_68 (a0:(List Pair)) (a1_0:Int) (a1_1:(List Int)) (r:Int) (h:pf100_68 a0 a1_0 a1_1=some r):Con Tryz.prog 100 [iR ePair a0,.clo (.func 68) [] [.iptr ([I64 a1_0]),.iptr ([iR eI a1_1])]] [none,none] (I64 r):=by
 unfold pf100_68 at h
 refine Con.go (N:=⟨19,[]⟩) Tryz.func100 q q q q (W.fin ?_)
 refine W.st [(0,iR ePair a0),(1,.clo (.func 68) [] [.iptr ([I64 a1_0]),.iptr ([iR eI a1_1])])] ?_
 refine W.aq [0,1] ?_
 refine W.sq'<|W.rq [0,1,7,8] (Rv (O.mv .z2)<|Rv O.y9<|Rv (O.mv .z8)<|Fk q) ?_
 refine W.bk<|bd h fun x2 hl h=>W.l2 0 (fun (s1:Int)=>[(8,I64 s1)]) [0,1,7,8] 0 (fun (x3:Unit)=>[]) [] (fun (x4:Int)=>[(4,I64 x4)]) [4] hl (fun s1 o h=>?_) (fun x3 hx=>?_) (fun x4 hx=>?_)
 ·clear hl
  refine W.aq [0,1,7,8,9] ?_
  refine W.sq'<|W.ch h q (fun hb5 h=>?_) (fun hb5 h=>?_)
  ·refine W.sk<|Px.sq<|W.sq'<|W.bk<|W.aq [0,1,5,7,8] ?_
   refine bd h fun x6 hx6 h=>bd h fun x7 hx7 h=>W.rq [0,1,5,7,8,16] (Rv (O.mv (.clo q))<|Rv (O.mv .z2)<|Vm q<|Rv (O.y4 hx6)<|Rv (O.ldIN (cs':=[I64 x6.At,I64 x6.Val]) .z7 at93 q q)<|Rc (PC.gc (.clo q) (.cc (.aggF q q) .nil) (CF.go hx7) call68 q)<|Fk q) ?_
   refine W.ch h q (fun hb8 h=>?_) (fun hb8 h=>?_)
   ·refine W.aq [4] ?_
    exact W.rt<|Px.bkR<|Px.sqR<|sm h ▸ Px.r2 (.n q .nil)
   ·refine W.sk<|Px.bk<|Px.sq<|W.rk [0,1,7,8] (Rv (O.add .z1 .z8)<|RunL.rk [0,1,7,18] q<|RunL.au) ?_
    exact sm h ▸ Px.gt
  ·exact W.xi<|Px.sqE<|sm h ▸ Px.x2 .nil
 ·subst hx
  refine Px.bkH<|Px.sq<|W.aq [4] ?_
  exact W.rt<|sm h ▸ Pq
 ·subst hx
  exact Px.bkR<|Px.sqR<|sm h ▸ Pq
theorem con67_68 (a0:(List Pair)) (a1_0:Int) (a1_1:(List Int)) (r:Bool) (h:pf67_68 a0 a1_0 a1_1=some r):Con Tryz.prog 67 [iR ePair a0,.clo (.func 68) [] [.iptr ([I64 a1_0]),.iptr ([iR eI a1_1])]] [none,none] (BB r):=by
 unfold pf67_68 at h
 refine Con.go (N:=⟨9,[]⟩) Tryz.func67 q q q q (W.fin ?_)
 refine W.st [(0,iR ePair a0),(1,.clo (.func 68) [] [.iptr ([I64 a1_0]),.iptr ([iR eI a1_1])])] ?_
 refine W.aq [0,1] ?_
 refine bd h fun x1 hx1 h=>W.rq [4] (Rv (O.mv .z2)<|Rv (O.mv (.clo q))<|Rc (PC.gz (.cc (.imm q) (.cc (.clo q) .nil)) (con100_68 a0 a1_0 a1_1 _ hx1))<|RunL.au) ?_
 exact W.rt<|sm h ▸ Pq
theorem con53l (a0:(List Int)) (a1:(List Pair)) (a2:Int) (r:Bool) (h:pf53 a0 a1 a2=some r):Con Tryz.prog 53 [iR eI a0,iR ePair a1,I64 a2] [none,none,none] (BB r):=by
 unfold pf53 at h
 refine Con.go (N:=⟨11,[]⟩) Tryz.func53 q q q q (W.fin ?_)
 refine W.st [(0,iR eI a0),(1,iR ePair a1),(2,I64 a2)] ?_
 refine W.rq [1,3,5] (Rv (O.box .z2 q)<|Rv (O.box .z1 q)<|RunL.au) ?_
 refine bd h fun x1 hx1 h=>W.rq [6] (Rv (O.mv .z2)<|Rv (O.mf q)<|Rc (PC.vz (ys:=[iR ePair a1,.clo (.func 68) [] [.ptr ⟨5,[]⟩ 0,.ptr ⟨3,[]⟩ 0]]) q (.s (.c (View.cl (.c (View.p0 q q) (.c (View.p0 q q) .nil))) .nil)) (con67_68 a1 a2 a0 _ hx1))<|RunL.au) ?_
 exact W.rt<|sm h ▸ Pq
instance con53 {a0:(List Int)}{a1:(List Pair)}{a2:Int}{r:Bool}:CF Tryz.prog 53 (pf53 a0 a1 a2=some r) [iR eI a0,iR ePair a1,I64 a2] [none,none,none] (BB r):=⟨con53l a0 a1 a2 _⟩
theorem con32l (a0:(List (List Pair))) (r:Comb) (h:pf32 a0=some r):Con Tryz.prog 32 [iR (eM ePair) a0] [none] (.agg (eComb_r.cells r)):=by
 unfold pf32 at h
 refine Con.go (N:=⟨111,[]⟩) Tryz.func32 q q q q (W.fin ?_)
 refine W.st [(0,iR (eM ePair) a0)] ?_
 refine W.rq [1,2] (Rv (O.box .z2 q)<|Rv (O.al (cs:=[.nils,.nils,.nils]) ze46 q q)<|Fk q) ?_
 refine W.sq'<|bd h fun x1 hx1 h=>W.rq [1,2,13] (Rv (O.ldO (y:=iR (eM ePair) a0) q .z4 ct102 q q)<|Rc (PC.gz (.cc (.imm q) .nil) (CF.go hx1))<|RunL.au) ?_
 refine W.ch h q (fun hb2 h=>?_) (fun hb2 h=>?_)
 ·refine W.rq [2] (Rv (O.bu (cs:=[.nils,.nils,.nils]) sc46 ze46 q q q)<|RunL.f' (EO.sva [2])<|Fk q) ?_
  refine W.fz (G1:=[(2,.obj [oR eI ([]:List Int),oR eI ([]:List Int),oR eI ([]:List Int)])]) [2] (.z q q (FzL.obj (.o (.o (.o .nil)))) .nil) ?_
  exact W.rt<|Px.sqR<|sm h ▸ Pr (.c (ys0:=[.brw eI.z ⟨2,[0]⟩ ([]:List Int).length,.brw eI.z ⟨2,[1]⟩ ([]:List Int).length,.brw eI.z ⟨2,[2]⟩ ([]:List Int).length]) q at46 q q q (.o q (.o q (.o q .nil))) .nil)
 ·refine W.sk<|Px.sq<|bd h fun x3 hx3 h=>W.rq [1,2,3] (Rv (O.ldO (y:=iR (eM ePair) a0) q .z4 ct102 q q)<|Rv O.y9<|Rv (O.mk (en:=eI) (z0:=0) sl22 .z1 .z1 ze3 q q hx3 bb3 q)<|Rv (O.bu (cs:=[.brw eI.z ⟨17,[]⟩ x3.length,.nils,.nils]) sc46 ze46 q q q)<|Rv (O.al (cs:=[.nils,.nils,.nils]) ze46 q q)<|RunL.ef (G2:=[(1,.obj [iR (eM ePair) a0]),(2,.obj [.nils,.nils,.nils]),(3,.obj [oR eI x3,oR eI ([]:List Int),oR eI ([]:List Int)])]) q (EO.stB (y':=.agg [oR eI x3,oR eI ([]:List Int),oR eI ([]:List Int)]) (cs2:=[oR eI x3,oR eI ([]:List Int),oR eI ([]:List Int)]) q q (.obj q) (.aggF q q) (.ag (.r q (.f (.f .nil))) .nil) (FzL.agg (.f (.o (.o .nil)))) q sz46 q q q q q (.n q q (.n q q (.b q .nil))))<|Fk q) ?_
  refine W.aq [1,2,3,4] ?_
  refine W.sq'<|W.rq [1,2,3,4,20,21] (Rv (O.ldO (y:=iR (eM ePair) a0) q .z4 ct102 q q)<|Rv O.y9<|Rv (O.mv .z8)<|Fk q) ?_
  refine W.bk<|bd h fun x5 hl h=>W.l1 (([]:List Int),0) (fun (s4:List Int × Int)=>[(4,oR eI s4.1),(21,I64 s4.2)]) [1,2,3,4,20,21] 0 (fun (x5:List Int)=>[(4,oR eI x5)]) [1,2,3,4] hl (fun s4 o h=>?_) ?_
  ·clear hl
   refine W.aq [1,2,3,4,20,21,22] ?_
   refine W.sq'<|W.ch h q (fun hb7 h=>?_) (fun hb7 h=>?_)
   ·refine W.sk<|Px.sq<|W.sq'<|bd h fun j8 hj h=>W.jq [1,2,3,4,20,21] [(4,oR eI j8)] ?_ ?_
    ·clear h; have h:=hj; clear hj
     refine W.bk<|W.aq [1,2,3,4,5,20,21] ?_
     refine bd h fun x9 hx9 h=>W.aq [1,2,3,4,5,20,21,29] ?_
     refine bd h fun j10 hj h=>W.jq [1,2,3,4,20,21] [(4,oR eI j10)] ?_ ?_
     ·clear h; have h:=hj; clear hj
      refine W.ch h q (fun hb11 h=>?_) (fun hb11 h=>?_)
      ·refine bd h fun x12 hx12 h=>W.rk [1,2,3,4,20,21] (Rv (O.mv .z3)<|Vm q<|RunL.vi (x:=iR eI [s4.2]) (O.bs (ys:=[I64 s4.2]) eI [s4.2] sl22 q q q q q q zt3 q q) q q .none<|Rv (O.ap (en:=eI) (r:=x12) .z6 q .z2 .i ap22 q hx12)<|RunL.a' (EO.apq [1,2,3,20,21])<|Fk q) ?_
       exact sm h ▸ Px.jt
      ·exact W.sk<|sm h ▸ Px.jt
     exact Px.bk<|sm h ▸ Px.jt
    refine Px.sq<|W.rk [1,2,3,4,20,21] (Rv (O.add .z1 .z8)<|RunL.rk [1,2,3,4,20,34] q<|RunL.au) ?_
    exact sm h ▸ Px.gt
   ·exact W.xi<|Px.sqE<|sm h ▸ Px.t1
  refine Px.bkH<|Px.sq<|bd h fun x13 hx13 h=>W.rq [1,2,3,4] (Rv (O.mv .z3)<|Rv (O.mf q)<|RunL.ef q (EO.call q q (CallOk.lv (en:=eI) (L:=x5) (L':=x13) (G2:=[(1,.obj [iR (eM ePair) a0]),(2,.obj [.nils,.nils,.nils]),(3,.obj [oR eI x3,oR eI ([]:List Int),oR eI ([]:List Int)])]) (ys:=[.clo (.func 51) [] [.ptr ⟨1,[]⟩ 0]]) (args:=[.clo (.func 51) [] [.iptr ([iR (eM ePair) a0])]]) q q q q (.c (View.cl (.c (View.p0 q q) .nil)) .nil) (sort50 call51 hx13 (fun a b v h=>CF.go h)) call50 (tn3 q q q) q q (tn3 q q q) q))<|Fk q) ?_
  refine W.sq'<|W.rs [(1,_),(2,_),(3,_),(4,_),(38,.brw eI.z ⟨4,[]⟩ x13.length),(39,_),(40,_)] (Rv (O.mv .z3)<|Rv (O.lenO .z6 sl22)<|Rv (O.mv .z8)<|Fi (.n q (.n q (.n q (.n q (.r q (RK.brw (en:=eI) q) npBrw (tn2 q q))))))) ?_
  refine W.bk<|bd h fun x15 hl h=>W.tr (G1:=[(1,_),(2,_),(3,.obj [oR eI ((⟨x3,([]:List Int),([]:List Int)⟩:Comb).Base),oR eI ((⟨x3,([]:List Int),([]:List Int)⟩:Comb).Val),oR eI ((⟨x3,([]:List Int),([]:List Int)⟩:Comb).Chk)]),(4,_),(38,.brw eI.z ⟨4,[]⟩ x13.length),(39,_),(40,_)]) (.n q (.n q (.n q (.n q (.r q (RK.brw (en:=eI) q) npBrw (tn2 q q)))))) ?_
  refine W.lp1 (s:=((⟨x3,([]:List Int),([]:List Int)⟩:Comb),0)) (fun (s14:Comb × Int)=>[(1,.obj [iR (eM ePair) a0]),(2,.obj [.nils,.nils,.nils]),(3,.obj (eComb_r.cells s14.1)),(4,oR eI x13),(38,.brw eI.z ⟨4,[]⟩ x13.length),(39,I64 (x13.length:Int)),(40,I64 s14.2)]) 2 (fun (x15:Comb)=>[(2,.obj [.nils,.nils,.nils]),(3,.obj (eComb_r.cells x15))]) hl (fun s14 o h=>?_) ?_
  ·clear hl
   refine W.rs [(1,_),(2,_),(3,_),(4,_),(38,.brw eI.z ⟨4,[]⟩ x13.length),(39,_),(40,_),(41,_)] (Rv (O.lss .z1 .z1)<|Fi (.n q (.n q (.n q (.n q (.r q (RK.brw (en:=eI) q) npBrw (tn3 q q q))))))) ?_
   refine W.sq'<|W.ch h q (fun hb17 h=>?_) (fun hb17 h=>?_)
   ·refine W.sk<|Px.sq<|W.sq'<|W.bk<|bd h fun x18 hx18 h=>W.rs [(1,_),(2,_),(3,_),(4,_),(7,_),(38,.brw eI.z ⟨4,[]⟩ x13.length),(39,_),(40,_)] (Rv (O.ixO (en:=eI) q .z6 .z1 sl22 hx18 q)<|Rv (O.ldE (en:=eI) (x':=I64 x18) q .z5 ct3 hx18 q q)<|Va q<|Fi (.n q (.n q (.n q (.n q (.n q (.r q (RK.brw (en:=eI) q) npBrw (tn2 q q)))))))) ?_
    refine W.sq'<|W.bk<|bd h fun x20 hl h=>W.tr (G1:=[(1,_),(2,_),(3,_),(4,_),(7,_),(38,.brw eI.z ⟨4,[]⟩ x13.length),(39,_),(40,_)]) (.n q (.n q (.n q (.n q (.n q (.r q (RK.brw (en:=eI) q) npBrw (tn2 q q))))))) ?_
    refine W.lp1 (s:=s14.1.Base) (fun (s19:List Int)=>[(1,.obj [iR (eM ePair) a0]),(2,.obj [.nils,.nils,.nils]),(3,.obj [oR eI s19,oR eI s14.1.Val,oR eI s14.1.Chk]),(4,oR eI x13),(7,I64 x18),(38,.brw eI.z ⟨4,[]⟩ x13.length),(39,I64 (x13.length:Int)),(40,I64 s14.2)]) 4 (fun (x20:List Int)=>[(1,.obj [iR (eM ePair) a0]),(2,.obj [.nils,.nils,.nils]),(3,.obj [oR eI x20,oR eI s14.1.Val,oR eI s14.1.Chk]),(4,oR eI x13),(7,I64 x18),(38,.brw eI.z ⟨4,[]⟩ x13.length),(39,I64 (x13.length:Int)),(40,I64 s14.2)]) hl (fun s19 o h=>?_) ?_
    ·clear hl
     refine W.sq'<|W.sq'<|bd h fun x22 hx22 h=>bd h fun x23 hx23 h=>bd h fun x24 hx24 h=>W.rd [[],[0],[],[],[2,3],[2,3,4],[],[6],[],[6,7,8],[6,7,8,9],rn 0 11 [],rn 0 12 []] [(1,_),(2,_),(3,_),(4,_),(7,_),(38,.brw eI.z ⟨4,[]⟩ x13.length),(39,_),(40,_),(56,_)] mixo (by kernel_rfl) (Dv 0 O.y1<|Dv 1 (O.y5 (y:=.brw eI.z ⟨3,[2]⟩ s14.1.Chk.length))<|Dv 2 (O.ldO (y:=iR (eM ePair) a0) q .z4 ct102 q q)<|Dv 3 (O.mv (.lit q))<|Dv 4 (O.y4 hx22)<|Dv 5 (O.y6 (x:=iR ePair x22))<|Dv 6 O.y1<|Dv 7 (O.y5 (y:=.brw eI.z ⟨3,[0]⟩ s19.length))<|Dv 8 (O.mv (.lit q))<|Dv 9 (O.ixO (en:=eI) q .z6 .z1 sl22 hx23 q)<|Dv 10 (O.ldE (en:=eI) (x':=I64 x23) q .z5 ct3 hx23 q q)<|Dc 11 (PC.vz (ys:=[.brw eI.z ⟨3,[2]⟩ s14.1.Chk.length,iR ePair x22,I64 x23]) q (.c (.row q) (.s (.s .nil))) (CF.go hx24))<|Dv 12 (O.not .z1)<|DL.fin q q q (.n q (.n q (.n q (.n q (.n q (.r q (RK.brw (en:=eI) q) npBrw (tn3 q q q)))))))) ?_
     refine Px.sq<|W.ch h q (fun hb25 h=>?_) (fun hb25 h=>?_)
     ·refine W.sk<|Px.sq<|W.bk<|bd h fun x26 hx26 h=>W.rx [(1,_),(2,_),(3,_),(4,_),(7,_),(38,.brw eI.z ⟨4,[]⟩ x13.length),(39,_),(40,_)] (Rv O.y1<|Rv (O.y5 (y:=.brw eI.z ⟨3,[0]⟩ s19.length))<|Vm q<|Rv (O.ixO (en:=eI) q .z6 .z1 sl22 hx26 q)<|Rv (O.ldE (en:=eI) (x':=I64 x26) q .z5 ct3 hx26 q q)<|Rv (O.add .z1 .z8)<|Rv (O.ixO (en:=eI) q .z6 .z1 sl22 hx26 q)<|RunL.ef (G2:=[(1,.obj [iR (eM ePair) a0]),(2,.obj [.nils,.nils,.nils]),(3,.obj [oR eI (s19.set x18.toNat (w64 (x26+1))),oR eI s14.1.Val,oR eI s14.1.Chk]),(4,oR eI x13),(7,I64 x18),(38,.brw eI.z ⟨4,[]⟩ x13.length),(39,I64 (x13.length:Int)),(40,I64 s14.2)]) q (EO.stE (en:=eI) (y2:=w64 (x26+1)) (cs':=[I64 (w64 (x26+1))]) (x2:=.obj [oR eI (s19.set x18.toNat (w64 (x26+1))),oR eI s14.1.Val,oR eI s14.1.Chk]) q q (.ptr q) (.lit q) q hx26 sz3 q q q q q q q (.n q q (.n q q (.b q (.n q q (.n q q (.w (en:=eI) q q q q (.n q q (.n q q .nil)))))))))<|Fi (.n q (.n q (.n q (.n q (.n q (.r q (RK.brw (en:=eI) q) npBrw (tn2 q q)))))))) ?_
      exact Px.bk<|sm h ▸ Px.go (.n q (.n q (.n q (.n q (.n q (.r q (RK.brw (en:=eI) q) npBrw (tn2 q q)))))))
     ·exact W.xi<|Px.sqE<|sm h ▸ Px.x1 (.n q (.n q (.n q (.n q (.n q (.r q (RK.brw (en:=eI) q) npBrw (tn2 q q)))))))
    refine Px.bkH<|Px.sq<|bd h fun x27 hx27 h=>W.rs [(1,_),(2,_),(3,_),(4,_),(7,_),(38,.brw eI.z ⟨4,[]⟩ x13.length),(39,_),(40,_),(67,_),(68,_),(69,_)] (Rv (O.ldO (y:=iR (eM ePair) a0) q .z4 ct102 q q)<|Vm q<|Rv (O.y4 hx27)<|Rv (O.y6 (x:=iR ePair x27))<|Rv O.y9<|Rv (O.mv .z8)<|Fi (.n q (.n q (.n q (.n q (.n q (.r q (RK.brw (en:=eI) q) npBrw (tn5 q q q q q)))))))) ?_
    refine W.bk<|bd h fun x29 hl h=>W.tr (G1:=[(1,_),(2,_),(3,_),(4,_),(7,_),(38,.brw eI.z ⟨4,[]⟩ x13.length),(39,_),(40,_),(67,_),(68,_),(69,_)]) (.n q (.n q (.n q (.n q (.n q (.r q (RK.brw (en:=eI) q) npBrw (tn5 q q q q q))))))) ?_
    refine W.lp1 (s:=(s14.1.Val,s14.1.Chk,0)) (fun (s28:List Int × List Int × Int)=>[(1,.obj [iR (eM ePair) a0]),(2,.obj [.nils,.nils,.nils]),(3,.obj [oR eI x20,oR eI s28.1,oR eI s28.2.1]),(4,oR eI x13),(7,I64 x18),(38,.brw eI.z ⟨4,[]⟩ x13.length),(39,I64 (x13.length:Int)),(40,I64 s14.2),(67,iR ePair x27),(68,I64 (x27.length:Int)),(69,I64 s28.2.2)]) 6 (fun (x29:List Int × List Int)=>[(1,.obj [iR (eM ePair) a0]),(2,.obj [.nils,.nils,.nils]),(3,.obj [oR eI x20,oR eI x29.1,oR eI x29.2]),(4,oR eI x13),(38,.brw eI.z ⟨4,[]⟩ x13.length),(39,I64 (x13.length:Int)),(40,I64 s14.2)]) hl (fun s28 o h=>?_) ?_
    ·clear hl
     refine W.rs [(1,_),(2,_),(3,_),(4,_),(7,_),(38,.brw eI.z ⟨4,[]⟩ x13.length),(39,_),(40,_),(67,_),(68,_),(69,_),(70,_)] (Rv (O.lss .z1 .z1)<|Fi (.n q (.n q (.n q (.n q (.n q (.r q (RK.brw (en:=eI) q) npBrw (tn6 q q q q q q)))))))) ?_
     refine W.sq'<|W.ch h q (fun hb31 h=>?_) (fun hb31 h=>?_)
     ·refine W.sk<|Px.sq<|W.sq'<|W.bk<|bd h fun x32 hx32 h=>W.rs [(1,_),(2,_),(3,_),(4,_),(7,_),(9,_),(38,.brw eI.z ⟨4,[]⟩ x13.length),(39,_),(40,_),(67,_),(68,_),(69,_)] (Rv (O.y4 hx32)<|Rv (O.ldIN (cs':=[I64 x32.At,I64 x32.Val]) .z7 at93 q q)<|Rv (O.al (cs:=[I64 0,I64 0]) ze93 q q)<|RunL.sO (G2:=[(1,_),(2,_),(3,_),(4,_),(7,_),(9,_),(38,.brw eI.z ⟨4,[]⟩ x13.length),(39,_),(40,_),(67,_),(68,_),(69,_)]) (cs2:=[I64 x32.At,I64 x32.Val]) q (.obj q) (.aggF q q) q sz93 q q q q (.n q q (.n q q (.n q q (.n q q (.n q q (.b q (.w (en:=eI) q q q q (.n q q (.n q q (.n q q (.n q q (.n q q .nil))))))))))))<|Fi (.n q (.n q (.n q (.n q (.n q (.n q (.r q (RK.brw (en:=eI) q) npBrw (tn5 q q q q q))))))))) ?_
      refine W.sq'<|bd h fun x33 hx33 h=>W.rd [[],[0],[],[0,1,2],[0,1,2,3],[],[5],rn 0 7 [],rn 0 8 []] [(1,_),(2,_),(3,_),(4,_),(7,_),(9,_),(10,_),(38,.brw eI.z ⟨4,[]⟩ x13.length),(39,_),(40,_),(67,_),(68,_),(69,_)] mixo (by kernel_rfl) (Dv 0 O.y1<|Dv 1 (O.y5 (y:=.brw eI.z ⟨3,[0]⟩ x20.length))<|Dv 2 (O.mv (.lit q))<|Dv 3 (O.ixO (en:=eI) q .z6 .z1 sl22 hx33 q)<|Dv 4 (O.ldE (en:=eI) (x':=I64 x33) q .z5 ct3 hx33 q q)<|Dv 5 O.y1<|Dv 6 O.y3<|Dv 7 (O.add .z1 .z1)<|Dv 8 (O.az (.lit q))<|DL.fin q q q (.n q (.n q (.n q (.n q (.n q (.n q (.n q (.r q (RK.brw (en:=eI) q) npBrw (tn5 q q q q q)))))))))) ?_
      refine Px.sq<|W.sq'<|W.bk<|bd h fun x35 hl h=>W.tr (G1:=[(1,_),(2,_),(3,_),(4,_),(7,_),(9,_),(10,_),(38,.brw eI.z ⟨4,[]⟩ x13.length),(39,_),(40,_),(67,_),(68,_),(69,_)]) (.n q (.n q (.n q (.n q (.n q (.n q (.n q (.r q (RK.brw (en:=eI) q) npBrw (tn5 q q q q q))))))))) ?_
      refine W.lp1 (s:=(s28.1,s28.2.1)) (fun (s34:List Int × List Int)=>[(1,.obj [iR (eM ePair) a0]),(2,.obj [.nils,.nils,.nils]),(3,.obj [oR eI x20,oR eI s34.1,oR eI s34.2]),(4,oR eI x13),(7,I64 x18),(9,.obj [I64 x32.At,I64 x32.Val]),(10,I64 (w64 (x33+x32.At))),(38,.brw eI.z ⟨4,[]⟩ x13.length),(39,I64 (x13.length:Int)),(40,I64 s14.2),(67,iR ePair x27),(68,I64 (x27.length:Int)),(69,I64 s28.2.2)]) 8 (fun (x35:List Int × List Int)=>[(1,.obj [iR (eM ePair) a0]),(2,.obj [.nils,.nils,.nils]),(3,.obj [oR eI x20,oR eI x35.1,oR eI x35.2]),(4,oR eI x13),(7,I64 x18),(9,.obj [I64 x32.At,I64 x32.Val]),(10,I64 (w64 (x33+x32.At))),(38,.brw eI.z ⟨4,[]⟩ x13.length),(39,I64 (x13.length:Int)),(40,I64 s14.2),(67,iR ePair x27),(68,I64 (x27.length:Int)),(69,I64 s28.2.2)]) hl (fun s34 o h=>?_) ?_
      ·clear hl
       refine W.sq'<|W.rs [(1,_),(2,_),(3,_),(4,_),(7,_),(9,_),(10,_),(38,.brw eI.z ⟨4,[]⟩ x13.length),(39,_),(40,_),(67,_),(68,_),(69,_),(85,_)] (Rv O.y1<|Rv (O.y5 (y:=.brw eI.z ⟨3,[2]⟩ s34.2.length))<|Rv (O.lenO .z6 sl22)<|Vm q<|Rv (O.leq .z1 .z1)<|Fi (.n q (.n q (.n q (.n q (.n q (.n q (.n q (.r q (RK.brw (en:=eI) q) npBrw (tn6 q q q q q q)))))))))) ?_
       refine W.ch h q (fun hb37 h=>?_) (fun hb37 h=>?_)
       ·refine W.sk<|Px.sq<|W.bk<|bd h fun x38 hx38 h=>bd h fun x39 hx39 h=>W.rd [[],[0],[],[0,1,2],[],[4],[],rn 0 7 [],rn 0 6 [],rn 0 9 [],rn 0 10 [],rn 0 11 []] [(1,_),(2,_),(3,_),(4,_),(7,_),(9,_),(10,_),(38,.brw eI.z ⟨4,[]⟩ x13.length),(39,_),(40,_),(67,_),(68,_),(69,_)] mixo (by kernel_rfl) (Dv 0 O.y1<|Dv 1 (O.y5 (y:=.brw eI.z ⟨3,[2]⟩ s34.2.length))<|DL.vi 2 (x:=iR eI [0]) (O.bs (ys:=[I64 0]) eI [0] sl22 q q q q q q zt3 q q) q q q q .none<|Dv 3 (O.ap (en:=eI) (r:=x38) .z6 q .z2 .i ap22 q hx38)<|Dv 4 O.y1<|Dv 5 (O.y5 (y:=.brw eI.z ⟨3,[1]⟩ s34.1.length))<|DL.vi 6 (x:=iR eI [0]) (O.bs (ys:=[I64 0]) eI [0] sl22 q q q q q q zt3 q q) q q q q .none<|Dv 7 (O.ap' (en:=eI) (r:=x39) .z6 q .z2 .i ap22 q hx39 (noQ_spec (by kernel_rfl) (by kernel_rfl)))<|Dv 8 O.y1<|DL.bw 9 (G2:=[(1,.obj [iR (eM ePair) a0]),(2,.obj [.nils,.nils,.nils]),(3,.obj [oR eI x20,.dead,oR eI (s34.2++[0])]),(4,oR eI x13),(7,I64 x18),(9,.obj [I64 x32.At,I64 x32.Val]),(10,I64 (w64 (x33+x32.At))),(38,.brw eI.z ⟨4,[]⟩ x13.length),(39,I64 (x13.length:Int)),(40,I64 s14.2),(67,iR ePair x27),(68,I64 (x27.length:Int)),(69,I64 s28.2.2),(93,oR eI (s34.1++[0]))]) (EffOk.settle (ts:=[89,93]) (xs:=[.brw eI.z ⟨89,[]⟩ (s34.2.length+[0].length),.brw eI.z ⟨93,[]⟩ (s34.1.length+[0].length)]) (ys:=[.own eI.z (s34.2.length+[0].length) (rowc eI s34.2++rowc eI [0]),.own eI.z (s34.1.length+[0].length) (rowc eI s34.1++rowc eI [0])]) (g2:=get [(1,.obj [iR (eM ePair) a0]),(2,.obj [.nils,.nils,.nils]),(3,.obj [oR eI x20,.dead,.dead]),(4,oR eI x13),(7,I64 x18),(9,.obj [I64 x32.At,I64 x32.Val]),(10,I64 (w64 (x33+x32.At))),(38,.brw eI.z ⟨4,[]⟩ x13.length),(39,I64 (x13.length:Int)),(40,I64 s14.2),(67,iR ePair x27),(68,I64 (x27.length:Int)),(69,I64 s28.2.2),(89,oR eI (s34.2++[0])),(93,oR eI (s34.1++[0])),(94,.ptr ⟨3,[]⟩ 2)]) q (TkL.take (.pn q q q .ns (.pn q q q .ns .nil))) (by decide) q (all2 q q) (Trim.keep (.n q (.n q (.n q (.n q (.n q (.n q (.n q (.r q (RK.brw (en:=eI) q) npBrw (.n q (.n q (.n q (.n q (.n q (.e q (oR_app _ _ _) (.e q (oR_app _ _ _) (.q q q q .nil))))))))))))))))) (EO.eff (EO.stB (y':=oR eI (s34.2++[0])) (cs2:=[oR eI x20,.dead,oR eI (s34.2++[0])]) q q (.ptr q) (.own q) (.r q .nil) .refl q sz22 q q q q q (.n q q (.n q q (.b q (.n q q (.n q q (.n q q (.n q q (.w (en:=eI) q q q q (.n q q (.n q q (.n q q (.n q q (.n q q (.n q q .nil))))))))))))))))) q q (by kernel_rfl) q q (by kernel_rfl)<|Dv 10 O.y1<|DL.bpz 11 (G2:=[(1,.obj [iR (eM ePair) a0]),(2,.obj [.nils,.nils,.nils]),(3,.obj [oR eI x20,oR eI (s34.1++[0]),oR eI (s34.2++[0])]),(4,oR eI x13),(7,I64 x18),(9,.obj [I64 x32.At,I64 x32.Val]),(10,I64 (w64 (x33+x32.At))),(38,.brw eI.z ⟨4,[]⟩ x13.length),(39,I64 (x13.length:Int)),(40,I64 s14.2),(67,iR ePair x27),(68,I64 (x27.length:Int)),(69,I64 s28.2.2)]) (EO.stB (y':=oR eI (s34.1++[0])) (cs2:=[oR eI x20,oR eI (s34.1++[0]),oR eI (s34.2++[0])]) q q (.ptr q) (.own q) (.r q .nil) .refl q sz22 q q q q q (.n q q (.n q q (.b q (.n q q (.n q q (.n q q (.n q q (.w (en:=eI) q q q q (.n q q (.n q q (.n q q (.n q q (.n q q .nil))))))))))))))<|DL.fin q q q (.n q (.n q (.n q (.n q (.n q (.n q (.n q (.r q (RK.brw (en:=eI) q) npBrw (tn5 q q q q q)))))))))) ?_
        exact Px.bk<|sm h ▸ Px.go (.n q (.n q (.n q (.n q (.n q (.n q (.n q (.r q (RK.brw (en:=eI) q) npBrw (tn5 q q q q q)))))))))
       ·exact W.xi<|Px.sqE<|sm h ▸ Px.x1 (.n q (.n q (.n q (.n q (.n q (.n q (.n q (.r q (RK.brw (en:=eI) q) npBrw (tn5 q q q q q)))))))))
      refine Px.bkH<|Px.sq<|bd h fun x40 hx40 h=>bd h fun x41 hx41 h=>W.rd [[],[0],[],[],[3],[],[],[6],[],[8],[0,1,2,6,7],[0,1,2,6,7,10],rn 0 12 [],rn 0 13 []] [(1,_),(2,_),(3,_),(4,_),(7,_),(38,.brw eI.z ⟨4,[]⟩ x13.length),(39,_),(40,_),(67,_),(68,_),(69,_)] mixo (by kernel_rfl) (Dv 0 O.y1<|Dv 1 (O.y5 (y:=.brw eI.z ⟨3,[2]⟩ x35.2.length))<|Dv 2 (O.mv (.lit q))<|Dv 3 O.y1<|Dv 4 (O.y5 (y:=.brw eI.z ⟨3,[1]⟩ x35.1.length))<|Dv 5 (O.mv (.lit q))<|Dv 6 (O.mv (.lit q))<|Dv 7 (O.add .z1 .z8)<|Dv 8 O.y1<|Dv 9 O.y3<|Dv 10 (O.ixO (en:=eI) q .z6 .z1 sl22 hx40 q)<|DL.bz 11 (G2:=[(1,.obj [iR (eM ePair) a0]),(2,.obj [.nils,.nils,.nils]),(3,.obj [oR eI x20,oR eI x35.1,oR eI (x35.2.set (w64 (x33+x32.At)).toNat (w64 (x18+1)))]),(4,oR eI x13),(7,I64 x18),(9,.obj [I64 x32.At,I64 x32.Val]),(10,I64 (w64 (x33+x32.At))),(38,.brw eI.z ⟨4,[]⟩ x13.length),(39,I64 (x13.length:Int)),(40,I64 s14.2),(67,iR ePair x27),(68,I64 (x27.length:Int)),(69,I64 s28.2.2)]) (U:=[(9,105,some (I64 x32.Val)),(8,104,some (.ptr ⟨9,[]⟩ 1)),(5,101,some (I64 (w64 (x33+x32.At)))),(4,100,some (.brw eI.z ⟨3,[1]⟩ x35.1.length)),(3,99,some (.ptr ⟨3,[]⟩ 1))]) (ps:=[⟨3,[1]⟩]) (EffOk.cell (r:=3) (k0:=1) (y:=oR eI x35.1) (g5:=get [(1,.obj [iR (eM ePair) a0]),(2,.obj [.nils,.nils,.nils]),(3,.obj [oR eI x20,oR eI x35.1,oR eI (x35.2.set (w64 (x33+x32.At)).toNat (w64 (x18+1)))]),(4,oR eI x13),(7,I64 x18),(9,.obj [I64 x32.At,I64 x32.Val]),(10,I64 (w64 (x33+x32.At))),(38,.brw eI.z ⟨4,[]⟩ x13.length),(39,I64 (x13.length:Int)),(40,I64 s14.2),(67,iR ePair x27),(68,I64 (x27.length:Int)),(69,I64 s28.2.2)]) q q NRc.nr (fun v _=>⟨get [(1,.obj [iR (eM ePair) a0]),(2,.obj [.nils,.nils,.nils]),(3,.obj [oR eI x20,.lit v,oR eI x35.2]),(4,oR eI x13),(7,I64 x18),(9,.obj [I64 x32.At,I64 x32.Val]),(10,I64 (w64 (x33+x32.At))),(38,.brw eI.z ⟨4,[]⟩ x13.length),(39,I64 (x13.length:Int)),(40,I64 s14.2),(67,iR ePair x27),(68,I64 (x27.length:Int)),(69,I64 s28.2.2),(103,I64 (w64 (x18+1))),(106,.ptr ⟨3,[2]⟩ ((w64 (x33+x32.At)).toNat * eI.z+0))],get [(1,.obj [iR (eM ePair) a0]),(2,.obj [.nils,.nils,.nils]),(3,.obj [oR eI x20,.lit v,oR eI (x35.2.set (w64 (x33+x32.At)).toNat (w64 (x18+1)))]),(4,oR eI x13),(7,I64 x18),(9,.obj [I64 x32.At,I64 x32.Val]),(10,I64 (w64 (x33+x32.At))),(38,.brw eI.z ⟨4,[]⟩ x13.length),(39,I64 (x13.length:Int)),(40,I64 s14.2),(67,iR ePair x27),(68,I64 (x27.length:Int)),(69,I64 s28.2.2)],Trim.keep (.n q (.n q (.n q (.n q (.n q (.n q (.n q (.r q (RK.brw (en:=eI) q) npBrw (.n q (.n q (.n q (.n q (.n q (.n q (.r q (RK.el (en:=eI) q hx40 q) npPtr .nil))))))))))))))),EO.eff (EO.stE (en:=eI) (y2:=w64 (x18+1)) (cs':=[I64 (w64 (x18+1))]) (x2:=.obj [oR eI x20,.lit v,oR eI (x35.2.set (w64 (x33+x32.At)).toNat (w64 (x18+1)))]) q q (.ptr q) (.lit q) q hx40 sz3 q q q q q q q (.n q q (.n q q (.b q (.n q q (.n q q (.n q q (.n q q (.w (en:=eI) q q q q (.n q q (.n q q (.n q q (.n q q (.n q q .nil)))))))))))))),q,Trim.keep (.n q (.n q (.n q (.n q (.n q (.n q (.n q (.r q (RK.brw (en:=eI) q) npBrw (tn5 q q q q q)))))))))⟩)) q q (by kernel_rfl) q q q (.c (.inr (.inl ⟨_,q⟩)) q q q q q (Gd.wanted .none) (O.ldOl q .z5 ct3 q) (.c (.inr (.inr (.inr (.inl ⟨9,_,_,q,q,of_blt q,by simp,_,q,of_blt q⟩)))) q q q q q (Gd.wanted .none) (O.fO q .z4 fd93_1 q) (.c (.inr (.inl ⟨_,q⟩)) q q q q q (Gd.wanted .none) (O.mv (.lit q)) (.c (.inl ⟨3,[1],_,_,_,_,q,by simp,q,q,Nat.le_refl _⟩) q q q q q (Gd.wanted .none) (O.ldO (y:=.brw eI.z ⟨3,[1]⟩ x35.1.length) q .z5 ct22 q q) (.c (.inr (.inr (.inr (.inl ⟨3,_,_,q,q,of_blt q,by simp,_,q,of_blt q⟩)))) q q q q q (Gd.wanted .none) (O.fO q .z4 fd46_1 q) .nil))))) (by kernel_rfl)<|Dv 12 (O.ixO (en:=eI) q .z6 .z1 sl22 hx41 q)<|DL.bpz 13 (G2:=[(1,.obj [iR (eM ePair) a0]),(2,.obj [.nils,.nils,.nils]),(3,.obj [oR eI x20,oR eI (x35.1.set (w64 (x33+x32.At)).toNat x32.Val),oR eI (x35.2.set (w64 (x33+x32.At)).toNat (w64 (x18+1)))]),(4,oR eI x13),(7,I64 x18),(38,.brw eI.z ⟨4,[]⟩ x13.length),(39,I64 (x13.length:Int)),(40,I64 s14.2),(67,iR ePair x27),(68,I64 (x27.length:Int)),(69,I64 s28.2.2)]) (EO.stE (en:=eI) (y2:=x32.Val) (cs':=[I64 x32.Val]) (x2:=.obj [oR eI x20,oR eI (x35.1.set (w64 (x33+x32.At)).toNat x32.Val),oR eI (x35.2.set (w64 (x33+x32.At)).toNat (w64 (x18+1)))]) q q (.ptr q) (.lit q) q hx41 sz3 q q q q q q q (.n q q (.n q q (.b q (.n q q (.n q q (.w (en:=eI) q q q q (.n q q (.n q q (.n q q (.n q q (.n q q .nil))))))))))))<|DL.fin q q q (.n q (.n q (.n q (.n q (.n q (.r q (RK.brw (en:=eI) q) npBrw (tn5 q q q q q)))))))) ?_
      refine Px.bk<|Px.sq<|W.rx [(1,_),(2,_),(3,_),(4,_),(7,_),(38,.brw eI.z ⟨4,[]⟩ x13.length),(39,_),(40,_),(67,_),(68,_),(69,_)] (Rv (O.add .z1 .z8)<|RunL.re (G1:=[(1,_),(2,_),(3,_),(4,_),(7,_),(38,.brw eI.z ⟨4,[]⟩ x13.length),(39,_),(40,_),(67,_),(68,_),(108,_)]) (.n q (.n q (.n q (.n q (.n q (.r q (RK.brw (en:=eI) q) npBrw (tn5 q q q q q)))))))<|Vm q<|Fi (.n q (.n q (.n q (.n q (.n q (.r q (RK.brw (en:=eI) q) npBrw (tn5 q q q q q)))))))) ?_
      exact sm h ▸ Px.go (.n q (.n q (.n q (.n q (.n q (.r q (RK.brw (en:=eI) q) npBrw (tn5 q q q q q)))))))
     ·exact W.xi<|Px.sqE<|sm h ▸ Px.x1 (.n q (.n q (.n q (.n q (.r q (RK.brw (en:=eI) q) npBrw (tn2 q q))))))
    refine Px.bkH<|Px.bk<|Px.sq<|W.rx [(1,_),(2,_),(3,_),(4,_),(38,.brw eI.z ⟨4,[]⟩ x13.length),(39,_),(40,_)] (Rv (O.add .z1 .z8)<|RunL.re (G1:=[(1,_),(2,_),(3,_),(4,_),(38,.brw eI.z ⟨4,[]⟩ x13.length),(39,_),(109,_)]) (.n q (.n q (.n q (.n q (.r q (RK.brw (en:=eI) q) npBrw (tn2 q q))))))<|Vm q<|Fi (.n q (.n q (.n q (.n q (.r q (RK.brw (en:=eI) q) npBrw (tn2 q q))))))) ?_
    exact sm h ▸ Px.go (.n q (.n q (.n q (.n q (.r q (RK.brw (en:=eI) q) npBrw (tn2 q q))))))
   ·exact W.xi<|Px.sqE<|sm h ▸ Px.t1
  refine Px.bkH<|Px.sq<|W.rq [2] (Rv (O.ldON (cs':=[.brw eI.z ⟨3,[0]⟩ x15.Base.length,.brw eI.z ⟨3,[1]⟩ x15.Val.length,.brw eI.z ⟨3,[2]⟩ x15.Chk.length]) q .z4 at46 q q)<|RunL.ef (G2:=[(2,.obj (eComb_r.cells x15))]) q (EO.stB (y':=.agg (eComb_r.cells x15)) (cs2:=eComb_r.cells x15) q q (.obj q) (.aggF q q) (.ag (.r q (.r q (.r q .nil))) .nil) (FzL.agg (.f (.f (.f .nil)))) q sz46 q q q q q (.b q .nil))<|Fk q) ?_
  exact W.rt<|sm h ▸ Pr (.c (ys0:=[.brw eI.z ⟨2,[0]⟩ x15.Base.length,.brw eI.z ⟨2,[1]⟩ x15.Val.length,.brw eI.z ⟨2,[2]⟩ x15.Chk.length]) q at46 q q q (.o q (.o q (.o q .nil))) .nil)
instance con32 {a0:(List (List Pair))}{r:Comb}:CF Tryz.prog 32 (pf32 a0=some r) [iR (eM ePair) a0] [none] (.agg (eComb_r.cells r)):=⟨con32l a0 _⟩
theorem con16l (a0:(List Row)) (r:(List Int) × Comb) (h:pf16 a0=some r):Con Tryz.prog 16 [iR eRow_0 a0] [none] (.tup [iR eI r.1,.agg (eComb_0.cells r.2)]):=by
 unfold pf16 at h
 refine Con.go (N:=⟨27,[]⟩) Tryz.func16 q q q q (W.fin ?_)
 refine W.st [(0,iR eRow_0 a0)] ?_
 refine W.rq [0,2,3] (Rv (O.az .knil)<|Rv (O.al (cs:=[.nils,.nils,.nils]) ze46 q q)<|Fk q) ?_
 refine W.aq [0,2,3,4] ?_
 refine W.sq'<|W.rq [2,3,4,7,8,9] (Rv (O.mv .z2)<|Rv O.y9<|Rv (O.mv .z8)<|Fk q) ?_
 refine W.bk<|bd h fun x2 hl h=>W.l1 (([]:List Int),([]:List (List Pair)),0) (fun (s1:List Int × List (List Pair) × Int)=>[(2,oR eI s1.1),(4,oR (eM ePair) s1.2.1),(9,I64 s1.2.2)]) [2,3,4,7,8,9] 0 (fun (x2:List Int × List (List Pair))=>[(2,oR eI x2.1),(4,oR (eM ePair) x2.2)]) [2,3,4] hl (fun s1 o h=>?_) ?_
 ·clear hl
  refine W.aq [2,3,4,7,8,9,10] ?_
  refine W.sq'<|W.ch h q (fun hb4 h=>?_) (fun hb4 h=>?_)
  ·refine W.sk<|Px.sq<|W.sq'<|W.bk<|bd h fun x5 hx5 h=>W.rq [2,3,4,6,7,8,9] (Rv (O.y4 hx5)<|Rv (O.ldIN (cs':=[I64 x5.Def,iR ePair x5.Pairs]) .z7 at104 q q)<|Rv (O.al (cs:=[I64 0,.nils]) ze104 q q)<|RunL.f' (EO.sva [2,3,4,6,7,8,9])<|Fk q) ?_
   refine W.tr (G1:=[(2,_),(3,_),(4,_),(6,_),(7,_),(8,_),(9,_)]) (tn7 q q q q q q q) ?_
   refine bd h fun x6 hx6 h=>bd h fun x7 hx7 h=>W.rd [[],[],[1],[1,2],[0,1,2,3],[],[],[6],[6,7],rn 0 9 [],rn 0 10 [],rn 0 11 []] [(2,_),(3,_),(4,_),(7,_),(8,_),(9,_)] mixo (by kernel_rfl) (Dv 0 (O.mv .z3)<|Dv 1 O.y1<|Dv 2 O.y3<|DL.vi 3 (x:=iR eI [x5.Def]) (O.bs (ys:=[I64 x5.Def]) eI [x5.Def] sl22 q q q q q q zt3 q q) q q q q .none<|Dv 4 (O.ap (en:=eI) (r:=x6) .z6 q .z2 .i ap22 q hx6)<|Dv 5 (O.mv .z3)<|Dv 6 O.y1<|Dv 7 (O.y5 (y:=iR ePair x5.Pairs))<|DL.vi 8 (x:=iR (eM ePair) [x5.Pairs]) (O.bs (ys:=[iR ePair x5.Pairs]) (eM ePair) [x5.Pairs] sl102 q q q q q q zt47 q q) q q q q .none<|Dv 9 (O.ap' (en:=(eM ePair)) (r:=x7) .z6 q .z2 .i ap102 q hx7 (noQ_spec (by kernel_rfl) (by kernel_rfl)))<|DL.bwv 10 (G2:=[(3,.obj [.nils,.nils,.nils]),(7,iR eRow_0 a0),(8,I64 (a0.length:Int)),(9,I64 s1.2.2),(22,oR (eM ePair) (s1.2.1++[x5.Pairs]))]) (EffOk.settle (ts:=[17,22]) (xs:=[.brw eI.z ⟨17,[]⟩ (s1.1.length+[x5.Def].length),.brw (eM ePair).z ⟨22,[]⟩ (s1.2.1.length+[x5.Pairs].length)]) (ys:=[.own eI.z (s1.1.length+[x5.Def].length) (rowc eI s1.1++rowc eI [x5.Def]),.own (eM ePair).z (s1.2.1.length+[x5.Pairs].length) (rowc (eM ePair) s1.2.1++rowc (eM ePair) [x5.Pairs])]) (g2:=get [(2,.dead),(3,.obj [.nils,.nils,.nils]),(4,.dead),(7,iR eRow_0 a0),(8,I64 (a0.length:Int)),(9,I64 s1.2.2),(17,oR eI (s1.1++[x5.Def])),(22,oR (eM ePair) (s1.2.1++[x5.Pairs]))]) q (TkL.take (.pn q q q .ns (.pn q q q .ns .nil))) (by decide) q (all2 q q) (Trim.keep (.n q (.n q (.n q (.n q (.n q (.n q (.e q (oR_app _ _ _) (.e q (oR_app _ _ _) .nil))))))))) (EO.eff (EO.aR q q (.own q) q (.n q q (.n q q (.n q q (.n q q (.n q q .nil))))) q q))) q q (by kernel_rfl) q q (by kernel_rfl)<|DL.bvz 11 (EO.ar [2,3,7,8,9])<|DL.fin q q q (tn6 q q q q q q)) ?_
   refine Px.bk<|Px.sq<|W.rk [2,3,4,7,8,9] (Rv (O.add .z1 .z8)<|RunL.rk [2,3,4,7,8,23] q<|RunL.au) ?_
   exact sm h ▸ Px.gt
  ·exact W.xi<|Px.sqE<|sm h ▸ Px.t1
 refine Px.bkH<|Px.sq<|bd h fun x8 hx8 h=>W.rq [2,3] (Rv (O.mv .z3)<|Rv (O.mv .z3)<|Rc (PC.vz (ys:=[.brw (eM ePair).z ⟨4,[]⟩ x2.2.length]) q (.c (.row q) .nil) (CF.go hx8))<|RunL.a' (EO.ar [3,26])<|RunL.ef (G2:=[(2,oR eI x2.1),(3,.obj (eComb_0.cells x8))]) q (EO.stB (y':=.agg (eComb_0.cells x8)) (cs2:=eComb_0.cells x8) q q (.obj q) (.agg q q) (.ag (.r q (.r q (.r q .nil))) .nil) (FzL.agg (.z (.z (.z .nil)))) q sz46 q q q q q (.n q q (.b q .nil)))<|Fk q) ?_
 refine W.fz (G1:=[(2,iR eI x2.1),(3,_)]) [2] (.z q q .zz (.n q q .nil)) ?_
 exact W.rt<|sm h ▸ Pr (.f q q (.c (ys0:=eComb_0.cells x8) q at46 q q q (.f q (.f q (.f q .nil))) .nil))
instance con16 {a0:(List Row)}{r:(List Int) × Comb}:CF Tryz.prog 16 (pf16 a0=some r) [iR eRow_0 a0] [none] (.tup [iR eI r.1,.agg (eComb_0.cells r.2)]):=⟨con16l a0 _⟩
theorem con33l (a0:(List Int)) (r:Int) (h:pf33 a0=some r):Con Tryz.prog 33 [iR eI a0] [none] (I64 r):=by
 unfold pf33 at h
 refine Con.go (N:=⟨44,[]⟩) Tryz.func33 q q q q (W.fin ?_)
 refine W.st [(0,iR eI a0)] ?_
 refine W.aq [0] ?_
 refine W.rq [0,3] (Rv (O.mkm mk3 mv3)<|RunL.ea (G2:=[(0,iR eI a0)]) q (EO.aG (y':=.mp (MI mk3 mv3 ([]:List (Int × Int)))) q q (.mp q) (.m q .nil) .refl (.n q .nil) q q)<|Fk q) ?_
 refine W.aq [0,3,4] ?_
 refine W.sq'<|W.rq [3,4,9,10,11] (Rv (O.mv .z2)<|Rv O.y9<|Rv (O.mv .z8)<|Fk q) ?_
 refine W.bk<|bd h fun x2 hl h=>W.l1 (([]:List (Int × Int)),(-1),0) (fun (s1:(List (Int × Int)) × Int × Int)=>[(3,.mp (MI mk3 mv3 s1.1)),(4,I64 s1.2.1),(11,I64 s1.2.2)]) [3,4,9,10,11] 0 (fun (x2:Int)=>[(4,I64 x2)]) [4] hl (fun s1 o h=>?_) ?_
 ·clear hl
  refine W.aq [3,4,9,10,11,12] ?_
  refine W.sq'<|W.ch h q (fun hb4 h=>?_) (fun hb4 h=>?_)
  ·refine W.sk<|Px.sq<|W.sq'<|bd h fun j5 hj h=>W.jq [3,4,9,10,11] [(3,.mp (MI mk3 mv3 j5.1)),(4,I64 j5.2)] ?_ ?_
   ·clear h; have h:=hj; clear hj
    refine W.bk<|bd h fun x6 hx6 h=>W.aq [3,4,6,9,10,11] ?_
    refine bd h fun x7 hx7 h=>bd h fun x8 hx8 h=>W.rq [3,4,6,9,10,11] (Rv (O.mv (.mp q))<|Vm q<|Rv (O.lk (K:=mk3) (V:=mv3) (m:=s1.1) (x:=x6) (Y:=I64 x6) (X:=I64 x7) (.mref q) q .z1 q um133 hx7 q)<|Rv (O.add .z1 .z8)<|RunL.ef (G2:=[(3,.mp (MI mk3 mv3 x8)),(4,I64 s1.2.1),(6,I64 x6),(9,iR eI a0),(10,I64 (a0.length:Int)),(11,I64 s1.2.2)]) q (EO.mt (K:=mk3) (V:=mv3) (m:=s1.1) (m':=x8) (x:=x6) (y:=w64 (x7+1)) (Y:=I64 x6) (Z:=I64 (w64 (x7+1))) (p:=⟨3,[]⟩) (x2:=.mp (MI mk3 mv3 x8)) q q (.mref q) q (.lit q) q (.lit q) q um133 hx8 q q q (.b q (.n q q (.n q q (.n q q (.n q q (.n q q .nil)))))))<|Fk q) ?_
    refine bd h fun x9 hx9 h=>bd h fun x10 hx10 h=>W.rq [3,4,6,7,9,10,11] (Rv (O.mv (.mp q))<|Vm q<|Rv (O.lk (K:=mk3) (V:=mv3) (m:=x8) (x:=x6) (Y:=I64 x6) (X:=I64 x9) (.mref q) q .z1 q um133 hx9 q)<|Rv (O.mv (.mp q))<|Vm q<|Rv (O.lk (K:=mk3) (V:=mv3) (m:=x8) (x:=s1.2.1) (Y:=I64 s1.2.1) (X:=I64 x10) (.mref q) q .z1 q um133 hx10 q)<|RunL.au) ?_
    refine bd h fun c14 hj h=>W.rz [3,4,6,9,10,11,40] [(40,BB c14)] ?_ ?_
    ·refine Vm q<|Rv (O.lss .z1 .z8)<|Rv (O.mv (.lit q)) ?_
     rcases cnd hj with ⟨hb11,hj⟩ | ⟨hb11,hj⟩
     ·exact sm hj ▸ RunL.au
     ·refine Yv hb11 (O.mv (.lit q))<|Yv hb11 (O.gtr .z1 .z8)<|Rv (O.pkF .z1 hb11 .z1)<|Rv (O.mv (.lit q)) ?_
      rcases cnd hj with ⟨hb12,hj⟩ | ⟨hb12,hj⟩
      ·exact sm hj ▸ RunL.au
      ·refine Yv hb12 (O.mv (.lit q))<|Yv hb12 (O.eql .z1 .z8)<|Yv hb12 (O.mv (.lit q)) ?_
       rcases cnd hj with ⟨hb13,hj⟩ | ⟨hb13,hj⟩
       ·exact sm hj ▸ (Yv hb13 (O.mv (.lit q))<|Yv hb13 (O.mv (.lit q))<|Yv hb13 (O.lss .z1 .z1)<|Yv hb12 (O.pkT .z1 hb13 .z1)<|RunL.au)
       ·exact sm hj ▸ (Ps hb13<|Ps hb13<|Ps hb13<|Yv hb12 (O.pkF .z1 hb13 .z8)<|RunL.au)
    refine bd h fun j15 hj h=>W.jq [3,4,9,10,11] [(4,I64 j15)] ?_ ?_
    ·clear h; have h:=hj; clear hj
     refine W.ch h q (fun hb16 h=>?_) (fun hb16 h=>?_)
     ·refine W.rk [3,4,9,10,11] (Vm q<|RunL.rk [3,9,10,11,41] q<|RunL.au) ?_
      exact sm h ▸ Px.jt
     ·exact W.sk<|sm h ▸ Px.jt
    exact Px.bk<|sm h ▸ Px.jt
   refine Px.sq<|W.rk [3,4,9,10,11] (Rv (O.add .z1 .z8)<|RunL.rk [3,4,9,10,42] q<|RunL.au) ?_
   exact sm h ▸ Px.gt
  ·exact W.xi<|Px.sqE<|sm h ▸ Px.t1
 refine Px.bkH<|Px.sq<|W.aq [2] ?_
 exact W.rt<|sm h ▸ Pq
instance con33 {a0:(List Int)}{r:Int}:CF Tryz.prog 33 (pf33 a0=some r) [iR eI a0] [none] (I64 r):=⟨con33l a0 _⟩
instance con34 {a0:Act}{r:Int}:CF Tryz.prog 34 (pf34 a0=some r) [.agg [I64 a0.Kind,I64 a0.N]] [none] (I64 r):=⟨fun h=>by unfold pf34 at h; exact Con.au (N:=⟨55,[]⟩) [1,2,3,20,37,46] (.rj 1 [1,3] (fun (c3:Bool)=>[(3,BB c3)]) (.b .e (.rj 3 [1,20] (fun (c7:Bool)=>[(20,BB c7)]) (.b .e (.rj 5 [1,37] (fun (c10:Bool)=>[(37,BB c10)]) (.b .e (.rj 7 [46] (fun (c13:Bool)=>[(46,BB c13)]) .e))))))) Tryz.func34 rfl rfl rfl rfl rfl goW⟩
instance con17 {a0:Dense}{r:(List Row)}:CF Tryz.prog 17 (pf17 a0=some r) [.agg [iR (eM eAct) a0.Acts,iR (eM eI) a0.Gotos]] [none] (iR eRow_0 r):=⟨fun h=>by unfold pf17 at h; exact Con.au (N:=⟨75,[]⟩) [1,2,3,5,6,8,9,10,11,13,14,15,16,19,20,21,22,27,37,38,39,40,58] (.lp (fun (s1:List Row × Int)=>[(3,oR eRow_0 s1.1),(15,I64 s1.2)]) [3,13,14,15] 0 (fun (x2:List Row)=>[(3,oR eRow_0 x2)]) [3] (.b (.lp (fun (s6:List Int × Int)=>[(6,oR eI s6.1),(21,I64 s6.2)]) [3,5,6,13,14,15,19,20,21] 2 (fun (x7:List Int)=>[(6,oR eI x7)]) [3,5,6,13,14,15] (.b (.jn [3,5,6,13,14,15,19,20,21] (fun (j10:List Int)=>[(6,oR eI j10)]) (.p (.jn [3,5,6,13,14,15,19,20,21] (fun (j12:List Int)=>[(6,oR eI j12)]) .e .e)) .e) .e) (.lp (fun (s16:List Pair × Int)=>[(2009,oR ePair s16.1),(39,I64 s16.2)]) [3,9,13,14,15,37,38,39] 4 (fun (x17:List Pair)=>[(2009,oR ePair x17)]) [3,9,13,14,15] (.b (.jn [3,9,13,14,15,37,38,39] (fun (j20:List Pair)=>[(2009,oR ePair j20)]) (.rj 16 [3,9,10,11,13,14,15,37,38,39,58] (fun (c24:Bool)=>[(58,BB c24)]) (.jn [3,9,13,14,15,37,38,39] (fun (j25:List Pair)=>[(2009,oR ePair j25)]) (.b (.rd 17 [[],[0],[],[],[3],[2,3,4],[2,3,4,5],rn 0 7 [],rn 0 8 [],rn 0 9 []] .e) .e) .e)) .e) .e) (.fz 19 9 (some 1) ePair .e))) .e) .e) Tryz.func17 rfl rfl rfl rfl rfl goW⟩
instance con18 {a0:Dense}{r:(List Row)}:CF Tryz.prog 18 (pf18 a0=some r) [.agg [iR (eM eAct) a0.Acts,iR (eM eI) a0.Gotos]] [none] (iR eRow_0 r):=⟨fun h=>by unfold pf18 at h; exact Con.au (N:=⟨86,[]⟩) [1,2,3,4,5,7,8,9,10,14,19,20,21,24,25,26,27,34,47,48,49,50,67] (.b .e (.lp (fun (s3:List Row × Int)=>[(3,oR eRow_0 s3.1),(20,I64 s3.2)]) [1,3,19,20] 0 (fun (x4:List Row)=>[(3,oR eRow_0 x4)]) [3] (.b (.lp (fun (s7:List Int × Int)=>[(5,oR eI s7.1),(26,I64 s7.2)]) [1,3,4,5,19,20,24,25,26] 2 (fun (x8:List Int)=>[(5,oR eI x8)]) [1,3,4,5,19,20] (.b (.jn [1,3,4,5,19,20,24,25,26] (fun (j11:List Int)=>[(5,oR eI j11)]) (.p (.jn [1,3,4,5,19,20,24,25,26] (fun (j14:List Int)=>[(5,oR eI j14)]) .e .e)) .e) .e) (.lp (fun (s19:List Pair × Int)=>[(2008,oR ePair s19.1),(49,I64 s19.2)]) [1,3,4,8,19,20,47,48,49] 4 (fun (x20:List Pair)=>[(2008,oR ePair x20)]) [1,3,8,19,20] (.b (.jn [1,3,4,8,19,20,47,48,49] (fun (j23:List Pair)=>[(2008,oR ePair j23)]) (.rk 18 [[],[],[0,1],[0,1,2],[0,1,2,3],rn 0 5 [],rn 0 6 [],rn 0 6 [],rn 0 8 [],rn 0 9 [],rn 0 6 [],rn 0 6 [10],rn 0 12 [],rn 0 13 []] [1,3,4,8,9,10,19,20,47,48,49,67] (fun (c28:Bool)=>[(67,BB c28)]) (.jn [1,3,4,8,19,20,47,48,49] (fun (j29:List Pair)=>[(2008,oR ePair j29)]) (.b (.rd 19 [[],[0],[],[],[],[3,4],[3,4,5],rn 2 5 [],rn 2 6 [],rn 0 9 [],rn 0 10 [],rn 0 11 []] .e) .e) .e)) .e) .e) (.fz 21 8 (some 1) ePair .e))) .e) .e)) Tryz.func18 rfl rfl rfl rfl rfl goW⟩
instance con36 {a0:Pair}{a1:Pair}{r:Int}:CF Tryz.prog 36 (pf36 a0 a1=some r) [.agg [I64 a0.At,I64 a0.Val],.agg [I64 a1.At,I64 a1.Val]] [none,none] (I64 r):=⟨fun h=>by unfold pf36 at h; exact Con.au (N:=⟨10,[]⟩) [2,3,4] .e Tryz.func36 rfl rfl rfl rfl rfl goW⟩
theorem con19l (a0:Grammar) (r:(List Pair)) (h:pf19 a0=some r):Con Tryz.prog 19 [.agg (eGrammar_0.cells a0)] [none] (iR ePair r):=by
 unfold pf19 at h
 refine Con.go (N:=⟨28,[]⟩) Tryz.func19 q q q q (W.fin ?_)
 refine W.st [(0,.agg (eGrammar_0.cells a0))] ?_
 refine W.rq [1] (Rv (O.box (.aggF q q) q)<|RunL.au) ?_
 refine W.aq [1,3] ?_
 refine W.sq'<|W.rq [3,7,8,9] (Rv O.y1<|Rv (O.y5 (y:=iR eTok a0.Toks))<|Rv O.y9<|Rv (O.mv .z8)<|Fk q) ?_
 refine W.bk<|bd h fun x2 hl h=>W.l1 (([]:List Pair),0) (fun (s1:List Pair × Int)=>[(3,oR ePair s1.1),(9,I64 s1.2)]) [3,7,8,9] 0 (fun (x2:List Pair)=>[(3,oR ePair x2)]) [3] hl (fun s1 o h=>?_) ?_
 ·clear hl
  refine W.aq [3,7,8,9,10] ?_
  refine W.sq'<|W.ch h q (fun hb4 h=>?_) (fun hb4 h=>?_)
  ·refine W.sk<|Px.sq<|W.sq'<|bd h fun j5 hj h=>W.jq [3,7,8,9] [(3,oR ePair j5)] ?_ ?_
   ·clear h; have h:=hj; clear hj
    refine W.bk<|bd h fun x6 hx6 h=>W.rq [3,4,5,7,8,9] (Vm q<|Rv (O.y4 hx6)<|Rv (O.ldIN (cs':=eTok.cells x6) .z7 at110 q q)<|Rv (O.al (cs:=[SS S0,BB false,I64 0,I64 0,I64 0,SS S0]) ze110 q q)<|Va q<|RunL.f' (EO.sva [3,4,5,7,8,9])<|Fk q) ?_
    refine W.aq [3,4,5,7,8,9,16] ?_
    refine bd h fun j7 hj h=>W.jq [3,7,8,9] [(3,oR ePair j7)] ?_ ?_
    ·clear h; have h:=hj; clear hj
     refine W.ch h q (fun hb8 h=>?_) (fun hb8 h=>?_)
     ·refine bd h fun x9 hx9 h=>W.rk [3,7,8,9] (Rv (O.mv .z3)<|Rv O.y1<|Rv O.y3<|Vm q<|Rv (O.bu (cs:=[I64 x6.Num,I64 s1.2]) sc93 ze93 q q q)<|RunL.vi (x:=iR ePair [(⟨x6.Num,s1.2⟩:Pair)]) (O.bs (ys:=[.agg [I64 x6.Num,I64 s1.2]]) ePair [(⟨x6.Num,s1.2⟩:Pair)] sl47 q q q q q q zt93 q q) q q .none<|Rv (O.ap (en:=ePair) (r:=x9) .z6 q .z2 .i ap47 q hx9)<|RunL.a' (EO.apq [7,8,9])<|Fk q) ?_
      exact sm h ▸ Px.jt
     ·exact W.sk<|sm h ▸ Px.jt
    exact Px.bk<|sm h ▸ Px.jt
   refine Px.sq<|W.rk [3,7,8,9] (Rv (O.add .z1 .z8)<|RunL.rk [3,7,8,24] q<|RunL.au) ?_
   exact sm h ▸ Px.gt
  ·exact W.xi<|Px.sqE<|sm h ▸ Px.t1
 refine Px.bkH<|Px.sq<|bd h fun x10 hx10 h=>W.rq [3] (Rv (O.mv .z3)<|RunL.ef q (EO.call q q (CallOk.lv (en:=ePair) (L:=x2) (L':=x10) (G2:=[]) (ys:=[.clo (.func 36) [] []]) (args:=[.clo (.func 36) [] []]) q q q q (.c (View.cl .nil) .nil) (sort35 call36 hx10 (fun a b v h=>CF.go h)) call35 .nil q q .nil q))<|Fk q) ?_
 refine W.rq [2] (Rv (O.mv .z3)<|RunL.a' (EO.ar [])<|Fk q) ?_
 refine W.fz (G1:=[(2,iR ePair x10)]) [2] (.z q q .zz .nil) ?_
 exact W.rt<|sm h ▸ Pq
instance con19 {a0:Grammar}{r:(List Pair)}:CF Tryz.prog 19 (pf19 a0=some r) [.agg (eGrammar_0.cells a0)] [none] (iR ePair r):=⟨con19l a0 _⟩
theorem con8l (a0:Grammar) (a1:Dense) (r:Tables) (h:pf8 a0 a1=some r):Con Tryz.prog 8 [.agg (eGrammar_0.cells a0),.agg [iR (eM eAct) a1.Acts,iR (eM eI) a1.Gotos]] [none,none] (.agg (eTables_0.cells r)):=by
 unfold pf8 at h
 refine Con.go (N:=⟨51,[]⟩) Tryz.func8 q q q q (W.fin ?_)
 refine W.st [(0,.agg (eGrammar_0.cells a0)),(1,.agg [iR (eM eAct) a1.Acts,iR (eM eI) a1.Gotos])] ?_
 refine W.rq [2,3,4] (Rv (O.box (.aggF q q) q)<|Rv (O.box (.aggF q q) q)<|Rv (O.al (cs:=[.nils,.nils,.nils,.nils,.nils,.nils,.nils,.nils,.nils,.nils,.nils]) ze49 q q)<|Fk q) ?_
 refine W.rq [2,3,4,5] (Rv (O.al (cs:=[.nils,.nils,.nils,.nils,.nils,.nils,.nils,.nils,.nils,.nils,.nils]) ze49 q q)<|Fk q) ?_
 refine bd h fun x1 hx1 h=>bd h fun x2 hx2 h=>W.rq [2,3,4,5] (Rv (O.ldON (cs':=[iR (eM eAct) a1.Acts,iR (eM eI) a1.Gotos]) q .z4 at32 q q)<|Rc (PC.gz (.cc (.aggF q q) .nil) (CF.go hx1))<|Rc (PC.gz (.cc (.imm q) .nil) (CF.go hx2))<|Rv (O.mv (.tup q q))<|Rv (O.ex (y:=iR eI x2.1) q q q)<|Rv (O.ex (y:=.agg (eComb_0.cells x2.2)) q q q)<|Rv O.y1<|RunL.sO (G2:=[(2,_),(3,_),(4,_),(5,_),(13,_)]) (cs2:=[iR eI x2.1,.nils,.nils,.nils,.nils,.nils,.nils,.nils,.nils,.nils,.nils]) q (.ptr q) (.imm q) q sz22 q q q q (.n q q (.n q q (.n q q (.b q (.n q q .nil)))))<|Rv O.y1<|RunL.sO (G2:=[(2,_),(3,_),(4,_),(5,_)]) (cs2:=[iR eI x2.1,iR eI x2.2.Base,iR eI x2.2.Val,iR eI x2.2.Chk,.nils,.nils,.nils,.nils,.nils,.nils,.nils]) q (.ptr q) (.aggF q q) q sz46 q q q q (.n q q (.n q q (.n q q (.b q .nil))))<|Fk q) ?_
 refine bd h fun x3 hx3 h=>bd h fun x4 hx4 h=>W.rq [2,4,5] (Rv (O.ldON (cs':=[iR (eM eAct) a1.Acts,iR (eM eI) a1.Gotos]) q .z4 at32 q q)<|Rc (PC.gz (.cc (.aggF q q) .nil) (CF.go hx3))<|Rc (PC.gz (.cc (.imm q) .nil) (CF.go hx4))<|Rv (O.mv (.tup q q))<|Rv (O.ex (y:=iR eI x4.1) q q q)<|Rv (O.ex (y:=.agg (eComb_0.cells x4.2)) q q q)<|Rv O.y1<|RunL.sO (G2:=[(2,_),(4,_),(5,_),(21,_)]) (cs2:=[iR eI x2.1,iR eI x2.2.Base,iR eI x2.2.Val,iR eI x2.2.Chk,iR eI x4.1,.nils,.nils,.nils,.nils,.nils,.nils]) q (.ptr q) (.imm q) q sz22 q q q q (.n q q (.n q q (.b q (.n q q .nil))))<|Rv O.y1<|RunL.sO (G2:=[(2,_),(4,_),(5,_)]) (cs2:=[iR eI x2.1,iR eI x2.2.Base,iR eI x2.2.Val,iR eI x2.2.Chk,iR eI x4.1,iR eI x4.2.Base,iR eI x4.2.Val,iR eI x4.2.Chk,.nils,.nils,.nils]) q (.ptr q) (.aggF q q) q sz46 q q q q (.n q q (.n q q (.b q .nil)))<|Fk q) ?_
 refine W.sq'<|W.rq [2,4,5,25,26,27] (Rv O.y1<|Rv (O.y5 (y:=iR eProd_0 a0.Prods))<|Rv O.y9<|Rv (O.mv .z8)<|Fk q) ?_
 refine W.bk<|bd h fun x6 hl h=>W.tr (G1:=[(2,_),(4,_),(5,.obj [iR eI x2.1,iR eI x2.2.Base,iR eI x2.2.Val,iR eI x2.2.Chk,iR eI x4.1,iR eI x4.2.Base,iR eI x4.2.Val,iR eI x4.2.Chk,oR eI ([]:List Int),oR eI ([]:List Int),.nils]),(25,_),(26,_),(27,_)]) (.n q (.n q (.w q q (WkL.obj (.f (.f (.f (.f (.f (.f (.f (.f (.o (.o (.f .nil)))))))))))) (tn3 q q q)))) ?_
 refine W.lp1 (s:=(([]:List Int),([]:List Int),0)) (fun (s5:List Int × List Int × Int)=>[(2,.obj (eGrammar_0.cells a0)),(4,.obj [.nils,.nils,.nils,.nils,.nils,.nils,.nils,.nils,.nils,.nils,.nils]),(5,.obj [iR eI x2.1,iR eI x2.2.Base,iR eI x2.2.Val,iR eI x2.2.Chk,iR eI x4.1,iR eI x4.2.Base,iR eI x4.2.Val,iR eI x4.2.Chk,oR eI s5.1,oR eI s5.2.1,.nils]),(25,iR eProd_0 a0.Prods),(26,I64 (a0.Prods.length:Int)),(27,I64 s5.2.2)]) 0 (fun (x6:List Int × List Int)=>[(2,.obj (eGrammar_0.cells a0)),(4,.obj [.nils,.nils,.nils,.nils,.nils,.nils,.nils,.nils,.nils,.nils,.nils]),(5,.obj [iR eI x2.1,iR eI x2.2.Base,iR eI x2.2.Val,iR eI x2.2.Chk,iR eI x4.1,iR eI x4.2.Base,iR eI x4.2.Val,iR eI x4.2.Chk,oR eI x6.1,oR eI x6.2,.nils])]) hl (fun s5 o h=>?_) ?_
 ·clear hl
  refine W.aq [2,4,5,25,26,27,28] ?_
  refine W.sq'<|W.ch h q (fun hb8 h=>?_) (fun hb8 h=>?_)
  ·refine W.sk<|Px.sq<|W.sq'<|W.bk<|bd h fun x9 hx9 h=>W.rq [2,4,5,7,25,26,27] (Rv (O.y4 hx9)<|Rv (O.ldIN (cs':=eProd_0.cells x9) .z7 at80 q q)<|Rv (O.al (cs:=[I64 0,.nils,I64 0,SS S0,.nils,I64 0]) ze80 q q)<|RunL.sO (G2:=[(2,_),(4,_),(5,_),(7,_),(25,_),(26,_),(27,_)]) (cs2:=eProd_0.cells x9) q (.obj q) (.aggF q q) q sz80 q q q q (.n q q (.n q q (.n q q (.b q (.n q q (.n q q (.n q q .nil)))))))<|Fk q) ?_
   refine bd h fun x10 hx10 h=>bd h fun x11 hx11 h=>W.rd [[],[0],[],[2],[2,3],rn 0 5 [],[],[6],[],[8],[8,9],[8,9,10],rn 0 12 [],rn 0 8 [],rn 0 14 [],rn 0 15 [],rn 0 16 []] [(2,_),(4,_),(5,_),(25,_),(26,_),(27,_)] mixo (by kernel_rfl) (Dv 0 O.y1<|Dv 1 (O.y5 (y:=.brw eI.z ⟨5,[8]⟩ s5.1.length))<|Dv 2 O.y1<|Dv 3 O.y3<|DL.vi 4 (x:=iR eI [x9.Left]) (O.bs (ys:=[I64 x9.Left]) eI [x9.Left] sl22 q q q q q q zt3 q q) q q q q .none<|Dv 5 (O.ap (en:=eI) (r:=x10) .z6 q .z2 .i ap22 q hx10)<|Dv 6 O.y1<|Dv 7 (O.y5 (y:=.brw eI.z ⟨5,[9]⟩ s5.2.1.length))<|Dv 8 O.y1<|Dv 9 (O.y5 (y:=iR eI x9.Right))<|Dv 10 O.y9<|DL.vi 11 (x:=iR eI [(x9.Right.length:Int)]) (O.bs (ys:=[I64 (x9.Right.length:Int)]) eI [(x9.Right.length:Int)] sl22 q q q q q q zt3 q q) q q q q .none<|Dv 12 (O.ap' (en:=eI) (r:=x11) .z6 q .z2 .i ap22 q hx11 (noQ_spec (by kernel_rfl) (by kernel_rfl)))<|Dv 13 O.y1<|DL.bw 14 (G2:=[(2,.obj (eGrammar_0.cells a0)),(4,.obj [.nils,.nils,.nils,.nils,.nils,.nils,.nils,.nils,.nils,.nils,.nils]),(5,.obj [iR eI x2.1,iR eI x2.2.Base,iR eI x2.2.Val,iR eI x2.2.Chk,iR eI x4.1,iR eI x4.2.Base,iR eI x4.2.Val,iR eI x4.2.Chk,oR eI (s5.1++[x9.Left]),.dead,.nils]),(25,iR eProd_0 a0.Prods),(26,I64 (a0.Prods.length:Int)),(27,I64 s5.2.2),(43,oR eI (s5.2.1++[(x9.Right.length:Int)]))]) (EffOk.settle (ts:=[36,43]) (xs:=[.brw eI.z ⟨36,[]⟩ (s5.1.length+[x9.Left].length),.brw eI.z ⟨43,[]⟩ (s5.2.1.length+[(x9.Right.length:Int)].length)]) (ys:=[.own eI.z (s5.1.length+[x9.Left].length) (rowc eI s5.1++rowc eI [x9.Left]),.own eI.z (s5.2.1.length+[(x9.Right.length:Int)].length) (rowc eI s5.2.1++rowc eI [(x9.Right.length:Int)])]) (g2:=get [(2,.obj (eGrammar_0.cells a0)),(4,.obj [.nils,.nils,.nils,.nils,.nils,.nils,.nils,.nils,.nils,.nils,.nils]),(5,.obj [iR eI x2.1,iR eI x2.2.Base,iR eI x2.2.Val,iR eI x2.2.Chk,iR eI x4.1,iR eI x4.2.Base,iR eI x4.2.Val,iR eI x4.2.Chk,.dead,.dead,.nils]),(25,iR eProd_0 a0.Prods),(26,I64 (a0.Prods.length:Int)),(27,I64 s5.2.2),(36,oR eI (s5.1++[x9.Left])),(43,oR eI (s5.2.1++[(x9.Right.length:Int)])),(44,.ptr ⟨5,[]⟩ 8)]) q (TkL.take (.pn q q q .ns (.pn q q q .ns .nil))) (by decide) q (all2 q q) (Trim.keep (.n q (.n q (.n q (.n q (.n q (.n q (.e q (oR_app _ _ _) (.e q (oR_app _ _ _) (.q q q q .nil)))))))))) (EO.eff (EO.stB (y':=oR eI (s5.1++[x9.Left])) (cs2:=[iR eI x2.1,iR eI x2.2.Base,iR eI x2.2.Val,iR eI x2.2.Chk,iR eI x4.1,iR eI x4.2.Base,iR eI x4.2.Val,iR eI x4.2.Chk,oR eI (s5.1++[x9.Left]),.dead,.nils]) q q (.ptr q) (.own q) (.r q .nil) .refl q sz22 q q q q q (.n q q (.n q q (.b q (.n q q (.n q q (.n q q (.n q q .nil)))))))))) q q (by kernel_rfl) q q (by kernel_rfl)<|Dv 15 O.y1<|DL.bpz 16 (G2:=[(2,.obj (eGrammar_0.cells a0)),(4,.obj [.nils,.nils,.nils,.nils,.nils,.nils,.nils,.nils,.nils,.nils,.nils]),(5,.obj [iR eI x2.1,iR eI x2.2.Base,iR eI x2.2.Val,iR eI x2.2.Chk,iR eI x4.1,iR eI x4.2.Base,iR eI x4.2.Val,iR eI x4.2.Chk,oR eI (s5.1++[x9.Left]),oR eI (s5.2.1++[(x9.Right.length:Int)]),.nils]),(25,iR eProd_0 a0.Prods),(26,I64 (a0.Prods.length:Int)),(27,I64 s5.2.2)]) (EO.stB (y':=oR eI (s5.2.1++[(x9.Right.length:Int)])) (cs2:=[iR eI x2.1,iR eI x2.2.Base,iR eI x2.2.Val,iR eI x2.2.Chk,iR eI x4.1,iR eI x4.2.Base,iR eI x4.2.Val,iR eI x4.2.Chk,oR eI (s5.1++[x9.Left]),oR eI (s5.2.1++[(x9.Right.length:Int)]),.nils]) q q (.ptr q) (.own q) (.r q .nil) .refl q sz22 q q q q q (.n q q (.n q q (.b q (.n q q (.n q q (.n q q .nil)))))))<|DL.fin q q q (tn6 q q q q q q)) ?_
   refine Px.bk<|Px.sq<|W.rk [2,4,5,25,26,27] (Rv (O.add .z1 .z8)<|RunL.rk [2,4,5,25,26,46] q<|RunL.au) ?_
   exact sm h ▸ Px.gt
  ·exact W.xi<|Px.sqE<|sm h ▸ Px.t1
 refine Px.bkH<|Px.sq<|bd h fun x12 hx12 h=>W.rq [4,5] (Rv (O.ldON (cs':=eGrammar_0.cells a0) q .z4 at28 q q)<|Rc (PC.gz (.cc (.aggF q q) .nil) (CF.go hx12))<|Rv O.y1<|RunL.sO (G2:=[(4,_),(5,_)]) (cs2:=[iR eI x2.1,iR eI x2.2.Base,iR eI x2.2.Val,iR eI x2.2.Chk,iR eI x4.1,iR eI x4.2.Base,iR eI x4.2.Val,iR eI x4.2.Chk,oR eI x6.1,oR eI x6.2,iR ePair x12]) q (.ptr q) (.imm q) q sz47 q q q q (.n q q (.b q .nil))<|Fk q) ?_
 refine W.sq'<|W.fz (G1:=[(4,_),(5,.obj [iR eI x2.1,iR eI x2.2.Base,iR eI x2.2.Val,iR eI x2.2.Chk,iR eI x4.1,iR eI x4.2.Base,iR eI x4.2.Val,iR eI x4.2.Chk,iR eI x6.1,iR eI x6.2,iR ePair x12])]) [5] (.n q q (.z q q (FzL.obj (.f (.f (.f (.f (.f (.f (.f (.f (.z (.z (.f .nil)))))))))))) .nil)) ?_
 refine W.rk [4] (Rv (O.ldON (cs':=[iR eI x2.1,iR eI x2.2.Base,iR eI x2.2.Val,iR eI x2.2.Chk,iR eI x4.1,iR eI x4.2.Base,iR eI x4.2.Val,iR eI x4.2.Chk,iR eI x6.1,iR eI x6.2,iR ePair x12]) q .z4 at49 q q)<|RunL.sO (G2:=[(4,_)]) (cs2:=[iR eI x2.1,iR eI x2.2.Base,iR eI x2.2.Val,iR eI x2.2.Chk,iR eI x4.1,iR eI x4.2.Base,iR eI x4.2.Val,iR eI x4.2.Chk,iR eI x6.1,iR eI x6.2,iR ePair x12]) q (.obj q) (.aggF q q) q sz49 q q q q (.b q .nil)<|Fk q) ?_
 exact Px.sq<|W.rt<|sm h ▸ Pr (.c (ys0:=[iR eI x2.1,iR eI x2.2.Base,iR eI x2.2.Val,iR eI x2.2.Chk,iR eI x4.1,iR eI x4.2.Base,iR eI x4.2.Val,iR eI x4.2.Chk,iR eI x6.1,iR eI x6.2,iR ePair x12]) q at49 q q q (.f q (.f q (.f q (.f q (.f q (.f q (.f q (.f q (.f q (.f q (.f q .nil))))))))))) .nil)
instance con8 {a0:Grammar}{a1:Dense}{r:Tables}:CF Tryz.prog 8 (pf8 a0 a1=some r) [.agg (eGrammar_0.cells a0),.agg [iR (eM eAct) a1.Acts,iR (eM eI) a1.Gotos]] [none,none] (.agg (eTables_0.cells r)):=⟨con8l a0 a1 _⟩
instance con9 {a0:(List Int)}{a1:(List Int)}{r:Bool}:CF Tryz.prog 9 (pf9 a0 a1=some r) [iR eI a0,iR eI a1] [none,none] (BB r):=⟨fun h=>by unfold pf9 at h; exact Con.au (N:=⟨26,[]⟩) [0,1,4,5,10,14,25] (.b .e (.l2 (fun (s2:Int)=>[(5,I64 s2)]) [0,1,5] 0 (fun (x4:Unit)=>[]) [] (fun (x5:Bool)=>[(4,BB x5)]) [4] (.b (.rd 6 [[],[],[0,1],[0,1,2],[],[],[4,5],[4,5,6],rn 0 8 []] .e) .e) .e .e)) Tryz.func9 rfl rfl rfl rfl rfl goW⟩
theorem con4l  (r:Bool) (h:pf4 =some r):Con Tryz.prog 4 [] [] (BB r):=by
 unfold pf4 at h
 refine Con.go (N:=⟨105,[]⟩) Tryz.func4 q q q q (W.fin ?_)
 refine W.st [] ?_
 refine W.az [] ?_
 refine bd h fun x1 hx1 h=>W.rq [1,2,3] (Rc (PC.gz .nil (CF.go hx1))<|Rv (O.mv (.tup q q))<|Rv (O.ex (y:=.agg (eGrammar_0.cells x1.1)) q q q)<|Rv (O.ex (y:=.agg [iR (eM eAct) x1.2.1.Acts,iR (eM eI) x1.2.1.Gotos]) q q q)<|Rv (O.ex (y:=BB x1.2.2) q q q)<|Rv (O.al (cs:=[.nils,.nils,.nils,SS S0,SS S0]) ze28 q q)<|Rv (O.al (cs:=[.nils,.nils]) ze32 q q)<|RunL.sO (G2:=[(1,_),(2,_),(11,_),(12,_)]) (cs2:=eGrammar_0.cells x1.1) q (.obj q) (.aggF q q) q sz28 q q q q (.b q (.n q q (.n q q (.n q q .nil))))<|RunL.sO (G2:=[(1,_),(2,_),(12,_)]) (cs2:=[iR (eM eAct) x1.2.1.Acts,iR (eM eI) x1.2.1.Gotos]) q (.obj q) (.aggF q q) q sz32 q q q q (.n q q (.b q (.n q q .nil)))<|RunL.au) ?_
 refine bd h fun x2 hx2 h=>W.rq [3,4] (Rv (O.ldON (cs':=eGrammar_0.cells x1.1) q .z4 at28 q q)<|Rv (O.ldON (cs':=[iR (eM eAct) x1.2.1.Acts,iR (eM eI) x1.2.1.Gotos]) q .z4 at32 q q)<|Rc (PC.gz (.cc (.aggF q q) (.cc (.aggF q q) .nil)) (CF.go hx2))<|Rv (O.al (cs:=[.nils,.nils,.nils,.nils,.nils,.nils,.nils,.nils,.nils,.nils,.nils]) ze49 q q)<|RunL.sO (G2:=[(3,_),(4,_)]) (cs2:=eTables_0.cells x2) q (.obj q) (.aggF q q) q sz49 q q q q (.n q q (.b q .nil))<|Fk q) ?_
 refine W.sq'<|bd h fun c4 hj h=>W.rs [(4,.obj (eTables_0.cells x2)),(23,BB c4)] ?_ ?_
 ·refine Vm q<|Rv (O.not .z1)<|Rv (O.mv (.lit q)) ?_
  rcases cnd hj with ⟨hb3,hj⟩ | ⟨hb3,hj⟩
  ·exact sm hj ▸ RunL.au
  ·exact sm hj ▸ RunL.au
 refine W.ch h q (fun hb5 h=>?_) (fun hb5 h=>?_)
 ·refine W.aq [0] ?_
  exact W.rt<|Px.sqR<|sm h ▸ Px.fin (Fin.ro (.f q q .nil) q (ode (by kernel_rfl)) .nil q (.inr q))
 ·refine W.sk<|Px.sq<|bd h fun x6 hx6 h=>W.rq [4,5] (Rv (O.ldON (cs':=eTables_0.cells x2) q .z4 at49 q q)<|RunL.vi (x:=iR eI [120,120,59,120,59]) (O.bs (ys:=[I64 120,I64 120,I64 59,I64 120,I64 59]) eI [120,120,59,120,59] sl22 q q q q q q zt3 q q) q q .none<|Rc (PC.gz (.cc (.aggF q q) (.cc (.imm q) (.cc (.k q) (.cc (.k q) .nil)))) (CF.go hx6))<|Rv (O.al (cs:=[I64 0,I64 0,I64 0,I64 0,.nils,.nils,.nils,I64 0,I64 0,I64 0,.nils]) ze43 q q)<|RunL.sO (G2:=[(4,_),(5,_)]) (cs2:=eParse_0.cells x6) q (.obj q) (.aggF q q) q sz43 q q q q (.n q q (.b q .nil))<|Fk q) ?_
  refine bd h fun x7 hx7 h=>W.rq [4,5,6] (Rv (O.ldON (cs':=eTables_0.cells x2) q .z4 at49 q q)<|RunL.vi (x:=iR eI [120,59,0,120]) (O.bs (ys:=[I64 120,I64 59,I64 0,I64 120]) eI [120,59,0,120] sl22 q q q q q q zt3 q q) q q .none<|Rc (PC.gz (.cc (.aggF q q) (.cc (.imm q) (.cc (.k q) (.cc (.k q) .nil)))) (CF.go hx7))<|Rv (O.al (cs:=[I64 0,I64 0,I64 0,I64 0,.nils,.nils,.nils,I64 0,I64 0,I64 0,.nils]) ze43 q q)<|RunL.sO (G2:=[(4,_),(5,_),(6,_)]) (cs2:=eParse_0.cells x7) q (.obj q) (.aggF q q) q sz43 q q q q (.n q q (.n q q (.b q .nil)))<|Fk q) ?_
  refine bd h fun x8 hx8 h=>W.rq [5,6,7] (Rv (O.ldON (cs':=eTables_0.cells x2) q .z4 at49 q q)<|RunL.vi (x:=iR eI [59,59]) (O.bs (ys:=[I64 59,I64 59]) eI [59,59] sl22 q q q q q q zt3 q q) q q .none<|Rc (PC.gz (.cc (.aggF q q) (.cc (.imm q) (.cc (.k q) (.cc (.k q) .nil)))) (CF.go hx8))<|Rv (O.al (cs:=[I64 0,I64 0,I64 0,I64 0,.nils,.nils,.nils,I64 0,I64 0,I64 0,.nils]) ze43 q q)<|RunL.sO (G2:=[(5,_),(6,_),(7,_)]) (cs2:=eParse_0.cells x8) q (.obj q) (.aggF q q) q sz43 q q q q (.n q q (.n q q (.b q .nil)))<|Fk q) ?_
  refine bd h fun c25 hj h=>W.rs [(0,BB c25)] ?_ ?_
  ·refine Rv O.y1<|Rv O.y3<|Rv (O.eql .z1 .z8)<|Rv (O.mv (.lit q)) ?_
   rcases cnd hj with ⟨hb9,hj⟩ | ⟨hb9,hj⟩
   ·refine Yv hb9 O.y1<|Yv hb9 O.y3<|Yv hb9 (O.eql .z1 .z8)<|Rv (O.pkT .z1 hb9 .z1)<|Rv (O.mv (.lit q)) ?_
    rcases cnd hj with ⟨hb10,hj⟩ | ⟨hb10,hj⟩
    ·refine Yv hb10 O.y1<|Yv hb10 (O.y5 (y:=iR eUpset x6.Upsets))<|Yv hb10 O.y9<|Yv hb10 (O.eql .z1 .z8)<|Rv (O.pkT .z1 hb10 .z1)<|Rv (O.mv (.lit q)) ?_
     rcases cnd hj with ⟨hb11,hj⟩ | ⟨hb11,hj⟩
     ·refine Yv hb11 O.y1<|Yv hb11 (O.y5 (y:=iR eUpset x6.Upsets)) ?_
      refine bd hj fun x12 hx12 hj=>Yv hb11 (O.ixI .z2 .z8 sl35 hx12)<|Yv hb11 O.y8<|Yv hb11 (O.y6 (x:=I64 x12.At))<|Yv hb11 (O.eql .z1 .z8)<|Rv (O.pkT .z1 hb11 .z1)<|Rv (O.mv (.lit q)) ?_
      rcases cnd hj with ⟨hb13,hj⟩ | ⟨hb13,hj⟩
      ·refine Yv hb13 O.y1<|Yv hb13 (O.y5 (y:=iR eUpset x6.Upsets)) ?_
       refine bd hj fun x14 hx14 hj=>Yv hb13 (O.ixI .z2 .z8 sl35 hx14)<|Yv hb13 O.y8<|Yv hb13 (O.y6 (x:=BB x14.Told))<|Rv (O.pkT .z1 hb13 .z1)<|Rv (O.mv (.lit q)) ?_
       rcases cnd hj with ⟨hb15,hj⟩ | ⟨hb15,hj⟩
       ·refine Yv hb15 O.y1<|Yv hb15 (O.y5 (y:=iR eI x6.Lost))<|RunL.vi (x:=iR eI [1]) (O.bs (ys:=[I64 1]) eI [1] sl22 q q q q q q zt3 q q) q q (.yb q q hb15) ?_
        refine bd hj fun x16 hx16 hj=>RunL.c (PC.gz (.cc (.imm q) (.cc (.imm q) .nil)) (CF.go hx16)) q q (.yb q q hb15)<|Rv (O.pkT .z1 hb15 .z1)<|Rv (O.mv (.lit q)) ?_
        rcases cnd hj with ⟨hb17,hj⟩ | ⟨hb17,hj⟩
        ·refine Yv hb17 O.y1<|Yv hb17 O.y2<|Yv hb17 O.y3<|Yv hb17 (O.eql .z1 .z8)<|Rv (O.pkT .z1 hb17 .z1)<|Rv (O.mv (.lit q)) ?_
         rcases cnd hj with ⟨hb18,hj⟩ | ⟨hb18,hj⟩
         ·refine Yv hb18 O.y1<|Yv hb18 (O.y5 (y:=iR eI x6.Prods))<|RunL.vi (x:=iR eI [1,4,2,3,2]) (O.bs (ys:=[I64 1,I64 4,I64 2,I64 3,I64 2]) eI [1,4,2,3,2] sl22 q q q q q q zt3 q q) q q (.yb q q hb18) ?_
          refine bd hj fun x19 hx19 hj=>RunL.c (PC.gz (.cc (.imm q) (.cc (.imm q) .nil)) (CF.go hx19)) q q (.yb q q hb18)<|Rv (O.pkT .z1 hb18 .z1)<|Rv (O.mv (.lit q)) ?_
          rcases cnd hj with ⟨hb20,hj⟩ | ⟨hb20,hj⟩
          ·refine Yv hb20 O.y1<|Yv hb20 O.y3<|Yv hb20 (O.eql .z1 .z8)<|Rv (O.pkT .z1 hb20 .z1)<|Rv (O.mv (.lit q)) ?_
           rcases cnd hj with ⟨hb21,hj⟩ | ⟨hb21,hj⟩
           ·refine Yv hb21 O.y1<|Yv hb21 O.y3<|Yv hb21 (O.eql .z1 .z8)<|Rv (O.pkT .z1 hb21 .z1)<|Rv (O.mv (.lit q)) ?_
            rcases cnd hj with ⟨hb22,hj⟩ | ⟨hb22,hj⟩
            ·refine Yv hb22 O.y1<|Yv hb22 O.y3<|Yv hb22 (O.eql .z1 .z8)<|Rv (O.pkT .z1 hb22 .z1)<|Rv (O.mv (.lit q)) ?_
             rcases cnd hj with ⟨hb23,hj⟩ | ⟨hb23,hj⟩
             ·refine Yv hb23 O.y1<|Yv hb23 O.y3<|Yv hb23 (O.eql .z1 .z8)<|Rv (O.pkT .z1 hb23 .z1)<|Rv (O.mv (.lit q)) ?_
              rcases cnd hj with ⟨hb24,hj⟩ | ⟨hb24,hj⟩
              ·exact sm hj ▸ RunL.au
              ·exact sm hj ▸ RunL.au
             ·exact sm hj ▸ RunL.au
            ·exact sm hj ▸ RunL.au
           ·exact sm hj ▸ RunL.au
          ·exact sm hj ▸ RunL.au
         ·exact sm hj ▸ RunL.au
        ·exact sm hj ▸ RunL.au
       ·exact sm hj ▸ RunL.au
      ·exact sm hj ▸ RunL.au
     ·exact sm hj ▸ RunL.au
    ·exact sm hj ▸ RunL.au
   ·exact sm hj ▸ RunL.au
  exact W.rt<|sm h ▸ Px.fin (Fin.ro (.f q q .nil) q (ode (by kernel_rfl)) .nil q (.inr q))
instance con4  {r:Bool}:CF Tryz.prog 4 (pf4 =some r) [] [] (BB r):=⟨con4l  _⟩
instance con6 {a0:Int}{a1:Int}{r:Int}:CF Tryz.prog 6 (pf6 a0 a1=some r) [I64 a0,I64 a1] [none,none] (I64 r):=⟨fun h=>by unfold pf6 at h; exact Con.au (N:=⟨15,[]⟩) [0,1,4,5,10] (.jn [5] (fun (j2:Int)=>[(5,I64 j2)]) .e .e) Tryz.func6 rfl rfl rfl rfl rfl goW⟩
instance con10 {a0:(List Upset)}{a1:(List Upset)}{r:Bool}:CF Tryz.prog 10 (pf10 a0 a1=some r) [iR eUpset a0,iR eUpset a1] [none,none] (BB r):=⟨fun h=>by unfold pf10 at h; exact Con.au (N:=⟨26,[]⟩) [0,1,4,5,10,14,25] (.b .e (.l2 (fun (s2:Int)=>[(5,I64 s2)]) [0,1,5] 0 (fun (x4:Unit)=>[]) [] (fun (x5:Bool)=>[(4,BB x5)]) [4] (.b (.rd 6 [[],[],[0,1],[0,1,2],[],[],[4,5],[4,5,6],rn 0 8 []] .e) .e) .e .e)) Tryz.func10 rfl rfl rfl rfl rfl goW⟩
theorem con3l (a0:(List Int)) (r:Bool) (h:pf3 a0=some r):Con Tryz.prog 3 [iR eI a0] [none] (BB r):=by
 unfold pf3 at h
 refine Con.go (N:=⟨137,[]⟩) Tryz.func3 q q q q (W.fin ?_)
 refine W.st [(0,iR eI a0)] ?_
 refine W.aq [0] ?_
 refine W.sq'<|bd h fun x1 hx1 h=>W.rq [0,18] (Rc (PC.gz .nil (CF.go hx1))<|RunL.au) ?_
 refine W.ch h q (fun hb2 h=>?_) (fun hb2 h=>?_)
 ·refine W.aq [2] ?_
  exact W.rt<|Px.sqR<|sm h ▸ Pq
 ·refine W.sk<|Px.sq<|bd h fun x3 hx3 h=>W.rq [0,3,4,5] (Rc (PC.gz .nil (CF.go hx3))<|Rv (O.mv (.tup q q))<|Rv (O.ex (y:=.agg (eGrammar_0.cells x3.1)) q q q)<|Rv (O.ex (y:=.agg [iR (eM eAct) x3.2.1.Acts,iR (eM eI) x3.2.1.Gotos]) q q q)<|Rv (O.ex (y:=BB x3.2.2) q q q)<|Rv (O.al (cs:=[.nils,.nils,.nils,SS S0,SS S0]) ze28 q q)<|Rv (O.al (cs:=[.nils,.nils]) ze32 q q)<|RunL.f' (EO.sva [0,3,4,22,23])<|RunL.f' (EO.sva [0,3,4,23])<|RunL.au) ?_
  refine W.aq [0,3,4,5,6,7] ?_
  refine W.aq [0,3,4,5,6,7,9] ?_
  refine W.rq [0,3,4,5,6,7,8,9] (Rv (O.bs (ys:=[I64 1]) eI [1] sl22 q q q q q q zt3 q q)<|RunL.a' (EO.ar [0,3,4,5,6,7,9])<|Fk q) ?_
  refine W.aq [0,3,4,5,6,7,8,9,10,11,12] ?_
  refine W.sq'<|W.aq [0,3,4,5,6,7,8,9,10,11,12,13] ?_
  refine W.bk<|bd h fun x5 hl h=>W.l1 (([]:List Int),([]:List Int),[1],([]:List Upset),1,1,false,0) (fun (s4:List Int × List Int × List Int × List Upset × Int × Int × Bool × Int)=>[(6,oR eI s4.1),(7,oR eI s4.2.1),(8,oR eI s4.2.2.1),(9,oR eUpset s4.2.2.2.1),(10,I64 s4.2.2.2.2.1),(11,I64 s4.2.2.2.2.2.1),(12,BB s4.2.2.2.2.2.2.1),(13,I64 s4.2.2.2.2.2.2.2)]) [0,3,4,5,6,7,8,9,10,11,12,13] 0 (fun (x5:List Int × List Int × List Int × List Upset × Int × Int)=>[(6,oR eI x5.1),(7,oR eI x5.2.1),(8,oR eI x5.2.2.1),(9,oR eUpset x5.2.2.2.1),(10,I64 x5.2.2.2.2.1),(11,I64 x5.2.2.2.2.2)]) [3,4,5,6,7,8,9,10,11] hl (fun s4 o h=>?_) ?_
  ·clear hl
   refine W.sq'<|bd h fun c8 hj h=>W.rz [0,3,4,5,6,7,8,9,10,11,12,13,32] [(32,BB c8)] ?_ ?_
   ·refine Vm q<|Rv (O.mv .z2)<|Rv O.y9<|Rv (O.lss .z1 .z1)<|Rv (O.mv (.lit q)) ?_
    rcases cnd hj with ⟨hb7,hj⟩ | ⟨hb7,hj⟩
    ·exact sm hj ▸ RunL.au
    ·exact sm hj ▸ RunL.au
   refine W.ch h q (fun hb9 h=>?_) (fun hb9 h=>?_)
   ·refine W.sk<|Px.sq<|W.sq'<|bd h fun j10 hj h=>W.jq [0,3,4,5,6,7,8,9,10,11,12,13] [(6,oR eI j10.1),(7,oR eI j10.2.1),(8,oR eI j10.2.2.1),(9,oR eUpset j10.2.2.2.1),(10,I64 j10.2.2.2.2.1),(11,I64 j10.2.2.2.2.2.1),(12,BB j10.2.2.2.2.2.2)] ?_ ?_
    ·clear h; have h:=hj; clear hj
     refine W.bk<|bd h fun x11 hx11 h=>bd h fun x12 hx12 h=>W.rq [0,3,4,5,6,7,8,9,10,12,13,14] (Rv (O.mv .z2)<|Vm q<|Rv (O.y4 hx11)<|Rv (O.y6 (x:=I64 x11))<|Rc (PC.gz (.cc (.lit q) (.cc (.k q) .nil)) (CF.go hx12))<|RunL.au) ?_
     refine W.aq [0,3,4,5,6,7,8,9,10,11,12,13,14] ?_
     refine bd h fun x13 hx13 h=>W.rq [0,3,4,5,6,7,8,9,10,11,12,13,14] (Rv (O.mv .z3)<|RunL.vi (x:=iR eI [120]) (O.bs (ys:=[I64 120]) eI [120] sl22 q q q q q q zt3 q q) q q .none<|Rv (O.ap (en:=eI) (r:=x13) .z6 q .z2 .i ap22 q hx13)<|RunL.a' (EO.apq [0,3,4,5,7,8,9,10,11,12,13,14])<|Fk q) ?_
     refine W.sq'<|W.aq [0,3,4,5,6,7,8,9,10,11,12,13,14,44] ?_
     refine W.ch h q (fun hb14 h=>?_) (fun hb14 h=>?_)
     ·refine bd h fun x15 hx15 h=>W.rq [0,3,4,5,6,7,8,9,10,11,13] (Rv (O.mv .z3)<|RunL.vi (x:=iR eI [59]) (O.bs (ys:=[I64 59]) eI [59] sl22 q q q q q q zt3 q q) q q .none<|Rv (O.ap (en:=eI) (r:=x15) .z6 q .z2 .i ap22 q hx15)<|RunL.a' (EO.apq [0,3,4,5,7,8,9,10,11,13])<|Fk q) ?_
      refine bd h fun x16 hx16 h=>W.rq [0,3,4,5,6,7,8,9,10,11,13] (Rv (O.mv .z3)<|RunL.vi (x:=iR eI [3,2]) (O.bs (ys:=[I64 3,I64 2]) eI [3,2] sl22 q q q q q q zt3 q q) q q .none<|Rv (O.ap (en:=eI) (r:=x16) .z6 q .z2 .i ap22 q hx16)<|RunL.a' (EO.apq [0,3,4,5,6,7,9,10,11,13])<|Fk q) ?_
      refine W.rq [0,3,4,5,6,7,8,9,10,11,13] (Vm q<|Rv (O.add .z1 .z8)<|RunL.rk [0,3,4,5,6,7,8,9,11,13,52] q<|RunL.au) ?_
      refine W.aq [0,3,4,5,6,7,8,9,10,11,12,13] ?_
      exact W.xi<|Px.sqE<|Px.bkH<|sm h ▸ Px.jt
     ·refine W.sk<|Px.sq<|bd h fun x17 hx17 h=>W.rq [0,3,4,5,6,7,8,9,10,11,13,14] (Rv (O.mv .z3)<|Rv (O.mv .z3)<|Rv (O.lenO .z6 sl22)<|Vm q<|Rv (O.not .z1)<|Rv (O.bu (cs:=[I64 ((s4.1++[120]).length:Int),BB (!s4.2.2.2.2.2.2.1)]) sc38 ze38 q q q)<|RunL.vi (x:=iR eUpset [(⟨((s4.1++[120]).length:Int),!s4.2.2.2.2.2.2.1⟩:Upset)]) (O.bs (ys:=[.agg [I64 ((s4.1++[120]).length:Int),BB (!s4.2.2.2.2.2.2.1)]]) eUpset [(⟨((s4.1++[120]).length:Int),!s4.2.2.2.2.2.2.1⟩:Upset)] sl35 q q q q q q zt38 q q) q q .none<|Rv (O.ap (en:=eUpset) (r:=x17) .z6 q .z2 .i ap35 q hx17)<|RunL.a' (EO.apq [0,3,4,5,6,7,8,10,11,13,14])<|Fk q) ?_
      refine W.sq'<|W.aq [0,3,4,5,6,7,8,9,10,11,13,14,15] ?_
      refine W.bk<|bd h fun x19 hl h=>W.l1 (s4.1++[120],s4.2.1,0) (fun (s18:List Int × List Int × Int)=>[(6,oR eI s18.1),(7,oR eI s18.2.1),(15,I64 s18.2.2)]) [0,3,4,5,6,7,8,9,10,11,13,14,15] 2 (fun (x19:List Int × List Int)=>[(6,oR eI x19.1),(7,oR eI x19.2)]) [0,3,4,5,6,7,8,9,10,11,13,14] hl (fun s18 o h=>?_) ?_
      ·clear hl
       refine W.sq'<|W.aq [0,3,4,5,6,7,8,9,10,11,13,14,15,63] ?_
       refine W.ch h q (fun hb21 h=>?_) (fun hb21 h=>?_)
       ·refine W.sk<|Px.sq<|W.sq'<|W.bk<|bd h fun x22 hx22 h=>W.rq [0,3,4,5,6,7,8,9,10,11,13,14,15] (Rv (O.mv .z3)<|Rv (O.mv .z3)<|Rv (O.lenO .z6 sl22)<|RunL.vi (x:=iR eI [(s18.1.length:Int)]) (O.bs (ys:=[I64 (s18.1.length:Int)]) eI [(s18.1.length:Int)] sl22 q q q q q q zt3 q q) q q .none<|Rv (O.ap (en:=eI) (r:=x22) .z6 q .z2 .i ap22 q hx22)<|RunL.a' (EO.apq [0,3,4,5,6,8,9,10,11,13,14,15])<|Fk q) ?_
        refine bd h fun x23 hx23 h=>bd h fun x24 hx24 h=>bd h fun x25 hx25 h=>W.rk [0,3,4,5,6,7,8,9,10,11,13,14,15] (Rv (O.mv .z3)<|RunL.vi (x:=iR eI [120,999]) (O.bs (ys:=[I64 120,I64 999]) eI [120,999] sl22 q q q q q q zt3 q q) q q .none<|Vm q<|Rv (O.rem .z1 .z8 hx23)<|Rv (O.y4 hx24)<|Rv (O.y6 (x:=I64 x24))<|RunL.vi (x:=iR eI [x24]) (O.bs (ys:=[I64 x24]) eI [x24] sl22 q q q q q q zt3 q q) q q .none<|Rv (O.ap (en:=eI) (r:=x25) .z6 q .z2 .i ap22 q hx25)<|RunL.a' (EO.apq [0,3,4,5,7,8,9,10,11,13,14,15])<|Fk q) ?_
        refine Px.bk<|Px.sq<|W.rk [0,3,4,5,6,7,8,9,10,11,13,14,15] (Vm q<|Rv (O.add .z1 .z8)<|RunL.rk [0,3,4,5,6,7,8,9,10,11,13,14,65] q<|RunL.au) ?_
        exact sm h ▸ Px.gt
       ·exact W.xi<|Px.sqE<|sm h ▸ Px.t1
      refine Px.bkH<|Px.sq<|bd h fun x26 hx26 h=>W.rq [0,3,4,5,6,7,8,9,10,11,13,14] (Rv (O.mv .z3)<|RunL.vi (x:=iR eI [59]) (O.bs (ys:=[I64 59]) eI [59] sl22 q q q q q q zt3 q q) q q .none<|Rv (O.ap (en:=eI) (r:=x26) .z6 q .z2 .i ap22 q hx26)<|RunL.a' (EO.apq [0,3,4,5,7,8,9,10,11,13,14])<|Fk q) ?_
      refine bd h fun x27 hx27 h=>W.rq [0,3,4,5,6,7,8,9,10,11,13,14] (Rv (O.mv .z3)<|RunL.vi (x:=iR eI [4,2]) (O.bs (ys:=[I64 4,I64 2]) eI [4,2] sl22 q q q q q q zt3 q q) q q .none<|Rv (O.ap (en:=eI) (r:=x27) .z6 q .z2 .i ap22 q hx27)<|RunL.a' (EO.apq [0,3,4,5,6,7,9,10,11,13,14])<|Fk q) ?_
      refine W.rq [0,3,4,5,6,7,8,9,10,11,13] (Vm q<|Vm q<|Rv (O.add .z8 .z1)<|Rv (O.add .z1 .z1)<|RunL.rk [0,3,4,5,6,7,8,9,11,13,88] q<|RunL.au) ?_
      refine W.ak [0,3,4,5,6,7,8,9,10,11,12,13] ?_
      exact Px.bk<|sm h ▸ Px.jt
    refine Px.sq<|W.rk [0,3,4,5,6,7,8,9,10,11,12,13] (Vm q<|Rv (O.add .z1 .z8)<|RunL.rk [0,3,4,5,6,7,8,9,10,11,12,34] q<|RunL.au) ?_
    exact sm h ▸ Px.gt
   ·exact W.xi<|Px.sqE<|sm h ▸ Px.t1
  refine Px.bkH<|Px.sq<|W.sq'<|W.fz (G1:=[(3,_),(4,_),(5,_),(6,iR eI x5.1),(7,_),(8,_),(9,_),(10,_),(11,_)]) [6] (.n q q (.n q q (.n q q (.z q q .zz (.n q q (.n q q (.n q q (.n q q (.n q q .nil))))))))) ?_
  refine bd h fun x28 hx28 h=>bd h fun x29 hx29 h=>W.rk [5,6,7,8,9,10,11,16] (Rv (O.ldON (cs':=eGrammar_0.cells x3.1) q .z4 at28 q q)<|Rv (O.ldON (cs':=[iR (eM eAct) x3.2.1.Acts,iR (eM eI) x3.2.1.Gotos]) q .z4 at32 q q)<|Rc (PC.gz (.cc (.aggF q q) (.cc (.aggF q q) .nil)) (CF.go hx28))<|Rv (O.mv .z2)<|Rc (PC.gz (.cc (.aggF q q) (.cc (.imm q) (.cc (.k q) (.cc (.k q) .nil)))) (CF.go hx29))<|Rv (O.al (cs:=[I64 0,I64 0,I64 0,I64 0,.nils,.nils,.nils,I64 0,I64 0,I64 0,.nils]) ze43 q q)<|RunL.f' (EO.sva [5,6,7,8,9,10,11,16])<|Fk q) ?_
  refine Px.sq<|bd h fun c40 hj h=>W.rz [2] [(2,BB c40)] ?_ ?_
  ·refine Vm q<|Rv (O.mv (.lit q)) ?_
   rcases cnd hj with ⟨hb30,hj⟩ | ⟨hb30,hj⟩
   ·refine Yv hb30 O.y1<|Yv hb30 O.y3<|Yv hb30 (O.eql .z1 .z8)<|Rv (O.pkT .z1 hb30 .z1)<|Rv (O.mv (.lit q)) ?_
    rcases cnd hj with ⟨hb31,hj⟩ | ⟨hb31,hj⟩
    ·refine Yv hb31 O.y1<|Yv hb31 O.y3<|Yv hb31 (O.mv .z2)<|Yv hb31 O.y9<|Yv hb31 (O.eql .z1 .z1)<|Rv (O.pkT .z1 hb31 .z1)<|Rv (O.mv (.lit q)) ?_
     rcases cnd hj with ⟨hb32,hj⟩ | ⟨hb32,hj⟩
     ·refine Yv hb32 O.y1<|Yv hb32 (O.y5 (y:=iR eI x29.Prods))<|Yv hb32 (O.mv .z3) ?_
      refine bd hj fun x33 hx33 hj=>RunL.c (PC.vz (ys:=[iR eI x29.Prods,.brw eI.z ⟨8,[]⟩ x5.2.2.1.length]) q (.s (.c (.row q) .nil)) (CF.go hx33)) q q (.yb q q hb32)<|Rv (O.pkT .z1 hb32 .z1)<|Rv (O.mv (.lit q)) ?_
      rcases cnd hj with ⟨hb34,hj⟩ | ⟨hb34,hj⟩
      ·refine Yv hb34 O.y1<|Yv hb34 (O.y5 (y:=iR eUpset x29.Upsets))<|Yv hb34 (O.mv .z3) ?_
       refine bd hj fun x35 hx35 hj=>RunL.c (PC.vz (ys:=[iR eUpset x29.Upsets,.brw eUpset.z ⟨9,[]⟩ x5.2.2.2.1.length]) q (.s (.c (.row q) .nil)) (CF.go hx35)) q q (.yb q q hb34)<|Rv (O.pkT .z1 hb34 .z1)<|Rv (O.mv (.lit q)) ?_
       rcases cnd hj with ⟨hb36,hj⟩ | ⟨hb36,hj⟩
       ·refine Yv hb36 O.y1<|Yv hb36 (O.y5 (y:=iR eI x29.Lost))<|Yv hb36 (O.mv .z3) ?_
        refine bd hj fun x37 hx37 hj=>RunL.c (PC.vz (ys:=[iR eI x29.Lost,.brw eI.z ⟨7,[]⟩ x5.2.1.length]) q (.s (.c (.row q) .nil)) (CF.go hx37)) q q (.yb q q hb36)<|Rv (O.pkT .z1 hb36 .z1)<|Rv (O.mv (.lit q)) ?_
        rcases cnd hj with ⟨hb38,hj⟩ | ⟨hb38,hj⟩
        ·refine Yv hb38 O.y1<|Yv hb38 O.y3<|Yv hb38 (O.mv (.lit q))<|Yv hb38 (O.eql .z1 .z1)<|Rv (O.pkT .z1 hb38 .z1)<|Rv (O.mv (.lit q)) ?_
         rcases cnd hj with ⟨hb39,hj⟩ | ⟨hb39,hj⟩
         ·exact sm hj ▸ RunL.au
         ·exact sm hj ▸ RunL.au
        ·exact sm hj ▸ RunL.au
       ·exact sm hj ▸ RunL.au
      ·exact sm hj ▸ RunL.au
     ·exact sm hj ▸ RunL.au
    ·exact sm hj ▸ RunL.au
   ·exact sm hj ▸ RunL.au
  exact W.rt<|sm h ▸ Pq
instance con3 {a0:(List Int)}{r:Bool}:CF Tryz.prog 3 (pf3 a0=some r) [iR eI a0] [none] (BB r):=⟨con3l a0 _⟩
end Go.Proofs
