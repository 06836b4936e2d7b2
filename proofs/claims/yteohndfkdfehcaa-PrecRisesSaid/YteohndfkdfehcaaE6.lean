/-
  What is proved here: parts of the proof that QRi states last: rules for walks through code, and of this program's functions what they answer. No condition of their own.
-/
import Derived.KernelRfl
import Derived.Test.YteohndfkdfehcaaRows
import Derived.Test.YteohndfkdfehcaaE5
namespace Go.Proofs
open Go Go.Own
set_option maxRecDepth 100000
set_option linter.unusedVariables false
theorem con17 (a0 : yuccalaw0_Gr) (r : Source) (h : pf17 a0 = some r) : Con Try.prog 17 [.agg [I64 a0.Nons, iR (eM eI) a0.Rules, iR eI a0.Levels, iR eI a0.Inner, BB a0.Bare]] [none] (.agg [SS r.Pro, iR eDecl_0 r.Decls, iR eRule_0 r.Rules, SS r.Tail]) := by
  unfold pf17 at h
  refine Con.go (N := ⟨217, []⟩) Try.func17 rfl rfl rfl rfl (W.fin ?_)
  refine W.st [(0, .agg [I64 a0.Nons, iR (eM eI) a0.Rules, iR eI a0.Levels, iR eI a0.Inner, BB a0.Bare])] ?_
  refine W.sq' ?_
  refine W.rx [(1, _), (2, _)] (Rv (O.box (.aggF rfl rfl) rfl) <| Rv (O.al (cs := [SS ({ data := #[] }), .nils, .nils, SS ({ data := #[] })]) ze25 rfl rfl) <| RunL.fin (.n rfl (.n rfl .nil))) ?_
  refine Px.sq ?_
  refine W.sq' ?_
  obtain ⟨x1, hx1, h⟩ := bnd h
  refine W.rx [(1, _), (2, _), (3, _)] (Rv (O.fO rfl (.obj rfl) fd29_0 rfl) <| Rv (O.ldO (y := I64 a0.Nons) rfl (.ptr rfl) ct3 rfl rfl) <| Rc (PC.go (.cc (.lit rfl) (.cc (.k rfl) .nil)) (con25 a0.Nons 4 _ hx1) call25 rfl) <| Rv (O.add (.k rfl) (.lit rfl)) <| Rv (O.as (.lit rfl)) <| RunL.fin (.n rfl (.n rfl (.n rfl .nil)))) ?_
  refine Px.sq ?_
  refine W.sq' ?_
  obtain ⟨x2, hx2, h⟩ := bnd h
  refine W.rx [(1, _), (2, _), (3, _), (4, _)] (Rv (O.fO rfl (.obj rfl) fd29_2 rfl) <| Rv (O.ldO (y := iR eI a0.Levels) rfl (.ptr rfl) ct27 rfl rfl) <| Rc (PC.go (.cc (.imm rfl) .nil) (con46 a0.Levels _ hx2) call46 rfl) <| Rv (O.bu (cs := [SS ({ data := #[] }), iR eDecl_0 x2, .nils, SS ({ data := #[] })]) sc25 ze25 rfl rfl rfl) <| Rv (O.al (cs := [SS ({ data := #[] }), .nils, .nils, SS ({ data := #[] })]) ze25 rfl rfl) <| RunL.sO (G2 := [(1, .obj [I64 a0.Nons, iR (eM eI) a0.Rules, iR eI a0.Levels, iR eI a0.Inner, BB a0.Bare]), (2, .obj [SS ({ data := #[] }), .nils, .nils, SS ({ data := #[] })]), (3, I64 (w64 (1 + x1))), (4, .obj [SS ({ data := #[] }), iR eDecl_0 x2, .nils, SS ({ data := #[] })])]) (cs2 := [SS ({ data := #[] }), iR eDecl_0 x2, .nils, SS ({ data := #[] })]) rfl (.obj rfl) (.aggF rfl rfl) rfl sz25 rfl rfl rfl rfl (.n rfl rfl (.n rfl rfl (.n rfl rfl (.b rfl .nil)))) <| RunL.fin (.n rfl (.n rfl (.n rfl (.n rfl .nil))))) ?_
  refine Px.sq ?_
  refine W.sq' ?_
  obtain ⟨x3, hx3, h⟩ := bnd h
  refine W.rx [(1, _), (2, _), (3, _), (4, _), (5, _)] (Rv (O.mv (.lit rfl)) <| Rv (O.mk (en := eB) (z0 := false) sl102 (.lit rfl) (.lit rfl) ze4 rfl rfl hx3 bb4 rfl) <| RunL.ea (G2 := [(1, .obj [I64 a0.Nons, iR (eM eI) a0.Rules, iR eI a0.Levels, iR eI a0.Inner, BB a0.Bare]), (2, .obj [SS ({ data := #[] }), .nils, .nils, SS ({ data := #[] })]), (3, I64 (w64 (1 + x1))), (4, .obj [SS ({ data := #[] }), iR eDecl_0 x2, .nils, SS ({ data := #[] })])]) rfl (EO.aR rfl rfl (.own rfl) rfl (.n rfl rfl (.n rfl rfl (.n rfl rfl (.n rfl rfl .nil)))) rfl rfl) <| RunL.fin (.n rfl (.n rfl (.n rfl (.n rfl (.n rfl .nil)))))) ?_
  refine Px.sq ?_
  refine W.sq' ?_
  refine W.sq' ?_
  refine W.rx [(1, _), (2, _), (3, _), (4, _), (5, _), (6, _)] (Rv (O.as (.k rfl)) <| RunL.fin (.n rfl (.n rfl (.n rfl (.n rfl (.n rfl (.n rfl .nil))))))) ?_
  refine Px.sq ?_
  refine W.bk ?_
  obtain ⟨x5, hl, h⟩ := bnd h
  refine W.tr (G1 := [(1, .obj [I64 a0.Nons, iR (eM eI) a0.Rules, iR eI a0.Levels, iR eI a0.Inner, BB a0.Bare]), (2, .obj [SS ({ data := #[] }), .nils, .nils, SS ({ data := #[] })]), (3, I64 (w64 (1 + x1))), (4, .obj [SS ({ data := #[] }), iR eDecl_0 x2, oR eRule_1 ([] : List Rule), SS ({ data := #[] })]), (5, oR eB x3), (6, I64 0)]) (.n rfl (.n rfl (.n rfl (.w rfl rfl (WkL.obj (.f (.f (.o (.f .nil))))) (.n rfl (.n rfl .nil)))))) ?_
  refine W.lp1 (s := (([] : List Rule), 0)) (fun (s4 : List Rule × Int) => [(1, .obj [I64 a0.Nons, iR (eM eI) a0.Rules, iR eI a0.Levels, iR eI a0.Inner, BB a0.Bare]), (2, .obj [SS ({ data := #[] }), .nils, .nils, SS ({ data := #[] })]), (3, I64 (w64 (1 + x1))), (4, .obj [SS ({ data := #[] }), iR eDecl_0 x2, oR eRule_1 s4.1, SS ({ data := #[] })]), (5, oR eB x3), (6, I64 s4.2)]) 0 (fun (x5 : List Rule) => [(1, .obj [I64 a0.Nons, iR (eM eI) a0.Rules, iR eI a0.Levels, iR eI a0.Inner, BB a0.Bare]), (2, .obj [SS ({ data := #[] }), .nils, .nils, SS ({ data := #[] })]), (3, I64 (w64 (1 + x1))), (4, .obj [SS ({ data := #[] }), iR eDecl_0 x2, oR eRule_1 x5, SS ({ data := #[] })]), (5, oR eB x3)]) hl (fun s4 o h => ?_) ?_
  · clear hl
    refine W.sq' ?_
    refine W.sq' ?_
    refine W.rx [(1, _), (2, _), (3, _), (4, _), (5, _), (6, _), (26, _)] (Rv (O.mv (.lit rfl)) <| Rv (O.mv (.lit rfl)) <| Rv (O.lss (.lit rfl) (.lit rfl)) <| RunL.fin (.n rfl (.n rfl (.n rfl (.n rfl (.n rfl (.n rfl (.n rfl .nil)))))))) ?_
    refine Px.sq ?_
    refine W.cnd rfl (fun hb7 => ?_) (fun hb7 => ?_)
    · replace h := cndT hb7 h
      refine W.sk ?_
      refine Px.sq ?_
      refine W.sq' ?_
      refine W.bk ?_
      obtain ⟨x8, hx8, h⟩ := bnd h
      obtain ⟨x9, hx9, h⟩ := bnd h
      refine W.rd [[], [0], [], [2], [2, 3], [2, 3, 4], rn 0 6 [], rn 0 7 [], rn 0 8 []] [(1, _), (2, _), (3, _), (4, _), (5, _), (6, _)] mixo (by kernel_rfl) (Dv 0 (O.fO rfl (.obj rfl) fd25_2 rfl) <| Dv 1 (O.ldO (y := .brw eRule_1.z ⟨4, [2]⟩ s4.1.length) rfl (.ptr rfl) ct23 rfl rfl) <| Dv 2 (O.mv (.lit rfl)) <| Dc 3 (PC.go (.cc (.lit rfl) .nil) (con47 s4.2 _ hx8) call47 rfl) <| Dv 4 (O.bu (cs := [SS x8, .nils, I64 0]) sc95 ze95 rfl rfl rfl) <| Dv 5 (O.bsL (ys := [.agg [SS x8, .nils, I64 0]]) (cs := [SS x8, .nils, I64 0]) sl23 rfl rfl rfl rfl rfl zt95 rfl rfl) <| Dv 6 (O.apL (en := eRule_1) (M := [(⟨x8, ([] : List Alt), 0⟩ : Rule)]) (r := x9) (.brw rfl) rfl (.own rfl) rfl rfl rfl rfl ap23 rfl hx9) <| Dv 7 (O.fO rfl (.obj rfl) fd25_2 rfl) <| DL.bp 8 (G2 := [(1, .obj [I64 a0.Nons, iR (eM eI) a0.Rules, iR eI a0.Levels, iR eI a0.Inner, BB a0.Bare]), (2, .obj [SS ({ data := #[] }), .nils, .nils, SS ({ data := #[] })]), (3, I64 (w64 (1 + x1))), (4, .obj [SS ({ data := #[] }), iR eDecl_0 x2, oR eRule_1 (s4.1 ++ [(⟨x8, ([] : List Alt), 0⟩ : Rule)]), SS ({ data := #[] })]), (5, oR eB x3), (6, I64 s4.2)]) (EO.stP (g1 := _) (en := eRule_1) (M := [(⟨x8, ([] : List Alt), 0⟩ : Rule)]) (cs2 := [SS ({ data := #[] }), iR eDecl_0 x2, oR eRule_1 (s4.1 ++ [(⟨x8, ([] : List Alt), 0⟩ : Rule)]), SS ({ data := #[] })]) rfl rfl (.ptr rfl) (.pend rfl) rfl rfl rfl (.f (.f (.f .nil))) (.f (.o (.f .nil))) rfl rfl sz23 rfl rfl rfl rfl (.n rfl rfl (.n rfl rfl (.n rfl rfl (.b rfl (.n rfl rfl (.n rfl rfl .nil))))))) rfl rfl rfl rfl (by kernel_rfl) (by kernel_rfl) <| DL.fin rfl rfl rfl (.n rfl (.n rfl (.n rfl (.n rfl (.n rfl (.n rfl .nil))))))) ?_
      refine Px.bk ?_
      refine Px.sq ?_
      refine W.rx [(1, _), (2, _), (3, _), (4, _), (5, _), (6, _)] (Rv (O.mv (.lit rfl)) <| Rv (O.add (.lit rfl) (.k rfl)) <| RunL.re (G1 := [(1, .obj [I64 a0.Nons, iR (eM eI) a0.Rules, iR eI a0.Levels, iR eI a0.Inner, BB a0.Bare]), (2, .obj [SS ({ data := #[] }), .nils, .nils, SS ({ data := #[] })]), (3, I64 (w64 (1 + x1))), (4, .obj [SS ({ data := #[] }), iR eDecl_0 x2, oR eRule_1 (s4.1 ++ [(⟨x8, ([] : List Alt), 0⟩ : Rule)]), SS ({ data := #[] })]), (5, oR eB x3), (28, I64 (w64 (s4.2 + 1)))]) (.n rfl (.n rfl (.n rfl (.n rfl (.n rfl (.n rfl .nil)))))) <| Rv (O.as (.lit rfl)) <| RunL.fin (.n rfl (.n rfl (.n rfl (.n rfl (.n rfl (.n rfl .nil))))))) ?_
      obtain rfl := sm h
      exact Px.go (.n rfl (.n rfl (.n rfl (.n rfl (.n rfl (.n rfl .nil))))))
    · replace h := cndF hb7 h
      refine W.xi ?_
      refine Px.sqE ?_
      obtain rfl := sm h
      exact Px.x1 (.n rfl (.n rfl (.n rfl (.n rfl (.n rfl .nil)))))
  refine Px.bkH ?_
  refine Px.sq ?_
  refine W.sq' ?_
  refine W.sq' ?_
  refine W.rx [(1, _), (2, _), (3, _), (4, _), (5, _), (7, _)] (Rv (O.as (.k rfl)) <| RunL.fin (.n rfl (.n rfl (.n rfl (.n rfl (.n rfl (.n rfl .nil))))))) ?_
  refine Px.sq ?_
  refine W.bk ?_
  obtain ⟨x11, hl, h⟩ := bnd h
  refine W.tr (G1 := [(1, .obj [I64 a0.Nons, iR (eM eI) a0.Rules, iR eI a0.Levels, iR eI a0.Inner, BB a0.Bare]), (2, .obj [SS ({ data := #[] }), .nils, .nils, SS ({ data := #[] })]), (3, I64 (w64 (1 + x1))), (4, .obj [SS ({ data := #[] }), iR eDecl_0 x2, oR eRule_1 x5, SS ({ data := #[] })]), (5, oR eB x3), (7, I64 0)]) (.n rfl (.n rfl (.n rfl (.n rfl (.n rfl (.n rfl .nil)))))) ?_
  refine W.lp1 (s := (x5, x3, 0)) (fun (s10 : List Rule × List Bool × Int) => [(1, .obj [I64 a0.Nons, iR (eM eI) a0.Rules, iR eI a0.Levels, iR eI a0.Inner, BB a0.Bare]), (2, .obj [SS ({ data := #[] }), .nils, .nils, SS ({ data := #[] })]), (3, I64 (w64 (1 + x1))), (4, .obj [SS ({ data := #[] }), iR eDecl_0 x2, oR eRule_1 s10.1, SS ({ data := #[] })]), (5, oR eB s10.2.1), (7, I64 s10.2.2)]) 2 (fun (x11 : List Rule × List Bool) => [(1, .obj [I64 a0.Nons, iR (eM eI) a0.Rules, iR eI a0.Levels, iR eI a0.Inner, BB a0.Bare]), (2, .obj [SS ({ data := #[] }), .nils, .nils, SS ({ data := #[] })]), (3, I64 (w64 (1 + x1))), (4, .obj [SS ({ data := #[] }), iR eDecl_0 x2, oR eRule_1 x11.1, SS ({ data := #[] })]), (5, oR eB x11.2)]) hl (fun s10 o h => ?_) ?_
  · clear hl
    refine W.sq' ?_
    refine W.sq' ?_
    obtain ⟨c14, hj, h⟩ := bnd h
    refine W.rx [(1, .obj [I64 a0.Nons, iR (eM eI) a0.Rules, iR eI a0.Levels, iR eI a0.Inner, BB a0.Bare]), (2, .obj [SS ({ data := #[] }), .nils, .nils, SS ({ data := #[] })]), (3, I64 (w64 (1 + x1))), (4, .obj [SS ({ data := #[] }), iR eDecl_0 x2, oR eRule_1 s10.1, SS ({ data := #[] })]), (5, oR eB s10.2.1), (7, I64 s10.2.2), (45, BB c14)] ?_ ?_
    · refine Rv (O.mv (.lit rfl)) <| Rv (O.fO rfl (.obj rfl) fd29_1 rfl) <| Rv (O.ldO (y := iR (eM eI) a0.Rules) rfl (.ptr rfl) ct26 rfl rfl) <| Rv (O.lenI (.imm rfl) sl26) <| Rv (O.lss (.lit rfl) (.lit rfl)) <| Rv (O.mv (.lit rfl)) ?_
      rcases cnd hj with ⟨hb13, hj⟩ | ⟨hb13, hj⟩
      · obtain rfl := sm hj
        exact RunL.v (O.mv (.lit rfl)) rfl rfl (.yb rfl rfl hb13) <| RunL.v (O.lss (.lit rfl) (.k rfl)) rfl rfl (.yb rfl rfl hb13) <| Rv (O.pkT (.lit rfl) hb13 (.lit rfl)) <| RunL.fin (.n rfl (.n rfl (.n rfl (.n rfl (.n rfl (.n rfl (.n rfl .nil)))))))
      · obtain rfl := sm hj
        exact RunL.ps rfl rfl hb13 rfl rfl <| RunL.ps rfl rfl hb13 rfl rfl <| Rv (O.pkF (.lit rfl) hb13 (.k rfl)) <| RunL.fin (.n rfl (.n rfl (.n rfl (.n rfl (.n rfl (.n rfl (.n rfl .nil)))))))
    refine Px.sq ?_
    refine W.cnd rfl (fun hb15 => ?_) (fun hb15 => ?_)
    · replace h := cndT hb15 h
      refine W.sk ?_
      refine Px.sq ?_
      refine W.sq' ?_
      obtain ⟨j16, hj, h⟩ := bnd h
      refine W.jn [(1, .obj [I64 a0.Nons, iR (eM eI) a0.Rules, iR eI a0.Levels, iR eI a0.Inner, BB a0.Bare]), (2, .obj [SS ({ data := #[] }), .nils, .nils, SS ({ data := #[] })]), (3, I64 (w64 (1 + x1))), (4, .obj [SS ({ data := #[] }), iR eDecl_0 x2, oR eRule_1 j16.1, SS ({ data := #[] })]), (5, oR eB j16.2), (7, I64 s10.2.2)] ?_ ?_
      · clear h; have h := hj; clear hj
        refine W.bk ?_
        refine W.sq' ?_
        refine W.sq' ?_
        obtain ⟨x17, hx17, h⟩ := bnd h
        refine W.rx [(1, _), (2, _), (3, _), (4, _), (5, _), (7, _), (54, _)] (Rv (O.fO rfl (.obj rfl) fd29_1 rfl) <| Rv (O.ldO (y := iR (eM eI) a0.Rules) rfl (.ptr rfl) ct26 rfl rfl) <| Rv (O.mv (.lit rfl)) <| Rv (O.ixI (.imm rfl) (.lit rfl) sl26 hx17) <| Rv (O.ldI (x := iR eI x17) (.iptr rfl) ct27 rfl) <| Rv (O.lenI (.imm rfl) sl27) <| Rv (O.eql (.lit rfl) (.k rfl)) <| RunL.fin (.n rfl (.n rfl (.n rfl (.n rfl (.n rfl (.n rfl (.n rfl .nil)))))))) ?_
        refine Px.sq ?_
        refine W.cnd rfl (fun hb18 => ?_) (fun hb18 => ?_)
        · replace h := cndT hb18 h
          refine W.xi ?_
          refine Px.sqE ?_
          refine Px.bkH ?_
          obtain rfl := sm h
          exact Px.jn (.n rfl (.n rfl (.n rfl (.n rfl (.n rfl (.n rfl .nil))))))
        · replace h := cndF hb18 h
          refine W.sk ?_
          refine Px.sq ?_
          refine W.sq' ?_
          obtain ⟨x19, hx19, h⟩ := bnd h
          obtain ⟨x20, hx20, h⟩ := bnd h
          obtain ⟨x21, hx21, h⟩ := bnd h
          refine W.rx [(1, _), (2, _), (3, _), (4, _), (5, _), (7, _), (8, _)] (Rv (O.fO rfl (.obj rfl) fd29_1 rfl) <| Rv (O.ldO (y := iR (eM eI) a0.Rules) rfl (.ptr rfl) ct26 rfl rfl) <| Rv (O.mv (.lit rfl)) <| Rv (O.ixI (.imm rfl) (.lit rfl) sl26 hx19) <| Rv (O.ldI (x := iR eI x19) (.iptr rfl) ct27 rfl) <| Rv (O.ixI (.imm rfl) (.k rfl) sl27 hx20) <| Rv (O.ldI (x := I64 x20) (.iptr rfl) ct3 rfl) <| Rv (O.mv (.lit rfl)) <| Rc (PC.go (.cc (.lit rfl) (.cc (.lit rfl) .nil)) (con25 x20 (w64 (1 + x1)) _ hx21) call25 rfl) <| Rv (O.as (.lit rfl)) <| RunL.fin (.n rfl (.n rfl (.n rfl (.n rfl (.n rfl (.n rfl (.n rfl .nil)))))))) ?_
          refine Px.sq ?_
          refine W.sq' ?_
          refine W.rx [(1, _), (2, _), (3, _), (4, _), (5, _), (7, _), (8, _), (9, _)] (Rv (O.al (cs := [.nils, SS ({ data := #[] }), BB false, I64 0, I64 0, I64 0]) ze98 rfl rfl) <| RunL.fin (.n rfl (.n rfl (.n rfl (.n rfl (.n rfl (.n rfl (.n rfl (.n rfl .nil))))))))) ?_
          refine Px.sq ?_
          refine W.sq' ?_
          refine W.rx [(1, _), (2, _), (3, _), (4, _), (5, _), (7, _), (8, _), (9, _), (10, _)] (Rv (O.as (.k rfl)) <| RunL.fin (.n rfl (.n rfl (.n rfl (.n rfl (.n rfl (.n rfl (.n rfl (.n rfl (.n rfl .nil)))))))))) ?_
          refine Px.sq ?_
          refine W.sq' ?_
          refine W.sq' ?_
          refine W.rx [(1, _), (2, _), (3, _), (4, _), (5, _), (7, _), (8, _), (9, _), (10, _), (11, _)] (Rv (O.as (.k rfl)) <| RunL.fin (.n rfl (.n rfl (.n rfl (.n rfl (.n rfl (.n rfl (.n rfl (.n rfl (.n rfl (.n rfl .nil))))))))))) ?_
          refine Px.sq ?_
          refine W.bk ?_
          obtain ⟨x23, hl, h⟩ := bnd h
          refine W.tr (G1 := [(1, .obj [I64 a0.Nons, iR (eM eI) a0.Rules, iR eI a0.Levels, iR eI a0.Inner, BB a0.Bare]), (2, .obj [SS ({ data := #[] }), .nils, .nils, SS ({ data := #[] })]), (3, I64 (w64 (1 + x1))), (4, .obj [SS ({ data := #[] }), iR eDecl_0 x2, oR eRule_1 s10.1, SS ({ data := #[] })]), (5, oR eB s10.2.1), (7, I64 s10.2.2), (8, I64 x21), (9, .obj [oR ePart ([] : List Part), SS ({ data := #[] }), BB false, I64 0, I64 0, I64 0]), (10, BB true), (11, I64 1)]) (.n rfl (.n rfl (.n rfl (.n rfl (.n rfl (.n rfl (.n rfl (.w rfl rfl (WkL.obj (.o (.f (.f (.f (.f (.f .nil))))))) (.n rfl (.n rfl .nil)))))))))) ?_
          refine W.lp1 (s := (([] : List Part), true, 1)) (fun (s22 : List Part × Bool × Int) => [(1, .obj [I64 a0.Nons, iR (eM eI) a0.Rules, iR eI a0.Levels, iR eI a0.Inner, BB a0.Bare]), (2, .obj [SS ({ data := #[] }), .nils, .nils, SS ({ data := #[] })]), (3, I64 (w64 (1 + x1))), (4, .obj [SS ({ data := #[] }), iR eDecl_0 x2, oR eRule_1 s10.1, SS ({ data := #[] })]), (5, oR eB s10.2.1), (7, I64 s10.2.2), (8, I64 x21), (9, .obj [oR ePart s22.1, SS ({ data := #[] }), BB false, I64 0, I64 0, I64 0]), (10, BB s22.2.1), (11, I64 s22.2.2)]) 4 (fun (x23 : List Part × Bool) => [(1, .obj [I64 a0.Nons, iR (eM eI) a0.Rules, iR eI a0.Levels, iR eI a0.Inner, BB a0.Bare]), (2, .obj [SS ({ data := #[] }), .nils, .nils, SS ({ data := #[] })]), (3, I64 (w64 (1 + x1))), (4, .obj [SS ({ data := #[] }), iR eDecl_0 x2, oR eRule_1 s10.1, SS ({ data := #[] })]), (5, oR eB s10.2.1), (7, I64 s10.2.2), (8, I64 x21), (9, .obj [oR ePart x23.1, SS ({ data := #[] }), BB false, I64 0, I64 0, I64 0]), (10, BB x23.2)]) hl (fun s22 o h => ?_) ?_
          · clear hl
            refine W.sq' ?_
            refine W.sq' ?_
            obtain ⟨c27, hj, h⟩ := bnd h
            refine W.rx [(1, .obj [I64 a0.Nons, iR (eM eI) a0.Rules, iR eI a0.Levels, iR eI a0.Inner, BB a0.Bare]), (2, .obj [SS ({ data := #[] }), .nils, .nils, SS ({ data := #[] })]), (3, I64 (w64 (1 + x1))), (4, .obj [SS ({ data := #[] }), iR eDecl_0 x2, oR eRule_1 s10.1, SS ({ data := #[] })]), (5, oR eB s10.2.1), (7, I64 s10.2.2), (8, I64 x21), (9, .obj [oR ePart s22.1, SS ({ data := #[] }), BB false, I64 0, I64 0, I64 0]), (10, BB s22.2.1), (11, I64 s22.2.2), (75, BB c27)] ?_ ?_
            · refine Rv (O.mv (.lit rfl)) <| Rv (O.fO rfl (.obj rfl) fd29_1 rfl) <| Rv (O.ldO (y := iR (eM eI) a0.Rules) rfl (.ptr rfl) ct26 rfl rfl) <| Rv (O.mv (.lit rfl)) ?_
              obtain ⟨x25, hx25, hj⟩ := bnd hj
              refine Rv (O.ixI (.imm rfl) (.lit rfl) sl26 hx25) <| Rv (O.ldI (x := iR eI x25) (.iptr rfl) ct27 rfl) <| Rv (O.lenI (.imm rfl) sl27) <| Rv (O.lss (.lit rfl) (.lit rfl)) <| Rv (O.mv (.lit rfl)) ?_
              rcases cnd hj with ⟨hb26, hj⟩ | ⟨hb26, hj⟩
              · obtain rfl := sm hj
                exact RunL.v (O.mv (.lit rfl)) rfl rfl (.yb rfl rfl hb26) <| RunL.v (O.lss (.lit rfl) (.k rfl)) rfl rfl (.yb rfl rfl hb26) <| Rv (O.pkT (.lit rfl) hb26 (.lit rfl)) <| RunL.fin (.n rfl (.n rfl (.n rfl (.n rfl (.n rfl (.n rfl (.n rfl (.n rfl (.n rfl (.n rfl (.n rfl .nil)))))))))))
              · obtain rfl := sm hj
                exact RunL.ps rfl rfl hb26 rfl rfl <| RunL.ps rfl rfl hb26 rfl rfl <| Rv (O.pkF (.lit rfl) hb26 (.k rfl)) <| RunL.fin (.n rfl (.n rfl (.n rfl (.n rfl (.n rfl (.n rfl (.n rfl (.n rfl (.n rfl (.n rfl (.n rfl .nil)))))))))))
            refine Px.sq ?_
            refine W.cnd rfl (fun hb28 => ?_) (fun hb28 => ?_)
            · replace h := cndT hb28 h
              refine W.sk ?_
              refine Px.sq ?_
              refine W.sq' ?_
              obtain ⟨j29, hj, h⟩ := bnd h
              refine W.jn [(1, .obj [I64 a0.Nons, iR (eM eI) a0.Rules, iR eI a0.Levels, iR eI a0.Inner, BB a0.Bare]), (2, .obj [SS ({ data := #[] }), .nils, .nils, SS ({ data := #[] })]), (3, I64 (w64 (1 + x1))), (4, .obj [SS ({ data := #[] }), iR eDecl_0 x2, oR eRule_1 s10.1, SS ({ data := #[] })]), (5, oR eB s10.2.1), (7, I64 s10.2.2), (8, I64 x21), (9, .obj [oR ePart j29.1, SS ({ data := #[] }), BB false, I64 0, I64 0, I64 0]), (10, BB j29.2), (11, I64 s22.2.2)] ?_ ?_
              · clear h; have h := hj; clear hj
                refine W.bk ?_
                refine W.sq' ?_
                obtain ⟨x30, hx30, h⟩ := bnd h
                obtain ⟨x31, hx31, h⟩ := bnd h
                obtain ⟨x32, hx32, h⟩ := bnd h
                refine W.rx [(1, _), (2, _), (3, _), (4, _), (5, _), (7, _), (8, _), (9, _), (10, _), (11, _), (12, _)] (Rv (O.fO rfl (.obj rfl) fd29_1 rfl) <| Rv (O.ldO (y := iR (eM eI) a0.Rules) rfl (.ptr rfl) ct26 rfl rfl) <| Rv (O.mv (.lit rfl)) <| Rv (O.ixI (.imm rfl) (.lit rfl) sl26 hx30) <| Rv (O.ldI (x := iR eI x30) (.iptr rfl) ct27 rfl) <| Rv (O.mv (.lit rfl)) <| Rv (O.ixI (.imm rfl) (.lit rfl) sl27 hx31) <| Rv (O.ldI (x := I64 x31) (.iptr rfl) ct3 rfl) <| Rv (O.mv (.lit rfl)) <| Rc (PC.go (.cc (.lit rfl) (.cc (.lit rfl) .nil)) (con48 x31 (w64 (1 + x1)) _ hx32) call48 rfl) <| Rv (O.al (cs := [SS ({ data := #[] }), BB false, I64 0, I64 0]) ze91 rfl rfl) <| RunL.sO (G2 := [(1, .obj [I64 a0.Nons, iR (eM eI) a0.Rules, iR eI a0.Levels, iR eI a0.Inner, BB a0.Bare]), (2, .obj [SS ({ data := #[] }), .nils, .nils, SS ({ data := #[] })]), (3, I64 (w64 (1 + x1))), (4, .obj [SS ({ data := #[] }), iR eDecl_0 x2, oR eRule_1 s10.1, SS ({ data := #[] })]), (5, oR eB s10.2.1), (7, I64 s10.2.2), (8, I64 x21), (9, .obj [oR ePart s22.1, SS ({ data := #[] }), BB false, I64 0, I64 0, I64 0]), (10, BB s22.2.1), (11, I64 s22.2.2), (12, .obj (eSym.cells x32))]) (cs2 := [SS x32.Name, BB x32.Lit, I64 x32.Num, I64 x32.At]) rfl (.obj rfl) (.aggF rfl rfl) rfl sz91 rfl rfl rfl rfl (.n rfl rfl (.n rfl rfl (.n rfl rfl (.n rfl rfl (.n rfl rfl (.n rfl rfl (.n rfl rfl (.n rfl rfl (.n rfl rfl (.n rfl rfl (.b rfl .nil))))))))))) <| RunL.fin (.n rfl (.n rfl (.n rfl (.n rfl (.n rfl (.n rfl (.n rfl (.n rfl (.n rfl (.n rfl (.n rfl .nil)))))))))))) ?_
                refine Px.sq ?_
                refine W.sq' ?_
                obtain ⟨c35, hj, h⟩ := bnd h
                refine W.rx [(1, .obj [I64 a0.Nons, iR (eM eI) a0.Rules, iR eI a0.Levels, iR eI a0.Inner, BB a0.Bare]), (2, .obj [SS ({ data := #[] }), .nils, .nils, SS ({ data := #[] })]), (3, I64 (w64 (1 + x1))), (4, .obj [SS ({ data := #[] }), iR eDecl_0 x2, oR eRule_1 s10.1, SS ({ data := #[] })]), (5, oR eB s10.2.1), (7, I64 s10.2.2), (8, I64 x21), (9, .obj [oR ePart s22.1, SS ({ data := #[] }), BB false, I64 0, I64 0, I64 0]), (10, BB c35), (11, I64 s22.2.2), (12, .obj (eSym.cells x32))] ?_ ?_
                · refine Rv (O.mv (.lit rfl)) <| Rv (O.mv (.lit rfl)) ?_
                  rcases cnd hj with ⟨hb33, hj⟩ | ⟨hb33, hj⟩
                  · refine RunL.v (O.fO rfl (.obj rfl) fd91_1 rfl) rfl rfl (.yb rfl rfl hb33) <| RunL.v (O.ldO (y := BB x32.Lit) rfl (.ptr rfl) ct4 rfl rfl) rfl rfl (.yb rfl rfl hb33) <| RunL.v (O.mv (.lit rfl)) rfl rfl (.yb rfl rfl hb33) ?_
                    rcases cnd hj with ⟨hb34, hj⟩ | ⟨hb34, hj⟩
                    · obtain rfl := sm hj
                      exact RunL.ps rfl rfl hb34 rfl rfl <| RunL.ps rfl rfl hb34 rfl rfl <| RunL.ps rfl rfl hb34 rfl rfl <| RunL.v (O.pkT (.lit rfl) hb34 (.k rfl)) rfl rfl (.yb rfl rfl hb33) <| Rv (O.pkT (.lit rfl) hb33 (.lit rfl)) <| RunL.re (G1 := [(1, .obj [I64 a0.Nons, iR (eM eI) a0.Rules, iR eI a0.Levels, iR eI a0.Inner, BB a0.Bare]), (2, .obj [SS ({ data := #[] }), .nils, .nils, SS ({ data := #[] })]), (3, I64 (w64 (1 + x1))), (4, .obj [SS ({ data := #[] }), iR eDecl_0 x2, oR eRule_1 s10.1, SS ({ data := #[] })]), (5, oR eB s10.2.1), (7, I64 s10.2.2), (8, I64 x21), (9, .obj [oR ePart s22.1, SS ({ data := #[] }), BB false, I64 0, I64 0, I64 0]), (11, I64 s22.2.2), (12, .obj (eSym.cells x32)), (97, BB true)]) (.n rfl (.n rfl (.n rfl (.n rfl (.n rfl (.n rfl (.n rfl (.n rfl (.n rfl (.n rfl (.n rfl .nil))))))))))) <| Rv (O.as (.lit rfl)) <| RunL.fin (.n rfl (.n rfl (.n rfl (.n rfl (.n rfl (.n rfl (.n rfl (.n rfl (.n rfl (.n rfl (.n rfl .nil)))))))))))
                    · obtain rfl := sm hj
                      exact RunL.v (O.fO rfl (.obj rfl) fd91_0 rfl) rfl rfl (.yb rfl rfl hb34) <| RunL.v (O.ldO (y := SS x32.Name) rfl (.ptr rfl) ct9 rfl rfl) rfl rfl (.yb rfl rfl hb34) <| RunL.v (O.eqS (.lit rfl) (.k rfl)) rfl rfl (.yb rfl rfl hb34) <| RunL.v (O.pkF (.lit rfl) hb34 (.lit rfl)) rfl rfl (.yb rfl rfl hb33) <| Rv (O.pkT (.lit rfl) hb33 (.lit rfl)) <| RunL.re (G1 := [(1, .obj [I64 a0.Nons, iR (eM eI) a0.Rules, iR eI a0.Levels, iR eI a0.Inner, BB a0.Bare]), (2, .obj [SS ({ data := #[] }), .nils, .nils, SS ({ data := #[] })]), (3, I64 (w64 (1 + x1))), (4, .obj [SS ({ data := #[] }), iR eDecl_0 x2, oR eRule_1 s10.1, SS ({ data := #[] })]), (5, oR eB s10.2.1), (7, I64 s10.2.2), (8, I64 x21), (9, .obj [oR ePart s22.1, SS ({ data := #[] }), BB false, I64 0, I64 0, I64 0]), (11, I64 s22.2.2), (12, .obj (eSym.cells x32)), (97, BB (decide (x32.Name = { data := #[101, 114, 114, 111, 114] })))]) (.n rfl (.n rfl (.n rfl (.n rfl (.n rfl (.n rfl (.n rfl (.n rfl (.n rfl (.n rfl (.n rfl .nil))))))))))) <| Rv (O.as (.lit rfl)) <| RunL.fin (.n rfl (.n rfl (.n rfl (.n rfl (.n rfl (.n rfl (.n rfl (.n rfl (.n rfl (.n rfl (.n rfl .nil)))))))))))
                  · obtain rfl := sm hj
                    exact RunL.ps rfl rfl hb33 rfl rfl <| RunL.ps rfl rfl hb33 rfl rfl <| RunL.ps rfl rfl hb33 rfl rfl <| RunL.pu rfl rfl rfl rfl <| RunL.pu rfl rfl rfl rfl <| RunL.pu rfl rfl rfl rfl <| RunL.ps rfl rfl hb33 rfl rfl <| Rv (O.pkF (.lit rfl) hb33 (.k rfl)) <| RunL.re (G1 := [(1, .obj [I64 a0.Nons, iR (eM eI) a0.Rules, iR eI a0.Levels, iR eI a0.Inner, BB a0.Bare]), (2, .obj [SS ({ data := #[] }), .nils, .nils, SS ({ data := #[] })]), (3, I64 (w64 (1 + x1))), (4, .obj [SS ({ data := #[] }), iR eDecl_0 x2, oR eRule_1 s10.1, SS ({ data := #[] })]), (5, oR eB s10.2.1), (7, I64 s10.2.2), (8, I64 x21), (9, .obj [oR ePart s22.1, SS ({ data := #[] }), BB false, I64 0, I64 0, I64 0]), (11, I64 s22.2.2), (12, .obj (eSym.cells x32)), (97, BB false)]) (.n rfl (.n rfl (.n rfl (.n rfl (.n rfl (.n rfl (.n rfl (.n rfl (.n rfl (.n rfl (.n rfl .nil))))))))))) <| Rv (O.as (.lit rfl)) <| RunL.fin (.n rfl (.n rfl (.n rfl (.n rfl (.n rfl (.n rfl (.n rfl (.n rfl (.n rfl (.n rfl (.n rfl .nil)))))))))))
                refine Px.sq ?_
                refine W.sq' ?_
                obtain ⟨x36, hx36, h⟩ := bnd h
                refine W.rx [(1, _), (2, _), (3, _), (4, _), (5, _), (7, _), (8, _), (9, _), (10, _), (11, _)] (Rv (O.fO rfl (.obj rfl) fd98_0 rfl) <| Rv (O.ldO (y := .brw ePart.z ⟨9, [0]⟩ s22.1.length) rfl (.ptr rfl) ct96 rfl rfl) <| Rv (O.ldON (cs' := [SS x32.Name, BB x32.Lit, I64 x32.Num, I64 x32.At]) rfl (.obj rfl) at91 rfl rfl) <| Rv (O.bu (cs := [SS x32.Name, BB x32.Lit, I64 x32.Num, I64 x32.At, SS ({ data := #[] }), I64 0]) sc100 ze100 rfl rfl rfl) <| RunL.vi (x := iR ePart [(⟨x32, { data := #[] }, 0⟩ : Part)]) (O.bs (ys := [.agg [SS x32.Name, BB x32.Lit, I64 x32.Num, I64 x32.At, SS ({ data := #[] }), I64 0]]) ePart [(⟨x32, { data := #[] }, 0⟩ : Part)] sl96 rfl rfl rfl rfl rfl rfl zt100 rfl rfl) rfl rfl .none <| Rv (O.ap (en := ePart) (r := x36) (.brw rfl) rfl (.imm rfl) .i ap96 rfl hx36) <| Rv (O.fO rfl (.obj rfl) fd98_0 rfl) <| RunL.ef (G2 := [(1, .obj [I64 a0.Nons, iR (eM eI) a0.Rules, iR eI a0.Levels, iR eI a0.Inner, BB a0.Bare]), (2, .obj [SS ({ data := #[] }), .nils, .nils, SS ({ data := #[] })]), (3, I64 (w64 (1 + x1))), (4, .obj [SS ({ data := #[] }), iR eDecl_0 x2, oR eRule_1 s10.1, SS ({ data := #[] })]), (5, oR eB s10.2.1), (7, I64 s10.2.2), (8, I64 x21), (9, .obj [oR ePart (s22.1 ++ [(⟨x32, { data := #[] }, 0⟩ : Part)]), SS ({ data := #[] }), BB false, I64 0, I64 0, I64 0]), (10, BB c35), (11, I64 s22.2.2)]) rfl (EO.stP (g1 := _) (en := ePart) (M := [(⟨x32, { data := #[] }, 0⟩ : Part)]) (cs2 := [oR ePart (s22.1 ++ [(⟨x32, { data := #[] }, 0⟩ : Part)]), SS ({ data := #[] }), BB false, I64 0, I64 0, I64 0]) rfl rfl (.ptr rfl) (.pend rfl) rfl rfl rfl .ns .rf rfl rfl sz96 rfl rfl rfl rfl (.n rfl rfl (.n rfl rfl (.n rfl rfl (.n rfl rfl (.n rfl rfl (.n rfl rfl (.n rfl rfl (.b rfl (.n rfl rfl (.n rfl rfl .nil))))))))))) <| RunL.fin (.n rfl (.n rfl (.n rfl (.n rfl (.n rfl (.n rfl (.n rfl (.n rfl (.n rfl (.n rfl .nil))))))))))) ?_
                refine Px.sq ?_
                refine W.sq' ?_
                obtain ⟨c41, hj, h⟩ := bnd h
                refine W.rx [(1, .obj [I64 a0.Nons, iR (eM eI) a0.Rules, iR eI a0.Levels, iR eI a0.Inner, BB a0.Bare]), (2, .obj [SS ({ data := #[] }), .nils, .nils, SS ({ data := #[] })]), (3, I64 (w64 (1 + x1))), (4, .obj [SS ({ data := #[] }), iR eDecl_0 x2, oR eRule_1 s10.1, SS ({ data := #[] })]), (5, oR eB s10.2.1), (7, I64 s10.2.2), (8, I64 x21), (9, .obj [oR ePart (s22.1 ++ [(⟨x32, { data := #[] }, 0⟩ : Part)]), SS ({ data := #[] }), BB false, I64 0, I64 0, I64 0]), (10, BB c35), (11, I64 s22.2.2), (122, BB c41)] ?_ ?_
                · refine Rv (O.mv (.lit rfl)) <| Rv (O.fO rfl (.obj rfl) fd29_3 rfl) <| Rv (O.ldO (y := iR eI a0.Inner) rfl (.ptr rfl) ct27 rfl rfl) <| Rv (O.lenI (.imm rfl) sl27) <| Rv (O.lss (.lit rfl) (.lit rfl)) <| Rv (O.mv (.lit rfl)) ?_
                  rcases cnd hj with ⟨hb37, hj⟩ | ⟨hb37, hj⟩
                  · refine RunL.v (O.mv (.lit rfl)) rfl rfl (.yb rfl rfl hb37) <| RunL.v (O.eql (.lit rfl) (.k rfl)) rfl rfl (.yb rfl rfl hb37) <| Rv (O.pkT (.lit rfl) hb37 (.lit rfl)) <| Rv (O.mv (.lit rfl)) ?_
                    rcases cnd hj with ⟨hb38, hj⟩ | ⟨hb38, hj⟩
                    · refine RunL.v (O.fO rfl (.obj rfl) fd29_3 rfl) rfl rfl (.yb rfl rfl hb38) <| RunL.v (O.ldO (y := iR eI a0.Inner) rfl (.ptr rfl) ct27 rfl rfl) rfl rfl (.yb rfl rfl hb38) <| RunL.v (O.mv (.lit rfl)) rfl rfl (.yb rfl rfl hb38) ?_
                      obtain ⟨x39, hx39, hj⟩ := bnd hj
                      refine RunL.v (O.ixI (.imm rfl) (.lit rfl) sl27 hx39) rfl rfl (.yb rfl rfl hb38) <| RunL.v (O.ldI (x := I64 x39) (.iptr rfl) ct3 rfl) rfl rfl (.yb rfl rfl hb38) ?_
                      obtain ⟨x40, hx40, hj⟩ := bnd hj
                      obtain rfl := sm hj
                      exact RunL.v (O.rem (.lit rfl) (.k rfl) hx40) rfl rfl (.yb rfl rfl hb38) <| RunL.v (O.eql (.lit rfl) (.k rfl)) rfl rfl (.yb rfl rfl hb38) <| Rv (O.pkT (.lit rfl) hb38 (.lit rfl)) <| RunL.fin (.n rfl (.n rfl (.n rfl (.n rfl (.n rfl (.n rfl (.n rfl (.n rfl (.n rfl (.n rfl (.n rfl .nil)))))))))))
                    · obtain rfl := sm hj
                      exact RunL.ps rfl rfl hb38 rfl rfl <| RunL.ps rfl rfl hb38 rfl rfl <| RunL.ps rfl rfl hb38 rfl rfl <| RunL.ps rfl rfl hb38 rfl rfl <| RunL.ps rfl rfl hb38 rfl rfl <| RunL.ps rfl rfl hb38 rfl rfl <| RunL.ps rfl rfl hb38 rfl rfl <| Rv (O.pkF (.lit rfl) hb38 (.k rfl)) <| RunL.fin (.n rfl (.n rfl (.n rfl (.n rfl (.n rfl (.n rfl (.n rfl (.n rfl (.n rfl (.n rfl (.n rfl .nil)))))))))))
                  · obtain rfl := sm hj
                    exact RunL.ps rfl rfl hb37 rfl rfl <| RunL.ps rfl rfl hb37 rfl rfl <| Rv (O.pkF (.lit rfl) hb37 (.k rfl)) <| Rv (O.mv (.lit rfl)) <| RunL.ps rfl rfl rfl rfl rfl <| RunL.ps rfl rfl rfl rfl rfl <| RunL.ps rfl rfl rfl rfl rfl <| RunL.ps rfl rfl rfl rfl rfl <| RunL.ps rfl rfl rfl rfl rfl <| RunL.ps rfl rfl rfl rfl rfl <| RunL.ps rfl rfl rfl rfl rfl <| Rv (O.pkF (.lit rfl) rfl (.k rfl)) <| RunL.fin (.n rfl (.n rfl (.n rfl (.n rfl (.n rfl (.n rfl (.n rfl (.n rfl (.n rfl (.n rfl (.n rfl .nil)))))))))))
                refine Px.sq ?_
                obtain ⟨j42, hj, h⟩ := bnd h
                refine W.jn [(1, .obj [I64 a0.Nons, iR (eM eI) a0.Rules, iR eI a0.Levels, iR eI a0.Inner, BB a0.Bare]), (2, .obj [SS ({ data := #[] }), .nils, .nils, SS ({ data := #[] })]), (3, I64 (w64 (1 + x1))), (4, .obj [SS ({ data := #[] }), iR eDecl_0 x2, oR eRule_1 s10.1, SS ({ data := #[] })]), (5, oR eB s10.2.1), (7, I64 s10.2.2), (8, I64 x21), (9, .obj [oR ePart j42, SS ({ data := #[] }), BB false, I64 0, I64 0, I64 0]), (10, BB c35), (11, I64 s22.2.2)] ?_ ?_
                · clear h; have h := hj; clear hj
                  refine W.cnd rfl (fun hb43 => ?_) (fun hb43 => ?_)
                  · replace h := cndT hb43 h
                    obtain ⟨x44, hx44, h⟩ := bnd h
                    refine W.rx [(1, _), (2, _), (3, _), (4, _), (5, _), (7, _), (8, _), (9, _), (10, _), (11, _)] (Rv (O.fO rfl (.obj rfl) fd98_0 rfl) <| Rv (O.ldO (y := .brw ePart.z ⟨9, [0]⟩ (s22.1 ++ [(⟨x32, { data := #[] }, 0⟩ : Part)]).length) rfl (.ptr rfl) ct96 rfl rfl) <| Rv (O.bu (cs := [SS ({ data := #[] }), BB false, I64 0, I64 0, SS ({ data := #[123, 36, 36, 32, 61, 32, 36, 49, 125] }), I64 0]) sc100 ze100 rfl rfl rfl) <| RunL.vi (x := iR ePart [(⟨(⟨{ data := #[] }, false, 0, 0⟩ : Sym), { data := #[123, 36, 36, 32, 61, 32, 36, 49, 125] }, 0⟩ : Part)]) (O.bs (ys := [.agg [SS ({ data := #[] }), BB false, I64 0, I64 0, SS ({ data := #[123, 36, 36, 32, 61, 32, 36, 49, 125] }), I64 0]]) ePart [(⟨(⟨{ data := #[] }, false, 0, 0⟩ : Sym), { data := #[123, 36, 36, 32, 61, 32, 36, 49, 125] }, 0⟩ : Part)] sl96 rfl rfl rfl rfl rfl rfl zt100 rfl rfl) rfl rfl .none <| Rv (O.ap (en := ePart) (r := x44) (.brw rfl) rfl (.imm rfl) .i ap96 rfl hx44) <| Rv (O.fO rfl (.obj rfl) fd98_0 rfl) <| RunL.ef (G2 := [(1, .obj [I64 a0.Nons, iR (eM eI) a0.Rules, iR eI a0.Levels, iR eI a0.Inner, BB a0.Bare]), (2, .obj [SS ({ data := #[] }), .nils, .nils, SS ({ data := #[] })]), (3, I64 (w64 (1 + x1))), (4, .obj [SS ({ data := #[] }), iR eDecl_0 x2, oR eRule_1 s10.1, SS ({ data := #[] })]), (5, oR eB s10.2.1), (7, I64 s10.2.2), (8, I64 x21), (9, .obj [oR ePart ((s22.1 ++ [(⟨x32, { data := #[] }, 0⟩ : Part)]) ++ [(⟨(⟨{ data := #[] }, false, 0, 0⟩ : Sym), { data := #[123, 36, 36, 32, 61, 32, 36, 49, 125] }, 0⟩ : Part)]), SS ({ data := #[] }), BB false, I64 0, I64 0, I64 0]), (10, BB c35), (11, I64 s22.2.2)]) rfl (EO.stP (g1 := _) (en := ePart) (M := [(⟨(⟨{ data := #[] }, false, 0, 0⟩ : Sym), { data := #[123, 36, 36, 32, 61, 32, 36, 49, 125] }, 0⟩ : Part)]) (cs2 := [oR ePart ((s22.1 ++ [(⟨x32, { data := #[] }, 0⟩ : Part)]) ++ [(⟨(⟨{ data := #[] }, false, 0, 0⟩ : Sym), { data := #[123, 36, 36, 32, 61, 32, 36, 49, 125] }, 0⟩ : Part)]), SS ({ data := #[] }), BB false, I64 0, I64 0, I64 0]) rfl rfl (.ptr rfl) (.pend rfl) rfl rfl rfl .ns .rf rfl rfl sz96 rfl rfl rfl rfl (.n rfl rfl (.n rfl rfl (.n rfl rfl (.n rfl rfl (.n rfl rfl (.n rfl rfl (.n rfl rfl (.b rfl (.n rfl rfl (.n rfl rfl .nil))))))))))) <| RunL.fin (.n rfl (.n rfl (.n rfl (.n rfl (.n rfl (.n rfl (.n rfl (.n rfl (.n rfl (.n rfl .nil))))))))))) ?_
                    obtain rfl := sm h
                    exact Px.jn (.n rfl (.n rfl (.n rfl (.n rfl (.n rfl (.n rfl (.n rfl (.n rfl (.n rfl (.n rfl .nil))))))))))
                  · replace h := cndF hb43 h
                    refine W.sk ?_
                    obtain rfl := sm h
                    exact Px.jn (.n rfl (.n rfl (.n rfl (.n rfl (.n rfl (.n rfl (.n rfl (.n rfl (.n rfl (.n rfl .nil))))))))))
                refine Px.bk ?_
                obtain rfl := sm h
                exact Px.jn (.n rfl (.n rfl (.n rfl (.n rfl (.n rfl (.n rfl (.n rfl (.n rfl (.n rfl (.n rfl .nil))))))))))
              refine Px.sq ?_
              refine W.rx [(1, _), (2, _), (3, _), (4, _), (5, _), (7, _), (8, _), (9, _), (10, _), (11, _)] (Rv (O.mv (.lit rfl)) <| Rv (O.add (.lit rfl) (.k rfl)) <| RunL.re (G1 := [(1, .obj [I64 a0.Nons, iR (eM eI) a0.Rules, iR eI a0.Levels, iR eI a0.Inner, BB a0.Bare]), (2, .obj [SS ({ data := #[] }), .nils, .nils, SS ({ data := #[] })]), (3, I64 (w64 (1 + x1))), (4, .obj [SS ({ data := #[] }), iR eDecl_0 x2, oR eRule_1 s10.1, SS ({ data := #[] })]), (5, oR eB s10.2.1), (7, I64 s10.2.2), (8, I64 x21), (9, .obj [oR ePart j29.1, SS ({ data := #[] }), BB false, I64 0, I64 0, I64 0]), (10, BB j29.2), (77, I64 (w64 (s22.2.2 + 1)))]) (.n rfl (.n rfl (.n rfl (.n rfl (.n rfl (.n rfl (.n rfl (.n rfl (.n rfl (.n rfl .nil)))))))))) <| Rv (O.as (.lit rfl)) <| RunL.fin (.n rfl (.n rfl (.n rfl (.n rfl (.n rfl (.n rfl (.n rfl (.n rfl (.n rfl (.n rfl .nil))))))))))) ?_
              obtain rfl := sm h
              exact Px.go (.n rfl (.n rfl (.n rfl (.n rfl (.n rfl (.n rfl (.n rfl (.n rfl (.n rfl (.n rfl .nil))))))))))
            · replace h := cndF hb28 h
              refine W.xi ?_
              refine Px.sqE ?_
              obtain rfl := sm h
              exact Px.x1 (.n rfl (.n rfl (.n rfl (.n rfl (.n rfl (.n rfl (.n rfl (.n rfl (.n rfl .nil)))))))))
          refine Px.bkH ?_
          refine Px.sq ?_
          refine W.sq' ?_
          refine W.sq' ?_
          obtain ⟨c48, hj, h⟩ := bnd h
          refine W.rx [(1, .obj [I64 a0.Nons, iR (eM eI) a0.Rules, iR eI a0.Levels, iR eI a0.Inner, BB a0.Bare]), (2, .obj [SS ({ data := #[] }), .nils, .nils, SS ({ data := #[] })]), (3, I64 (w64 (1 + x1))), (4, .obj [SS ({ data := #[] }), iR eDecl_0 x2, oR eRule_1 s10.1, SS ({ data := #[] })]), (5, oR eB s10.2.1), (7, I64 s10.2.2), (8, I64 x21), (9, .obj [oR ePart x23.1, SS ({ data := #[] }), BB false, I64 0, I64 0, I64 0]), (10, BB x23.2), (142, BB c48)] ?_ ?_
          · refine Rv (O.mv (.lit rfl)) <| Rv (O.fO rfl (.obj rfl) fd29_3 rfl) <| Rv (O.ldO (y := iR eI a0.Inner) rfl (.ptr rfl) ct27 rfl rfl) <| Rv (O.lenI (.imm rfl) sl27) <| Rv (O.lss (.lit rfl) (.lit rfl)) <| Rv (O.mv (.lit rfl)) ?_
            rcases cnd hj with ⟨hb45, hj⟩ | ⟨hb45, hj⟩
            · refine RunL.v (O.fO rfl (.obj rfl) fd29_3 rfl) rfl rfl (.yb rfl rfl hb45) <| RunL.v (O.ldO (y := iR eI a0.Inner) rfl (.ptr rfl) ct27 rfl rfl) rfl rfl (.yb rfl rfl hb45) <| RunL.v (O.mv (.lit rfl)) rfl rfl (.yb rfl rfl hb45) ?_
              obtain ⟨x46, hx46, hj⟩ := bnd hj
              refine RunL.v (O.ixI (.imm rfl) (.lit rfl) sl27 hx46) rfl rfl (.yb rfl rfl hb45) <| RunL.v (O.ldI (x := I64 x46) (.iptr rfl) ct3 rfl) rfl rfl (.yb rfl rfl hb45) ?_
              obtain ⟨x47, hx47, hj⟩ := bnd hj
              obtain rfl := sm hj
              exact RunL.v (O.rem (.lit rfl) (.k rfl) hx47) rfl rfl (.yb rfl rfl hb45) <| RunL.v (O.neq (.lit rfl) (.k rfl)) rfl rfl (.yb rfl rfl hb45) <| Rv (O.pkT (.lit rfl) hb45 (.lit rfl)) <| RunL.fin (.n rfl (.n rfl (.n rfl (.n rfl (.n rfl (.n rfl (.n rfl (.n rfl (.n rfl (.n rfl .nil))))))))))
            · obtain rfl := sm hj
              exact RunL.ps rfl rfl hb45 rfl rfl <| RunL.ps rfl rfl hb45 rfl rfl <| RunL.ps rfl rfl hb45 rfl rfl <| RunL.ps rfl rfl hb45 rfl rfl <| RunL.ps rfl rfl hb45 rfl rfl <| RunL.ps rfl rfl hb45 rfl rfl <| RunL.ps rfl rfl hb45 rfl rfl <| Rv (O.pkF (.lit rfl) hb45 (.k rfl)) <| RunL.fin (.n rfl (.n rfl (.n rfl (.n rfl (.n rfl (.n rfl (.n rfl (.n rfl (.n rfl (.n rfl .nil))))))))))
          refine Px.sq ?_
          obtain ⟨j49, hj, h⟩ := bnd h
          refine W.jn [(1, .obj [I64 a0.Nons, iR (eM eI) a0.Rules, iR eI a0.Levels, iR eI a0.Inner, BB a0.Bare]), (2, .obj [SS ({ data := #[] }), .nils, .nils, SS ({ data := #[] })]), (3, I64 (w64 (1 + x1))), (4, .obj [SS ({ data := #[] }), iR eDecl_0 x2, oR eRule_1 s10.1, SS ({ data := #[] })]), (5, oR eB s10.2.1), (7, I64 s10.2.2), (8, I64 x21), (9, .obj [oR ePart j49, SS ({ data := #[] }), BB false, I64 0, I64 0, I64 0]), (10, BB x23.2)] ?_ ?_
          · clear h; have h := hj; clear hj
            refine W.cnd rfl (fun hb50 => ?_) (fun hb50 => ?_)
            · replace h := cndT hb50 h
              obtain ⟨x51, hx51, h⟩ := bnd h
              refine W.rx [(1, _), (2, _), (3, _), (4, _), (5, _), (7, _), (8, _), (9, _), (10, _)] (Rv (O.fO rfl (.obj rfl) fd98_0 rfl) <| Rv (O.ldO (y := .brw ePart.z ⟨9, [0]⟩ x23.1.length) rfl (.ptr rfl) ct96 rfl rfl) <| Rv (O.bu (cs := [SS ({ data := #[] }), BB false, I64 0, I64 0, SS ({ data := #[123, 102, 40, 36, 36, 41, 125] }), I64 0]) sc100 ze100 rfl rfl rfl) <| RunL.vi (x := iR ePart [(⟨(⟨{ data := #[] }, false, 0, 0⟩ : Sym), { data := #[123, 102, 40, 36, 36, 41, 125] }, 0⟩ : Part)]) (O.bs (ys := [.agg [SS ({ data := #[] }), BB false, I64 0, I64 0, SS ({ data := #[123, 102, 40, 36, 36, 41, 125] }), I64 0]]) ePart [(⟨(⟨{ data := #[] }, false, 0, 0⟩ : Sym), { data := #[123, 102, 40, 36, 36, 41, 125] }, 0⟩ : Part)] sl96 rfl rfl rfl rfl rfl rfl zt100 rfl rfl) rfl rfl .none <| Rv (O.ap (en := ePart) (r := x51) (.brw rfl) rfl (.imm rfl) .i ap96 rfl hx51) <| Rv (O.fO rfl (.obj rfl) fd98_0 rfl) <| RunL.ef (G2 := [(1, .obj [I64 a0.Nons, iR (eM eI) a0.Rules, iR eI a0.Levels, iR eI a0.Inner, BB a0.Bare]), (2, .obj [SS ({ data := #[] }), .nils, .nils, SS ({ data := #[] })]), (3, I64 (w64 (1 + x1))), (4, .obj [SS ({ data := #[] }), iR eDecl_0 x2, oR eRule_1 s10.1, SS ({ data := #[] })]), (5, oR eB s10.2.1), (7, I64 s10.2.2), (8, I64 x21), (9, .obj [oR ePart (x23.1 ++ [(⟨(⟨{ data := #[] }, false, 0, 0⟩ : Sym), { data := #[123, 102, 40, 36, 36, 41, 125] }, 0⟩ : Part)]), SS ({ data := #[] }), BB false, I64 0, I64 0, I64 0]), (10, BB x23.2)]) rfl (EO.stP (g1 := _) (en := ePart) (M := [(⟨(⟨{ data := #[] }, false, 0, 0⟩ : Sym), { data := #[123, 102, 40, 36, 36, 41, 125] }, 0⟩ : Part)]) (cs2 := [oR ePart (x23.1 ++ [(⟨(⟨{ data := #[] }, false, 0, 0⟩ : Sym), { data := #[123, 102, 40, 36, 36, 41, 125] }, 0⟩ : Part)]), SS ({ data := #[] }), BB false, I64 0, I64 0, I64 0]) rfl rfl (.ptr rfl) (.pend rfl) rfl rfl rfl .ns .rf rfl rfl sz96 rfl rfl rfl rfl (.n rfl rfl (.n rfl rfl (.n rfl rfl (.n rfl rfl (.n rfl rfl (.n rfl rfl (.n rfl rfl (.b rfl (.n rfl rfl .nil)))))))))) <| RunL.fin (.n rfl (.n rfl (.n rfl (.n rfl (.n rfl (.n rfl (.n rfl (.n rfl (.n rfl .nil)))))))))) ?_
              obtain rfl := sm h
              exact Px.jn (.n rfl (.n rfl (.n rfl (.n rfl (.n rfl (.n rfl (.n rfl (.n rfl (.n rfl .nil)))))))))
            · replace h := cndF hb50 h
              refine W.sk ?_
              obtain rfl := sm h
              exact Px.jn (.n rfl (.n rfl (.n rfl (.n rfl (.n rfl (.n rfl (.n rfl (.n rfl (.n rfl .nil)))))))))
          refine Px.sq ?_
          refine W.sq' ?_
          obtain ⟨c54, hj, h⟩ := bnd h
          refine W.rx [(1, .obj [I64 a0.Nons, iR (eM eI) a0.Rules, iR eI a0.Levels, iR eI a0.Inner, BB a0.Bare]), (2, .obj [SS ({ data := #[] }), .nils, .nils, SS ({ data := #[] })]), (3, I64 (w64 (1 + x1))), (4, .obj [SS ({ data := #[] }), iR eDecl_0 x2, oR eRule_1 s10.1, SS ({ data := #[] })]), (5, oR eB c54), (7, I64 s10.2.2), (8, I64 x21), (9, .obj [oR ePart j49, SS ({ data := #[] }), BB false, I64 0, I64 0, I64 0])] ?_ ?_
          · refine Rv (O.mv (.own rfl)) <| Rv (O.mv (.lit rfl)) <| Rv (O.mv (.own rfl)) <| Rv (O.mv (.lit rfl)) ?_
            obtain ⟨x52, hx52, hj⟩ := bnd hj
            refine Rv (O.ixO (en := eB) rfl (.brw rfl) (.lit rfl) sl102 hx52 rfl) <| Rv (O.ldE (en := eB) (x' := BB x52) rfl (.ptr rfl) ct4 hx52 rfl rfl) <| Rv (O.mv (.lit rfl)) ?_
            rcases cnd hj with ⟨hb53, hj⟩ | ⟨hb53, hj⟩
            · obtain rfl := sm hj
              exact RunL.ps rfl rfl hb53 rfl rfl <| Rv (O.pkT (.lit rfl) hb53 (.k rfl)) <| Rv (O.ixO (en := eB) rfl (.brw rfl) (.lit rfl) sl102 hx52 rfl) <| RunL.ef (G2 := [(1, .obj [I64 a0.Nons, iR (eM eI) a0.Rules, iR eI a0.Levels, iR eI a0.Inner, BB a0.Bare]), (2, .obj [SS ({ data := #[] }), .nils, .nils, SS ({ data := #[] })]), (3, I64 (w64 (1 + x1))), (4, .obj [SS ({ data := #[] }), iR eDecl_0 x2, oR eRule_1 s10.1, SS ({ data := #[] })]), (5, oR eB (s10.2.1.set x21.toNat true)), (7, I64 s10.2.2), (8, I64 x21), (9, .obj [oR ePart j49, SS ({ data := #[] }), BB false, I64 0, I64 0, I64 0])]) rfl (EO.stE (en := eB) (y2 := true) (cs' := [BB true]) (x2 := oR eB (s10.2.1.set x21.toNat true)) rfl rfl (.ptr rfl) (.lit rfl) rfl hx52 sz4 rfl rfl rfl rfl rfl rfl rfl (.n rfl rfl (.n rfl rfl (.n rfl rfl (.n rfl rfl (.b rfl (.n rfl rfl (.n rfl rfl (.n rfl rfl .nil))))))))) <| RunL.fin (.n rfl (.n rfl (.n rfl (.n rfl (.n rfl (.n rfl (.n rfl (.n rfl .nil))))))))
            · obtain rfl := sm hj
              exact RunL.v (O.mv (.lit rfl)) rfl rfl (.yb rfl rfl hb53) <| Rv (O.pkF (.lit rfl) hb53 (.lit rfl)) <| Rv (O.ixO (en := eB) rfl (.brw rfl) (.lit rfl) sl102 hx52 rfl) <| RunL.ef (G2 := [(1, .obj [I64 a0.Nons, iR (eM eI) a0.Rules, iR eI a0.Levels, iR eI a0.Inner, BB a0.Bare]), (2, .obj [SS ({ data := #[] }), .nils, .nils, SS ({ data := #[] })]), (3, I64 (w64 (1 + x1))), (4, .obj [SS ({ data := #[] }), iR eDecl_0 x2, oR eRule_1 s10.1, SS ({ data := #[] })]), (5, oR eB (s10.2.1.set x21.toNat x23.2)), (7, I64 s10.2.2), (8, I64 x21), (9, .obj [oR ePart j49, SS ({ data := #[] }), BB false, I64 0, I64 0, I64 0])]) rfl (EO.stE (en := eB) (y2 := x23.2) (cs' := [BB x23.2]) (x2 := oR eB (s10.2.1.set x21.toNat x23.2)) rfl rfl (.ptr rfl) (.lit rfl) rfl hx52 sz4 rfl rfl rfl rfl rfl rfl rfl (.n rfl rfl (.n rfl rfl (.n rfl rfl (.n rfl rfl (.b rfl (.n rfl rfl (.n rfl rfl (.n rfl rfl .nil))))))))) <| RunL.fin (.n rfl (.n rfl (.n rfl (.n rfl (.n rfl (.n rfl (.n rfl (.n rfl .nil))))))))
          refine Px.sq ?_
          refine W.fz (G1 := [(1, .obj [I64 a0.Nons, iR (eM eI) a0.Rules, iR eI a0.Levels, iR eI a0.Inner, BB a0.Bare]), (2, .obj [SS ({ data := #[] }), .nils, .nils, SS ({ data := #[] })]), (3, I64 (w64 (1 + x1))), (4, .obj [SS ({ data := #[] }), iR eDecl_0 x2, oR eRule_1 s10.1, SS ({ data := #[] })]), (5, oR eB c54), (7, I64 s10.2.2), (8, I64 x21), (9, .obj [iR ePart j49, SS ({ data := #[] }), BB false, I64 0, I64 0, I64 0])]) [9] (.n rfl rfl (.n rfl rfl (.n rfl rfl (.n rfl rfl (.n rfl rfl (.n rfl rfl (.n rfl rfl (.z rfl rfl (FzL.obj (.z (.f (.f (.f (.f (.f .nil))))))) .nil)))))))) ?_
          obtain ⟨x55, hx55, h⟩ := bnd h
          obtain ⟨x56, hx56, h⟩ := bnd h
          refine W.rd [[], [0], [], [], [3], [], [3, 4, 5], [3, 4, 5, 6], rn 3 5 [], [], [9], rn 3 8 [], rn 0 12 [], rn 0 13 [], rn 0 14 []] [(1, _), (2, _), (3, _), (4, _), (5, _), (7, _)] mixo (by kernel_rfl) (Dv 0 (O.fO rfl (.obj rfl) fd25_2 rfl) <| Dv 1 (O.ldO (y := .brw eRule_1.z ⟨4, [2]⟩ s10.1.length) rfl (.ptr rfl) ct23 rfl rfl) <| Dv 2 (O.mv (.lit rfl)) <| Dv 3 (O.fO rfl (.obj rfl) fd25_2 rfl) <| Dv 4 (O.ldO (y := .brw eRule_1.z ⟨4, [2]⟩ s10.1.length) rfl (.ptr rfl) ct23 rfl rfl) <| Dv 5 (O.mv (.lit rfl)) <| Dv 6 (O.ixO (en := eRule_1) rfl (.brw rfl) (.lit rfl) sl23 hx55 rfl) <| Dv 7 (O.fE (en := eRule_1) rfl (.ptr rfl) fd95_1 hx55 rfl rfl) <| Dv 8 (O.ldE (en := eRule_1) (x' := .brw eAlt_0.z ⟨4, [2, x21.toNat * eRule_1.z + 1]⟩ x55.Alts.length) rfl (.ptr rfl) ct93 hx55 rfl rfl) <| Dv 9 (O.ldON (cs' := [iR ePart j49, SS ({ data := #[] }), BB false, I64 0, I64 0, I64 0]) rfl (.obj rfl) at98 rfl rfl) <| DL.vi 10 (x := iR eAlt_0 [(⟨j49, (⟨{ data := #[] }, false, 0, 0⟩ : Sym), 0⟩ : Alt)]) (O.bs (ys := [.agg [iR ePart j49, SS ({ data := #[] }), BB false, I64 0, I64 0, I64 0]]) eAlt_0 [(⟨j49, (⟨{ data := #[] }, false, 0, 0⟩ : Sym), 0⟩ : Alt)] sl93 rfl rfl rfl rfl rfl rfl zt98 rfl rfl) rfl rfl rfl rfl .none <| Dv 11 (O.ap (en := eAlt_0) (r := x56) (.brw rfl) (atP_el (r := 4) (path := [2]) (o := 1) (en := eRule_1) rfl hx55 rfl) (.imm rfl) .i ap93 rfl hx56) <| Dv 12 (O.ixO (en := eRule_1) rfl (.brw rfl) (.lit rfl) sl23 hx55 rfl) <| Dv 13 (O.fE (en := eRule_1) rfl (.ptr rfl) fd95_1 hx55 rfl rfl) <| DL.bp 14 (G2 := [(1, .obj [I64 a0.Nons, iR (eM eI) a0.Rules, iR eI a0.Levels, iR eI a0.Inner, BB a0.Bare]), (2, .obj [SS ({ data := #[] }), .nils, .nils, SS ({ data := #[] })]), (3, I64 (w64 (1 + x1))), (4, .obj [SS ({ data := #[] }), iR eDecl_0 x2, oR eRule_1 (s10.1.set x21.toNat (⟨x55.Left, x55.Alts ++ [(⟨j49, (⟨{ data := #[] }, false, 0, 0⟩ : Sym), 0⟩ : Alt)], x55.At⟩ : Rule)), SS ({ data := #[] })]), (5, oR eB c54), (7, I64 s10.2.2)]) (EO.stEP (en := eRule_1) (en2 := eAlt_0) (M := [(⟨j49, (⟨{ data := #[] }, false, 0, 0⟩ : Sym), 0⟩ : Alt)]) (y2 := (⟨x55.Left, x55.Alts ++ [(⟨j49, (⟨{ data := #[] }, false, 0, 0⟩ : Sym), 0⟩ : Alt)], x55.At⟩ : Rule)) (x2 := .obj [SS ({ data := #[] }), iR eDecl_0 x2, oR eRule_1 (s10.1.set x21.toNat (⟨x55.Left, x55.Alts ++ [(⟨j49, (⟨{ data := #[] }, false, 0, 0⟩ : Sym), 0⟩ : Alt)], x55.At⟩ : Rule)), SS ({ data := #[] })]) (y0 := .obj [SS ({ data := #[] }), iR eDecl_0 x2, .own eRule_1.z s10.1.length ((rowc eRule_1 s10.1).set (x21.toNat * eRule_1.z + 1) .dead), SS ({ data := #[] })]) rfl rfl (.ptr rfl) (.pend rfl) rfl rfl hx55 rfl rfl .ns .rf rfl rfl sz93 rfl rfl rfl rfl rfl rfl (.n rfl rfl (.n rfl rfl (.n rfl rfl (.b rfl (.n rfl rfl (.n rfl rfl .nil))))))) rfl rfl rfl rfl (by kernel_rfl) (by kernel_rfl) <| DL.fin rfl rfl rfl (.n rfl (.n rfl (.n rfl (.n rfl (.n rfl (.n rfl .nil))))))) ?_
          refine Px.bk ?_
          obtain rfl := sm h
          exact Px.jn (.n rfl (.n rfl (.n rfl (.n rfl (.n rfl (.n rfl .nil))))))
      refine Px.sq ?_
      refine W.rx [(1, _), (2, _), (3, _), (4, _), (5, _), (7, _)] (Rv (O.mv (.lit rfl)) <| Rv (O.add (.lit rfl) (.k rfl)) <| RunL.re (G1 := [(1, .obj [I64 a0.Nons, iR (eM eI) a0.Rules, iR eI a0.Levels, iR eI a0.Inner, BB a0.Bare]), (2, .obj [SS ({ data := #[] }), .nils, .nils, SS ({ data := #[] })]), (3, I64 (w64 (1 + x1))), (4, .obj [SS ({ data := #[] }), iR eDecl_0 x2, oR eRule_1 j16.1, SS ({ data := #[] })]), (5, oR eB j16.2), (47, I64 (w64 (s10.2.2 + 1)))]) (.n rfl (.n rfl (.n rfl (.n rfl (.n rfl (.n rfl .nil)))))) <| Rv (O.as (.lit rfl)) <| RunL.fin (.n rfl (.n rfl (.n rfl (.n rfl (.n rfl (.n rfl .nil))))))) ?_
      obtain rfl := sm h
      exact Px.go (.n rfl (.n rfl (.n rfl (.n rfl (.n rfl (.n rfl .nil))))))
    · replace h := cndF hb15 h
      refine W.xi ?_
      refine Px.sqE ?_
      obtain rfl := sm h
      exact Px.x1 (.n rfl (.n rfl (.n rfl (.n rfl (.n rfl .nil)))))
  refine Px.bkH ?_
  refine Px.sq ?_
  refine W.sq' ?_
  refine W.sq' ?_
  refine W.rx [(1, _), (2, _), (3, _), (4, _), (5, _), (13, _)] (Rv (O.as (.k rfl)) <| RunL.fin (.n rfl (.n rfl (.n rfl (.n rfl (.n rfl (.n rfl .nil))))))) ?_
  refine Px.sq ?_
  refine W.bk ?_
  obtain ⟨x58, hl, h⟩ := bnd h
  refine W.tr (G1 := [(1, .obj [I64 a0.Nons, iR (eM eI) a0.Rules, iR eI a0.Levels, iR eI a0.Inner, BB a0.Bare]), (2, .obj [SS ({ data := #[] }), .nils, .nils, SS ({ data := #[] })]), (3, I64 (w64 (1 + x1))), (4, .obj [SS ({ data := #[] }), iR eDecl_0 x2, oR eRule_1 x11.1, SS ({ data := #[] })]), (5, oR eB x11.2), (13, I64 0)]) (.n rfl (.n rfl (.n rfl (.n rfl (.n rfl (.n rfl .nil)))))) ?_
  refine W.lp1 (s := (x11.1, 0)) (fun (s57 : List Rule × Int) => [(1, .obj [I64 a0.Nons, iR (eM eI) a0.Rules, iR eI a0.Levels, iR eI a0.Inner, BB a0.Bare]), (2, .obj [SS ({ data := #[] }), .nils, .nils, SS ({ data := #[] })]), (3, I64 (w64 (1 + x1))), (4, .obj [SS ({ data := #[] }), iR eDecl_0 x2, oR eRule_1 s57.1, SS ({ data := #[] })]), (5, oR eB x11.2), (13, I64 s57.2)]) 6 (fun (x58 : List Rule) => [(2, .obj [SS ({ data := #[] }), .nils, .nils, SS ({ data := #[] })]), (4, .obj [SS ({ data := #[] }), iR eDecl_0 x2, oR eRule_1 x58, SS ({ data := #[] })])]) hl (fun s57 o h => ?_) ?_
  · clear hl
    refine W.sq' ?_
    refine W.sq' ?_
    refine W.rx [(1, _), (2, _), (3, _), (4, _), (5, _), (13, _), (175, _)] (Rv (O.mv (.lit rfl)) <| Rv (O.mv (.lit rfl)) <| Rv (O.lss (.lit rfl) (.lit rfl)) <| RunL.fin (.n rfl (.n rfl (.n rfl (.n rfl (.n rfl (.n rfl (.n rfl .nil)))))))) ?_
    refine Px.sq ?_
    refine W.cnd rfl (fun hb60 => ?_) (fun hb60 => ?_)
    · replace h := cndT hb60 h
      refine W.sk ?_
      refine Px.sq ?_
      refine W.sq' ?_
      obtain ⟨j61, hj, h⟩ := bnd h
      refine W.jn [(1, .obj [I64 a0.Nons, iR (eM eI) a0.Rules, iR eI a0.Levels, iR eI a0.Inner, BB a0.Bare]), (2, .obj [SS ({ data := #[] }), .nils, .nils, SS ({ data := #[] })]), (3, I64 (w64 (1 + x1))), (4, .obj [SS ({ data := #[] }), iR eDecl_0 x2, oR eRule_1 j61, SS ({ data := #[] })]), (5, oR eB x11.2), (13, I64 s57.2)] ?_ ?_
      · clear h; have h := hj; clear hj
        refine W.bk ?_
        refine W.sq' ?_
        obtain ⟨c66, hj, h⟩ := bnd h
        refine W.rx [(1, .obj [I64 a0.Nons, iR (eM eI) a0.Rules, iR eI a0.Levels, iR eI a0.Inner, BB a0.Bare]), (2, .obj [SS ({ data := #[] }), .nils, .nils, SS ({ data := #[] })]), (3, I64 (w64 (1 + x1))), (4, .obj [SS ({ data := #[] }), iR eDecl_0 x2, oR eRule_1 s57.1, SS ({ data := #[] })]), (5, oR eB x11.2), (13, I64 s57.2), (197, BB c66)] ?_ ?_
        · refine Rv (O.fO rfl (.obj rfl) fd25_2 rfl) <| Rv (O.ldO (y := .brw eRule_1.z ⟨4, [2]⟩ s57.1.length) rfl (.ptr rfl) ct23 rfl rfl) <| Rv (O.mv (.lit rfl)) ?_
          obtain ⟨x62, hx62, hj⟩ := bnd hj
          refine Rv (O.ixO (en := eRule_1) rfl (.brw rfl) (.lit rfl) sl23 hx62 rfl) <| Rv (O.fE (en := eRule_1) rfl (.ptr rfl) fd95_1 hx62 rfl rfl) <| Rv (O.ldE (en := eRule_1) (x' := .brw eAlt_0.z ⟨4, [2, s57.2.toNat * eRule_1.z + 1]⟩ x62.Alts.length) rfl (.ptr rfl) ct93 hx62 rfl rfl) <| Rv (O.lenO (.brw rfl) sl93) <| Rv (O.eql (.lit rfl) (.k rfl)) <| Rv (O.mv (.lit rfl)) ?_
          rcases cnd hj with ⟨hb63, hj⟩ | ⟨hb63, hj⟩
          · obtain rfl := sm hj
            exact RunL.ps rfl rfl hb63 rfl rfl <| RunL.ps rfl rfl hb63 rfl rfl <| RunL.ps rfl rfl hb63 rfl rfl <| RunL.ps rfl rfl hb63 rfl rfl <| RunL.ps rfl rfl hb63 rfl rfl <| RunL.ps rfl rfl hb63 rfl rfl <| RunL.pu rfl rfl rfl rfl <| RunL.pu rfl rfl rfl rfl <| RunL.pu rfl rfl rfl rfl <| RunL.ps rfl rfl hb63 rfl rfl <| Rv (O.pkT (.lit rfl) hb63 (.k rfl)) <| RunL.fin (.n rfl (.n rfl (.n rfl (.n rfl (.n rfl (.n rfl (.n rfl .nil)))))))
          · refine RunL.v (O.mv (.own rfl)) rfl rfl (.yb rfl rfl hb63) <| RunL.v (O.mv (.lit rfl)) rfl rfl (.yb rfl rfl hb63) ?_
            obtain ⟨x64, hx64, hj⟩ := bnd hj
            refine RunL.v (O.ixO (en := eB) rfl (.brw rfl) (.lit rfl) sl102 hx64 rfl) rfl rfl (.yb rfl rfl hb63) <| RunL.v (O.ldE (en := eB) (x' := BB x64) rfl (.ptr rfl) ct4 hx64 rfl rfl) rfl rfl (.yb rfl rfl hb63) <| RunL.v (O.not (.lit rfl)) rfl rfl (.yb rfl rfl hb63) <| RunL.v (O.mv (.lit rfl)) rfl rfl (.yb rfl rfl hb63) ?_
            rcases cnd hj with ⟨hb65, hj⟩ | ⟨hb65, hj⟩
            · obtain rfl := sm hj
              exact RunL.v (O.fO rfl (.obj rfl) fd29_4 rfl) rfl rfl (.yb rfl rfl hb65) <| RunL.v (O.ldO (y := BB a0.Bare) rfl (.ptr rfl) ct4 rfl rfl) rfl rfl (.yb rfl rfl hb65) <| RunL.v (O.not (.lit rfl)) rfl rfl (.yb rfl rfl hb65) <| RunL.v (O.pkT (.lit rfl) hb65 (.lit rfl)) rfl rfl (.yb rfl rfl hb63) <| Rv (O.pkF (.lit rfl) hb63 (.lit rfl)) <| RunL.fin (.n rfl (.n rfl (.n rfl (.n rfl (.n rfl (.n rfl (.n rfl .nil)))))))
            · obtain rfl := sm hj
              exact RunL.ps rfl rfl hb65 rfl rfl <| RunL.ps rfl rfl hb65 rfl rfl <| RunL.ps rfl rfl hb65 rfl rfl <| RunL.v (O.pkF (.lit rfl) hb65 (.k rfl)) rfl rfl (.yb rfl rfl hb63) <| Rv (O.pkF (.lit rfl) hb63 (.lit rfl)) <| RunL.fin (.n rfl (.n rfl (.n rfl (.n rfl (.n rfl (.n rfl (.n rfl .nil)))))))
        refine Px.sq ?_
        obtain ⟨j67, hj, h⟩ := bnd h
        refine W.jn [(1, .obj [I64 a0.Nons, iR (eM eI) a0.Rules, iR eI a0.Levels, iR eI a0.Inner, BB a0.Bare]), (2, .obj [SS ({ data := #[] }), .nils, .nils, SS ({ data := #[] })]), (3, I64 (w64 (1 + x1))), (4, .obj [SS ({ data := #[] }), iR eDecl_0 x2, oR eRule_1 j67, SS ({ data := #[] })]), (5, oR eB x11.2), (13, I64 s57.2)] ?_ ?_
        · clear h; have h := hj; clear hj
          refine W.cnd rfl (fun hb68 => ?_) (fun hb68 => ?_)
          · replace h := cndT hb68 h
            obtain ⟨x69, hx69, h⟩ := bnd h
            obtain ⟨x70, hx70, h⟩ := bnd h
            obtain ⟨x71, hx71, h⟩ := bnd h
            refine W.rd [[], [0], [], [], [3], [], [3, 4, 5], [3, 4, 5, 6], rn 3 5 [], [], [9], [9, 10], [9, 10, 11], [9, 10, 11, 12], rn 9 5 [], rn 3 12 [], rn 0 16 [], rn 0 17 [], rn 0 18 []] [(1, _), (2, _), (3, _), (4, _), (5, _), (13, _)] mixo (by kernel_rfl) (Dv 0 (O.fO rfl (.obj rfl) fd25_2 rfl) <| Dv 1 (O.ldO (y := .brw eRule_1.z ⟨4, [2]⟩ s57.1.length) rfl (.ptr rfl) ct23 rfl rfl) <| Dv 2 (O.mv (.lit rfl)) <| Dv 3 (O.fO rfl (.obj rfl) fd25_2 rfl) <| Dv 4 (O.ldO (y := .brw eRule_1.z ⟨4, [2]⟩ s57.1.length) rfl (.ptr rfl) ct23 rfl rfl) <| Dv 5 (O.mv (.lit rfl)) <| Dv 6 (O.ixO (en := eRule_1) rfl (.brw rfl) (.lit rfl) sl23 hx69 rfl) <| Dv 7 (O.fE (en := eRule_1) rfl (.ptr rfl) fd95_1 hx69 rfl rfl) <| Dv 8 (O.ldE (en := eRule_1) (x' := .brw eAlt_0.z ⟨4, [2, s57.2.toNat * eRule_1.z + 1]⟩ x69.Alts.length) rfl (.ptr rfl) ct93 hx69 rfl rfl) <| Dv 9 (O.mv (.lit rfl)) <| Dc 10 (PC.go (.cc (.lit rfl) .nil) (con49 s57.2 _ hx70) call49 rfl) <| Dv 11 (O.bu (cs := [SS x70.Name, BB x70.Lit, I64 x70.Num, I64 x70.At, SS ({ data := #[] }), I64 0]) sc100 ze100 rfl rfl rfl) <| DL.vi 12 (x := iR ePart [(⟨x70, { data := #[] }, 0⟩ : Part)]) (O.bs (ys := [.agg [SS x70.Name, BB x70.Lit, I64 x70.Num, I64 x70.At, SS ({ data := #[] }), I64 0]]) ePart [(⟨x70, { data := #[] }, 0⟩ : Part)] sl96 rfl rfl rfl rfl rfl rfl zt100 rfl rfl) rfl rfl rfl rfl .none <| Dv 13 (O.bu (cs := [iR ePart [(⟨x70, { data := #[] }, 0⟩ : Part)], SS ({ data := #[] }), BB false, I64 0, I64 0, I64 0]) sc98 ze98 rfl rfl rfl) <| DL.vi 14 (x := iR eAlt_0 [(⟨[(⟨x70, { data := #[] }, 0⟩ : Part)], (⟨{ data := #[] }, false, 0, 0⟩ : Sym), 0⟩ : Alt)]) (O.bs (ys := [.agg [iR ePart [(⟨x70, { data := #[] }, 0⟩ : Part)], SS ({ data := #[] }), BB false, I64 0, I64 0, I64 0]]) eAlt_0 [(⟨[(⟨x70, { data := #[] }, 0⟩ : Part)], (⟨{ data := #[] }, false, 0, 0⟩ : Sym), 0⟩ : Alt)] sl93 rfl rfl rfl rfl rfl rfl zt98 rfl rfl) rfl rfl rfl rfl .none <| Dv 15 (O.ap (en := eAlt_0) (r := x71) (.brw rfl) (atP_el (r := 4) (path := [2]) (o := 1) (en := eRule_1) rfl hx69 rfl) (.imm rfl) .i ap93 rfl hx71) <| Dv 16 (O.ixO (en := eRule_1) rfl (.brw rfl) (.lit rfl) sl23 hx69 rfl) <| Dv 17 (O.fE (en := eRule_1) rfl (.ptr rfl) fd95_1 hx69 rfl rfl) <| DL.bp 18 (G2 := [(1, .obj [I64 a0.Nons, iR (eM eI) a0.Rules, iR eI a0.Levels, iR eI a0.Inner, BB a0.Bare]), (2, .obj [SS ({ data := #[] }), .nils, .nils, SS ({ data := #[] })]), (3, I64 (w64 (1 + x1))), (4, .obj [SS ({ data := #[] }), iR eDecl_0 x2, oR eRule_1 (s57.1.set s57.2.toNat (⟨x69.Left, x69.Alts ++ [(⟨[(⟨x70, { data := #[] }, 0⟩ : Part)], (⟨{ data := #[] }, false, 0, 0⟩ : Sym), 0⟩ : Alt)], x69.At⟩ : Rule)), SS ({ data := #[] })]), (5, oR eB x11.2), (13, I64 s57.2)]) (EO.stEP (en := eRule_1) (en2 := eAlt_0) (M := [(⟨[(⟨x70, { data := #[] }, 0⟩ : Part)], (⟨{ data := #[] }, false, 0, 0⟩ : Sym), 0⟩ : Alt)]) (y2 := (⟨x69.Left, x69.Alts ++ [(⟨[(⟨x70, { data := #[] }, 0⟩ : Part)], (⟨{ data := #[] }, false, 0, 0⟩ : Sym), 0⟩ : Alt)], x69.At⟩ : Rule)) (x2 := .obj [SS ({ data := #[] }), iR eDecl_0 x2, oR eRule_1 (s57.1.set s57.2.toNat (⟨x69.Left, x69.Alts ++ [(⟨[(⟨x70, { data := #[] }, 0⟩ : Part)], (⟨{ data := #[] }, false, 0, 0⟩ : Sym), 0⟩ : Alt)], x69.At⟩ : Rule)), SS ({ data := #[] })]) (y0 := .obj [SS ({ data := #[] }), iR eDecl_0 x2, .own eRule_1.z s57.1.length ((rowc eRule_1 s57.1).set (s57.2.toNat * eRule_1.z + 1) .dead), SS ({ data := #[] })]) rfl rfl (.ptr rfl) (.pend rfl) rfl rfl hx69 rfl rfl .ns .rf rfl rfl sz93 rfl rfl rfl rfl rfl rfl (.n rfl rfl (.n rfl rfl (.n rfl rfl (.b rfl (.n rfl rfl (.n rfl rfl .nil))))))) rfl rfl rfl rfl (by kernel_rfl) (by kernel_rfl) <| DL.fin rfl rfl rfl (.n rfl (.n rfl (.n rfl (.n rfl (.n rfl (.n rfl .nil))))))) ?_
            obtain rfl := sm h
            exact Px.jn (.n rfl (.n rfl (.n rfl (.n rfl (.n rfl (.n rfl .nil))))))
          · replace h := cndF hb68 h
            refine W.sk ?_
            obtain rfl := sm h
            exact Px.jn (.n rfl (.n rfl (.n rfl (.n rfl (.n rfl (.n rfl .nil))))))
        refine Px.bk ?_
        obtain rfl := sm h
        exact Px.jn (.n rfl (.n rfl (.n rfl (.n rfl (.n rfl (.n rfl .nil))))))
      refine Px.sq ?_
      refine W.rx [(1, _), (2, _), (3, _), (4, _), (5, _), (13, _)] (Rv (O.mv (.lit rfl)) <| Rv (O.add (.lit rfl) (.k rfl)) <| RunL.re (G1 := [(1, .obj [I64 a0.Nons, iR (eM eI) a0.Rules, iR eI a0.Levels, iR eI a0.Inner, BB a0.Bare]), (2, .obj [SS ({ data := #[] }), .nils, .nils, SS ({ data := #[] })]), (3, I64 (w64 (1 + x1))), (4, .obj [SS ({ data := #[] }), iR eDecl_0 x2, oR eRule_1 j61, SS ({ data := #[] })]), (5, oR eB x11.2), (177, I64 (w64 (s57.2 + 1)))]) (.n rfl (.n rfl (.n rfl (.n rfl (.n rfl (.n rfl .nil)))))) <| Rv (O.as (.lit rfl)) <| RunL.fin (.n rfl (.n rfl (.n rfl (.n rfl (.n rfl (.n rfl .nil))))))) ?_
      obtain rfl := sm h
      exact Px.go (.n rfl (.n rfl (.n rfl (.n rfl (.n rfl (.n rfl .nil))))))
    · replace h := cndF hb60 h
      refine W.xi ?_
      refine Px.sqE ?_
      obtain rfl := sm h
      exact Px.x1 (.n rfl (.n rfl .nil))
  refine Px.bkH ?_
  refine Px.sq ?_
  refine W.sq' ?_
  refine W.fz (G1 := [(2, .obj [SS ({ data := #[] }), .nils, .nils, SS ({ data := #[] })]), (4, .obj [SS ({ data := #[] }), iR eDecl_0 x2, iR eRule_0 x58, SS ({ data := #[] })])]) [4] (.n rfl rfl (.z rfl rfl (FzL.obj (.f (.f (.z (.f .nil))))) .nil)) ?_
  refine W.rx [(2, _)] (Rv (O.ldON (cs' := [SS ({ data := #[] }), iR eDecl_0 x2, iR eRule_0 x58, SS ({ data := #[] })]) rfl (.obj rfl) at25 rfl rfl) <| RunL.sO (G2 := [(2, .obj [SS ({ data := #[] }), iR eDecl_0 x2, iR eRule_0 x58, SS ({ data := #[] })])]) (cs2 := [SS ({ data := #[] }), iR eDecl_0 x2, iR eRule_0 x58, SS ({ data := #[] })]) rfl (.obj rfl) (.aggF rfl rfl) rfl sz25 rfl rfl rfl rfl (.b rfl .nil) <| RunL.fin (.n rfl .nil)) ?_
  refine Px.sq ?_
  refine W.rt ?_
  obtain rfl := sm h
  exact Px.fin (Fin.ro (.c (ys0 := [SS ({ data := #[] }), iR eDecl_0 x2, iR eRule_0 x58, SS ({ data := #[] })]) rfl at25 rfl rfl rfl (.f rfl (.f rfl (.f rfl (.f rfl .nil)))) .nil) rfl (of_decide_eq_true (by kernel_rfl)) (.no .nil) rfl (.inr rfl))
def eSource_0 : En Source := ⟨4, fun x => [SS x.Pro, iR eDecl_0 x.Decls, iR eRule_0 x.Rules, SS x.Tail], fun _ => rfl, fun _ => NRl.nr⟩
instance : Flat eSource_0 := ⟨fun _ => rfl⟩
instance : Tw eSource_0 eSource_0 := ⟨rfl, fun x => (inferInstance : Vws [SS x.Pro, iR eDecl_0 x.Decls, iR eRule_0 x.Rules, SS x.Tail] [SS x.Pro, iR eDecl_0 x.Decls, iR eRule_0 x.Rules, SS x.Tail])⟩
instance {x : Source} : Vws (eSource_0.cells x) [SS x.Pro, iR eDecl_0 x.Decls, iR eRule_0 x.Rules, SS x.Tail] := (inferInstance : Vws [SS x.Pro, iR eDecl_0 x.Decls, iR eRule_0 x.Rules, SS x.Tail] [SS x.Pro, iR eDecl_0 x.Decls, iR eRule_0 x.Rules, SS x.Tail])
def pf3 (a0 : Source) (a1 : yuccalaw0_Gr) (a2 : Int) (a3 : Int) : Option (Bool) :=
 (pf15 ).bind fun x1 =>
 (bif !x1 then
 some false
 else
 (pf16 a0).bind fun x3 =>
 (pf17 a1).bind fun x4 =>
 (loopM (R := (Unit) ⊕ (Bool)) (fun (s5 : Int) =>
 (bif decide (s5 < ([x3, x4].length : Int)) then
 (idx [x3, x4] s5).bind fun x10 =>
 (pf18 x10).bind fun x11 =>
 (bif !x11.2 then
 some (.inl (w64 (s5 + 1)))
 else
 (loopM (R := (Unit) ⊕ (Bool)) (fun (s13 : Int) =>
 (bif decide (s13 ≤ (x11.1.Prods.length : Int)) then
 (pf19 x11.1 s13).bind fun x18 =>
 (pf20 x11.1 s13).bind fun x19 =>
 ((bif !decide (x18.1 = x19.1) then some true else (bif !decide (x18.2 = x19.2) then some true else ((pf21 x11.1 s13 a3).bind fun x22 => ((pf22 x11.1 s13 a3).bind fun x23 => some (!decide (x22 = x23))))))).bind fun c24 =>
 (bif c24 then
 some (.inr (.inr false))
 else
 (loopM (R := (Unit) ⊕ (Bool)) (fun (s26 : Int) =>
 (bif decide (s26 ≤ (x11.1.Toks.length : Int)) then
 (pf21 x11.1 s13 s26).bind fun x31 =>
 (pf22 x11.1 s13 s26).bind fun x32 =>
 (bif !decide (x31 = x32) then
 some (.inr (.inr false))
 else
 some (.inl (w64 (s26 + 1))))
 else
 some (.inr (.inl ())))) (-1)).bind fun x27 =>
 (match x27 with
 | .inl x28 =>
 some (.inl (w64 (s13 + 1)))
 | .inr x29 =>
 some (.inr (.inr x29))))
 else
 some (.inr (.inl ())))) (-1)).bind fun x14 =>
 (match x14 with
 | .inl x15 =>
 (pf19 x11.1 a2).bind fun x34 =>
 (pf20 x11.1 a2).bind fun x35 =>
 ((bif !decide (x34.1 = x35.1) then some true else (bif !decide (x34.2 = x35.2) then some true else ((pf21 x11.1 a2 a3).bind fun x38 => ((pf22 x11.1 a2 a3).bind fun x39 => some (!decide (x38 = x39))))))).bind fun c40 =>
 (bif c40 then
 some (.inr (.inr false))
 else
 some (.inl (w64 (s5 + 1))))
 | .inr x16 =>
 some (.inr (.inr x16))))
 else
 some (.inr (.inl ())))) 0).bind fun x6 =>
 (match x6 with
 | .inl x7 =>
 some true
 | .inr x8 =>
 some x8))
def pf6 (a0 : yuccalaw0_Gr) (a1 : Int) (a2 : Int) (a3 : Int) (a4 : Int) : Option (Bool) :=
 (pf15 ).bind fun x1 =>
 (bif !x1 then
 some false
 else
 (pf17 a0).bind fun x3 =>
 (pf18 x3).bind fun x4 =>
 (bif !x4.2 then
 some false
 else
 (pf25 a1 (x4.1.Prods.length : Int)).bind fun x6 =>
 (pf25 a2 (x4.1.Prods.length : Int)).bind fun x7 =>
 (pf25 a3 (x4.1.Toks.length : Int)).bind fun x8 =>
 (pf25 a4 (x4.1.Toks.length : Int)).bind fun x9 =>
 (pf19 x4.1 x6).bind fun x10 =>
 (pf19 x4.1 x7).bind fun x11 =>
 (pf21 x4.1 x6 x8).bind fun x12 =>
 ((bif decide (x12 = 1) then ((idx x4.1.Toks x9).bind fun x14 => ((idx x4.1.Toks x8).bind fun x15 => (bif decide (x15.Level < x14.Level) then ((pf21 x4.1 x6 x9).bind fun x17 => some (!decide (x17 = 1))) else some false))) else some false)).bind fun c18 =>
 (bif c18 then
 some false
 else
 ((bif decide (x12 = 2) then (bif decide (x10.1 < x11.1) then ((pf21 x4.1 x7 x8).bind fun x22 => some (!decide (x22 = 2))) else some false) else some false)).bind fun c23 =>
 (bif c23 then
 some false
 else
 ((bif decide (x10.1 = 0) then some ((decide (x12 = 0)) == true) else ((idx x4.1.Toks x8).bind fun x26 => some ((decide (x12 = 0)) == (decide (x26.Level = 0)))))).bind fun c27 =>
 some c27))))
theorem con6 (a0 : yuccalaw0_Gr) (a1 : Int) (a2 : Int) (a3 : Int) (a4 : Int) (r : Bool) (h : pf6 a0 a1 a2 a3 a4 = some r) : Con Try.prog 6 [.agg [I64 a0.Nons, iR (eM eI) a0.Rules, iR eI a0.Levels, iR eI a0.Inner, BB a0.Bare], I64 a1, I64 a2, I64 a3, I64 a4] [none, none, none, none, none] (BB r) := by
  unfold pf6 at h
  refine Con.go (N := ⟨116, []⟩) Try.func6 rfl rfl rfl rfl (W.fin ?_)
  refine W.st [(0, .agg [I64 a0.Nons, iR (eM eI) a0.Rules, iR eI a0.Levels, iR eI a0.Inner, BB a0.Bare]), (1, I64 a1), (2, I64 a2), (3, I64 a3), (4, I64 a4)] ?_
  refine W.sq' ?_
  refine W.rx [(1, _), (2, _), (3, _), (4, _), (5, _)] (Rv (O.box (.aggF rfl rfl) rfl) <| Rv (O.as (.k rfl)) <| RunL.fin (.n rfl (.n rfl (.n rfl (.n rfl (.n rfl .nil)))))) ?_
  refine Px.sq ?_
  refine W.sq' ?_
  refine W.sq' ?_
  obtain ⟨x1, hx1, h⟩ := bnd h
  refine W.rx [(1, _), (2, _), (3, _), (4, _), (5, _), (19, _)] (Rc (PC.go .nil (con15  _ hx1) call15 rfl) <| Rv (O.not (.lit rfl)) <| RunL.fin (.n rfl (.n rfl (.n rfl (.n rfl (.n rfl (.n rfl .nil))))))) ?_
  refine Px.sq ?_
  refine W.cnd rfl (fun hb2 => ?_) (fun hb2 => ?_)
  · replace h := cndT hb2 h
    refine W.sq' ?_
    refine W.rx [(10, _)] (Rv (O.as (.k rfl)) <| RunL.fin (.n rfl .nil)) ?_
    refine Px.sq ?_
    refine W.rt ?_
    refine Px.sqR ?_
    obtain rfl := sm h
    exact Px.fin (Fin.ro (.f rfl rfl .nil) rfl (of_decide_eq_true (by kernel_rfl)) (.no (.no (.no (.no (.no .nil))))) rfl (.inr rfl))
  · replace h := cndF hb2 h
    refine W.sk ?_
    refine Px.sq ?_
    refine W.sq' ?_
    obtain ⟨x3, hx3, h⟩ := bnd h
    obtain ⟨x4, hx4, h⟩ := bnd h
    refine W.rx [(1, _), (2, _), (3, _), (4, _), (11, _), (12, _)] (Rv (O.ldON (cs' := [I64 a0.Nons, iR (eM eI) a0.Rules, iR eI a0.Levels, iR eI a0.Inner, BB a0.Bare]) rfl (.obj rfl) at29 rfl rfl) <| Rc (PC.go (.cc (.aggF rfl rfl) .nil) (con17 a0 _ hx3) call17 rfl) <| Rc (PC.go (.cc (.aggF rfl rfl) .nil) (con18 x3 _ hx4) call18 rfl) <| Rv (O.mv (.tup rfl rfl)) <| Rv (O.ex (y := .agg (eGrammar_0.cells x4.1)) rfl rfl rfl) <| Rv (O.ex (y := BB x4.2) rfl rfl rfl) <| Rv (O.al (cs := [.nils, .nils, .nils, SS ({ data := #[] }), SS ({ data := #[] })]) ze38 rfl rfl) <| RunL.sO (G2 := [(1, I64 a1), (2, I64 a2), (3, I64 a3), (4, I64 a4), (11, .obj (eGrammar_0.cells x4.1)), (25, BB x4.2)]) (cs2 := [iR eTok x4.1.Toks, iR eNon x4.1.Nons, iR eProd_0 x4.1.Prods, SS x4.1.Pro, SS x4.1.Tail]) rfl (.obj rfl) (.aggF rfl rfl) rfl sz38 rfl rfl rfl rfl (.n rfl rfl (.n rfl rfl (.n rfl rfl (.n rfl rfl (.b rfl (.n rfl rfl .nil)))))) <| Rv (O.as (.lit rfl)) <| RunL.fin (.n rfl (.n rfl (.n rfl (.n rfl (.n rfl (.n rfl .nil))))))) ?_
    refine Px.sq ?_
    refine W.sq' ?_
    refine W.sq' ?_
    refine W.rx [(1, _), (2, _), (3, _), (4, _), (11, _), (27, _)] (Rv (O.mv (.lit rfl)) <| Rv (O.not (.lit rfl)) <| RunL.fin (.n rfl (.n rfl (.n rfl (.n rfl (.n rfl (.n rfl .nil))))))) ?_
    refine Px.sq ?_
    refine W.cnd rfl (fun hb5 => ?_) (fun hb5 => ?_)
    · replace h := cndT hb5 h
      refine W.sq' ?_
      refine W.rx [(10, _)] (Rv (O.as (.k rfl)) <| RunL.fin (.n rfl .nil)) ?_
      refine Px.sq ?_
      refine W.rt ?_
      refine Px.sqR ?_
      obtain rfl := sm h
      exact Px.fin (Fin.ro (.f rfl rfl .nil) rfl (of_decide_eq_true (by kernel_rfl)) (.no (.no (.no (.no (.no .nil))))) rfl (.inr rfl))
    · replace h := cndF hb5 h
      refine W.sk ?_
      refine Px.sq ?_
      refine W.sq' ?_
      refine W.tr (G1 := [(1, I64 a1), (2, I64 a2), (3, I64 a3), (4, I64 a4), (11, .obj (eGrammar_0.cells x4.1))]) (.n rfl (.n rfl (.n rfl (.n rfl (.n rfl .nil))))) ?_
      obtain ⟨x6, hx6, h⟩ := bnd h
      obtain ⟨x7, hx7, h⟩ := bnd h
      obtain ⟨x8, hx8, h⟩ := bnd h
      obtain ⟨x9, hx9, h⟩ := bnd h
      refine W.rd [[], [], [1], [1, 2], [0, 1, 2, 3], [], [], [6], [6, 7], rn 0 9 [], [], [], [11], [11, 12], rn 0 14 [], [], [], [16], [16, 17], rn 0 19 [], rn 0 20 [], rn 0 21 [], rn 0 22 [], rn 0 23 []] [(1, _), (2, _), (3, _), (4, _), (11, _)] mixo (by kernel_rfl) (Dv 0 (O.mv (.lit rfl)) <| Dv 1 (O.fO rfl (.obj rfl) fd38_2 rfl) <| Dv 2 (O.ldO (y := iR eProd_0 x4.1.Prods) rfl (.ptr rfl) ct36 rfl rfl) <| Dv 3 (O.lenI (.imm rfl) sl36) <| Dc 4 (PC.go (.cc (.lit rfl) (.cc (.lit rfl) .nil)) (con25 a1 (x4.1.Prods.length : Int) _ hx6) call25 rfl) <| Dv 5 (O.mv (.lit rfl)) <| Dv 6 (O.fO rfl (.obj rfl) fd38_2 rfl) <| Dv 7 (O.ldO (y := iR eProd_0 x4.1.Prods) rfl (.ptr rfl) ct36 rfl rfl) <| Dv 8 (O.lenI (.imm rfl) sl36) <| Dc 9 (PC.go (.cc (.lit rfl) (.cc (.lit rfl) .nil)) (con25 a2 (x4.1.Prods.length : Int) _ hx7) call25 rfl) <| Dv 10 (O.mv (.lit rfl)) <| Dv 11 (O.fO rfl (.obj rfl) fd38_0 rfl) <| Dv 12 (O.ldO (y := iR eTok x4.1.Toks) rfl (.ptr rfl) ct34 rfl rfl) <| Dv 13 (O.lenI (.imm rfl) sl34) <| Dc 14 (PC.go (.cc (.lit rfl) (.cc (.lit rfl) .nil)) (con25 a3 (x4.1.Toks.length : Int) _ hx8) call25 rfl) <| Dv 15 (O.mv (.lit rfl)) <| Dv 16 (O.fO rfl (.obj rfl) fd38_0 rfl) <| Dv 17 (O.ldO (y := iR eTok x4.1.Toks) rfl (.ptr rfl) ct34 rfl rfl) <| Dv 18 (O.lenI (.imm rfl) sl34) <| Dc 19 (PC.go (.cc (.lit rfl) (.cc (.lit rfl) .nil)) (con25 a4 (x4.1.Toks.length : Int) _ hx9) call25 rfl) <| DL.bv 20 (G2 := [(11, .obj (eGrammar_0.cells x4.1)), (37, I64 x7), (42, I64 x8), (47, I64 x9)]) (EO.aG (y' := I64 x6) rfl rfl (.lit rfl) (.f .nil) .refl (.n rfl (.n rfl (.n rfl (.n rfl .nil)))) rfl rfl) rfl rfl rfl rfl (by kernel_rfl) (by kernel_rfl) <| Dv 21 (O.as (.lit rfl)) <| Dv 22 (O.as (.lit rfl)) <| Dv 23 (O.as (.lit rfl)) <| DL.fin rfl rfl rfl (.n rfl (.n rfl (.n rfl (.n rfl (.n rfl .nil)))))) ?_
      refine Px.sq ?_
      refine W.sq' ?_
      obtain ⟨x10, hx10, h⟩ := bnd h
      refine W.rx [(1, _), (2, _), (3, _), (4, _), (11, _), (13, _)] (Rv (O.ldON (cs' := [iR eTok x4.1.Toks, iR eNon x4.1.Nons, iR eProd_0 x4.1.Prods, SS x4.1.Pro, SS x4.1.Tail]) rfl (.obj rfl) at38 rfl rfl) <| Rv (O.mv (.lit rfl)) <| Rc (PC.go (.cc (.aggF rfl rfl) (.cc (.lit rfl) .nil)) (con19 x4.1 x6 _ hx10) call19 rfl) <| Rv (O.mv (.tupF rfl rfl)) <| Rv (O.ex (y := I64 x10.1) rfl rfl rfl) <| Rv (O.ex (y := I64 x10.2) rfl rfl rfl) <| Rv (O.as (.lit rfl)) <| Rv (O.as (.lit rfl)) <| RunL.fin (.n rfl (.n rfl (.n rfl (.n rfl (.n rfl (.n rfl .nil))))))) ?_
      refine Px.sq ?_
      refine W.sq' ?_
      obtain ⟨x11, hx11, h⟩ := bnd h
      refine W.rx [(1, _), (2, _), (3, _), (4, _), (11, _), (13, _), (15, _)] (Rv (O.ldON (cs' := [iR eTok x4.1.Toks, iR eNon x4.1.Nons, iR eProd_0 x4.1.Prods, SS x4.1.Pro, SS x4.1.Tail]) rfl (.obj rfl) at38 rfl rfl) <| Rv (O.mv (.lit rfl)) <| Rc (PC.go (.cc (.aggF rfl rfl) (.cc (.lit rfl) .nil)) (con19 x4.1 x7 _ hx11) call19 rfl) <| Rv (O.mv (.tupF rfl rfl)) <| Rv (O.ex (y := I64 x11.1) rfl rfl rfl) <| Rv (O.ex (y := I64 x11.2) rfl rfl rfl) <| Rv (O.as (.lit rfl)) <| Rv (O.as (.lit rfl)) <| RunL.fin (.n rfl (.n rfl (.n rfl (.n rfl (.n rfl (.n rfl (.n rfl .nil)))))))) ?_
      refine Px.sq ?_
      refine W.sq' ?_
      obtain ⟨x12, hx12, h⟩ := bnd h
      refine W.rx [(1, _), (2, _), (3, _), (4, _), (11, _), (13, _), (15, _), (17, _)] (Rv (O.ldON (cs' := [iR eTok x4.1.Toks, iR eNon x4.1.Nons, iR eProd_0 x4.1.Prods, SS x4.1.Pro, SS x4.1.Tail]) rfl (.obj rfl) at38 rfl rfl) <| Rv (O.mv (.lit rfl)) <| Rv (O.mv (.lit rfl)) <| Rc (PC.go (.cc (.aggF rfl rfl) (.cc (.lit rfl) (.cc (.lit rfl) .nil))) (con21 x4.1 x6 x8 _ hx12) call21 rfl) <| Rv (O.as (.lit rfl)) <| RunL.fin (.n rfl (.n rfl (.n rfl (.n rfl (.n rfl (.n rfl (.n rfl (.n rfl .nil))))))))) ?_
      refine Px.sq ?_
      refine W.sq' ?_
      refine W.sq' ?_
      obtain ⟨c18, hj, h⟩ := bnd h
      refine W.rd [[], [0], [0, 1], [0, 1, 2], [0, 1, 2, 3], [0, 1, 2], rn 0 6 [], rn 0 7 [], rn 0 8 [], [0, 1, 2], [0, 1, 2, 9], [0, 1, 2], [0, 1, 2, 9, 10, 11], [0, 1, 2, 9, 10, 11, 12], ([0, 1, 2] ++ rn 9 5 []), rn 0 15 [], rn 0 16 [], rn 0 17 [], rn 0 18 [], rn 0 18 [], rn 0 18 [], rn 0 21 [], rn 0 22 [], rn 0 23 []] [(2, I64 x7), (3, I64 x8), (11, .obj (eGrammar_0.cells x4.1)), (13, I64 x10.1), (15, I64 x11.1), (17, I64 x12), (87, BB c18)] mixo (by kernel_rfl) ?_ ?_
      · refine Dv 0 (O.mv (.lit rfl)) <| Dv 1 (O.eql (.lit rfl) (.k rfl)) <| Dv 2 (O.mv (.lit rfl)) ?_
        rcases cnd hj with ⟨hb13, hj⟩ | ⟨hb13, hj⟩
        · refine DL.v 3 (O.fO rfl (.obj rfl) fd38_0 rfl) rfl rfl rfl rfl (.yb rfl rfl hb13) <| DL.v 4 (O.ldO (y := iR eTok x4.1.Toks) rfl (.ptr rfl) ct34 rfl rfl) rfl rfl rfl rfl (.yb rfl rfl hb13) <| DL.v 5 (O.mv (.lit rfl)) rfl rfl rfl rfl (.yb rfl rfl hb13) ?_
          obtain ⟨x14, hx14, hj⟩ := bnd hj
          refine DL.v 6 (O.ixI (.imm rfl) (.lit rfl) sl34 hx14) rfl rfl rfl rfl (.yb rfl rfl hb13) <| DL.v 7 (O.fI (.iptr rfl) fd52_3) rfl rfl rfl rfl (.yb rfl rfl hb13) <| DL.v 8 (O.ldI (x := I64 x14.Level) (.iptr rfl) ct3 rfl) rfl rfl rfl rfl (.yb rfl rfl hb13) <| DL.v 9 (O.fO rfl (.obj rfl) fd38_0 rfl) rfl rfl rfl rfl (.yb rfl rfl hb13) <| DL.v 10 (O.ldO (y := iR eTok x4.1.Toks) rfl (.ptr rfl) ct34 rfl rfl) rfl rfl rfl rfl (.yb rfl rfl hb13) <| DL.v 11 (O.mv (.lit rfl)) rfl rfl rfl rfl (.yb rfl rfl hb13) ?_
          obtain ⟨x15, hx15, hj⟩ := bnd hj
          refine DL.v 12 (O.ixI (.imm rfl) (.lit rfl) sl34 hx15) rfl rfl rfl rfl (.yb rfl rfl hb13) <| DL.v 13 (O.fI (.iptr rfl) fd52_3) rfl rfl rfl rfl (.yb rfl rfl hb13) <| DL.v 14 (O.ldI (x := I64 x15.Level) (.iptr rfl) ct3 rfl) rfl rfl rfl rfl (.yb rfl rfl hb13) <| DL.v 15 (O.gtr (.lit rfl) (.lit rfl)) rfl rfl rfl rfl (.yb rfl rfl hb13) <| Dv 16 (O.pkT (.lit rfl) hb13 (.lit rfl)) <| Dv 17 (O.mv (.lit rfl)) ?_
          rcases cnd hj with ⟨hb16, hj⟩ | ⟨hb16, hj⟩
          · refine DL.v 18 (O.ldON (cs' := [iR eTok x4.1.Toks, iR eNon x4.1.Nons, iR eProd_0 x4.1.Prods, SS x4.1.Pro, SS x4.1.Tail]) rfl (.obj rfl) at38 rfl rfl) rfl rfl rfl rfl (.yb rfl rfl hb16) <| DL.v 19 (O.mv (.lit rfl)) rfl rfl rfl rfl (.yb rfl rfl hb16) <| DL.v 20 (O.mv (.lit rfl)) rfl rfl rfl rfl (.yb rfl rfl hb16) ?_
            obtain ⟨x17, hx17, hj⟩ := bnd hj
            obtain rfl := sm hj
            exact DL.c 21 (PC.go (.cc (.aggF rfl rfl) (.cc (.lit rfl) (.cc (.lit rfl) .nil))) (con21 x4.1 x6 x9 _ hx17) call21 rfl) rfl rfl rfl rfl (.yb rfl rfl hb16) <| DL.v 22 (O.neq (.lit rfl) (.k rfl)) rfl rfl rfl rfl (.yb rfl rfl hb16) <| Dv 23 (O.pkT (.lit rfl) hb16 (.lit rfl)) <| DL.fin rfl rfl rfl (.n rfl (.n rfl (.n rfl (.n rfl (.n rfl (.n rfl (.n rfl .nil)))))))
          · obtain rfl := sm hj
            exact DL.ps 18 rfl rfl hb16 rfl rfl rfl rfl <| DL.ps 19 rfl rfl hb16 rfl rfl rfl rfl <| DL.ps 20 rfl rfl hb16 rfl rfl rfl rfl <| DL.ps 21 rfl rfl hb16 rfl rfl rfl rfl <| DL.ps 22 rfl rfl hb16 rfl rfl rfl rfl <| Dv 23 (O.pkF (.lit rfl) hb16 (.k rfl)) <| DL.fin rfl rfl rfl (.n rfl (.n rfl (.n rfl (.n rfl (.n rfl (.n rfl (.n rfl .nil)))))))
        · obtain rfl := sm hj
          exact DL.ps 3 rfl rfl hb13 rfl rfl rfl rfl <| DL.ps 4 rfl rfl hb13 rfl rfl rfl rfl <| DL.ps 5 rfl rfl hb13 rfl rfl rfl rfl <| DL.ps 6 rfl rfl hb13 rfl rfl rfl rfl <| DL.ps 7 rfl rfl hb13 rfl rfl rfl rfl <| DL.ps 8 rfl rfl hb13 rfl rfl rfl rfl <| DL.ps 9 rfl rfl hb13 rfl rfl rfl rfl <| DL.ps 10 rfl rfl hb13 rfl rfl rfl rfl <| DL.ps 11 rfl rfl hb13 rfl rfl rfl rfl <| DL.ps 12 rfl rfl hb13 rfl rfl rfl rfl <| DL.ps 13 rfl rfl hb13 rfl rfl rfl rfl <| DL.ps 14 rfl rfl hb13 rfl rfl rfl rfl <| DL.ps 15 rfl rfl hb13 rfl rfl rfl rfl <| Dv 16 (O.pkF (.lit rfl) hb13 (.k rfl)) <| Dv 17 (O.mv (.lit rfl)) <| DL.ps 18 rfl rfl rfl rfl rfl rfl rfl <| DL.ps 19 rfl rfl rfl rfl rfl rfl rfl <| DL.ps 20 rfl rfl rfl rfl rfl rfl rfl <| DL.ps 21 rfl rfl rfl rfl rfl rfl rfl <| DL.ps 22 rfl rfl rfl rfl rfl rfl rfl <| Dv 23 (O.pkF (.lit rfl) rfl (.k rfl)) <| DL.fin rfl rfl rfl (.n rfl (.n rfl (.n rfl (.n rfl (.n rfl (.n rfl (.n rfl .nil)))))))
      refine Px.sq ?_
      refine W.cnd rfl (fun hb19 => ?_) (fun hb19 => ?_)
      · replace h := cndT hb19 h
        refine W.sq' ?_
        refine W.rx [(10, _)] (Rv (O.as (.k rfl)) <| RunL.fin (.n rfl .nil)) ?_
        refine Px.sq ?_
        refine W.rt ?_
        refine Px.sqR ?_
        obtain rfl := sm h
        exact Px.fin (Fin.ro (.f rfl rfl .nil) rfl (of_decide_eq_true (by kernel_rfl)) (.no (.no (.no (.no (.no .nil))))) rfl (.inr rfl))
      · replace h := cndF hb19 h
        refine W.sk ?_
        refine Px.sq ?_
        refine W.sq' ?_
        refine W.sq' ?_
        obtain ⟨c23, hj, h⟩ := bnd h
        refine W.rx [(3, I64 x8), (11, .obj (eGrammar_0.cells x4.1)), (13, I64 x10.1), (17, I64 x12), (101, BB c23)] ?_ ?_
        · refine Rv (O.mv (.lit rfl)) <| Rv (O.eql (.lit rfl) (.k rfl)) <| Rv (O.mv (.lit rfl)) ?_
          rcases cnd hj with ⟨hb20, hj⟩ | ⟨hb20, hj⟩
          · refine RunL.v (O.mv (.lit rfl)) rfl rfl (.yb rfl rfl hb20) <| RunL.v (O.mv (.lit rfl)) rfl rfl (.yb rfl rfl hb20) <| RunL.v (O.gtr (.lit rfl) (.lit rfl)) rfl rfl (.yb rfl rfl hb20) <| Rv (O.pkT (.lit rfl) hb20 (.lit rfl)) <| Rv (O.mv (.lit rfl)) ?_
            rcases cnd hj with ⟨hb21, hj⟩ | ⟨hb21, hj⟩
            · refine RunL.v (O.ldON (cs' := [iR eTok x4.1.Toks, iR eNon x4.1.Nons, iR eProd_0 x4.1.Prods, SS x4.1.Pro, SS x4.1.Tail]) rfl (.obj rfl) at38 rfl rfl) rfl rfl (.yb rfl rfl hb21) <| RunL.v (O.mv (.lit rfl)) rfl rfl (.yb rfl rfl hb21) <| RunL.v (O.mv (.lit rfl)) rfl rfl (.yb rfl rfl hb21) ?_
              obtain ⟨x22, hx22, hj⟩ := bnd hj
              obtain rfl := sm hj
              exact RunL.c (PC.go (.cc (.aggF rfl rfl) (.cc (.lit rfl) (.cc (.lit rfl) .nil))) (con21 x4.1 x7 x8 _ hx22) call21 rfl) rfl rfl (.yb rfl rfl hb21) <| RunL.v (O.neq (.lit rfl) (.k rfl)) rfl rfl (.yb rfl rfl hb21) <| Rv (O.pkT (.lit rfl) hb21 (.lit rfl)) <| RunL.fin (.n rfl (.n rfl (.n rfl (.n rfl (.n rfl .nil)))))
            · obtain rfl := sm hj
              exact RunL.ps rfl rfl hb21 rfl rfl <| RunL.ps rfl rfl hb21 rfl rfl <| RunL.ps rfl rfl hb21 rfl rfl <| RunL.ps rfl rfl hb21 rfl rfl <| RunL.ps rfl rfl hb21 rfl rfl <| Rv (O.pkF (.lit rfl) hb21 (.k rfl)) <| RunL.fin (.n rfl (.n rfl (.n rfl (.n rfl (.n rfl .nil)))))
          · obtain rfl := sm hj
            exact RunL.ps rfl rfl hb20 rfl rfl <| RunL.ps rfl rfl hb20 rfl rfl <| RunL.ps rfl rfl hb20 rfl rfl <| Rv (O.pkF (.lit rfl) hb20 (.k rfl)) <| Rv (O.mv (.lit rfl)) <| RunL.ps rfl rfl rfl rfl rfl <| RunL.ps rfl rfl rfl rfl rfl <| RunL.ps rfl rfl rfl rfl rfl <| RunL.ps rfl rfl rfl rfl rfl <| RunL.ps rfl rfl rfl rfl rfl <| Rv (O.pkF (.lit rfl) rfl (.k rfl)) <| RunL.fin (.n rfl (.n rfl (.n rfl (.n rfl (.n rfl .nil)))))
        refine Px.sq ?_
        refine W.cnd rfl (fun hb24 => ?_) (fun hb24 => ?_)
        · replace h := cndT hb24 h
          refine W.sq' ?_
          refine W.rx [(10, _)] (Rv (O.as (.k rfl)) <| RunL.fin (.n rfl .nil)) ?_
          refine Px.sq ?_
          refine W.rt ?_
          refine Px.sqR ?_
          obtain rfl := sm h
          exact Px.fin (Fin.ro (.f rfl rfl .nil) rfl (of_decide_eq_true (by kernel_rfl)) (.no (.no (.no (.no (.no .nil))))) rfl (.inr rfl))
        · replace h := cndF hb24 h
          refine W.sk ?_
          refine Px.sq ?_
          refine W.sq' ?_
          obtain ⟨c27, hj, h⟩ := bnd h
          refine W.rx [(10, BB c27)] ?_ ?_
          · refine Rv (O.mv (.lit rfl)) <| Rv (O.eql (.lit rfl) (.k rfl)) <| Rv (O.mv (.lit rfl)) <| Rv (O.eql (.lit rfl) (.k rfl)) <| Rv (O.mv (.lit rfl)) ?_
            rcases cnd hj with ⟨hb25, hj⟩ | ⟨hb25, hj⟩
            · obtain rfl := sm hj
              exact RunL.ps rfl rfl hb25 rfl rfl <| RunL.ps rfl rfl hb25 rfl rfl <| RunL.ps rfl rfl hb25 rfl rfl <| RunL.ps rfl rfl hb25 rfl rfl <| RunL.ps rfl rfl hb25 rfl rfl <| RunL.ps rfl rfl hb25 rfl rfl <| RunL.ps rfl rfl hb25 rfl rfl <| Rv (O.pkT (.lit rfl) hb25 (.k rfl)) <| Rv (O.eqB (.lit rfl) (.lit rfl) bt4) <| Rv (O.as (.lit rfl)) <| RunL.fin (.n rfl .nil)
            · refine RunL.v (O.fO rfl (.obj rfl) fd38_0 rfl) rfl rfl (.yb rfl rfl hb25) <| RunL.v (O.ldO (y := iR eTok x4.1.Toks) rfl (.ptr rfl) ct34 rfl rfl) rfl rfl (.yb rfl rfl hb25) <| RunL.v (O.mv (.lit rfl)) rfl rfl (.yb rfl rfl hb25) ?_
              obtain ⟨x26, hx26, hj⟩ := bnd hj
              obtain rfl := sm hj
              exact RunL.v (O.ixI (.imm rfl) (.lit rfl) sl34 hx26) rfl rfl (.yb rfl rfl hb25) <| RunL.v (O.fI (.iptr rfl) fd52_3) rfl rfl (.yb rfl rfl hb25) <| RunL.v (O.ldI (x := I64 x26.Level) (.iptr rfl) ct3 rfl) rfl rfl (.yb rfl rfl hb25) <| RunL.v (O.eql (.lit rfl) (.k rfl)) rfl rfl (.yb rfl rfl hb25) <| Rv (O.pkF (.lit rfl) hb25 (.lit rfl)) <| Rv (O.eqB (.lit rfl) (.lit rfl) bt4) <| Rv (O.as (.lit rfl)) <| RunL.fin (.n rfl .nil)
          refine Px.sq ?_
          refine W.rt ?_
          obtain rfl := sm h
          exact Px.fin (Fin.ro (.f rfl rfl .nil) rfl (of_decide_eq_true (by kernel_rfl)) (.no (.no (.no (.no (.no .nil))))) rfl (.inr rfl))
end Go.Proofs
namespace Go.Own
open Go
variable {α β S R : Type}
abbrev LR (p : S → Prop) (q : R → Prop) (x : S ⊕ R) : Prop := Sum.elim p q x
def Tot (x : Option α) (Φ : α → Prop) : Prop := ∃ a, x = some a ∧ Φ a
namespace Tot
variable {Φ Ψ : α → Prop}
theorem so {a : α} (h : Φ a) : Tot (some a) Φ := ⟨a, rfl, h⟩
theorem bi {x : Option β} {f : β → Option α} (h : Tot x fun a => Tot (f a) Φ) : Tot (x.bind f) Φ := by
  obtain ⟨a, rfl, b, hb, hΦ⟩ := h
  exact ⟨b, hb, hΦ⟩
theorem sm {f : β → Option α} {a : β} (h : Tot (f a) Φ) : Tot ((some a).bind f) Φ := h
theorem use {x : Option α} (h : Tot x Ψ) (hi : ∀ a, Ψ a → Φ a) : Tot x Φ := by
  obtain ⟨a, ha, hΨ⟩ := h
  exact ⟨a, ha, hi a hΨ⟩
theorem by' {x : Option β} {f : β → Option α} {Ξ : β → Prop} (h : Tot x Ξ) (hk : ∀ a, Ξ a → Tot (f a) Φ) : Tot (x.bind f) Φ := bi (h.use hk)
theorem cd {c : Bool} {a b : Option α} (ht : c = true → Tot a Φ) (hf : c = false → Tot b Φ) : Tot (cond c a b) Φ := by
  cases c
  · exact hf rfl
  · exact ht rfl
theorem cp {p : Prop} [Decidable p] {a b : Option α} (ht : p → Tot a Φ) (hf : ¬ p → Tot b Φ) : Tot (cond (decide p) a b) Φ :=
  cd (fun h => ht (of_decide_eq_true h)) (fun h => hf (of_decide_eq_false h))
theorem cn {p : Prop} [Decidable p] {a b : Option α} (ht : ¬ p → Tot a Φ) (hf : p → Tot b Φ) : Tot (cond (!decide p) a b) Φ :=
  cd (fun h => ht (of_decide_eq_false (by simpa using h))) (fun h => hf (of_decide_eq_true (by simpa using h)))
theorem ix {l : List α} {i : Int} (h0 : 0 ≤ i) (h1 : i < l.length) (hk : ∀ y, idx l i = some y → y ∈ l → Φ y) : Tot (idx l i) Φ := by
  have hlt : i.toNat < l.length := by omega
  have : idx l i = some l[i.toNat] := by simp [idx, h0, hlt]
  exact ⟨_, this, hk _ this (List.getElem_mem hlt)⟩
theorem ap {Φ : List α → Prop} {l m : List α} (h : l.length + m.length ≤ lim) (hk : Φ (l ++ m)) : Tot (appO l m) Φ := by
  refine ⟨l ++ m, ?_, hk⟩
  unfold appO
  rw [if_pos h]
theorem loop {f : S → Option (S ⊕ R)} {s0 : S} {Ψ : R → Prop} (Inv : S → Prop) (μ : S → Nat) (h0 : Inv s0) (hμ : μ s0 < fuel)
    (hs : ∀ s, Inv s → Tot (f s) (LR (fun s' => Inv s' ∧ μ s' < μ s) Ψ)) : Tot (loopM f s0) Ψ := by
  have key : ∀ n s, Inv s → μ s < n → Tot (iter f n s) Ψ := by
    intro n
    induction n with
    | zero => intro s _ h; omega
    | succ n ih =>
      intro s hI hm
      obtain ⟨x, hx, hP⟩ := hs s hI
      cases x with
      | inl s' =>
        obtain ⟨h1, h2⟩ := hP
        simp only [iter, hx]
        exact ih s' h1 (by omega)
      | inr r =>
        simp only [iter, hx]
        exact ⟨r, rfl, hP⟩
  exact key fuel s0 h0 hμ
theorem count {f : S → Option (S ⊕ R)} {s0 : S} {Ψ : R → Prop} (i : S → Int) (n : Int) (Inv : S → Prop) (h0 : Inv s0) (hn : n - i s0 < 1000000000000000000)
    (hs : ∀ s, Inv s → Tot (f s) (LR (fun s' => Inv s' ∧ i s < i s' ∧ i s' ≤ n) Ψ)) : Tot (loopM f s0) Ψ := by
  refine loop Inv (fun s => (n - i s).toNat) h0 (by show (n - i s0).toNat < 1000000000000000000; omega) fun s hI => (hs s hI).use fun x hx => ?_
  cases x with
  | inl s' => exact ⟨hx.1, by have := hx.2; show (n - i s').toNat < (n - i s).toNat; omega⟩
  | inr r => exact hx
end Tot
theorem w64_eq (n : Int) : w64 n = (n + 9223372036854775808) % 18446744073709551616 - 9223372036854775808 := IntKind.wrap_i64 n
namespace Tot
theorem cat {Φ : ByteArray → Prop} {s u : ByteArray} (h : s.size + u.size ≤ 4611686018427387904) (hk : Φ (s ++ u)) : Tot (catO s u) Φ := by
  refine ⟨s ++ u, ?_, hk⟩
  unfold catO
  rw [if_pos h]
theorem cut {Φ : ByteArray → Prop} {s : ByteArray} {m n : Int} (h : 0 ≤ m ∧ m ≤ n ∧ n ≤ s.size) (hk : Φ (cutS s m n)) : Tot (cutO s m n) Φ := by
  refine ⟨_, ?_, hk⟩
  unfold cutO
  rw [if_pos h]
theorem bx {Φ : Int → Prop} {s : ByteArray} {m : Int} (h : 0 ≤ m ∧ m < s.size) (hk : Φ (byteAt s m)) : Tot (bidx s m) Φ := by
  refine ⟨_, ?_, hk⟩
  unfold bidx
  rw [if_pos h]
theorem sub {Φ : List α → Prop} {l : List α} {m n : Int} (h : 0 ≤ m ∧ m ≤ n ∧ n ≤ l.length) (hk : Φ ((l.drop m.toNat).take (n - m).toNat)) : Tot (subO l m n) Φ := by
  refine ⟨_, ?_, hk⟩
  unfold subO
  rw [if_pos h]
theorem rem {Φ : Int → Prop} {m n : Int} (h : n ≠ 0) (hk : Φ (m.tmod n)) : Tot (remO m n) Φ := by
  refine ⟨_, ?_, hk⟩
  unfold remO
  rw [if_neg h]
theorem quo {Φ : Int → Prop} {m n : Int} (h : n ≠ 0) (hk : Φ (w64 (m.tdiv n))) : Tot (quoO m n) Φ := by
  refine ⟨_, ?_, hk⟩
  unfold quoO
  rw [if_neg h]
theorem remU {Φ : Int → Prop} {m n : Int} (h : n ≠ 0) (hk : Φ (m.tmod n)) : Tot (Own.remU m n) Φ := by
  refine ⟨_, ?_, hk⟩
  unfold Own.remU
  rw [if_neg h]
theorem quoU {Φ : Int → Prop} {m n : Int} (h : n ≠ 0) (hk : Φ (IntKind.u64.wrap (m.tdiv n))) : Tot (Own.quoU m n) Φ := by
  refine ⟨_, ?_, hk⟩
  unfold Own.quoU
  rw [if_neg h]
theorem mk {Φ : List α → Prop} {m : Int} {z : α} (h : 0 ≤ m ∧ m ≤ lim) (hk : Φ (List.replicate m.toNat z)) : Tot (mkO m z) Φ := by
  refine ⟨_, ?_, hk⟩
  unfold mkO
  rw [if_pos h]
theorem ex {x : Option α} {Φ : α → Prop} (h : Tot x Φ) : ∃ a, x = some a ∧ Φ a := h
end Tot
namespace Tot
theorem scan {f : Int → Option (Int ⊕ (Unit ⊕ R))} (l : List β) (P : β → Prop) (Q : R → Prop) (hl : l.length ≤ 100000000000000000)
    (hs : ∀ (s : Int) (y : β), 0 ≤ s → s < l.length → idx l s = some y → y ∈ l → Tot (f s) (LR (fun s' => s' = s + 1 ∧ P y) (LR (fun _ => False) Q)))
    (he : ∀ s : Int, ¬ s < l.length → f s = some (.inr (.inl ()))) : Tot (loopM f 0) (LR (fun _ => ∀ y ∈ l, P y) Q) := by
  refine count (fun s => s) l.length (fun s => 0 ≤ s ∧ s ≤ l.length ∧ ∀ (j : Nat) (y : β), (j : Int) < s → l[j]? = some y → P y) ⟨by omega, by omega, fun j y h => by omega⟩ (by show (l.length : Int) - 0 < _; omega) fun s hI => ?_
  obtain ⟨h0, h1, h2⟩ := hI
  by_cases hlt : s < l.length
  · have hlt' : s.toNat < l.length := by omega
    have hi : idx l s = some l[s.toNat] := by simp [idx, h0, hlt']
    refine (hs s _ h0 hlt hi (List.getElem_mem hlt')).use fun x hx => ?_
    rcases x with s' | ⟨⟨⟩⟩ | r
    · obtain ⟨rfl, hP⟩ := hx
      refine ⟨⟨by omega, by omega, fun j y hj hy => ?_⟩, by show s < s + 1; omega, by show s + 1 ≤ _; omega⟩
      by_cases hjs : (j : Int) < s
      · exact h2 j y hjs hy
      · have : j = s.toNat := by omega
        subst this
        rw [List.getElem?_eq_getElem hlt'] at hy
        cases hy; exact hP
    · exact hx.elim
    · exact hx
  · rw [he s hlt]
    refine so fun y hy => ?_
    obtain ⟨j, hj, rfl⟩ := List.mem_iff_getElem.1 hy
    exact h2 j _ (by omega) (List.getElem?_eq_getElem hj)
end Tot
end Go.Own
namespace Go.Proofs
open Go Go.Own
set_option maxRecDepth 100000
set_option linter.unusedVariables false
theorem t105 (c : Int) : Tot (pf105 c) fun _ => True := by
  unfold pf105
  repeat' first | apply Tot.bi | refine Tot.cd (fun _ => ?_) (fun _ => ?_) | exact Tot.so trivial | apply Tot.so
theorem t106 (c : Int) : Tot (pf106 c) fun _ => True := by
  unfold pf106
  repeat' first | apply Tot.bi | refine Tot.cd (fun _ => ?_) (fun _ => ?_) | exact Tot.so trivial | apply Tot.so
theorem t55 (c : Int) : Tot (pf55 c) fun _ => True := by
  unfold pf55
  repeat' first | apply Tot.bi | refine Tot.cd (fun _ => ?_) (fun _ => ?_) | exact Tot.so trivial | apply Tot.so
theorem t92 (x : Sym) : Tot (pf92 x) fun r => r = true → x.Name = { data := #[] } ∧ x.Lit = false := by
  unfold pf92
  apply Tot.bi
  refine Tot.cp (fun h => Tot.cd (fun h2 => ?_) (fun h2 => ?_)) (fun h => ?_) <;> apply Tot.so <;> apply Tot.so
  · exact fun _ => ⟨h, by simpa using h2⟩
  · exact fun h => by cases h
  · exact fun h => by cases h
abbrev big : Nat := 1000000000000
theorem t91 (s : ByteArray) (h : s.size ≤ big) : Tot (pf91 s 0) fun n => 0 ≤ n ∧ n ≤ s.size := by
  unfold pf91
  refine Tot.by' (Ξ := fun n => 0 ≤ n ∧ n ≤ s.size) ?_ fun a ha => .so ha
  refine Tot.count (fun i => i) s.size (fun i => 0 ≤ i ∧ i ≤ s.size) ⟨by omega, by omega⟩ (by show (s.size : Int) - 0 < _; simp only [big] at h; omega) fun i ⟨h0, h1⟩ => ?_
  simp only [big] at h
  have e : w64 (0 + i) = i := by rw [w64_eq]; omega
  rw [e]
  have go : ∀ c : Bool, (c = true → i < s.size) → Tot (bif c then some (.inl (w64 (i + 1))) else some (.inr i)) (LR (fun s' : Int => (0 ≤ s' ∧ s' ≤ s.size) ∧ i < s' ∧ s' ≤ s.size) (fun r : Int => 0 ≤ r ∧ r ≤ s.size)) := by
    intro c hc
    refine Tot.cd (fun h2 => .so ?_) (fun _ => .so ⟨h0, h1⟩)
    have := hc h2
    have e : w64 (i + 1) = i + 1 := by rw [w64_eq]; omega
    show (0 ≤ w64 (i + 1) ∧ w64 (i + 1) ≤ s.size) ∧ i < w64 (i + 1) ∧ w64 (i + 1) ≤ s.size
    rw [e]; omega
  apply Tot.bi
  refine Tot.cp (fun h2 => ?_) (fun h2 => .so (go false (by simp)))
  apply Tot.bi
  refine Tot.bx ⟨h0, h2⟩ (Tot.by' (t105 _) fun c _ => ?_)
  refine Tot.cd (fun _ => .so (go _ fun _ => h2)) (fun _ => Tot.cd (fun _ => ?_) (fun _ => .so (go _ fun _ => h2)))
  apply Tot.bi
  refine Tot.bx ⟨h0, h2⟩ (Tot.by' (t106 _) fun c _ => ?_)
  refine Tot.cd (fun _ => .so (go _ fun _ => h2)) (fun _ => ?_)
  apply Tot.bi
  exact Tot.bx ⟨h0, h2⟩ (.so (go _ fun _ => h2))
theorem t79 (s : ByteArray) (h : s.size ≤ big) : Tot (pf79 s) fun r => r = true → 1 ≤ s.size ∧ s.size ≤ 20 := by
  unfold pf79
  apply Tot.bi
  refine Tot.cp (fun h1 => Tot.cp (fun h2 => ?_) (fun h2 => ?_)) (fun h1 => ?_)
  · exact .by' (t91 s h) fun n hn => .so (.so fun _ => by omega)
  · exact .so (.so fun h => by cases h)
  · exact .so (.so fun h => by cases h)
theorem t116 (s : ByteArray) (i : Int) (t : ByteArray) (h : s.size ≤ big) (h0 : 0 ≤ i) (h1 : i ≤ 4 * big) (ht : t.size ≤ big) : Tot (pf116 s i t) fun r => r = true → i + t.size ≤ s.size := by
  unfold pf116
  simp only [big] at *
  apply Tot.bi
  refine Tot.cp (fun h2 => ?_) (fun h2 => .so (.so fun h => by cases h))
  apply Tot.bi
  rw [w64_eq] at h2
  have e : w64 (i + t.size) = i + t.size := by rw [w64_eq]; omega
  refine Tot.cut (by rw [e]; omega) (.so (.so fun _ => by omega))
theorem t107 (s : ByteArray) (i : Int) (h : s.size ≤ big) (h0 : 0 ≤ i) (h1 : i < s.size) : Tot (pf107 s i) fun r => r ≤ s.size := by
  unfold pf107
  have hb : (s.size : Int) ≤ 1000000000000 := by simp only [big] at h; omega
  have e1 : w64 (i + 1) = i + 1 := by rw [w64_eq]; omega
  have e2 : w64 (i + 2) = i + 2 := by rw [w64_eq]; omega
  rw [e1, e2]
  have hbx := Tot.bx (Φ := fun _ => True) (s := s) (m := i) ⟨h0, h1⟩ trivial
  refine Tot.by' (Ξ := fun _ => True) ?_ fun c _ => Tot.cd (fun _ => ?_) (fun _ => ?_)
  · refine Tot.by' hbx fun _ _ => Tot.cd (fun _ => .so trivial) (fun _ => Tot.by' hbx fun _ _ => .so trivial)
  · refine Tot.by' (Ξ := LR (fun _ => True) (fun r => r ≤ s.size)) ?_ fun x hx => ?_
    · refine Tot.count (fun j => j) (s.size + 1) (fun j => 0 ≤ j) (by show (0:Int) ≤ i + 1; omega) (by show (s.size : Int) + 1 - (i + 1) < _; omega) fun j hj => ?_
      refine Tot.by' (Ξ := fun c => c = true → j < s.size) ?_ fun c hc => Tot.cd (fun h2 => ?_) (fun _ => .so trivial)
      · refine Tot.cp (fun h2 => ?_) (fun _ => .so fun h => by cases h)
        exact .by' (Ξ := fun _ => True) (Tot.bx ⟨hj, h2⟩ trivial) fun _ _ => .so fun _ => h2
      · have hj2 := hc h2
        have hbj := Tot.bx (Φ := fun _ => True) (s := s) (m := j) ⟨hj, hj2⟩ trivial
        have e3 : w64 (j + 1) = j + 1 := by rw [w64_eq]; omega
        have e4 : w64 (j + 1 + 1) = j + 1 + 1 := by rw [w64_eq]; omega
        rw [e3, e4]
        refine .by' hbj fun _ _ => .by' hbx fun _ _ => Tot.cd (fun _ => .so ?_) (fun _ => .by' hbj fun _ _ => Tot.cd (fun _ => ?_) (fun _ => .so ?_))
        · show j + 1 ≤ s.size; omega
        · refine Tot.by' (Ξ := fun _ => True) ?_ fun c _ => Tot.cd (fun _ => .so ?_) (fun _ => .so ?_)
          · refine Tot.cp (fun h3 => ?_) (fun _ => .so trivial)
            exact .by' (Ξ := fun _ => True) (Tot.bx ⟨by omega, h3⟩ trivial) fun _ _ => .so trivial
          · show (-1 : Int) ≤ s.size; omega
          · show (0 : Int) ≤ j + 1 + 1 ∧ j < j + 1 + 1 ∧ j + 1 + 1 ≤ s.size + 1; omega
        · show (0 : Int) ≤ j + 1 ∧ j < j + 1 ∧ j + 1 ≤ s.size + 1; omega
    · rcases x with _ | r
      · exact .so (by show (-1 : Int) ≤ s.size; omega)
      · exact .so hx
  · refine .by' hbx fun _ _ => Tot.cd (fun _ => ?_) (fun _ => ?_)
    · refine Tot.by' (Ξ := LR (fun _ => True) (fun r => r ≤ s.size)) ?_ fun x hx => ?_
      · refine Tot.count (fun j => j) (s.size + 1) (fun j => 0 ≤ j) (by show (0:Int) ≤ i + 1; omega) (by show (s.size : Int) + 1 - (i + 1) < _; omega) fun j hj => ?_
        refine Tot.cp (fun h2 => ?_) (fun _ => .so trivial)
        have e3 : w64 (j + 1) = j + 1 := by rw [w64_eq]; omega
        rw [e3]
        refine .by' (Ξ := fun _ => True) (Tot.bx ⟨hj, h2⟩ trivial) fun _ _ => Tot.cd (fun _ => .so ?_) (fun _ => .so ?_)
        · show j + 1 ≤ s.size; omega
        · show (0 : Int) ≤ j + 1 ∧ j < j + 1 ∧ j + 1 ≤ s.size + 1; omega
      · rcases x with _ | r
        · exact .so (by show (-1 : Int) ≤ s.size; omega)
        · exact .so hx
    · refine .by' (t116 s i _ h h0 (by simp only [big]; omega) (by decide)) fun c _ => Tot.cd (fun _ => ?_) (fun _ => ?_)
      · refine Tot.by' (Ξ := fun r => r ≤ s.size) ?_ fun x hx => .so hx
        refine Tot.count (fun j => j) s.size (fun j => 0 ≤ j ∧ j ≤ s.size) ⟨h0, by omega⟩ (by show (s.size : Int) - i < _; omega) fun j hj => ?_
        refine Tot.by' (Ξ := fun c => c = true → j < s.size) ?_ fun c hc => Tot.cd (fun h2 => ?_) (fun _ => .so hj.2)
        · refine Tot.cp (fun h2 => ?_) (fun _ => .so fun h => by cases h)
          exact .by' (Ξ := fun _ => True) (Tot.bx ⟨hj.1, h2⟩ trivial) fun _ _ => .so fun _ => h2
        · have := hc h2
          have e3 : w64 (j + 1) = j + 1 := by rw [w64_eq]; omega
          rw [e3]
          exact .so (by show ((0 : Int) ≤ j + 1 ∧ j + 1 ≤ s.size) ∧ j < j + 1 ∧ j + 1 ≤ s.size; omega)
      · refine .by' (t116 s i _ h h0 (by simp only [big]; omega) (by decide)) fun c hc => Tot.cd (fun hc1 => ?_) (fun _ => .so (by omega))
        refine Tot.by' (Ξ := LR (fun _ => True) (fun r => r ≤ s.size)) ?_ fun x hx => ?_
        · refine Tot.count (fun j => j) (s.size + 1) (fun j => 0 ≤ j) (by show (0:Int) ≤ i + 2; omega) (by show (s.size : Int) + 1 - (i + 2) < _; omega) fun j hj => ?_
          refine Tot.cp (fun h2 => ?_) (fun _ => .so trivial)
          have e3 : w64 (j + 1) = j + 1 := by rw [w64_eq]; omega
          have e4 : w64 (j + 2) = j + 2 := by rw [w64_eq]; omega
          rw [e3, e4]
          refine .by' (t116 s j _ h hj (by simp only [big]; omega) (by decide)) fun c hc => Tot.cd (fun hc2 => .so ?_) (fun _ => .so ?_)
          · have := hc hc2
            have e5 : ({ data := #[42, 47] } : ByteArray).size = 2 := rfl
            rw [e5] at this
            show j + 2 ≤ s.size; omega
          · show (0 : Int) ≤ j + 1 ∧ j < j + 1 ∧ j + 1 ≤ s.size + 1; omega
        · rcases x with _ | r
          · exact .so (by show (-1 : Int) ≤ s.size; omega)
          · exact .so hx
theorem t93 (s : ByteArray) (h : s.size ≤ big) : Tot (pf93 s 0) fun _ => True := by
  unfold pf93
  have hb : (s.size : Int) ≤ 1000000000000 := by simp only [big] at h; omega
  refine Tot.by' (Ξ := fun _ => True) ?_ fun c _ => Tot.cd (fun _ => .so trivial) (fun _ => ?_)
  · refine Tot.cp (fun h => .so trivial) (fun h0 => Tot.cp (fun h => .so trivial) (fun h2 => ?_))
    exact .by' (Ξ := fun _ => True) (Tot.bx (by omega) trivial) fun _ _ => .so trivial
  · refine Tot.by' (Ξ := fun _ => True) ?_ fun x _ => by rcases x with _ | r <;> exact .so trivial
    refine Tot.count (fun j => j.2) s.size (fun j => 0 ≤ j.2 ∧ j.2 ≤ s.size) ⟨by show (0:Int) ≤ 0; omega, by show (0:Int) ≤ s.size; omega⟩ (by show (s.size : Int) - 0 < _; omega) fun j hj => ?_
    refine Tot.cp (fun h2 => ?_) (fun _ => .so trivial)
    refine .by' (t107 s j.2 h hj.1 h2) fun n hn => Tot.cp (fun _ => .so trivial) (fun h3 => Tot.cp (fun h4 => .so ?_) (fun h4 => ?_))
    · show ((0 : Int) ≤ n ∧ n ≤ s.size) ∧ j.2 < n ∧ n ≤ s.size; omega
    · have hbx := Tot.bx (Φ := fun _ => True) (s := s) (m := j.2) ⟨hj.1, h2⟩ trivial
      have e3 : w64 (j.2 + 1) = j.2 + 1 := by rw [w64_eq]; omega
      rw [e3]
      refine .by' hbx fun _ _ => .by' (Ξ := fun _ => True) (Tot.cd (fun _ => .so trivial) (fun _ => .so trivial)) fun _ _ => .by' hbx fun _ _ => .by' (Ξ := fun _ => True) (Tot.cd (fun _ => .so trivial) (fun _ => .so trivial)) fun _ _ => Tot.cd (fun _ => .so trivial) (fun _ => .so ?_)
      show ((0 : Int) ≤ j.2 + 1 ∧ j.2 + 1 ≤ s.size) ∧ j.2 < j.2 + 1 ∧ j.2 + 1 ≤ s.size; omega
end Go.Proofs
namespace Go.Proofs
open Go Go.Own
set_option maxRecDepth 100000
set_option linter.unusedVariables false
def LitOk (x : Sym) : Prop := x.Lit = true → x.Name.size = 1
structure DeclB (d : Decl) : Prop where
  tag : d.Tag.size ≤ big
  n : d.Syms.length ≤ 1000
  syms : ∀ x ∈ d.Syms, x.Name.size ≤ big
structure AltB (a : Alt) : Prop where
  n : a.Parts.length ≤ 1000
  parts : ∀ p ∈ a.Parts, p.Sym.Name.size ≤ big ∧ p.Code.size ≤ big
  prec : a.Prec.Name.size ≤ big
structure RuleB (r : Rule) : Prop where
  left : r.Left.size ≤ big
  n : r.Alts.length ≤ 1000
  alts : ∀ a ∈ r.Alts, AltB a
structure SrcB (s : Source) : Prop where
  pro : s.Pro.size ≤ big
  dn : s.Decls.length ≤ 1000
  decls : ∀ d ∈ s.Decls, DeclB d
  rn : s.Rules.length ≤ 1000
  rules : ∀ r ∈ s.Rules, RuleB r
theorem t90 (x : Sym) (a b : Bool) (h : x.Name.size ≤ big) : Tot (pf90 x a b) fun r => r = true → LitOk x := by
  unfold pf90
  refine Tot.cd (fun hl => ?_) (fun hl => ?_)
  · refine Tot.by' (Ξ := fun c => c = false → x.Name.size = 1) ?_ fun c hc => Tot.cd (fun _ => .so fun h => by cases h) (fun h2 => ?_)
    · refine Tot.cd (fun _ => .so fun h => by cases h) (fun _ => Tot.cn (fun _ => .so fun h => by cases h) (fun h1 => .so fun _ => by omega))
    · have h1 := hc h2
      refine .by' (Ξ := fun _ => True) (Tot.bx (by omega) trivial) fun _ _ => .by' (t55 _) fun _ _ => .so fun _ _ => h1
  · have hok : LitOk x := fun h => by rw [hl] at h; cases h
    refine Tot.by' (Ξ := fun _ => True) ?_ fun c hc => .so fun _ => hok
    refine .by' (t79 _ h) fun c _ => ?_
    repeat' first | refine Tot.cd (fun _ => ?_) (fun _ => ?_) | exact Tot.so trivial
theorem t78 (d : Decl) (h : DeclB d) : Tot (pf78 d) fun r => r = true → ∀ x ∈ d.Syms, LitOk x := by
  unfold pf78
  refine Tot.by' (Ξ := fun _ => True) ?_ fun c _ => Tot.cd (fun _ => .so fun h => by cases h) (fun _ => ?_)
  · have ht := (t79 _ h.tag).use (Φ := fun _ => True) fun _ _ => trivial
    repeat' first | refine Tot.cd (fun _ => ?_) (fun _ => ?_) | exact Tot.so trivial | refine .by' ht fun _ _ => ?_
  · refine Tot.by' (Tot.scan d.Syms (fun x => LitOk x) (fun r => r = false) (by have := h.n; omega) (fun s y h0 h1 hi hm => ?_) (fun s hs => by simp [hs])) fun x hx => ?_
    · refine Tot.cp (fun _ => ?_) (fun h => absurd h1 h)
      rw [hi]
      refine Tot.sm ?_
      refine .by' (t90 _ _ _ (h.syms _ hm)) fun c hc => Tot.cd (fun _ => .so rfl) (fun h2 => .so ⟨?_, hc (by simpa using h2)⟩)
      have := h.n
      rw [w64_eq]; omega
    · rcases x with _ | r
      · exact .so fun _ => hx
      · exact .so fun h => by have : r = false := hx; rw [this] at h; cases h
theorem t80 (a : Alt) (h : AltB a) : Tot (pf80 a) fun r => r = true → (∀ p ∈ a.Parts, LitOk p.Sym) ∧ LitOk a.Prec := by
  unfold pf80
  refine Tot.by' (Tot.scan a.Parts (fun p => LitOk p.Sym) (fun r => r = false) (by have := h.n; omega) (fun s y h0 h1 hi hm => ?_) (fun s hs => by simp [hs])) fun x hx => ?_
  · refine Tot.cp (fun _ => ?_) (fun h => absurd h1 h)
    rw [hi]
    refine Tot.sm ?_
    have hp := h.parts _ hm
    have t1 := t90 y.Sym false true hp.1
    have t2 := t92 y.Sym
    have t3 := t93 y.Code hp.2
    have hw : w64 (s + 1) = s + 1 := by have := h.n; rw [w64_eq]; omega
    rw [hw]
    have n92 : (y.Sym.Name = { data := #[] } ∧ y.Sym.Lit = false) → LitOk y.Sym := fun h hl => by rw [h.2] at hl; cases hl
    refine Tot.by' (Ξ := fun c => c = false → LitOk y.Sym) ?_ fun c hc => Tot.cd (fun _ => .so rfl) (fun h2 => .so ⟨rfl, hc h2⟩)
    refine Tot.cp (fun _ => ?_) (fun hne => ?_)
    · refine .by' t1 fun c hc => Tot.cd (fun _ => .so fun h => by cases h) (fun h2 => ?_)
      have hok := hc (by simpa using h2)
      refine Tot.cd (fun _ => ?_) (fun _ => .so fun _ => hok)
      refine .by' t2 fun c _ => Tot.cd (fun _ => .so fun _ => hok) (fun _ => ?_)
      exact .by' t3 fun _ _ => .so fun _ => hok
    · refine Tot.cn (fun _ => ?_) (fun h => .so fun _ => ?_)
      · refine .by' t2 fun c hc => Tot.cd (fun _ => .so fun h => by cases h) (fun h2 => ?_)
        have hok := n92 (hc (by simpa using h2))
        exact .by' t3 fun _ _ => .so fun _ => hok
      · exact absurd h hne
  · rcases x with _ | r
    · have hx : ∀ p ∈ a.Parts, LitOk p.Sym := hx
      refine Tot.by' (Ξ := fun c => c = true → LitOk a.Prec) ?_ fun c hc => .so fun h => ⟨hx, hc h⟩
      refine .by' (t92 _) fun c hc => Tot.cd (fun h2 => .so fun _ => ?_) (fun _ => .by' (t90 _ _ _ h.prec) fun c hc => .so hc)
      intro hl; rw [(hc h2).2] at hl; cases hl
    · exact .so fun h => by have : r = false := hx; rw [this] at h; cases h
structure AltOk (a : Alt) : Prop where
  parts : ∀ p ∈ a.Parts, LitOk p.Sym
  prec : LitOk a.Prec
structure SrcOk (s : Source) : Prop where
  decls : ∀ d ∈ s.Decls, ∀ x ∈ d.Syms, LitOk x
  rules : ∀ r ∈ s.Rules, ∀ a ∈ r.Alts, AltOk a
  pos : 0 < s.Rules.length
theorem t63 (s : Source) (h : SrcB s) : Tot (pf63 s) fun r => r = true → SrcOk s := by
  unfold pf63
  refine Tot.by' (Ξ := LR (fun _ => True) (fun r => r = false)) ?_ fun x hx => ?_
  · have hp : (s.Pro.size : Int) ≤ 1000000000000 := by have := h.pro; simp only [big] at this; omega
    refine Tot.count (fun j => j) s.Pro.size (fun j => 0 ≤ j ∧ j ≤ s.Pro.size) ⟨by omega, by omega⟩ (by show (s.Pro.size : Int) - 0 < _; omega) fun j hj => ?_
    have e1 : w64 (j + 1) = j + 1 := by rw [w64_eq]; omega
    have e2 : w64 (j + 2) = j + 2 := by rw [w64_eq]; omega
    rw [e1, e2]
    refine Tot.cp (fun h2 => ?_) (fun _ => .so trivial)
    refine .by' (Ξ := fun _ => True) (Tot.cut (by omega) trivial) fun _ _ => Tot.cd (fun _ => .so rfl) (fun _ => .so ?_)
    show ((0 : Int) ≤ j + 1 ∧ j + 1 ≤ s.Pro.size) ∧ j < j + 1 ∧ j + 1 ≤ s.Pro.size; omega
  · rcases x with _ | r
    · refine Tot.by' (Tot.scan s.Decls (fun d => ∀ x ∈ d.Syms, LitOk x) (fun r => r = false) (by have := h.dn; omega) (fun i y h0 h1 hi hm => ?_) (fun s hs => by simp [hs])) fun x hx => ?_
      · refine Tot.cp (fun _ => ?_) (fun h => absurd h1 h)
        rw [hi]
        refine Tot.sm ?_
        refine .by' (t78 _ (h.decls _ hm)) fun c hc => Tot.cd (fun _ => .so rfl) (fun h2 => .so ⟨?_, hc (by simpa using h2)⟩)
        have := h.dn
        rw [w64_eq]; omega
      · rcases x with _ | r
        · have hx : ∀ d ∈ s.Decls, ∀ x ∈ d.Syms, LitOk x := hx
          refine Tot.by' (Tot.scan s.Rules (fun r => ∀ a ∈ r.Alts, AltOk a) (fun r => r = false) (by have := h.rn; omega) (fun i y h0 h1 hi hm => ?_) (fun s hs => by simp [hs])) fun x hx2 => ?_
          · refine Tot.cp (fun _ => ?_) (fun h => absurd h1 h)
            rw [hi]
            refine Tot.sm ?_
            have hr := h.rules _ hm
            have hw : w64 (i + 1) = i + 1 := by have := h.rn; rw [w64_eq]; omega
            rw [hw]
            refine .by' (Ξ := fun _ => True) (.by' (t79 _ hr.left) fun c _ => Tot.cd (fun _ => .so trivial) (fun _ => .so trivial)) fun c _ => Tot.cd (fun _ => .so rfl) (fun _ => ?_)
            refine Tot.by' (Tot.scan y.Alts AltOk (fun r => r = false) (by have := hr.n; omega) (fun k a h0 h1 hi hm => ?_) (fun s hs => by simp [hs])) fun x hx3 => ?_
            · refine Tot.cp (fun _ => ?_) (fun h => absurd h1 h)
              rw [hi]
              refine Tot.sm ?_
              refine .by' (t80 _ (hr.alts _ hm)) fun c hc => Tot.cd (fun _ => .so rfl) (fun h2 => .so ⟨?_, ⟨(hc (by simpa using h2)).1, (hc (by simpa using h2)).2⟩⟩)
              have := hr.n
              rw [w64_eq]; omega
            · rcases x with _ | r
              · exact .so ⟨rfl, hx3⟩
              · exact .so hx3
          · rcases x with _ | r
            · exact .so fun h => ⟨hx, hx2, by have := of_decide_eq_true h; omega⟩
            · exact .so fun h => by have : r = false := hx2; rw [this] at h; cases h
        · exact .so fun h => by have : r = false := hx; rw [this] at h; cases h
    · exact .so fun h => by have : r = false := hx; rw [this] at h; cases h
end Go.Proofs
namespace Go.Proofs
open Go Go.Own
set_option maxRecDepth 100000
set_option linter.unusedVariables false
abbrev Mk := yuccaref9_maker
structure Same (m m' : Mk) : Prop where
  g : m'.f_g = m.f_g
  gv : m'.f_given = m.f_given
  ty : m'.f_types = m.f_types
  lf : m'.f_lefts = m.f_lefts
  lv : m'.f_level = m.f_level
  inn : m'.f_inner = m.f_inner
theorem t65 (m : Mk) (a : Int) (n : ByteArray) : Tot (pf65 m a n) fun m' => Same m m' ∧ m'.f_e ≠ 0 := by
  unfold pf65
  apply Tot.bi
  refine Tot.cp (fun _ => .so (.so ⟨⟨rfl, rfl, rfl, rfl, rfl, rfl⟩, ?_⟩)) (fun h => .so (.so ⟨⟨rfl, rfl, rfl, rfl, rfl, rfl⟩, h⟩))
  show (3 : Int) ≠ 0; decide
theorem t69 (m : Mk) (n : ByteArray) (h : m.f_types.length ≤ big) : Tot (pf69 m n) fun r => r = -1 ∨ (0 ≤ r ∧ r < m.f_types.length) := by
  unfold pf69
  simp only [big] at h
  refine Tot.by' (Tot.scan m.f_types (fun _ => True) (fun r : Int => 0 ≤ r ∧ r < m.f_types.length) (by omega) (fun s y h0 h1 hi hm => ?_) (fun s hs => by simp [hs])) fun x hx => ?_
  · refine Tot.cp (fun _ => ?_) (fun h => absurd h1 h)
    rw [hi]
    refine Tot.sm ?_
    refine Tot.cd (fun _ => .so ⟨h0, h1⟩) (fun _ => .so ⟨?_, trivial⟩)
    rw [w64_eq]; omega
  · rcases x with _ | r
    · exact .so (.inl rfl)
    · exact .so (.inr hx)
theorem t67 (m : Mk) (n : ByteArray) (h : m.f_lefts.length ≤ big) : Tot (pf67 m n) fun r => (r = -1 ∧ ∀ x ∈ m.f_lefts, x ≠ n) ∨ (0 ≤ r ∧ r < m.f_lefts.length ∧ m.f_lefts[r.toNat]? = some n) := by
  unfold pf67
  simp only [big] at h
  refine Tot.by' (Tot.scan m.f_lefts (fun x => x ≠ n) (fun r : Int => 0 ≤ r ∧ r < m.f_lefts.length ∧ m.f_lefts[r.toNat]? = some n) (by omega) (fun s y h0 h1 hi hm => ?_) (fun s hs => by simp [hs])) fun x hx => ?_
  · refine Tot.cp (fun _ => ?_) (fun h => absurd h1 h)
    rw [hi]
    refine Tot.sm ?_
    refine Tot.cp (fun e => .so ⟨h0, h1, by rw [← e]; exact (idx_spec hi).2.2⟩) (fun e => .so ⟨?_, e⟩)
    rw [w64_eq]; omega
  · rcases x with _ | r
    · exact .so (.inl ⟨rfl, hx⟩)
    · exact .so (.inr hx)
theorem t66 (m : Mk) (x : Sym) (h : m.f_g.Toks.length ≤ big) : Tot (pf66 m x) fun r => r = -1 ∨ (1 ≤ r ∧ r < m.f_g.Toks.length) := by
  unfold pf66
  simp only [big] at h
  refine Tot.by' (Ξ := LR (fun _ => True) (fun r => 1 ≤ r ∧ r < m.f_g.Toks.length)) ?_ fun x hx => ?_
  · refine Tot.count (fun j => j) m.f_g.Toks.length (fun j => 1 ≤ j) (by omega) (by show (m.f_g.Toks.length : Int) - 1 < _; omega) fun j hj => ?_
    refine Tot.cp (fun h2 => ?_) (fun _ => .so trivial)
    have e : w64 (j + 1) = j + 1 := by rw [w64_eq]; omega
    rw [e]
    refine .by' (Ξ := fun _ => True) ?_ fun c _ => Tot.cd (fun _ => .so ⟨hj, h2⟩) (fun _ => .so ?_)
    · refine .by' (Ξ := fun _ => True) (Tot.ix (by omega) h2 fun _ _ _ => trivial) fun _ _ => Tot.cd (fun _ => ?_) (fun _ => .so trivial)
      exact .by' (Ξ := fun _ => True) (Tot.ix (by omega) h2 fun _ _ _ => trivial) fun _ _ => Tot.cd (fun _ => .so trivial) (fun _ => .so trivial)
    · show (1 : Int) ≤ j + 1 ∧ j < j + 1 ∧ j + 1 ≤ m.f_g.Toks.length; omega
  · rcases x with _ | r
    · exact .so (.inl rfl)
    · exact .so (.inr hx)
theorem t82 (m : Mk) (n : Int) (h : m.f_g.Toks.length ≤ big) : Tot (pf82 m n) fun _ => True := by
  unfold pf82
  simp only [big] at h
  refine Tot.by' (Ξ := fun _ => True) ?_ fun x hx => ?_
  · refine Tot.count (fun j => j) m.f_g.Toks.length (fun j => 1 ≤ j) (by decide) (by show (m.f_g.Toks.length : Int) - 3 < _; omega) fun j hj => ?_
    refine Tot.cp (fun h2 => ?_) (fun _ => .so trivial)
    have e : w64 (j + 1) = j + 1 := by rw [w64_eq]; omega
    rw [e]
    refine .by' (Ξ := fun _ => True) (Tot.ix (by omega) h2 fun _ _ _ => trivial) fun c _ => Tot.cd (fun _ => .so trivial) (fun _ => .so ?_)
    show (1 : Int) ≤ j + 1 ∧ j < j + 1 ∧ j + 1 ≤ m.f_g.Toks.length; omega
  · rcases x with _ | r <;> exact .so trivial
structure Grow (m m' : Mk) (k : Nat) : Prop where
  gv : m'.f_given.length = m'.f_g.Toks.length
  lo : m.f_g.Toks.length ≤ m'.f_g.Toks.length
  hi : m'.f_g.Toks.length ≤ m.f_g.Toks.length + k
  ty : m'.f_types.length ≤ m.f_types.length + k
  lf : m'.f_lefts = m.f_lefts
  pr : m'.f_g.Prods = m.f_g.Prods
  inn : m'.f_inner = m.f_inner
  lvl : m'.f_level = m.f_level
  lv : 0 ≤ m.f_level → (∀ t ∈ m.f_g.Toks, 0 ≤ t.Level) → ∀ t ∈ m'.f_g.Toks, 0 ≤ t.Level
theorem Same.grow {m m' : Mk} (h : Same m m') (hg : m.f_given.length = m.f_g.Toks.length) (k : Nat) : Grow m m' k := by
  obtain ⟨h1, h2, h3, h4, h5, h6⟩ := h
  exact ⟨by rw [h1, h2]; exact hg, by rw [h1]; omega, by rw [h1]; omega, by rw [h3]; omega, h4, by rw [h1], h6, h5, by rw [h1]; exact fun _ h => h⟩
theorem t81 (m : Mk) (x : Sym) (hg : m.f_given.length = m.f_g.Toks.length) (h : m.f_g.Toks.length ≤ 100000000000) (hx : LitOk x) :
    Tot (pf81 m x) fun r => Grow m r.2 1 ∧ 0 ≤ r.1 ∧ r.1 < r.2.f_g.Toks.length := by
  unfold pf81
  refine .by' (t66 m x (by simp only [big]; omega)) fun t ht => Tot.cp (fun h0 => .so ⟨⟨hg, Nat.le_refl _, Nat.le_succ _, Nat.le_succ _, rfl, rfl, rfl, rfl, fun _ h => h⟩, h0, ?_⟩) (fun _ => ?_)
  · rcases ht with rfl | ht
    · exact absurd h0 (by decide)
    · exact ht.2
  · refine Tot.by' (Ξ := fun j => Same m j.1) ?_ fun j hj => ?_
    · refine Tot.cd (fun hl => ?_) (fun _ => .so ⟨rfl, rfl, rfl, rfl, rfl, rfl⟩)
      have := hx hl
      refine .by' (Ξ := fun _ => True) (Tot.bx (by omega) trivial) fun b _ => .by' (t82 m _ (by simp only [big]; omega)) fun o _ => ?_
      refine Tot.by' (Ξ := fun j => Same m j) ?_ fun j hj => .so hj
      exact Tot.cd (fun _ => .by' (t65 m _ _) fun m' hm => .so hm.1) (fun _ => .so ⟨rfl, rfl, rfl, rfl, rfl, rfl⟩)
    · obtain ⟨h1, h2, h3, h4, h5, h6⟩ := hj
      have hlt : j.1.f_g.Toks.length = m.f_g.Toks.length := by rw [h1]
      have hlg : j.1.f_given.length = m.f_given.length := by rw [h2]
      refine .by' (Ξ := fun _ => True) (Tot.ap (by rw [hlt]; simp [lim]; omega) trivial) fun _ _ => .by' (Ξ := fun _ => True) (Tot.ap (by rw [hlg]; simp [lim]; omega) trivial) fun _ _ => .so ?_
      refine ⟨⟨?_, ?_, ?_, ?_, h4, by show j.1.f_g.Prods = _; rw [h1], h6, h5, ?_⟩, ?_, ?_⟩
      · show (j.1.f_given ++ [x.Lit]).length = (j.1.f_g.Toks ++ [_]).length
        simp [hlt, hlg, hg]
      · show _ ≤ (j.1.f_g.Toks ++ [_]).length
        simp [hlt]
      · show (j.1.f_g.Toks ++ [_]).length ≤ _
        simp [hlt]
      · show j.1.f_types.length ≤ _
        rw [h3]; omega
      · intro _ hl t ht
        rcases List.mem_append.1 ht with ht | ht
        · rw [h1] at ht; exact hl t ht
        · rw [List.mem_singleton.1 ht]; exact Int.le_refl 0
      · show 0 ≤ w64 (((j.1.f_g.Toks ++ [_]).length : Int) - 1)
        rw [w64_eq]; simp [hlt]; omega
      · show w64 (((j.1.f_g.Toks ++ [_]).length : Int) - 1) < ((j.1.f_g.Toks ++ [_]).length : Int)
        rw [w64_eq]; simp [hlt]; omega
structure Tk (m m' : Mk) : Prop where
  tk : m'.f_g.Toks.length = m.f_g.Toks.length
  gv : m'.f_given.length = m.f_given.length
  ty : m'.f_types = m.f_types
  lf : m'.f_lefts = m.f_lefts
  pr : m'.f_g.Prods = m.f_g.Prods
  inn : m'.f_inner = m.f_inner
  lvl : m'.f_level = m.f_level
  lv : 0 ≤ m.f_level → (∀ t ∈ m.f_g.Toks, 0 ≤ t.Level) → ∀ t ∈ m'.f_g.Toks, 0 ≤ t.Level
theorem Tk.refl (m : Mk) : Tk m m := ⟨rfl, rfl, rfl, rfl, rfl, rfl, rfl, fun _ h => h⟩
theorem Tk.trans {m m' m'' : Mk} (h : Tk m m') (h' : Tk m' m'') : Tk m m'' := ⟨h'.tk.trans h.tk, h'.gv.trans h.gv, h'.ty.trans h.ty, h'.lf.trans h.lf, h'.pr.trans h.pr, h'.inn.trans h.inn, h'.lvl.trans h.lvl, fun h0 hl => h'.lv (by rw [h.lvl]; exact h0) (h.lv h0 hl)⟩
theorem Same.tk {m m' : Mk} (h : Same m m') : Tk m m' := ⟨by rw [h.g], by rw [h.gv], h.ty, h.lf, by rw [h.g], h.inn, h.lv, by rw [h.g]; exact fun _ h => h⟩
theorem Grow.tk {m m' m'' : Mk} {k : Nat} (h : Grow m m' k) (h' : Tk m' m'') : Grow m m'' k :=
  ⟨by rw [h'.gv, h'.tk]; exact h.gv, by rw [h'.tk]; exact h.lo, by rw [h'.tk]; exact h.hi, by rw [h'.ty]; exact h.ty, h'.lf.trans h.lf, h'.pr.trans h.pr, h'.inn.trans h.inn, h'.lvl.trans h.lvl, fun h0 hl => h'.lv (by rw [h.lvl]; exact h0) (h.lv h0 hl)⟩
theorem mem_set2 {α : Type} {l : List α} {i : Nat} {x y : α} (h : y ∈ l.set i x) : y ∈ l ∨ y = x := List.mem_or_eq_of_mem_set h
theorem t64 (m : Mk) (d : Decl) (x : Sym) (hg : m.f_given.length = m.f_g.Toks.length) (h : m.f_g.Toks.length ≤ 100000000000) (ht : m.f_types.length ≤ 100000000000) (hx : LitOk x) :
    Tot (pf64 m d x) fun m' => Grow m m' 1 := by
  unfold pf64
  refine Tot.cd (fun _ => ?_) (fun _ => ?_)
  · refine .by' (t69 m x.Name (by simp only [big]; omega)) fun k hk => Tot.by' (Ξ := fun m' => Grow m m' 1) ?_ fun m' hm => .so hm
    refine Tot.cp (fun _ => ?_) (fun h0 => ?_)
    · refine .by' (Ξ := fun _ => True) (Tot.ap (by simp [lim]; omega) trivial) fun _ _ => .so ⟨hg, Nat.le_refl _, Nat.le_succ _, ?_, rfl, rfl, rfl, rfl, fun _ h => h⟩
      show (m.f_types ++ [_]).length ≤ _
      simp
    · refine .by' (Ξ := fun _ => True) (Tot.ix (by omega) (by omega) fun _ _ _ => trivial) fun _ _ => Tot.by' (Ξ := fun m' => Grow m m' 1) ?_ fun m' hm => .so hm
      exact Tot.cd (fun _ => .by' (t65 m _ _) fun m' hm => .so (hm.1.grow hg 1)) (fun _ => .so ⟨hg, Nat.le_refl _, Nat.le_succ _, Nat.le_succ _, rfl, rfl, rfl, rfl, fun _ h => h⟩)
  · refine .by' (t81 m x hg h hx) fun r ⟨hr, h0, h1⟩ => ?_
    have ix : ∀ {m' : Mk}, Tk r.2 m' → Tot (idx m'.f_g.Toks r.1) fun y => y ∈ m'.f_g.Toks := fun hm => Tot.ix h0 (by rw [hm.tk]; exact h1) fun _ _ h => h
    have ixg : ∀ {m' : Mk}, Tk r.2 m' → Tot (idx m'.f_given r.1) fun _ => True := fun hm => Tot.ix h0 (by rw [hm.gv, hr.gv]; exact h1) fun _ _ _ => trivial
    refine .by' (ix (.refl _)) fun y _ => ?_
    refine Tot.by' (Ξ := fun m' => Tk r.2 m') ?_ fun j12 h12 => ?_
    · refine Tot.cd (fun _ => ?_) (fun _ => .so (.refl _))
      refine Tot.by' (Ξ := fun m' => Tk r.2 m') ?_ fun j14 h14 => ?_
      · exact Tot.cd (fun _ => .by' (t65 r.2 _ _) fun m' hm => .so ⟨rfl, hm.1.tk.gv, hm.1.tk.ty, hm.1.tk.lf, hm.1.tk.pr, hm.1.tk.inn, hm.1.tk.lvl, fun _ h => h⟩) (fun _ => .so (.refl _))
      · refine .by' (ix h14) fun _ _ => .so (h14.trans ⟨?_, rfl, rfl, rfl, rfl, rfl, rfl, fun hl ht t hh => ?_⟩)
        · show ((j14.f_g.Toks.set _ _).set _ _).length = _
          simp
        · rcases mem_set2 hh with hh | rfl
          · rcases mem_set2 hh with hh | rfl
            · exact ht t hh
            · exact hl
          · exact hl
    · refine .by' (ix h12) fun _ _ => ?_
      refine Tot.by' (Ξ := fun m' => Tk r.2 m') ?_ fun j19 h19 => ?_
      · refine Tot.cd (fun _ => ?_) (fun _ => .so h12)
        refine .by' (Ξ := fun _ => True) ?_ fun c _ => ?_
        · refine Tot.cd (fun _ => .so trivial) (fun _ => .by' (ixg h12) fun _ _ => Tot.cd (fun _ => .so trivial) (fun _ => .by' (t82 j12 _ ?_) fun _ _ => .so trivial))
          have := h12.tk; have := hr.hi; simp only [big]; omega
        · refine Tot.by' (Ξ := fun m' => Tk r.2 m') ?_ fun j26 h26 => ?_
          · exact Tot.cd (fun _ => .by' (t65 j12 _ _) fun m' hm => .so (h12.trans ⟨rfl, hm.1.tk.gv, hm.1.tk.ty, hm.1.tk.lf, hm.1.tk.pr, hm.1.tk.inn, hm.1.tk.lvl, fun _ h => h⟩)) (fun _ => .so h12)
          · refine .by' (ix h26) fun y hy => .by' (ixg h26) fun _ _ => .so (h26.trans ⟨?_, ?_, rfl, rfl, rfl, rfl, rfl, fun hl ht t hh => ?_⟩)
            · show (j26.f_g.Toks.set _ _).length = _; simp
            · show (j26.f_given.set _ _).length = _; simp
            · rcases mem_set2 hh with hh | rfl
              · exact ht t hh
              · exact (ht y hy : 0 ≤ y.Level)
      · refine .by' (ix h19) fun _ _ => ?_
        refine Tot.by' (Ξ := fun m' => Tk r.2 m') ?_ fun j32 h32 => .so (hr.tk h32)
        refine Tot.cd (fun _ => ?_) (fun _ => .so h19)
        refine .by' (Ξ := fun _ => True) (Tot.cd (fun _ => .so trivial) (fun _ => .so trivial)) fun c _ => ?_
        refine Tot.by' (Ξ := fun m' => Tk r.2 m') ?_ fun j36 h36 => ?_
        · exact Tot.cd (fun _ => .by' (t65 j19 _ _) fun m' hm => .so (h19.trans ⟨rfl, hm.1.tk.gv, hm.1.tk.ty, hm.1.tk.lf, hm.1.tk.pr, hm.1.tk.inn, hm.1.tk.lvl, fun _ h => h⟩)) (fun _ => .so h19)
        · refine .by' (ix h36) fun y hy => .so (h36.trans ⟨?_, rfl, rfl, rfl, rfl, rfl, rfl, fun hl ht t hh => ?_⟩)
          · show (j36.f_g.Toks.set _ _).length = _; simp
          · rcases mem_set2 hh with hh | rfl
            · exact ht t hh
            · exact (ht y hy : 0 ≤ y.Level)
def SyOk (T : Nat) (N : Int) (s : Int) : Prop := (0 ≤ s ∧ s < T) ∨ (1000 ≤ s ∧ s ≤ 1000 + N)
theorem SyOk.mono {T T' : Nat} {N N' s : Int} (h : SyOk T N s) (hT : T ≤ T') (hN : N ≤ N') : SyOk T' N' s := by
  rcases h with h | h
  · exact .inl (by omega)
  · exact .inr (by omega)
theorem t83 (m : Mk) (x : Sym) (hg : m.f_given.length = m.f_g.Toks.length) (h3 : 3 ≤ m.f_g.Toks.length) (h : m.f_g.Toks.length ≤ 100000000000) (hl : m.f_lefts.length ≤ 100000000000) (hx : LitOk x) :
    Tot (pf83 m x) fun r => Grow m r.2 1 ∧ SyOk r.2.f_g.Toks.length m.f_lefts.length r.1 := by
  unfold pf83
  have hgr : Grow m m 1 := ⟨hg, Nat.le_refl _, Nat.le_succ _, Nat.le_succ _, rfl, rfl, rfl, rfl, fun _ h => h⟩
  refine Tot.cd (fun _ => ?_) (fun _ => ?_)
  · exact .by' (t81 m x hg h hx) fun r ⟨hr, h0, h1⟩ => .so ⟨hr, .inl ⟨h0, h1⟩⟩
  · refine .by' (t67 m x.Name (by simp only [big]; omega)) fun k hk => Tot.cp (fun h0 => .so ⟨hgr, .inr ?_⟩) (fun _ => ?_)
    · show 1000 ≤ w64 (1001 + k) ∧ w64 (1001 + k) ≤ 1000 + (m.f_lefts.length : Int)
      rw [w64_eq]
      rcases hk with hk | hk <;> omega
    · refine .by' (t66 m x (by simp only [big]; omega)) fun t ht => Tot.cp (fun _ => ?_) (fun h0 => .so ⟨hgr, .inl ?_⟩)
      · refine .by' (t65 m _ _) fun m' hm => .so ⟨hm.1.grow hg 1, .inl ⟨Int.le_refl 0, ?_⟩⟩
        show (0 : Int) < (m'.f_g.Toks.length : Int)
        rw [hm.1.g]; omega
      · show 0 ≤ t ∧ t < (m.f_g.Toks.length : Int)
        rcases ht with ht | ht <;> omega
end Go.Proofs
namespace Go.Proofs
open Go Go.Own
set_option maxRecDepth 100000
set_option linter.unusedVariables false
theorem t83t (m : Mk) (x : Sym) (hg : m.f_given.length = m.f_g.Toks.length) (h3 : 3 ≤ m.f_g.Toks.length) (h : m.f_g.Toks.length ≤ 100000000000) (hl : m.f_lefts.length ≤ 100000000000) (hx : LitOk x) (ht : x.Lit = true ∨ ∀ y ∈ m.f_lefts, y ≠ x.Name) :
    Tot (pf83 m x) fun r => Grow m r.2 1 ∧ 0 ≤ r.1 ∧ r.1 < r.2.f_g.Toks.length := by
  unfold pf83
  have hgr : Grow m m 1 := ⟨hg, Nat.le_refl _, Nat.le_succ _, Nat.le_succ _, rfl, rfl, rfl, rfl, fun _ h => h⟩
  refine Tot.cd (fun _ => ?_) (fun hlit => ?_)
  · exact .by' (t81 m x hg h hx) fun r ⟨hr, h0, h1⟩ => .so ⟨hr, h0, h1⟩
  · have ht : ∀ y ∈ m.f_lefts, y ≠ x.Name := ht.resolve_left (by rw [hlit]; decide)
    refine .by' (t67 m x.Name (by simp only [big]; omega)) fun k hk => Tot.cp (fun h0 => ?_) (fun _ => ?_)
    · rcases hk with ⟨rfl, _⟩ | ⟨h1, h2, h3⟩
      · exact absurd h0 (by decide)
      · exact absurd rfl (ht _ (List.mem_of_getElem? h3))
    · refine .by' (t66 m x (by simp only [big]; omega)) fun t ht => Tot.cp (fun _ => ?_) (fun h0 => .so ⟨hgr, ?_⟩)
      · refine .by' (t65 m _ _) fun m' hm => .so ⟨hm.1.grow hg 1, Int.le_refl 0, ?_⟩
        show (0 : Int) < (m'.f_g.Toks.length : Int)
        rw [hm.1.g]; omega
      · show 0 ≤ t ∧ t < (m.f_g.Toks.length : Int)
        rcases ht with ht | ht <;> omega
structure PrOk (T : Nat) (N : Int) (p : Prod) : Prop where
  left : 0 ≤ p.Left ∧ p.Left ≤ N
  right : ∀ s ∈ p.Right, SyOk T N s
  prec : -1 ≤ p.Prec ∧ p.Prec < T
theorem PrOk.mono {T T' : Nat} {N N' : Int} {p : Prod} (h : PrOk T N p) (hT : T ≤ T') (hN : N ≤ N') : PrOk T' N' p :=
  ⟨⟨h.left.1, by have := h.left.2; omega⟩, fun s hs => (h.right s hs).mono hT hN, ⟨h.prec.1, by have := h.prec.2; omega⟩⟩
structure MJ (m : Mk) (T L I Q : Nat) : Prop where
  gv : m.f_given.length = m.f_g.Toks.length
  lo : 3 ≤ m.f_g.Toks.length
  hi : m.f_g.Toks.length ≤ T
  ty : m.f_types.length ≤ T
  lf : m.f_lefts.length = L
  inn : 0 ≤ m.f_inner ∧ m.f_inner ≤ I
  prn : m.f_g.Prods.length ≤ Q
  pr : ∀ p ∈ m.f_g.Prods, PrOk m.f_g.Toks.length (L + m.f_inner) p
  lvl : 0 ≤ m.f_level
  lv : ∀ t ∈ m.f_g.Toks, 0 ≤ t.Level
theorem MJ.mono {m : Mk} {T L I Q T' I' Q' : Nat} (h : MJ m T L I Q) (hT : T ≤ T') (hI : I ≤ I') (hQ : Q ≤ Q') : MJ m T' L I' Q' :=
  ⟨h.gv, h.lo, by have := h.hi; omega, by have := h.ty; omega, h.lf, ⟨h.inn.1, by have := h.inn.2; omega⟩, by have := h.prn; omega, h.pr, h.lvl, h.lv⟩
theorem MJ.grow {m m' : Mk} {T L I Q k : Nat} (h : MJ m T L I Q) (g : Grow m m' k) : MJ m' (T + k) L I Q :=
  ⟨g.gv, by have := h.lo; have := g.lo; omega, by have := h.hi; have := g.hi; omega, by have := h.ty; have := g.ty; omega, by rw [g.lf]; exact h.lf, by rw [g.inn]; exact h.inn, by rw [g.pr]; exact h.prn,
    by rw [g.pr, g.inn]; exact fun p hp => (h.pr p hp).mono g.lo (by omega), by rw [g.lvl]; exact h.lvl, g.lv h.lvl h.lv⟩
theorem t68 (m : Mk) (left : ByteArray) (a : Alt) {T L I Q : Nat} (hm : MJ m T L I Q) (hT : T ≤ 10000000000) (hL : L ≤ 10000000000) (hI : I ≤ 10000000000) (hQ : Q ≤ 10000000000) (hb : AltB a) (hok : AltOk a) :
    Tot (pf68 m left a) fun m' => MJ m' (T + 1001) L (I + 1000) (Q + 1001) ∧ 1 ≤ m'.f_g.Prods.length := by
  unfold pf68
  have hn := hb.n
  refine .by' (t67 m left (by rw [hm.lf]; simp only [big]; omega)) fun x1 hx1 => ?_
  have hx1' : -1 ≤ x1 ∧ x1 < L := by rw [← hm.lf]; rcases hx1 with h | h <;> omega
  refine Tot.by' (Ξ := fun x3 => MJ x3.1 (T + 1000) L (I + 1000) (Q + 1000) ∧ (∀ s ∈ x3.2.1, SyOk x3.1.f_g.Toks.length (L + x3.1.f_inner) s) ∧ x3.2.1.length ≤ 1000) ?_ fun x3 hx3 => ?_
  · refine Tot.count (fun s => s.2.2.2.2) a.Parts.length (fun s => 0 ≤ s.2.2.2.2 ∧ s.2.2.2.2 ≤ a.Parts.length ∧ MJ s.1 (T + s.2.2.2.2.toNat) L (I + s.2.2.2.2.toNat) (Q + s.2.2.2.2.toNat) ∧ (∀ y ∈ s.2.1, SyOk s.1.f_g.Toks.length (L + s.1.f_inner) y) ∧ s.2.1.length ≤ s.2.2.2.2.toNat) ⟨by show (0:Int) ≤ 0; omega, by show (0:Int) ≤ _; omega, hm, by simp, Nat.le_refl 0⟩ (by show (a.Parts.length : Int) - 0 < _; omega) fun s hs => ?_
    obtain ⟨m1, rt, cd, at_, i⟩ := s
    obtain ⟨h0, h1, hj, hr, hl⟩ := hs
    simp only at h0 h1 hj hr hl ⊢
    have hw : w64 (i + 1) = i + 1 := by rw [w64_eq]; omega
    have e1 : (i + 1).toNat = i.toNat + 1 := by omega
    refine Tot.cp (fun hlt => ?_) (fun _ => .so ⟨hj.mono (by omega) (by omega) (by omega), hr, by show rt.length ≤ 1000; omega⟩)
    refine Tot.by' (Ξ := fun j => MJ j.1 (T + (i.toNat + 1)) L (I + (i.toNat + 1)) (Q + (i.toNat + 1)) ∧ (∀ y ∈ j.2.1, SyOk j.1.f_g.Toks.length (L + j.1.f_inner) y) ∧ j.2.1.length ≤ i.toNat + 1) ?_ fun j hj6 => ?_
    · refine Tot.by' (Tot.ix (Φ := fun y => y ∈ a.Parts) h0 hlt fun y _ hy => hy) fun y hy => ?_
      refine Tot.by' (Ξ := fun j => MJ j.1 (T + (i.toNat + 1)) L (I + (i.toNat + 1)) (Q + (i.toNat + 1)) ∧ (∀ y ∈ j.2.1, SyOk j.1.f_g.Toks.length (L + j.1.f_inner) y) ∧ j.2.1.length ≤ i.toNat + 1) ?_ fun j hj8 => .so hj8
      refine Tot.by' (Ξ := fun j => MJ j.1 (T + (i.toNat + 1)) L (I + (i.toNat + 1)) (Q + (i.toNat + 1)) ∧ (∀ y ∈ j.2.1, SyOk j.1.f_g.Toks.length (L + j.1.f_inner) y) ∧ j.2.1.length ≤ i.toNat + 1) ?_ fun j hj8 => .so hj8
      refine Tot.cd (fun _ => ?_) (fun _ => ?_)
      · have hh := hj.hi
        refine .by' (t83 m1 y.Sym hj.gv hj.lo (by omega) (by rw [hj.lf]; omega) (hok.parts y hy)) fun r ⟨hg, hsy⟩ => ?_
        refine .by' (Ξ := fun _ => True) (Tot.ap (by simp [lim]; omega) trivial) fun _ _ => .so ⟨(hj.grow hg).mono (by omega) (by omega) (by omega), fun z hz => ?_, by simp; omega⟩
        rcases List.mem_append.1 hz with hz | hz
        · exact (hr z hz).mono hg.lo (by show (L : Int) + m1.f_inner ≤ L + r.2.f_inner; rw [hg.inn]; omega)
        · rw [List.mem_singleton.1 hz]
          rw [hj.lf] at hsy
          exact hsy.mono (Nat.le_refl _) (by show (L : Int) ≤ L + r.2.f_inner; rw [hg.inn]; have := hj.inn.1; omega)
      · refine Tot.by' (Ξ := fun j => MJ (⟨(⟨m1.f_g.Toks, m1.f_g.Nons, j.1, m1.f_g.Pro, m1.f_g.Tail⟩ : Grammar), m1.f_given, m1.f_types, m1.f_lefts, m1.f_e, m1.f_at, m1.f_name, m1.f_level, j.2.1⟩ : yuccaref9_maker) (T + (i.toNat + 1)) L (I + (i.toNat + 1)) (Q + (i.toNat + 1)) ∧ (∀ y ∈ j.2.2.1, SyOk m1.f_g.Toks.length (L + j.2.1) y) ∧ j.2.2.1.length ≤ i.toNat + 1) ?_ fun j hj9 => .so hj9
        refine Tot.cd (fun _ => .so ⟨⟨hj.gv, hj.lo, by have := hj.hi; show m1.f_g.Toks.length ≤ _; omega, by have := hj.ty; show m1.f_types.length ≤ _; omega, hj.lf, ⟨hj.inn.1, by have := hj.inn.2; show m1.f_inner ≤ _; omega⟩, by have := hj.prn; show m1.f_g.Prods.length ≤ _; omega, hj.pr, hj.lvl, hj.lv⟩, hr, by show rt.length ≤ _; omega⟩) (fun _ => ?_)
        have hin := hj.inn
        have hlf := hj.lf
        have hpn := hj.prn
        have w1 : w64 (m1.f_inner + 1) = m1.f_inner + 1 := by rw [w64_eq]; omega
        have w2 : w64 (((m1.f_lefts.length : Int)) + (m1.f_inner + 1)) = L + (m1.f_inner + 1) := by rw [w64_eq, hlf]; omega
        have w3 : w64 (1000 + (m1.f_lefts.length : Int)) = 1000 + L := by rw [w64_eq, hlf]; omega
        have w4 : w64 (1000 + (L : Int) + (m1.f_inner + 1)) = 1000 + (L : Int) + (m1.f_inner + 1) := by rw [w64_eq]; omega
        rw [w1, w2, w3, w4]
        refine .by' (Ξ := fun _ => True) (Tot.ap (by simp [lim]; omega) trivial) fun _ _ => .by' (Ξ := fun _ => True) (Tot.ap (by simp [lim]; omega) trivial) fun _ _ => .by' (Ξ := fun _ => True) (Tot.ap (by simp [lim]; omega) trivial) fun _ _ => .so ⟨⟨hj.gv, hj.lo, ?_, ?_, hj.lf, ?_, ?_, ?_, hj.lvl, hj.lv⟩, ?_, ?_⟩
        · have := hj.hi; show m1.f_g.Toks.length ≤ _; omega
        · have := hj.ty; show m1.f_types.length ≤ _; omega
        · show 0 ≤ m1.f_inner + 1 ∧ m1.f_inner + 1 ≤ ((I + (i.toNat + 1) : Nat) : Int); omega
        · show (m1.f_g.Prods ++ [_]).length ≤ _; simp; omega
        · intro p hp
          rcases List.mem_append.1 hp with hp | hp
          · exact (hj.pr p hp).mono (Nat.le_refl _) (by show (L : Int) + m1.f_inner ≤ L + (m1.f_inner + 1); omega)
          · rw [List.mem_singleton.1 hp]
            refine ⟨?_, by simp, ?_⟩
            · show 0 ≤ (L : Int) + (m1.f_inner + 1) ∧ (L : Int) + (m1.f_inner + 1) ≤ L + (m1.f_inner + 1); omega
            · have := hj.lo; show (-1 : Int) ≤ -1 ∧ (-1 : Int) < (m1.f_g.Toks.length : Int); omega
        · intro z hz
          rcases List.mem_append.1 hz with hz | hz
          · exact (hr z hz).mono (Nat.le_refl _) (by show (L : Int) + m1.f_inner ≤ L + (m1.f_inner + 1); omega)
          · rw [List.mem_singleton.1 hz]
            exact .inr (by show 1000 ≤ 1000 + (L : Int) + (m1.f_inner + 1) ∧ 1000 + (L : Int) + (m1.f_inner + 1) ≤ 1000 + ((L : Int) + (m1.f_inner + 1)); omega)
        · show (rt ++ [_]).length ≤ _; simp; omega
    · rw [hw]
      refine .so ⟨⟨?_, ?_, ?_, hj6.2.1, ?_⟩, ?_, ?_⟩
      · show (0:Int) ≤ i + 1; omega
      · show i + 1 ≤ (a.Parts.length : Int); omega
      · show MJ j.1 (T + (i + 1).toNat) L (I + (i + 1).toNat) (Q + (i + 1).toNat)
        rw [e1]; exact hj6.1
      · show j.2.1.length ≤ (i + 1).toNat
        rw [e1]; exact hj6.2.2
      · show i < i + 1; omega
      · show i + 1 ≤ (a.Parts.length : Int); omega
  · obtain ⟨hj, hr, hl⟩ := hx3
    have hlo := hj.lo
    have hin := hj.inn
    refine Tot.by' (Ξ := fun p => -1 ≤ p ∧ p < (x3.1.f_g.Toks.length : Int)) ?_ fun pr hpr => ?_
    · refine Tot.count (fun s => s.2) x3.2.1.length (fun s => 0 ≤ s.2 ∧ s.2 ≤ x3.2.1.length ∧ -1 ≤ s.1 ∧ s.1 < (x3.1.f_g.Toks.length : Int)) ⟨by show (0:Int) ≤ 0; omega, by show (0:Int) ≤ _; omega, by show (-1:Int) ≤ -1; omega, by show (-1:Int) < _; omega⟩ (by show (x3.2.1.length : Int) - 0 < _; omega) fun s hs => ?_
      obtain ⟨h0, h1, h2, h3⟩ := hs
      have hw : w64 (s.2 + 1) = s.2 + 1 := by rw [w64_eq]; omega
      rw [hw]
      refine Tot.cp (fun hlt => ?_) (fun _ => .so ⟨h2, h3⟩)
      refine Tot.by' (Ξ := fun p => -1 ≤ p ∧ p < (x3.1.f_g.Toks.length : Int)) ?_ fun p hp => .so ⟨⟨?_, ?_, hp.1, hp.2⟩, ?_, ?_⟩
      · refine .by' (Tot.ix (Φ := fun y => idx x3.2.1 s.2 = some y ∧ y ∈ x3.2.1) h0 hlt fun y h1 h2 => ⟨h1, h2⟩) fun y hy => ?_
        refine .by' (Ξ := fun p => -1 ≤ p ∧ p < (x3.1.f_g.Toks.length : Int)) ?_ fun p hp => .so hp
        refine Tot.cp (fun hlt => ?_) (fun _ => .so ⟨h2, h3⟩)
        rw [hy.1]
        refine Tot.sm (.so ?_)
        rcases hr y hy.2 with h | h
        · omega
        · omega
      · show (0:Int) ≤ s.2 + 1; omega
      · show s.2 + 1 ≤ (x3.2.1.length : Int); omega
      · show s.2 < s.2 + 1; omega
      · show s.2 + 1 ≤ (x3.2.1.length : Int); omega
    · refine Tot.by' (Ξ := fun j => Grow x3.1 j.1 1 ∧ -1 ≤ j.2 ∧ j.2 < (j.1.f_g.Toks.length : Int)) ?_ fun j hj27 => ?_
      · have hgr : Grow x3.1 x3.1 1 := ⟨hj.gv, Nat.le_refl _, Nat.le_succ _, Nat.le_succ _, rfl, rfl, rfl, rfl, fun _ h => h⟩
        refine Tot.cd (fun _ => ?_) (fun _ => .so ⟨hgr, hpr⟩)
        refine Tot.by' (Ξ := fun c => c = true → a.Prec.Lit = true ∨ ∀ y ∈ x3.1.f_lefts, y ≠ a.Prec.Name) ?_ fun c hc => ?_
        · refine Tot.cd (fun h => .so fun _ => .inl h) (fun _ => ?_)
          refine .by' (t67 x3.1 a.Prec.Name (by rw [hj.lf]; simp only [big]; omega)) fun k hk => .so fun hlt => ?_
          have hlt := of_decide_eq_true hlt
          rcases hk with ⟨_, h⟩ | h
          · exact .inr h
          · omega
        · refine Tot.by' (Ξ := fun j => Grow x3.1 j.1 1 ∧ -1 ≤ j.2 ∧ j.2 < (j.1.f_g.Toks.length : Int)) ?_ fun j hj => .so hj
          have hh := hj.hi
          refine Tot.cd (fun h => ?_) (fun _ => ?_)
          · refine .by' (t83t x3.1 a.Prec hj.gv hj.lo (by omega) (by rw [hj.lf]; omega) hok.prec (hc h)) fun r hr => .so ⟨hr.1, ?_, hr.2.2⟩
            have := hr.2.1; show -1 ≤ r.1; omega
          · refine .by' (t65 x3.1 _ _) fun m' hm' => .so ⟨hm'.1.grow hj.gv 1, by show (-1:Int) ≤ -1; omega, ?_⟩
            show (-1 : Int) < (m'.f_g.Toks.length : Int); omega
      · have hm' := hj.grow hj27.1
        have hpn := hm'.prn
        refine .by' (Ξ := fun _ => True) (Tot.ap (by simp [lim]; omega) trivial) fun _ _ => .by' (Ξ := fun _ => True) (Tot.ap (by simp [lim]; omega) trivial) fun _ _ => .so ⟨⟨hm'.gv, hm'.lo, ?_, ?_, hm'.lf, ⟨hm'.inn.1, ?_⟩, ?_, ?_, hm'.lvl, hm'.lv⟩, by simp⟩
        · have := hm'.hi; show j.1.f_g.Toks.length ≤ _; omega
        · have := hm'.ty; show j.1.f_types.length ≤ _; omega
        · have := hm'.inn.2; show j.1.f_inner ≤ _; omega
        · show (j.1.f_g.Prods ++ [_]).length ≤ _; simp; omega
        · intro p hp
          rcases List.mem_append.1 hp with hp | hp
          · exact hm'.pr p hp
          · rw [List.mem_singleton.1 hp]
            have hin2 := hm'.inn
            refine ⟨?_, fun z hz => ?_, hj27.2⟩
            · show 0 ≤ w64 (1 + x1) ∧ w64 (1 + x1) ≤ (L : Int) + j.1.f_inner
              rw [w64_eq]; omega
            · exact (hr z hz).mono hj27.1.lo (by show (L : Int) + x3.1.f_inner ≤ L + j.1.f_inner; rw [hj27.1.inn]; omega)
end Go.Proofs
namespace Go.Proofs
open Go Go.Own
set_option maxRecDepth 100000
set_option linter.unusedVariables false
theorem size_nums (l : List Int) : (strOfNums l).size = l.length := strOfNums_size ..
theorem t52 (n : Int) (h0 : 0 ≤ n) (h1 : n ≤ 1000000000000) : Tot (pf52 n) fun s => s.size ≤ 2000000000000 := by
  unfold pf52
  have hu : IntKind.u64.wrap n = n := by rw [IntKind.wrap_u64]; omega
  refine Tot.by' (Ξ := fun j => j = n) (Tot.cp (fun h => absurd h (by omega)) (fun _ => .so hu)) fun j hj => ?_
  subst hj
  refine Tot.by' (Ξ := fun s => s.size ≤ 1000000000001) ?_ fun s hs => Tot.cp (fun h => absurd h (by omega)) (fun _ => .so (by omega))
  refine Tot.loop (fun s => 0 ≤ s.1 ∧ s.1 + s.2.size ≤ 1000000000000 + 1 ∧ (s.2.size = 0 → s.1 ≤ 1000000000000)) (fun s => s.1.toNat + (if s.2.size = 0 then 1 else 0)) ⟨h0, by show j + ((0 : Nat) : Int) ≤ _; omega, fun _ => h1⟩ (by show j.toNat + (if (0 : Nat) = 0 then 1 else 0) < 1000000000000000000; simp; omega) fun s hs => ?_
  obtain ⟨m, t⟩ := s
  obtain ⟨g0, g1, g2⟩ := hs
  simp only at g0 g1 g2 ⊢
  refine Tot.by' (Ξ := fun c => c = true → 0 < m ∨ t.size = 0) ?_ fun c hc => Tot.cd (fun hc1 => ?_) (fun _ => .so ?_)
  · refine Tot.cp (fun h => .so fun _ => .inl h) (fun _ => .so fun h => .inr ?_)
    have := of_decide_eq_true h
    rw [this]; rfl
  · have hc := hc hc1
    refine .by' (Ξ := fun x => x = m.tmod 10) (Tot.remU (by decide) rfl) fun x hx => ?_
    refine .by' (Ξ := fun y => y.size = t.size + 1) (Tot.cat ?_ ?_) fun y hy => .by' (Ξ := fun z => z = m / 10) (Tot.quoU (by decide) ?_) fun z hz => .so ?_
    · rw [size_nums]; simp; omega
    · rw [ByteArray.size_append, size_nums]; simp; omega
    · rw [Int.tdiv_eq_ediv_of_nonneg g0, IntKind.wrap_u64]; omega
    · subst hz
      refine ⟨⟨?_, ?_, ?_⟩, ?_⟩
      · show 0 ≤ m / 10; omega
      · show m / 10 + (y.size : Int) ≤ _; rw [hy]; omega
      · intro h; have h : y.size = 0 := h; omega
      · show (m / 10).toNat + (if y.size = 0 then 1 else 0) < m.toNat + (if t.size = 0 then 1 else 0)
        rw [if_neg (by omega)]
        split <;> omega
  · show t.size ≤ 1000000000001; omega
structure GOk (g : Grammar) : Prop where
  tn : 3 ≤ g.Toks.length ∧ g.Toks.length ≤ 40
  nn : 1 ≤ g.Nons.length ∧ g.Nons.length ≤ 24
  pn : 1 ≤ g.Prods.length ∧ g.Prods.length ≤ 60
  pr : ∀ p ∈ g.Prods, PrOk g.Toks.length (g.Nons.length - 1) p
  rn : ∀ p ∈ g.Prods, p.Right.length ≤ 8
  lv : ∀ t ∈ g.Toks, 0 ≤ t.Level
structure M0 (m : Mk) (T L : Nat) : Prop where
  gv : m.f_given.length = m.f_g.Toks.length
  lo : 3 ≤ m.f_g.Toks.length
  hi : m.f_g.Toks.length ≤ 3 + T
  ty : m.f_types.length ≤ T
  lf : m.f_lefts.length ≤ L
  pr : m.f_g.Prods = []
  inn : m.f_inner = 0
  lvl : 0 ≤ m.f_level
  lv : ∀ t ∈ m.f_g.Toks, 0 ≤ t.Level
theorem M0.mono {m : Mk} {T L T' L' : Nat} (h : M0 m T L) (hT : T ≤ T') (hL : L ≤ L') : M0 m T' L' :=
  ⟨h.gv, h.lo, by have := h.hi; omega, by have := h.ty; omega, by have := h.lf; omega, h.pr, h.inn, h.lvl, h.lv⟩
theorem M0.grow {m m' : Mk} {T L k : Nat} (h : M0 m T L) (g : Grow m m' k) : M0 m' (T + k) L :=
  ⟨g.gv, by have := h.lo; have := g.lo; omega, by have := h.hi; have := g.hi; omega, by have := h.ty; have := g.ty; omega, by rw [g.lf]; exact h.lf, g.pr.trans h.pr, g.inn.trans h.inn, by rw [g.lvl]; exact h.lvl, g.lv h.lvl h.lv⟩
theorem M0.same {m m' : Mk} {T L : Nat} (h : M0 m T L) (g : Same m m') : M0 m' T L := by
  have := h.grow (g.grow h.gv 0)
  exact this
end Go.Proofs
namespace Go.Proofs
open Go Go.Own
set_option maxRecDepth 100000
set_option linter.unusedVariables false
theorem M0.mj {m : Mk} {T L : Nat} (h : M0 m T L) : MJ m (3 + T) m.f_lefts.length 0 0 :=
  ⟨h.gv, h.lo, h.hi, by have := h.ty; omega, rfl, by rw [h.inn]; decide, by rw [h.pr]; exact Nat.le_refl 0, by rw [h.pr]; exact fun p hp => absurd hp (by simp), h.lvl, h.lv⟩
theorem t50 (s : Source) (hb : SrcB s) : Tot (pf50 s) fun r => r.2.1 = 0 → GOk r.1 := by
  unfold pf50
  refine .by' (t63 s hb) fun c hc => Tot.cd (fun _ => .so fun h => absurd h (by decide)) (fun hc1 => ?_)
  have ok : SrcOk s := hc (by simpa using hc1)
  refine .by' (Tot.mk (by decide) (rfl : List.replicate (3 : Int).toNat false = List.replicate (3 : Int).toNat false)) fun x3 hx3 => ?_
  have hdn := hb.dn
  have hrn := hb.rn
  -- declarations
  refine Tot.by' (Ξ := fun r => M0 r.1 (1001 * 1000) 0) ?_ fun x5 h5 => ?_
  · refine Tot.count (fun z => z.2.2) s.Decls.length (fun z => 0 ≤ z.2.2 ∧ z.2.2 ≤ s.Decls.length ∧ M0 z.1 (1001 * z.2.2.toNat) 0 ∧ z.1.f_level ≤ z.2.2) ⟨Int.le_refl 0, by show (0:Int) ≤ _; omega, ⟨by show x3.length = 3; rw [← hx3]; rfl, Nat.le_refl 3, Nat.le_refl 3, Nat.le_refl 0, Nat.le_refl 0, rfl, rfl, Int.le_refl 0, by show ∀ t ∈ [_, _, _], 0 ≤ Tok.Level t; simp⟩, Int.le_refl 0⟩ (by show (s.Decls.length : Int) - 0 < _; omega) fun z hz => ?_
    obtain ⟨m, st, i⟩ := z
    obtain ⟨h0, h1, hm, hlv⟩ := hz
    simp only at h0 h1 hm hlv ⊢
    have hw : w64 (i + 1) = i + 1 := by rw [w64_eq]; omega
    rw [hw]
    have hl0 := hm.lvl
    refine Tot.cp (fun hlt => ?_) (fun _ => .so (hm.mono (by omega) (Nat.le_refl _)))
    refine .by' (Tot.ix (Φ := fun y => y ∈ s.Decls) h0 hlt fun y _ hy => hy) fun d hd => ?_
    have hD := hb.decls d hd
    have hdk := hD.n
    refine .by' (Ξ := fun _ => True) (Tot.cd (fun _ => .so trivial) (fun _ => .so trivial)) fun c10 _ => .by' (Ξ := fun j => 0 ≤ j ∧ j ≤ i + 1) (Tot.cd (fun _ => .so (by rw [w64_eq]; omega)) (fun _ => .so (by omega))) fun j11 h11 => ?_
    refine Tot.by' (Ξ := fun r => M0 r.1 (1001 * i.toNat + 1000) 0 ∧ r.1.f_level ≤ i + 1) ?_ fun x14 h14 => .so ⟨⟨?_, ?_, ?_, ?_⟩, ?_, ?_⟩
    · refine Tot.count (fun z => z.2.2) d.Syms.length (fun z => 0 ≤ z.2.2 ∧ z.2.2 ≤ d.Syms.length ∧ M0 z.1 (1001 * i.toNat + z.2.2.toNat) 0 ∧ z.1.f_level ≤ i + 1) ⟨Int.le_refl 0, by show (0:Int) ≤ _; omega, ⟨hm.gv, hm.lo, hm.hi, hm.ty, hm.lf, hm.pr, hm.inn, h11.1, hm.lv⟩, h11.2⟩ (by show (d.Syms.length : Int) - 0 < _; omega) fun z hz => ?_
      obtain ⟨m, st, k⟩ := z
      obtain ⟨g0, g1, hm, hlv⟩ := hz
      simp only at g0 g1 hm hlv ⊢
      have hwk : w64 (k + 1) = k + 1 := by rw [w64_eq]; omega
      rw [hwk]
      refine Tot.cp (fun hltk => ?_) (fun _ => .so ⟨hm.mono (by omega) (Nat.le_refl _), hlv⟩)
      have ixs : Tot (idx d.Syms k) fun y => y ∈ d.Syms := Tot.ix g0 hltk fun y _ hy => hy
      refine Tot.by' (Ξ := fun j => M0 j.1 (1001 * i.toNat + k.toNat + 1) 0 ∧ j.1.f_level ≤ i + 1) ?_ fun j hj => .so ⟨⟨?_, ?_, ?_, hj.2⟩, ?_, ?_⟩
      · refine Tot.cd (fun _ => ?_) (fun _ => ?_)
        · refine .by' ixs fun x hx => .by' (t64 m d x hm.gv (by have := hm.hi; omega) (by have := hm.ty; omega) (ok.decls d hd x hx)) fun m' hg => .so ⟨hm.grow hg, by show m'.f_level ≤ _; rw [hg.lvl]; exact hlv⟩
        · refine Tot.by' (Ξ := fun j => M0 j (1001 * i.toNat + k.toNat + 1) 0 ∧ j.f_level ≤ i + 1) ?_ fun j hj => .by' ixs fun _ _ => .so hj
          refine Tot.cd (fun _ => ?_) (fun _ => .so ⟨hm.mono (by omega) (Nat.le_refl _), hlv⟩)
          exact .by' ixs fun _ _ => .by' ixs fun _ _ => .by' (t65 m _ _) fun m' hm' => .so ⟨(hm.same hm'.1).mono (by omega) (Nat.le_refl _), by rw [hm'.1.lv]; exact hlv⟩
      · show 0 ≤ k + 1; omega
      · show k + 1 ≤ (d.Syms.length : Int); omega
      · show M0 j.1 (1001 * i.toNat + (k + 1).toNat) 0
        exact hj.1.mono (by omega) (Nat.le_refl _)
      · show k < k + 1; omega
      · show k + 1 ≤ (d.Syms.length : Int); omega
    · show 0 ≤ i + 1; omega
    · show i + 1 ≤ (s.Decls.length : Int); omega
    · show M0 x14.1 (1001 * (i + 1).toNat) 0
      exact h14.1.mono (by omega) (Nat.le_refl _)
    · exact h14.2
    · show i < i + 1; omega
    · show i + 1 ≤ (s.Decls.length : Int); omega
  -- what stands on the left
  refine Tot.by' (Ξ := fun r => M0 r (1001 * 1000) 1000) ?_ fun x28 h28 => ?_
  · refine Tot.count (fun z => z.2) s.Rules.length (fun z => 0 ≤ z.2 ∧ z.2 ≤ s.Rules.length ∧ M0 z.1 (1001 * 1000) z.2.toNat) ⟨Int.le_refl 0, by show (0:Int) ≤ _; omega, h5⟩ (by show (s.Rules.length : Int) - 0 < _; omega) fun z hz => ?_
    obtain ⟨m, i⟩ := z
    obtain ⟨h0, h1, hm⟩ := hz
    simp only at h0 h1 hm ⊢
    have hw : w64 (i + 1) = i + 1 := by rw [w64_eq]; omega
    rw [hw]
    refine Tot.cp (fun hlt => ?_) (fun _ => .so (hm.mono (Nat.le_refl _) (by omega)))
    have hhi := hm.hi
    have hlf := hm.lf
    refine Tot.by' (Ξ := fun j => M0 j (1001 * 1000) (i.toNat + 1)) ?_ fun j hj => .so ⟨⟨?_, ?_, ?_⟩, ?_, ?_⟩
    · refine .by' (Tot.ix (Φ := fun _ => True) h0 hlt fun y _ hy => trivial) fun r hr => .by' (t66 m _ (by simp only [big]; omega)) fun t _ => ?_
      refine Tot.by' (Ξ := fun j => M0 j (1001 * 1000) i.toNat) ?_ fun j34 h34 => ?_
      · exact Tot.cd (fun _ => .by' (t65 m _ _) fun m' hm' => .so (hm.same hm'.1)) (fun _ => .so hm)
      · have hl34 := h34.lf
        refine .by' (t67 j34 _ (by simp only [big]; omega)) fun k _ => ?_
        refine Tot.by' (Ξ := fun l => l.length ≤ i.toNat + 1) ?_ fun l hl => .so ⟨h34.gv, h34.lo, h34.hi, h34.ty, hl, h34.pr, h34.inn, h34.lvl, h34.lv⟩
        refine Tot.cd (fun _ => ?_) (fun _ => .so (by omega))
        exact .by' (Ξ := fun _ => True) (Tot.ap (by simp [lim]; omega) trivial) fun _ _ => .so (by simp; omega)
    · show 0 ≤ i + 1; omega
    · show i + 1 ≤ (s.Rules.length : Int); omega
    · show M0 j (1001 * 1000) (i + 1).toNat
      exact hj.mono (Nat.le_refl _) (by omega)
    · show i < i + 1; omega
    · show i + 1 ≤ (s.Rules.length : Int); omega
  -- types and starts
  refine Tot.by' (Ξ := fun r => M0 r (1001 * 1000) 1000) ?_ fun x42 h42 => ?_
  · refine Tot.count (fun z => z.2) s.Decls.length (fun z => 0 ≤ z.2 ∧ z.2 ≤ s.Decls.length ∧ M0 z.1 (1001 * 1000) 1000) ⟨Int.le_refl 0, by show (0:Int) ≤ _; omega, h28⟩ (by show (s.Decls.length : Int) - 0 < _; omega) fun z hz => ?_
    obtain ⟨m, i⟩ := z
    obtain ⟨h0, h1, hm⟩ := hz
    simp only at h0 h1 hm ⊢
    have hw : w64 (i + 1) = i + 1 := by rw [w64_eq]; omega
    rw [hw]
    refine Tot.cp (fun hlt => ?_) (fun _ => .so hm)
    refine Tot.by' (Ξ := fun r => M0 r (1001 * 1000) 1000) ?_ fun x46 h46 => .so ⟨⟨?_, ?_, h46⟩, ?_, ?_⟩
    · have hlt' : i.toNat < s.Decls.length := by omega
      have hi : idx s.Decls i = some s.Decls[i.toNat] := by simp [idx, h0, hlt']
      rw [hi]
      generalize hd : s.Decls[i.toNat] = d
      have hdm : d ∈ s.Decls := by rw [← hd]; exact List.getElem_mem hlt'
      have hdk := (hb.decls d hdm).n
      refine Tot.count (fun z => z.2) d.Syms.length (fun z => 0 ≤ z.2 ∧ z.2 ≤ d.Syms.length ∧ M0 z.1 (1001 * 1000) 1000) ⟨Int.le_refl 0, by show (0:Int) ≤ _; omega, hm⟩ (by show (d.Syms.length : Int) - 0 < _; omega) fun z hz => ?_
      obtain ⟨m, k⟩ := z
      obtain ⟨g0, g1, hm⟩ := hz
      simp only at g0 g1 hm ⊢
      have hwk : w64 (k + 1) = k + 1 := by rw [w64_eq]; omega
      rw [hwk]
      refine Tot.sm (Tot.cp (fun hltk => ?_) (fun _ => .so hm))
      have hlf := hm.lf
      refine Tot.by' (Ξ := fun j => M0 j (1001 * 1000) 1000) ?_ fun j hj => .so ⟨⟨?_, ?_, hj⟩, ?_, ?_⟩
      · refine Tot.sm (.by' (Tot.ix (Φ := fun _ => True) g0 hltk fun _ _ _ => trivial) fun x _ => ?_)
        refine .by' (Ξ := fun _ => True) (Tot.sm (Tot.cd (fun _ => .by' (t67 m _ (by simp only [big]; omega)) fun _ _ => .so trivial) (fun _ => .so trivial))) fun c _ => ?_
        refine Tot.by' (Ξ := fun j => M0 j (1001 * 1000) 1000) ?_ fun j hj => .so hj
        exact Tot.cd (fun _ => .by' (t65 m _ _) fun m' hm' => .so (hm.same hm'.1)) (fun _ => .so hm)
      · show 0 ≤ k + 1; omega
      · show k + 1 ≤ (d.Syms.length : Int); omega
      · show k < k + 1; omega
      · show k + 1 ≤ (d.Syms.length : Int); omega
    · show 0 ≤ i + 1; omega
    · show i + 1 ≤ (s.Decls.length : Int); omega
    · show i < i + 1; omega
    · show i + 1 ≤ (s.Decls.length : Int); omega
  -- the start
  have hpos := ok.pos
  refine Tot.by' (Ξ := fun _ => True) (Tot.cd (fun _ => .by' (Ξ := fun _ => True) (Tot.ix (by decide) (by omega) fun _ _ _ => trivial) fun _ _ => .so trivial) (fun _ => .so trivial)) fun j60 _ => ?_
  have hlf42 := h42.lf
  refine .by' (t67 x42 j60 (by simp only [big]; omega)) fun x63 h63 => ?_
  have h63' : -1 ≤ x63 ∧ x63 < x42.f_lefts.length := by rcases h63 with h | h <;> omega
  -- the alternatives
  have hL : x42.f_lefts.length ≤ 1000 := h42.lf
  generalize hLd : x42.f_lefts.length = L at hL h63'
  refine Tot.by' (Ξ := fun r => MJ r (3 + 1001 * 1000 + 1001 * 1000000) L (1001 * 1000000) (1 + 1001 * 1000000) ∧ 1 ≤ r.f_g.Prods.length) ?_ fun x65 h65p1 => ?_
  · have hmj := h42.mj
    rw [hLd] at hmj
    refine Tot.count (fun z => z.2) s.Rules.length (fun z => 0 ≤ z.2 ∧ z.2 ≤ s.Rules.length ∧ MJ z.1 (3 + 1001 * 1000 + 1001 * (1000 * z.2.toNat)) L (1001 * (1000 * z.2.toNat)) (1 + 1001 * (1000 * z.2.toNat)) ∧ 1 ≤ z.1.f_g.Prods.length) ⟨Int.le_refl 0, by show (0:Int) ≤ _; omega, ⟨hmj.gv, hmj.lo, hmj.hi, hmj.ty, hmj.lf, hmj.inn, Nat.le_refl 1, fun p hp => ?_, hmj.lvl, hmj.lv⟩, Nat.le_refl 1⟩ (by show (s.Rules.length : Int) - 0 < _; omega) fun z hz => ?_
    · rw [List.mem_singleton.1 hp]
      have hi0 := h42.inn
      have hlo := h42.lo
      refine ⟨⟨Int.le_refl 0, by show (0:Int) ≤ L + x42.f_inner; omega⟩, fun y hy => ?_, ⟨by show (-1:Int) ≤ -1; omega, by show (-1:Int) < _; omega⟩⟩
      have hy : y ∈ [w64 (1001 + x63)] := hy
      rw [List.mem_singleton.1 hy]
      have : w64 (1001 + x63) = 1001 + x63 := by rw [w64_eq]; omega
      rw [this]
      exact .inr (by show 1000 ≤ 1001 + x63 ∧ 1001 + x63 ≤ 1000 + ((L : Int) + x42.f_inner); omega)
    · obtain ⟨m, i⟩ := z
      obtain ⟨h0, h1, hm, hp1⟩ := hz
      simp only at h0 h1 hm hp1 ⊢
      have hw : w64 (i + 1) = i + 1 := by rw [w64_eq]; omega
      rw [hw]
      refine Tot.cp (fun hlt => ?_) (fun _ => .so ⟨hm.mono (by omega) (by omega) (by omega), hp1⟩)
      refine Tot.by' (Ξ := fun r => MJ r (3 + 1001 * 1000 + 1001 * (1000 * (i.toNat + 1))) L (1001 * (1000 * (i.toNat + 1))) (1 + 1001 * (1000 * (i.toNat + 1))) ∧ 1 ≤ r.f_g.Prods.length) ?_ fun x69 h69 => .so ⟨⟨?_, ?_, ?_, h69.2⟩, ?_, ?_⟩
      · have hlt' : i.toNat < s.Rules.length := by omega
        have hi : idx s.Rules i = some s.Rules[i.toNat] := by simp [idx, h0, hlt']
        rw [hi]
        generalize hd : s.Rules[i.toNat] = d
        have hdm : d ∈ s.Rules := by rw [← hd]; exact List.getElem_mem hlt'
        have hdk := (hb.rules d hdm).n
        refine Tot.count (fun z => z.2) d.Alts.length (fun z => 0 ≤ z.2 ∧ z.2 ≤ d.Alts.length ∧ MJ z.1 (3 + 1001 * 1000 + 1001 * (1000 * i.toNat + z.2.toNat)) L (1001 * (1000 * i.toNat + z.2.toNat)) (1 + 1001 * (1000 * i.toNat + z.2.toNat)) ∧ 1 ≤ z.1.f_g.Prods.length) ⟨Int.le_refl 0, by show (0:Int) ≤ _; omega, hm, hp1⟩ (by show (d.Alts.length : Int) - 0 < _; omega) fun z hz => ?_
        obtain ⟨m, k⟩ := z
        obtain ⟨g0, g1, hm, hp1⟩ := hz
        simp only at g0 g1 hm hp1 ⊢
        have hwk : w64 (k + 1) = k + 1 := by rw [w64_eq]; omega
        rw [hwk]
        refine Tot.sm (Tot.cp (fun hltk => ?_) (fun _ => .so ⟨hm.mono (by omega) (by omega) (by omega), hp1⟩))
        refine Tot.sm (Tot.sm (.by' (Tot.ix (Φ := fun y => y ∈ d.Alts) g0 hltk fun _ _ h => h) fun a ha => ?_))
        refine .by' (t68 m d.Left a hm (by omega) (by omega) (by omega) (by omega) ((hb.rules d hdm).alts a ha) (ok.rules d hdm a ha)) fun m' hm' => .so ⟨⟨?_, ?_, ?_, hm'.2⟩, ?_, ?_⟩
        · show 0 ≤ k + 1; omega
        · show k + 1 ≤ (d.Alts.length : Int); omega
        · show MJ m' (3 + 1001 * 1000 + 1001 * (1000 * i.toNat + (k + 1).toNat)) L (1001 * (1000 * i.toNat + (k + 1).toNat)) (1 + 1001 * (1000 * i.toNat + (k + 1).toNat))
          exact hm'.1.mono (by omega) (by omega) (by omega)
        · show k < k + 1; omega
        · show k + 1 ≤ (d.Alts.length : Int); omega
      · show 0 ≤ i + 1; omega
      · show i + 1 ≤ (s.Rules.length : Int); omega
      · show MJ x69 (3 + 1001 * 1000 + 1001 * (1000 * (i + 1).toNat)) L (1001 * (1000 * (i + 1).toNat)) (1 + 1001 * (1000 * (i + 1).toNat))
        exact h69.1.mono (by omega) (by omega) (by omega)
      · show i < i + 1; omega
      · show i + 1 ≤ (s.Rules.length : Int); omega
  obtain ⟨h65, h65q⟩ := h65p1
  refine Tot.cn (fun h => .so fun h' => absurd h' h) (fun he => ?_)
  have h65l := h65.lf
  have h65h := h65.hi
  have h65t := h65.ty
  have h65i := h65.inn
  have h65p := h65.prn
  -- nonterminals
  refine Tot.by' (Ξ := fun l => l.length = 1 + L) ?_ fun x79 h79 => ?_
  · refine Tot.count (fun z => z.2) x65.f_lefts.length (fun z => 0 ≤ z.2 ∧ z.2 ≤ x65.f_lefts.length ∧ z.1.length = 1 + z.2.toNat) ⟨Int.le_refl 0, by show (0:Int) ≤ _; omega, rfl⟩ (by show (x65.f_lefts.length : Int) - 0 < _; omega) fun z hz => ?_
    obtain ⟨l, i⟩ := z
    obtain ⟨h0, h1, hl⟩ := hz
    simp only at h0 h1 hl ⊢
    have hw : w64 (i + 1) = i + 1 := by rw [w64_eq]; omega
    rw [hw]
    refine Tot.cp (fun hlt => ?_) (fun _ => .so (by show l.length = 1 + L; omega))
    refine .by' (Tot.ix (Φ := fun _ => True) h0 hlt fun _ _ _ => trivial) fun x82 _ => .by' (t69 _ _ (by show x65.f_types.length ≤ _; simp only [big]; omega)) fun x83 h83 => ?_
    have h83' : x83 = -1 ∨ (0 ≤ x83 ∧ x83 < x65.f_types.length) := h83
    refine .by' (Ξ := fun _ => True) (Tot.cp (fun h => .by' (Ξ := fun _ => True) (Tot.ix h (by omega) fun _ _ _ => trivial) fun _ _ => .so trivial) (fun _ => .so trivial)) fun j84 _ => ?_
    refine .by' (Ξ := fun _ => True) (Tot.ap (by simp [lim]; omega) trivial) fun _ _ => .so ⟨⟨?_, ?_, ?_⟩, ?_, ?_⟩
    · show 0 ≤ i + 1; omega
    · show i + 1 ≤ (x65.f_lefts.length : Int); omega
    · show (l ++ [_]).length = 1 + (i + 1).toNat
      simp; omega
    · show i < i + 1; omega
    · show i + 1 ≤ (x65.f_lefts.length : Int); omega
  refine Tot.by' (Ξ := fun l => (l.length : Int) = 1 + L + x65.f_inner) ?_ fun x89 h89 => ?_
  · refine Tot.count (fun z => z.2) (x65.f_inner + 1) (fun z => 1 ≤ z.2 ∧ z.2 ≤ x65.f_inner + 1 ∧ (z.1.length : Int) = 1 + L + (z.2 - 1)) ⟨Int.le_refl 1, by show (1:Int) ≤ _; omega, by show (x79.length : Int) = 1 + L + (1 - 1); omega⟩ (by show x65.f_inner + 1 - 1 < _; omega) fun z hz => ?_
    obtain ⟨l, i⟩ := z
    obtain ⟨h0, h1, hl⟩ := hz
    simp only at h0 h1 hl ⊢
    have hw : w64 (i + 1) = i + 1 := by rw [w64_eq]; omega
    rw [hw]
    refine Tot.cp (fun hlt => ?_) (fun _ => .so (by show (l.length : Int) = 1 + L + x65.f_inner; omega))
    refine .by' (t52 i (by omega) (by omega)) fun x92 h92 => .by' (Ξ := fun _ => True) (Tot.cat (by show 1 + x92.size ≤ _; omega) trivial) fun x93 _ => ?_
    refine .by' (Ξ := fun _ => True) (Tot.ap (by simp [lim]; omega) trivial) fun _ _ => .so ⟨⟨?_, ?_, ?_⟩, ?_, ?_⟩
    · show 1 ≤ i + 1; omega
    · show i + 1 ≤ x65.f_inner + 1; omega
    · show ((l ++ [_]).length : Int) = 1 + L + (i + 1 - 1)
      simp; omega
    · show i < i + 1; omega
    · show i + 1 ≤ x65.f_inner + 1; omega
  -- numbers
  have hgv := h65.gv
  refine Tot.by' (Ξ := fun l => l.length = x65.f_g.Toks.length ∧ ∀ t ∈ l, 0 ≤ t.Level) ?_ fun x96 h96p => ?_
  · refine Tot.count (fun z => z.2.2) x65.f_g.Toks.length (fun z => 3 ≤ z.2.2 ∧ z.2.2 ≤ x65.f_g.Toks.length ∧ z.1.length = x65.f_g.Toks.length ∧ ∀ t ∈ z.1, 0 ≤ t.Level) ⟨Int.le_refl 3, by have := h65.lo; show (3:Int) ≤ _; omega, rfl, h65.lv⟩ (by show (x65.f_g.Toks.length : Int) - 3 < _; omega) fun z hz => ?_
    obtain ⟨l, n, i⟩ := z
    obtain ⟨h0, h1, hl, hv⟩ := hz
    simp only at h0 h1 hl hv ⊢
    have hw : w64 (i + 1) = i + 1 := by rw [w64_eq]; omega
    rw [hw]
    refine Tot.cp (fun hlt => ?_) (fun _ => .so ⟨hl, hv⟩)
    refine Tot.by' (Ξ := fun j => j.1.length = x65.f_g.Toks.length ∧ ∀ t ∈ j.1, 0 ≤ t.Level) ?_ fun j hj => .so ⟨⟨?_, ?_, hj⟩, ?_, ?_⟩
    · refine .by' (Tot.ix (Φ := fun _ => True) (by omega) (by rw [hgv]; omega) fun _ _ _ => trivial) fun _ _ => ?_
      refine Tot.by' (Ξ := fun j => j.1.length = x65.f_g.Toks.length ∧ ∀ t ∈ j.1, 0 ≤ t.Level) ?_ fun j hj => .so hj
      refine Tot.cd (fun _ => ?_) (fun _ => .so ⟨hl, hv⟩)
      refine .by' (Tot.ix (Φ := fun y => y ∈ l) (by omega) hlt fun _ _ h => h) fun y hy => .so ⟨by show (l.set _ _).length = _; simp [hl], fun t ht => ?_⟩
      rcases mem_set2 ht with ht | rfl
      · exact hv t ht
      · exact (hv y hy : 0 ≤ y.Level)
    · show 3 ≤ i + 1; omega
    · show i + 1 ≤ (x65.f_g.Toks.length : Int); omega
    · show i < i + 1; omega
    · show i + 1 ≤ (x65.f_g.Toks.length : Int); omega
  -- limits
  obtain ⟨h96, h96v⟩ := h96p
  refine Tot.by' (Ξ := fun c => c = false → x96.length ≤ 40 ∧ x89.length ≤ 24 ∧ x65.f_g.Prods.length ≤ 60) ?_ fun c106 h106 => ?_
  · refine Tot.cp (fun _ => .so fun h => by cases h) (fun h1 => Tot.cp (fun _ => .so fun h => by cases h) (fun h2 => .so fun h => ?_))
    have h3 := of_decide_eq_false h
    omega
  refine Tot.by' (Ξ := fun c => c = false → c106 = false ∧ ∀ p ∈ x65.f_g.Prods, p.Right.length ≤ 8) ?_ fun x108 h108 => ?_
  · refine Tot.count (fun z => z.2) x65.f_g.Prods.length (fun z => 0 ≤ z.2 ∧ z.2 ≤ x65.f_g.Prods.length ∧ (z.1 = false → c106 = false ∧ ∀ (j : Nat) (p : Prod), (j : Int) < z.2 → x65.f_g.Prods[j]? = some p → p.Right.length ≤ 8)) ⟨Int.le_refl 0, by show (0:Int) ≤ _; omega, fun h => ⟨h, fun j p hj => by have hj : (j : Int) < 0 := hj; omega⟩⟩ (by show (x65.f_g.Prods.length : Int) - 0 < _; omega) fun z hz => ?_
    obtain ⟨c, i⟩ := z
    obtain ⟨h0, h1, hl⟩ := hz
    simp only at h0 h1 hl ⊢
    have hw : w64 (i + 1) = i + 1 := by rw [w64_eq]; omega
    rw [hw]
    refine Tot.cp (fun hlt => ?_) (fun hge => .so fun h => ⟨(hl h).1, fun p hp => ?_⟩)
    · refine Tot.by' (Ξ := fun c' => c' = false → c = false ∧ ∀ p, x65.f_g.Prods[i.toNat]? = some p → p.Right.length ≤ 8) ?_ fun c' hc' => .so ⟨⟨?_, ?_, fun h => ?_⟩, ?_, ?_⟩
      · refine Tot.cd (fun _ => .so fun h => by cases h) (fun hcf => .by' (Tot.ix (Φ := fun y => idx x65.f_g.Prods i = some y) h0 hlt fun _ h _ => h) fun y hy => .so fun h => ⟨hcf, fun p hp => ?_⟩)
        have h2 := (idx_spec hy).2.2
        rw [hp] at h2; cases h2
        have := of_decide_eq_false h
        omega
      · show 0 ≤ i + 1; omega
      · show i + 1 ≤ (x65.f_g.Prods.length : Int); omega
      · obtain ⟨a1, a2⟩ := hc' h
        obtain ⟨b1, b2⟩ := hl a1
        refine ⟨b1, fun j p hj hp => ?_⟩
        have hj : (j : Int) < i + 1 := hj
        by_cases hji : (j : Int) < i
        · exact b2 j p hji hp
        · have : j = i.toNat := by omega
          subst this
          exact a2 p hp
      · show i < i + 1; omega
      · show i + 1 ≤ (x65.f_g.Prods.length : Int); omega
    · obtain ⟨j, hj, rfl⟩ := List.mem_iff_getElem.1 hp
      exact (hl h).2 j _ (by omega) (List.getElem?_eq_getElem hj)
  refine Tot.cd (fun _ => .so fun h => absurd h (by decide)) (fun hc => .so fun _ => ?_)
  obtain ⟨a1, a2⟩ := h108 hc
  obtain ⟨b1, b2, b3⟩ := h106 a1
  have hlo := h65.lo
  refine ⟨⟨?_, b1⟩, ⟨?_, b2⟩, ⟨h65q, b3⟩, fun p hp => ?_, a2, h96v⟩
  · show 3 ≤ x96.length; omega
  · show 1 ≤ x89.length; omega
  · have := h65.pr p hp
    exact this.mono (by show _ ≤ x96.length; omega) (by show (L : Int) + x65.f_inner ≤ ((x89.length : Nat) : Int) - 1; omega)
end Go.Proofs
namespace Go.Proofs
open Go Go.Own
set_option maxRecDepth 100000
set_option linter.unusedVariables false
theorem cutS_le (s : ByteArray) (m n : Int) (h : 0 ≤ m ∧ m ≤ n ∧ n ≤ s.size) : (cutS s m n).size ≤ (n - m).toNat := by
  unfold cutS
  simp [ByteArray.size_extract]
  omega
theorem t27 (s : ByteArray) (n : Int) (h0 : 0 ≤ n) : Tot (pf27 s n) fun t => (t.size : Int) ≤ n := by
  unfold pf27
  refine Tot.cp (fun h => ?_) (fun h => .so (by omega))
  refine .by' (Ξ := fun t => (t.size : Int) ≤ n) (Tot.cut (by omega) ?_) fun t ht => .so ht
  have := cutS_le s 0 n (by omega)
  omega
theorem t45 (x : Sym) : Tot (pf45 x) fun y => y.Name.size ≤ big := by
  unfold pf45
  refine .by' (t27 _ 25 (by decide)) fun t ht => .so ?_
  show t.size ≤ 1000000000000; omega
theorem Tot.make {β : Type} {f : List β × Int → Option ((List β × Int) ⊕ List β)} (n : Int) (P : β → Prop) (hn : 0 ≤ n ∧ n ≤ 1000000)
    (hs : ∀ (l : List β) (i : Int), 0 ≤ i → i ≤ n → (l.length : Int) = i → (∀ y ∈ l, P y) → Tot (f (l, i)) (LR (fun s' => i < n ∧ s'.2 = i + 1 ∧ ∃ y, s'.1 = l ++ [y] ∧ P y) (fun r => r = l))) :
    Tot (loopM f ([], 0)) fun l => (l.length : Int) ≤ n ∧ ∀ y ∈ l, P y := by
  refine Tot.count (fun s => s.2) n (fun s => 0 ≤ s.2 ∧ s.2 ≤ n ∧ (s.1.length : Int) = s.2 ∧ ∀ y ∈ s.1, P y) ⟨Int.le_refl 0, hn.1, rfl, by simp⟩ (by show n - 0 < _; omega) fun s hI => ?_
  obtain ⟨l, i⟩ := s
  obtain ⟨h0, h1, h2, h3⟩ := hI
  refine (hs l i h0 h1 h2 h3).use fun x hx => ?_
  rcases x with s' | r
  · obtain ⟨a1, a2, y, a3, a4⟩ := hx
    refine ⟨⟨by rw [a2]; omega, by rw [a2]; omega, by rw [a2, a3]; simp at h2 ⊢; omega, fun z hz => ?_⟩, by show i < s'.2; rw [a2]; omega, by rw [a2]; omega⟩
    rw [a3] at hz
    rcases List.mem_append.1 hz with hz | hz
    · exact h3 z hz
    · rw [List.mem_singleton.1 hz]; exact a4
  · have : r = l := hx
    subst this
    exact ⟨by simp at h2; omega, h3⟩
theorem t16 (s : Source) : Tot (pf16 s) SrcB := by
  unfold pf16
  refine .by' (t27 s.Pro 40 (by decide)) fun x1 h1 => .by' (t27 s.Tail 40 (by decide)) fun x2 h2 => ?_
  refine .by' (Tot.make 8 DeclB (by decide) fun l i h0 hin hl hP => ?_) fun x4 h4 => ?_
  · refine .by' (Ξ := fun c => c = true → i < s.Decls.length ∧ i < 8) (Tot.cp (fun h => .so fun h2 => ⟨h, of_decide_eq_true h2⟩) (fun _ => .so fun h => by cases h)) fun c hc => Tot.cd (fun hc1 => ?_) (fun _ => .so rfl)
    obtain ⟨hi, hi8⟩ := hc hc1
    have hlt' : i.toNat < s.Decls.length := by omega
    have hidx : idx s.Decls i = some s.Decls[i.toNat] := by simp [idx, h0, hlt']
    rw [hidx]
    generalize s.Decls[i.toNat] = d
    have hw : w64 (i + 1) = i + 1 := by rw [w64_eq]; omega
    refine Tot.sm (Tot.sm (.by' (t27 d.Tag 25 (by decide)) fun x11 h11 => Tot.sm ?_))
    refine .by' (Tot.make 6 (fun x => x.Name.size ≤ big) (by decide) fun l' k g0 gin gl gP => ?_) fun x14 h14 => ?_
    · refine .by' (Ξ := fun c => c = true → k < d.Syms.length ∧ k < 6) (Tot.sm (Tot.cp (fun h => .so fun h2 => ⟨h, of_decide_eq_true h2⟩) (fun _ => .so fun h => by cases h))) fun c hc => Tot.cd (fun hc1 => ?_) (fun _ => .so rfl)
      obtain ⟨hk, hk6⟩ := hc hc1
      refine Tot.sm (.by' (Tot.ix (Φ := fun _ => True) g0 hk fun _ _ _ => trivial) fun x21 _ => .by' (t45 x21) fun x22 h22 => .by' (Ξ := fun _ => True) (Tot.ap (by simp [lim]; omega) trivial) fun _ _ => .so ⟨hk6, ?_, _, rfl, h22⟩)
      show w64 (k + 1) = k + 1; rw [w64_eq]; omega
    · refine .by' (Ξ := fun _ => True) (Tot.ap (by simp [lim]; omega) trivial) fun _ _ => .so ⟨hi8, hw, _, rfl, ⟨?_, ?_, h14.2⟩⟩
      · show x11.size ≤ 1000000000000; omega
      · have := h14.1; show x14.length ≤ 1000; omega
  · refine .by' (Tot.make 6 RuleB (by decide) fun l i h0 hin hl hP => ?_) fun x26 h26 => .so ⟨?_, ?_, h4.2, ?_, h26.2⟩
    · refine .by' (Ξ := fun c => c = true → i < s.Rules.length ∧ i < 6) (Tot.cp (fun h => .so fun h2 => ⟨h, of_decide_eq_true h2⟩) (fun _ => .so fun h => by cases h)) fun c hc => Tot.cd (fun hc1 => ?_) (fun _ => .so rfl)
      obtain ⟨hi, hi8⟩ := hc hc1
      have hlt' : i.toNat < s.Rules.length := by omega
      have hidx : idx s.Rules i = some s.Rules[i.toNat] := by simp [idx, h0, hlt']
      rw [hidx]
      generalize s.Rules[i.toNat] = d
      have hw : w64 (i + 1) = i + 1 := by rw [w64_eq]; omega
      refine Tot.sm (.by' (t27 d.Left 25 (by decide)) fun x32 h32 => Tot.sm ?_)
      refine .by' (Tot.make 5 AltB (by decide) fun l' k g0 gin gl gP => ?_) fun x35 h35 => ?_
      · refine .by' (Ξ := fun c => c = true → k < d.Alts.length ∧ k < 5) (Tot.sm (Tot.cp (fun h => .so fun h2 => ⟨h, of_decide_eq_true h2⟩) (fun _ => .so fun h => by cases h))) fun c hc => Tot.cd (fun hc1 => ?_) (fun _ => .so rfl)
        obtain ⟨hk, hk6⟩ := hc hc1
        have hkt' : k.toNat < d.Alts.length := by omega
        have hkdx : idx d.Alts k = some d.Alts[k.toNat] := by simp [idx, g0, hkt']
        simp only [Option.bind_some, hkdx]
        generalize d.Alts[k.toNat] = a
        have hwk : w64 (k + 1) = k + 1 := by rw [w64_eq]; omega
        refine .by' (t45 a.Prec) fun x43 h43 => ?_
        refine .by' (Tot.make 6 (fun p => p.Sym.Name.size ≤ big ∧ p.Code.size ≤ big) (by decide) fun l2 j e0 ein el eP => ?_) fun x47 h47 => ?_
        · refine .by' (Ξ := fun c => c = true → j < a.Parts.length ∧ j < 6) (Tot.cp (fun h => .so fun h2 => ⟨h, of_decide_eq_true h2⟩) (fun _ => .so fun h => by cases h)) fun c hc => Tot.cd (fun hc1 => ?_) (fun _ => .so rfl)
          obtain ⟨hj, hj6⟩ := hc hc1
          refine .by' (Tot.ix (Φ := fun _ => True) e0 hj fun _ _ _ => trivial) fun x56 _ => .by' (t45 x56.Sym) fun x57 h57 => .by' (t27 x56.Code 60 (by decide)) fun x58 h58 => .by' (Ξ := fun _ => True) (Tot.ap (by simp [lim]; omega) trivial) fun _ _ => .so ⟨hj6, ?_, _, rfl, h57, ?_⟩
          · show w64 (j + 1) = j + 1; rw [w64_eq]; omega
          · show x58.size ≤ 1000000000000; omega
        · refine .by' (Ξ := fun _ => True) (Tot.ap (by simp [lim]; omega) trivial) fun _ _ => .so ⟨hk6, hwk, _, rfl, ⟨?_, h47.2, h43⟩⟩
          have := h47.1; show x47.length ≤ 1000; omega
      · refine .by' (Ξ := fun _ => True) (Tot.ap (by simp [lim]; omega) trivial) fun _ _ => .so ⟨hi8, hw, _, rfl, ⟨?_, ?_, h35.2⟩⟩
        · show x32.size ≤ 1000000000000; omega
        · have := h35.1; show x35.length ≤ 1000; omega
    · show x1.size ≤ 1000000000000; omega
    · have := h4.1; show x4.length ≤ 1000; omega
    · have := h26.1; show x26.length ≤ 1000; omega
end Go.Proofs
namespace Go.Proofs
open Go Go.Own
set_option maxRecDepth 100000
set_option linter.unusedVariables false
theorem t25 (a n : Int) (h : 0 < n) (hn : n ≤ 9223372036854775807) : Tot (pf25 a n) fun r => 0 ≤ r ∧ r < n := by
  unfold pf25
  have h1 : -n < a.tmod n := by
    by_cases ha : 0 ≤ a
    · have := Int.tmod_nonneg n ha; omega
    · have h2 : (-a).tmod n < n := Int.tmod_lt_of_pos _ h
      rw [Int.neg_tmod] at h2
      omega
  have h2 : a.tmod n < n := Int.tmod_lt_of_pos a h
  refine .by' (Ξ := fun x => x = a.tmod n) (Tot.rem (by omega) rfl) fun x hx => ?_
  subst hx
  refine Tot.by' (Ξ := fun r => 0 ≤ r ∧ r < n) (Tot.cp (fun h3 => .so ?_) (fun h3 => .so (by omega))) fun r hr => .so hr
  rw [w64_eq]; omega
theorem t49 (k : Int) (h : 0 ≤ k) : Tot (pf49 k) fun x => x.Name.size = 1 ∧ x.Lit = true ∧ x.Num = 0 := by
  unfold pf49
  refine .by' (Ξ := fun x => x.size = 4) (.so rfl) fun x1 h1 => .by' (Ξ := fun r => r = k.tmod 4) (Tot.rem (by decide) rfl) fun x2 h2 => .by' (Ξ := fun r => r = k.tmod 4) (Tot.rem (by decide) rfl) fun x3 h3 => ?_
  subst h2 h3
  have e : k.tmod 4 = k % 4 := Int.tmod_eq_emod_of_nonneg h
  rw [e]
  have hw : w64 (k % 4 + 1) = k % 4 + 1 := by rw [w64_eq]; omega
  rw [hw]
  refine .by' (Ξ := fun x => x.size = 1) (Tot.cut (by rw [h1]; omega) ?_) fun x4 h4 => .so ⟨h4, rfl, rfl⟩
  have := cutS_size (s := x1) (m := k % 4) (n := k % 4 + 1) (by rw [h1]; omega)
  omega
theorem t47 (k : Int) : Tot (pf47 k) fun x => x.size = 1 := by
  unfold pf47
  exact .so (by rw [size_nums]; rfl)
theorem t48 (k n : Int) (h : 0 < n) (hn : n ≤ 100) : Tot (pf48 k n) fun x => x.Name.size ≤ 5 := by
  unfold pf48
  refine .by' (t25 k 14 (by decide) (by decide)) fun x1 h1 => Tot.cp (fun h5 => ?_) (fun h5 => Tot.cd (fun _ => .so ?_) (fun _ => ?_))
  · refine .by' (Ξ := fun _ => True) (Tot.rem (by omega) trivial) fun x3 _ => .by' (t47 x3) fun x4 h4 => .so ?_
    show x4.size ≤ 5; omega
  · show (5 : Nat) ≤ 5; omega
  · refine .by' (t49 _ ?_) fun x hx => .so (by omega)
    rw [w64_eq]; omega
structure DclB (n : Nat) (d : Decl) : Prop where
  tag : d.Tag.size = 0
  n : d.Syms.length ≤ n
  syms : ∀ x ∈ d.Syms, x.Name.size ≤ big
theorem t46 (l : List Int) : Tot (pf46 l) fun r => r.length ≤ 4 ∧ ∀ d ∈ r, DclB 10 d := by
  unfold pf46
  refine Tot.by' (Ξ := fun r => r.length ≤ 4 ∧ ∀ d ∈ r, DclB 10 d) ?_ fun r hr => .so hr
  refine Tot.count (fun s => s.2) 4 (fun s => 0 ≤ s.2 ∧ s.2 ≤ 4 ∧ s.1.length ≤ s.2.toNat ∧ ∀ d ∈ s.1, DclB (1 + s.2.toNat) d) ⟨Int.le_refl 0, by decide, Nat.le_refl 0, fun d hd => absurd hd (by simp)⟩ (by decide) fun s hs => ?_
  obtain ⟨r, i⟩ := s
  obtain ⟨h0, h4, hl, hd⟩ := hs
  simp only at h0 h4 hl hd ⊢
  have hw : w64 (i + 1) = i + 1 := by rw [w64_eq]; omega
  rw [hw]
  refine .by' (Ξ := fun c => c = true → i < l.length ∧ i < 4) (Tot.cp (fun h => .so fun h2 => ⟨h, of_decide_eq_true h2⟩) (fun _ => .so fun h => by cases h)) fun c hc => Tot.cd (fun hc1 => ?_) (fun _ => .so ⟨by omega, fun d hdm => ⟨(hd d hdm).tag, by have := (hd d hdm).n; omega, (hd d hdm).syms⟩⟩)
  obtain ⟨hi, hi4⟩ := hc hc1
  refine Tot.by' (Ξ := fun j => j.length ≤ i.toNat + 1 ∧ ∀ d ∈ j, DclB (1 + (i.toNat + 1)) d) ?_ fun j hj => .so ⟨⟨?_, ?_, ?_, ?_⟩, ?_, ?_⟩
  · refine .by' (Tot.ix (Φ := fun _ => True) h0 hi fun _ _ _ => trivial) fun x8 _ => .by' (t25 x8 8 (by decide) (by decide)) fun x9 h9 => .by' (Ξ := fun _ => True) (Tot.rem (by decide) trivial) fun x10 _ => ?_
    have hd' : ∀ d ∈ r, DclB (1 + (i.toNat + 1)) d := fun d hdm => ⟨(hd d hdm).tag, by have := (hd d hdm).n; omega, (hd d hdm).syms⟩
    refine Tot.cd (fun _ => .so ⟨by omega, hd'⟩) (fun _ => ?_)
    refine .by' (Ξ := fun c => c = true → 0 < (r.length : Int)) (Tot.cd (fun _ => .so fun h => of_decide_eq_true h) (fun _ => .so fun h => by cases h)) fun c hc => Tot.cd (fun hc2 => ?_) (fun _ => ?_)
    · have hpos := hc hc2
      have hwl : w64 ((r.length : Int) - 1) = (r.length : Int) - 1 := by rw [w64_eq]; omega
      rw [hwl]
      refine .by' (Tot.ix (Φ := fun y => y ∈ r) (by omega) (by omega) fun _ _ h => h) fun d hdm => .by' (t49 i h0) fun x hx => .by' (Ξ := fun _ => True) (Tot.ap (by have := (hd d hdm).n; simp [lim]; omega) trivial) fun _ _ => .so ⟨by simp; omega, fun d' hd2 => ?_⟩
      rcases mem_set2 hd2 with h | rfl
      · exact hd' d' h
      · refine ⟨(hd d hdm).tag, ?_, fun y hy => ?_⟩
        · have := (hd d hdm).n; show (d.Syms ++ [x]).length ≤ _; simp; omega
        · rcases List.mem_append.1 hy with hy | hy
          · exact (hd d hdm).syms y hy
          · rw [List.mem_singleton.1 hy, hx.1]; decide
    · refine .by' (Ξ := fun _ => True) (Tot.rem (by decide) trivial) fun x18 _ => .by' (t49 i h0) fun x hx => .by' (Ξ := fun _ => True) (Tot.ap (by simp [lim]; omega) trivial) fun _ _ => .so ⟨by simp; omega, fun d' hd2 => ?_⟩
      rcases List.mem_append.1 hd2 with h | h
      · exact hd' d' h
      · rw [List.mem_singleton.1 h]
        refine ⟨rfl, by show 1 ≤ _; omega, fun y hy => ?_⟩
        have hy : y ∈ [x] := hy
        rw [List.mem_singleton.1 hy, hx.1]; decide
  · show 0 ≤ i + 1; omega
  · show i + 1 ≤ 4; omega
  · show j.length ≤ (i + 1).toNat; omega
  · intro d hdm
    have e : (i + 1).toNat = i.toNat + 1 := by omega
    show DclB (1 + (i + 1).toNat) d
    rw [e]; exact hj.2 d hdm
  · show i < i + 1; omega
  · show i + 1 ≤ 4; omega
structure RlB (n : Nat) (r : Rule) : Prop where
  left : r.Left.size ≤ big
  n : r.Alts.length ≤ n
  alts : ∀ a ∈ r.Alts, AltB a
theorem RlB.mono {n m : Nat} {r : Rule} (h : RlB n r) (hm : n ≤ m) : RlB m r := ⟨h.left, Nat.le_trans h.n hm, h.alts⟩
theorem RlB.add {n : Nat} {r : Rule} {a : Alt} (h : RlB n r) (ha : AltB a) : RlB (n + 1) (⟨r.Left, r.Alts ++ [a], r.At⟩ : Rule) := by
  refine ⟨h.left, by have := h.n; show (r.Alts ++ [a]).length ≤ _; simp; omega, fun b hb => ?_⟩
  rcases List.mem_append.1 hb with hb | hb
  · exact h.alts b hb
  · rw [List.mem_singleton.1 hb]; exact ha
theorem all_set {l : List Rule} {i n : Nat} {r : Rule} (h : ∀ x ∈ l, RlB n x) (hr : RlB n r) : ∀ x ∈ l.set i r, RlB n x := fun x hx => by
  rcases mem_set2 hx with h' | rfl
  · exact h x h'
  · exact hr
theorem t17 (x : yuccalaw0_Gr) : Tot (pf17 x) SrcB := by
  unfold pf17
  refine .by' (t25 x.Nons 4 (by decide) (by decide)) fun x1 h1 => .by' (t46 x.Levels) fun x2 h2 => ?_
  have hw1 : w64 (1 + x1) = 1 + x1 := by rw [w64_eq]; omega
  rw [hw1]
  refine .by' (Ξ := fun l => l = List.replicate (1 + x1).toNat false) (Tot.mk (by simp [lim]; omega) rfl) fun x3 h3 => ?_
  have h3l : x3.length = (1 + x1).toNat := by rw [h3]; simp
  refine Tot.by' (Ξ := fun l => (l.length : Int) = 1 + x1 ∧ ∀ r ∈ l, RlB 0 r) ?_ fun x5 h5 => ?_
  · refine Tot.count (fun s => s.2) (1 + x1) (fun s => 0 ≤ s.2 ∧ s.2 ≤ 1 + x1 ∧ (s.1.length : Int) = s.2 ∧ ∀ r ∈ s.1, RlB 0 r) ⟨Int.le_refl 0, by show 0 ≤ 1 + x1; omega, rfl, fun d hd => absurd hd (by simp)⟩ (by show 1 + x1 - 0 < _; omega) fun s hs => ?_
    obtain ⟨l, i⟩ := s
    obtain ⟨g0, g1, hl, hP⟩ := hs
    simp only at g0 g1 hl hP ⊢
    have hw : w64 (i + 1) = i + 1 := by rw [w64_eq]; omega
    rw [hw]
    refine Tot.cp (fun hlt => ?_) (fun _ => .so ⟨by omega, hP⟩)
    refine .by' (t47 i) fun x8 h8 => .by' (Ξ := fun _ => True) (Tot.ap (by simp [lim]; omega) trivial) fun _ _ => .so ⟨⟨?_, ?_, ?_, fun r hr => ?_⟩, ?_, ?_⟩
    · show 0 ≤ i + 1; omega
    · show i + 1 ≤ 1 + x1; omega
    · show ((l ++ [_]).length : Int) = i + 1
      simp; omega
    · rcases List.mem_append.1 hr with hr | hr
      · exact hP r hr
      · rw [List.mem_singleton.1 hr]
        exact ⟨by show x8.size ≤ _; rw [h8]; decide, Nat.le_refl 0, fun a ha => absurd ha (by simp)⟩
    · show i < i + 1; omega
    · show i + 1 ≤ 1 + x1; omega
  refine Tot.by' (Ξ := fun r => (r.1.length : Int) = 1 + x1 ∧ (r.2.length : Int) = 1 + x1 ∧ ∀ y ∈ r.1, RlB 9 y) ?_ fun x11 h11 => ?_
  · refine Tot.count (fun s => s.2.2) 9 (fun s => 0 ≤ s.2.2 ∧ s.2.2 ≤ 9 ∧ (s.1.length : Int) = 1 + x1 ∧ (s.2.1.length : Int) = 1 + x1 ∧ ∀ y ∈ s.1, RlB s.2.2.toNat y) ⟨Int.le_refl 0, by show (0:Int) ≤ 9; decide, h5.1, by show (x3.length : Int) = _; omega, h5.2⟩ (by show (9:Int) - 0 < _; decide) fun s hs => ?_
    obtain ⟨l, hb, i⟩ := s
    obtain ⟨g0, g1, hl, hhb, hP⟩ := hs
    simp only at g0 g1 hl hhb hP ⊢
    have hw : w64 (i + 1) = i + 1 := by rw [w64_eq]; omega
    rw [hw]
    refine .by' (Ξ := fun c => c = true → i < x.Rules.length ∧ i < 9) (Tot.cp (fun h => .so fun h2 => ⟨h, of_decide_eq_true h2⟩) (fun _ => .so fun h => by cases h)) fun c hc => Tot.cd (fun hc1 => ?_) (fun _ => .so ⟨hl, hhb, fun y hy => (hP y hy).mono (by omega)⟩)
    obtain ⟨hi, hi9⟩ := hc hc1
    have hlt' : i.toNat < x.Rules.length := by omega
    have hidx : idx x.Rules i = some x.Rules[i.toNat] := by simp [idx, g0, hlt']
    rw [hidx]
    generalize x.Rules[i.toNat] = d
    have hP' : ∀ y ∈ l, RlB (i.toNat + 1) y := fun y hy => (hP y hy).mono (by omega)
    refine Tot.by' (Ξ := fun j => (j.1.length : Int) = 1 + x1 ∧ (j.2.length : Int) = 1 + x1 ∧ ∀ y ∈ j.1, RlB (i.toNat + 1) y) ?_ fun j hj => .so ⟨⟨?_, ?_, hj.1, hj.2.1, ?_⟩, ?_, ?_⟩
    · refine Tot.sm (Tot.cp (fun _ => .so ⟨hl, hhb, hP'⟩) (fun hne => Tot.sm ?_))
      refine .by' (Tot.ix (Φ := fun _ => True) (by decide) (by omega) fun _ _ _ => trivial) fun x20 _ => .by' (t25 x20 (1 + x1) (by omega) (by omega)) fun x21 h21 => ?_
      have bx : ∀ c : ByteArray, c.size ≤ big → ((⟨(⟨{ data := #[] }, false, 0, 0⟩ : Sym), c, 0⟩ : Part).Sym.Name.size ≤ big ∧ (⟨(⟨{ data := #[] }, false, 0, 0⟩ : Sym), c, 0⟩ : Part).Code.size ≤ big) := fun c hc => ⟨by show 0 ≤ _; exact Nat.zero_le _, hc⟩
      refine Tot.by' (Ξ := fun r => r.1.length ≤ 10 ∧ ∀ p ∈ r.1, p.Sym.Name.size ≤ big ∧ p.Code.size ≤ big) ?_ fun x23 h23 => ?_
      · refine Tot.count (fun s => s.2.2) 5 (fun s => 1 ≤ s.2.2 ∧ s.2.2 ≤ 5 ∧ (s.1.length : Int) ≤ 2 * (s.2.2 - 1) ∧ ∀ p ∈ s.1, p.Sym.Name.size ≤ big ∧ p.Code.size ≤ big) ⟨Int.le_refl 1, by decide, by decide, fun p hp => absurd hp (by simp)⟩ (by decide) fun s hs => ?_
        obtain ⟨ps, pl, k⟩ := s
        obtain ⟨k0, k1, kl, kP⟩ := hs
        simp only at k0 k1 kl kP ⊢
        have hwk : w64 (k + 1) = k + 1 := by rw [w64_eq]; omega
        rw [hwk]
        refine .by' (Ξ := fun c => c = true → k < d.length ∧ k < 5) (Tot.sm (Tot.cp (fun h => .so fun h2 => ⟨h, of_decide_eq_true h2⟩) (fun _ => .so fun h => by cases h))) fun c hc => Tot.cd (fun hc1 => ?_) (fun _ => .so ⟨by show ps.length ≤ 10; omega, kP⟩)
        obtain ⟨hk, hk5⟩ := hc hc1
        refine Tot.by' (Ξ := fun j => (j.1.length : Int) ≤ 2 * k ∧ ∀ p ∈ j.1, p.Sym.Name.size ≤ big ∧ p.Code.size ≤ big) ?_ fun j hj => .so ⟨⟨?_, ?_, ?_, hj.2⟩, ?_, ?_⟩
        · refine Tot.sm (.by' (Tot.ix (Φ := fun _ => True) (by omega) hk fun _ _ _ => trivial) fun x31 _ => .by' (t48 x31 (1 + x1) (by omega) (by omega)) fun x32 h32 => ?_)
          refine .by' (Ξ := fun _ => True) (Tot.cd (fun _ => Tot.cd (fun _ => .so trivial) (fun _ => .so trivial)) (fun _ => .so trivial)) fun _ _ => .by' (Ξ := fun _ => True) (Tot.ap (by simp [lim]; omega) trivial) fun _ _ => ?_
          have hq : ∀ p ∈ ps ++ [(⟨x32, { data := #[] }, 0⟩ : Part)], p.Sym.Name.size ≤ big ∧ p.Code.size ≤ big := fun p hp => by
            rcases List.mem_append.1 hp with hp | hp
            · exact kP p hp
            · rw [List.mem_singleton.1 hp]
              exact ⟨by show x32.Name.size ≤ 1000000000000; omega, Nat.zero_le _⟩
          refine .by' (Ξ := fun _ => True) ?_ fun c41 _ => ?_
          · refine Tot.cp (fun h => Tot.cd (fun _ => .by' (Tot.ix (Φ := fun _ => True) g0 h fun _ _ _ => trivial) fun _ _ => .by' (Ξ := fun _ => True) (Tot.rem (by decide) trivial) fun _ _ => .so trivial) (fun _ => .so trivial)) (fun _ => .so trivial)
          · refine Tot.by' (Ξ := fun l => (l.length : Int) ≤ 2 * k ∧ ∀ p ∈ l, p.Sym.Name.size ≤ big ∧ p.Code.size ≤ big) ?_ fun j hj => .so hj
            refine Tot.cd (fun _ => ?_) (fun _ => .so ⟨by simp; omega, hq⟩)
            refine .by' (Ξ := fun _ => True) (Tot.ap (by simp [lim]; omega) trivial) fun _ _ => .so ⟨by simp; omega, fun p hp => ?_⟩
            rcases List.mem_append.1 hp with hp | hp
            · exact hq p hp
            · rw [List.mem_singleton.1 hp]; exact bx _ (by decide)
        · show 1 ≤ k + 1; omega
        · show k + 1 ≤ 5; omega
        · show (j.1.length : Int) ≤ 2 * (k + 1 - 1); omega
        · show k < k + 1; omega
        · show k + 1 ≤ 5; omega
      · refine .by' (Ξ := fun _ => True) (Tot.cp (fun h => .by' (Tot.ix (Φ := fun _ => True) g0 h fun _ _ _ => trivial) fun _ _ => .by' (Ξ := fun _ => True) (Tot.rem (by decide) trivial) fun _ _ => .so trivial) (fun _ => .so trivial)) fun c48 _ => ?_
        refine Tot.by' (Ξ := fun l => l.length ≤ 20 ∧ ∀ p ∈ l, p.Sym.Name.size ≤ big ∧ p.Code.size ≤ big) ?_ fun j49 h49 => ?_
        · refine Tot.cd (fun _ => ?_) (fun _ => .so ⟨by omega, h23.2⟩)
          refine .by' (Ξ := fun _ => True) (Tot.ap (by simp [lim]; omega) trivial) fun _ _ => .so ⟨by simp; omega, fun p hp => ?_⟩
          rcases List.mem_append.1 hp with hp | hp
          · exact h23.2 p hp
          · rw [List.mem_singleton.1 hp]; exact bx _ (by decide)
        · refine Tot.by' (Ξ := fun l => (l.length : Int) = 1 + x1) ?_ fun c54 h54 => ?_
          · refine .by' (Tot.ix (Φ := fun _ => True) h21.1 (by omega) fun _ _ _ => trivial) fun _ _ => Tot.cd (fun _ => .so (by simp; omega)) (fun _ => .so (by simp; omega))
          · refine .by' (Tot.ix (Φ := fun y => y ∈ l) h21.1 (by omega) fun _ _ h => h) fun x55 h55 => ?_
            have hx55 := hP x55 h55
            refine .by' (Ξ := fun _ => True) (Tot.ap (by have := hx55.n; simp [lim]; omega) trivial) fun _ _ => .so ⟨by show ((l.set _ _).length : Int) = _; simp; omega, h54, all_set hP' (hx55.add ⟨by show j49.length ≤ _; omega, h49.2, Nat.zero_le _⟩)⟩
    · show 0 ≤ i + 1; omega
    · show i + 1 ≤ 9; omega
    · intro y hy
      have e : (i + 1).toNat = i.toNat + 1 := by omega
      show RlB (i + 1).toNat y
      rw [e]; exact hj.2.2 y hy
    · show i < i + 1; omega
    · show i + 1 ≤ 9; omega
  refine Tot.by' (Ξ := fun l => (l.length : Int) = 1 + x1 ∧ ∀ y ∈ l, RlB 20 y) ?_ fun x58 h58 => .so ⟨Nat.zero_le _, ?_, fun d hd => ?_, ?_, fun r hr => ?_⟩
  · refine Tot.count (fun s => s.2) (1 + x1) (fun s => 0 ≤ s.2 ∧ s.2 ≤ 1 + x1 ∧ (s.1.length : Int) = 1 + x1 ∧ ∀ y ∈ s.1, RlB (9 + s.2.toNat) y) ⟨Int.le_refl 0, by show 0 ≤ 1 + x1; omega, h11.1, h11.2.2⟩ (by show 1 + x1 - 0 < _; omega) fun s hs => ?_
    obtain ⟨l, i⟩ := s
    obtain ⟨g0, g1, hl, hP⟩ := hs
    simp only at g0 g1 hl hP ⊢
    have hw : w64 (i + 1) = i + 1 := by rw [w64_eq]; omega
    rw [hw]
    refine Tot.cp (fun hlt => ?_) (fun _ => .so ⟨hl, fun y hy => (hP y hy).mono (by omega)⟩)
    refine Tot.by' (Ξ := fun l => (l.length : Int) = 1 + x1 ∧ ∀ y ∈ l, RlB (9 + i.toNat + 1) y) ?_ fun j hj => .so ⟨⟨?_, ?_, hj.1, ?_⟩, ?_, ?_⟩
    · refine .by' (Ξ := fun _ => True) ?_ fun c66 _ => ?_
      · refine .by' (Tot.ix (Φ := fun _ => True) g0 (by omega) fun _ _ _ => trivial) fun x62 _ => Tot.cd (fun _ => .so trivial) (fun _ => .by' (Tot.ix (Φ := fun _ => True) g0 (by omega) fun _ _ _ => trivial) fun _ _ => Tot.cd (fun _ => .so trivial) (fun _ => .so trivial))
      · refine Tot.by' (Ξ := fun l => (l.length : Int) = 1 + x1 ∧ ∀ y ∈ l, RlB (9 + i.toNat + 1) y) ?_ fun j hj => .so hj
        refine Tot.cd (fun _ => ?_) (fun _ => .so ⟨hl, fun y hy => (hP y hy).mono (by omega)⟩)
        refine .by' (Tot.ix (Φ := fun y => y ∈ l) g0 (by omega) fun _ _ h => h) fun x69 h69 => .by' (t49 i g0) fun x70 h70 => ?_
        have hx := hP x69 h69
        refine .by' (Ξ := fun _ => True) (Tot.ap (by have := hx.n; simp [lim]; omega) trivial) fun _ _ => .so ⟨by simp; omega, all_set (fun y hy => (hP y hy).mono (by omega)) (hx.add ⟨by show 1 ≤ _; omega, fun p hp => ?_, Nat.zero_le _⟩)⟩
        have hp : p ∈ [(⟨x70, { data := #[] }, 0⟩ : Part)] := hp
        rw [List.mem_singleton.1 hp]
        exact ⟨by show x70.Name.size ≤ 1000000000000; omega, Nat.zero_le _⟩
    · show 0 ≤ i + 1; omega
    · show i + 1 ≤ 1 + x1; omega
    · intro y hy
      have e : 9 + (i + 1).toNat = 9 + i.toNat + 1 := by omega
      show RlB (9 + (i + 1).toNat) y
      rw [e]; exact hj.2 y hy
    · show i < i + 1; omega
    · show i + 1 ≤ 1 + x1; omega
  · have := h2.1; show x2.length ≤ 1000; omega
  · have := h2.2 d hd
    exact ⟨by rw [this.tag]; exact Nat.zero_le _, by have := this.n; omega, this.syms⟩
  · show x58.length ≤ 1000; omega
  · have := h58.2 r hr
    exact ⟨this.left, by have := this.n; omega, this.alts⟩
end Go.Proofs
namespace Go.Proofs
open Go Go.Own
set_option maxRecDepth 100000
set_option linter.unusedVariables false
def tokS (g : Grammar) (t : Int) : Int × Int := match idx g.Toks t with | some k => (k.Level, k.Assoc) | none => (0, 0)
def levS (g : Grammar) (p : Int) : Int × Int := match idx g.Prods p with | some q => tokS g q.Prec | none => (0, 0)
def decS (l : Int) (k : Int × Int) : Int :=
  if l = 0 ∨ k.1 = 0 then 0 else if l < k.1 ∨ (k.1 = l ∧ k.2 = 2) then 1 else if k.1 < l ∨ k.2 = 1 then 2 else 3
theorem idx_none {α : Type} {l : List α} {i : Int} (h : i < 0 ∨ (l.length : Int) ≤ i) : idx l i = none := by
  unfold idx
  split
  · exact List.getElem?_eq_none (by omega)
  · rfl
theorem idx_some {α : Type} {l : List α} {i : Int} (h0 : 0 ≤ i) (h1 : i < l.length) : ∃ y, idx l i = some y ∧ y ∈ l := by
  have hlt : i.toNat < l.length := by omega
  exact ⟨l[i.toNat], by simp [idx, h0, hlt], List.getElem_mem hlt⟩
theorem e51 (g : Grammar) (t : Int) : pf51 g t = some (tokS g t) := by
  unfold pf51 tokS
  by_cases h0 : t < 0
  · simp [h0, idx_none (Or.inl h0)]
  · by_cases h1 : (g.Toks.length : Int) ≤ t
    · simp [h0, h1, idx_none (Or.inr h1)]
    · obtain ⟨y, hy, _⟩ := idx_some (l := g.Toks) (i := t) (by omega) (by omega)
      simp [h0, h1, hy]
theorem e19 (g : Grammar) (p : Int) : pf19 g p = some (levS g p) := by
  unfold pf19 levS
  by_cases h0 : p < 0
  · simp [h0, idx_none (Or.inl h0)]
  · by_cases h1 : (g.Prods.length : Int) ≤ p
    · simp [h0, h1, idx_none (Or.inr h1)]
    · obtain ⟨y, hy, _⟩ := idx_some (l := g.Prods) (i := p) (by omega) (by omega)
      simp [h0, h1, hy, e51]
theorem e20 (g : Grammar) (hg : GOk g) (p : Int) : pf20 g p = some (levS g p) := by
  unfold pf20 levS
  by_cases h0 : p < 0
  · simp [h0, idx_none (Or.inl h0)]
  · by_cases h1 : (g.Prods.length : Int) ≤ p
    · simp [h0, h1, idx_none (Or.inr h1)]
    · obtain ⟨y, hy, hm⟩ := idx_some (l := g.Prods) (i := p) (by omega) (by omega)
      have hp := (hg.pr y hm).prec
      by_cases h2 : y.Prec < 0
      · simp [h0, h1, hy, h2, tokS, idx_none (Or.inl h2)]
      · obtain ⟨k, hk, _⟩ := idx_some (l := g.Toks) (i := y.Prec) (by omega) (by omega)
        simp [h0, h1, hy, h2, tokS, hk]
theorem e21 (g : Grammar) (p t : Int) : pf21 g p t = some (decS (levS g p).1 (tokS g t)) := by
  unfold pf21
  rw [e19, e51]
  generalize levS g p = a
  generalize tokS g t = k
  obtain ⟨l, x⟩ := a
  obtain ⟨m, s⟩ := k
  simp only [Option.bind_some, decS]
  by_cases h1 : l = 0
  · simp [h1]
  · by_cases h2 : m = 0
    · simp [h2]
    · by_cases h3 : l < m
      · simp [h1, h2, h3]
      · by_cases h4 : m = l
        · by_cases h5 : s = 2
          · simp [h1, h4, h5]
          · by_cases h6 : s = 1
            · simp [h1, h4, h6]
            · simp [h1, h4, h5, h6]
        · have h7 : m < l := by omega
          simp [h1, h2, h3, h4, h7]
theorem e22 (g : Grammar) (hg : GOk g) (p t : Int) : pf22 g p t = some (decS (levS g p).1 (tokS g t)) := by
  unfold pf22
  rw [e20 g hg]
  generalize levS g p = a
  obtain ⟨l, x⟩ := a
  simp only [Option.bind_some, decS]
  by_cases h1 : l = 0
  · simp [h1]
  · by_cases h0 : t < 0
    · simp [h1, h0, tokS, idx_none (Or.inl h0)]
    · by_cases h00 : (g.Toks.length : Int) ≤ t
      · simp [h1, h0, h00, tokS, idx_none (Or.inr h00)]
      · obtain ⟨k, hk, _⟩ := idx_some (l := g.Toks) (i := t) (by omega) (by omega)
        simp only [tokS, hk]
        by_cases h2 : k.Level = 0
        · simp [h1, h0, h00, h2]
        · by_cases h3 : l < k.Level
          · simp [h1, h0, h00, h2, h3]
          · by_cases h4 : k.Level = l
            · by_cases h5 : k.Assoc = 2
              · simp [h1, h0, h00, h4, h5]
              · by_cases h6 : k.Assoc = 1
                · simp [h1, h0, h00, h4, h6]
                · simp [h1, h0, h00, h4, h5, h6]
            · have h7 : k.Level < l := by omega
              simp [h1, h0, h00, h2, h3, h4, h7]
end Go.Proofs
namespace Go.Proofs
open Go Go.Own
set_option maxRecDepth 100000
set_option linter.unusedVariables false
theorem w15 : pf15 = some true := by kernel_rfl
theorem t18 (s : Source) (hb : SrcB s) : Tot (pf18 s) fun r => r.2 = true → GOk r.1 := by
  unfold pf18
  exact .by' (t50 s hb) fun r hr => .so fun h => hr (of_decide_eq_true h)
theorem t3 (s : Source) (x : yuccalaw0_Gr) (p t : Int) : Tot (pf3 s x p t) fun r => r = true := by
  unfold pf3
  rw [w15]
  refine Tot.sm (Tot.cd (fun h => by cases h) (fun _ => ?_))
  refine .by' (t16 s) fun x3 h3 => .by' (t17 x) fun x4 h4 => ?_
  refine Tot.by' (Ξ := LR (fun _ => True) (fun _ => False)) ?_ fun r hr => by
    rcases r with r | r
    · exact .so rfl
    · exact hr.elim
  refine Tot.count (fun i => i) 2 (fun i => 0 ≤ i ∧ i ≤ 2) ⟨by decide, by decide⟩ (by decide) fun i hi => ?_
  refine Tot.cp (fun hlt => ?_) (fun _ => .so trivial)
  have hlt : i < 2 := hlt
  have hw : w64 (i + 1) = i + 1 := by rw [w64_eq]; omega
  rw [hw]
  refine .by' (Tot.ix (Φ := fun y => SrcB y) hi.1 (by show i < 2; exact hlt) fun y _ hy => ?_) fun src hs => ?_
  · rcases List.mem_cons.1 hy with rfl | hy
    · exact h3
    · rw [List.mem_singleton.1 hy]; exact h4
  have nx : Tot (some (Sum.inl (i + 1) : Int ⊕ (Unit ⊕ Bool))) (LR (fun s' => (0 ≤ s' ∧ s' ≤ 2) ∧ i < s' ∧ s' ≤ 2) (LR (fun _ => True) (fun _ => False))) := .so ⟨⟨by omega, by omega⟩, by omega, by omega⟩
  refine .by' (t18 src hs) fun gb hg => Tot.cd (fun _ => nx) (fun hok => ?_)
  have hg : GOk gb.1 := hg (by simpa using hok)
  generalize gb.1 = g at hg ⊢
  refine Tot.by' (Ξ := LR (fun _ => True) (fun _ => False)) ?_ fun r hr => ?_
  · have hpn := hg.pn
    refine Tot.count (fun q => q) (g.Prods.length + 1) (fun q => -1 ≤ q) (by decide) (by show (g.Prods.length : Int) + 1 - (-1) < _; omega) fun q hq => ?_
    refine Tot.cp (fun hlq => ?_) (fun _ => .so trivial)
    have hwq : w64 (q + 1) = q + 1 := by rw [w64_eq]; omega
    rw [hwq, e19, e20 g hg, e21, e22 g hg]
    refine Tot.sm (Tot.sm ?_)
    simp only [decide_true, Bool.not_true, cond_false, Option.bind_some]
    refine Tot.by' (Ξ := LR (fun _ => True) (fun _ => False)) ?_ fun r hr => ?_
    · have htn := hg.tn
      refine Tot.count (fun u => u) (g.Toks.length + 1) (fun u => -1 ≤ u) (by decide) (by show (g.Toks.length : Int) + 1 - (-1) < _; omega) fun u hu => ?_
      refine Tot.cp (fun hlu => ?_) (fun _ => .so trivial)
      have hwu : w64 (u + 1) = u + 1 := by rw [w64_eq]; omega
      rw [hwu, e21, e22 g hg]
      refine Tot.sm (Tot.sm ?_)
      simp only [decide_true, Bool.not_true, cond_false]
      refine .so ⟨?_, ?_, ?_⟩
      · show -1 ≤ u + 1; omega
      · show u < u + 1; omega
      · show u + 1 ≤ (g.Toks.length : Int) + 1; omega
    · rcases r with r | r
      · refine .so ⟨?_, ?_, ?_⟩
        · show -1 ≤ q + 1; omega
        · show q < q + 1; omega
        · show q + 1 ≤ (g.Prods.length : Int) + 1; omega
      · exact hr.elim
  · rcases r with r | r
    · show Tot ((pf19 g p).bind _) _
      rw [e19, e20 g hg, e21, e22 g hg]
      refine Tot.sm (Tot.sm ?_)
      simp only [decide_true, Bool.not_true, cond_false, Option.bind_some]
      exact nx
    · exact hr.elim
end Go.Proofs
namespace Go.Proofs
open Go Go.Own
set_option maxRecDepth 100000
set_option linter.unusedVariables false
def tn : Nat → ByteArray
  | 0 => ⟨#[116, 48]⟩ | 1 => ⟨#[116, 49]⟩ | 2 => ⟨#[116, 50]⟩ | 3 => ⟨#[116, 51]⟩ | 4 => ⟨#[116, 52]⟩ | 5 => ⟨#[116, 53]⟩ | 6 => ⟨#[116, 54]⟩ | 7 => ⟨#[116, 55]⟩ | _ => ⟨#[116, 56]⟩
abbrev nE : ByteArray := { data := #[] }
abbrev cE : ByteArray := { data := #[101] }
def sy (i : Nat) : Sym := ⟨tn i, false, 0, 0⟩
def syE : Sym := ⟨cE, false, 0, 0⟩
def dc (i : Nat) (w : Int) : Decl := ⟨w64 (2 + w), nE, [sy i], 0⟩
def ds : Nat → List Int → List Decl
  | _, [] => []
  | i, w :: ws => dc i w :: ds (i + 1) ws
def al (i : Nat) : Alt := ⟨[⟨syE, nE, 0⟩, ⟨sy i, nE, 0⟩, ⟨syE, nE, 0⟩], ⟨nE, false, 0, 0⟩, 0⟩
def als : Nat → List Alt
  | 0 => []
  | n + 1 => als n ++ [al n]
def xal : Alt := ⟨[⟨⟨⟨#[120]⟩, true, 0, 0⟩, nE, 0⟩], ⟨nE, false, 0, 0⟩, 0⟩
def lal (o s : Nat) : Alt := ⟨[⟨sy o, nE, 0⟩, ⟨syE, nE, 0⟩], sy s, 0⟩
def src (ws : List Int) (o s : Nat) : Source := ⟨nE, ds 0 ws, [⟨cE, (als ws.length ++ [xal]) ++ [lal o s], 0⟩], nE⟩
def T3 : List Tok := [⟨{ data := #[36, 101, 110, 100] }, false, 0, 0, 0, nE⟩, ⟨{ data := #[101, 114, 114, 111, 114] }, false, (-1), 0, 0, nE⟩, ⟨{ data := #[36, 117, 110, 107] }, false, (-1), 0, 0, nE⟩]
def pr (i : Nat) : Prod := ⟨1, [1001, i + 3, 1001], i + 3, nE, [1001, i + 3, 1001], 0⟩
def pl (o s : Nat) : Prod := ⟨1, [o + 3, 1001], s + 3, nE, [o + 3, 1001], 0⟩
def In3 (w : Int) : Prop := w = 0 ∨ w = 1 ∨ w = 2
end Go.Proofs
namespace Go.Proofs
open Go Go.Own
set_option maxRecDepth 100000
set_option linter.unusedVariables false
end Go.Proofs
namespace Go.Proofs
open Go Go.Own
set_option maxRecDepth 100000
set_option linter.unusedVariables false
structure Lv (ws : List Int) (o s : Nat) : Prop where
  n : ws.length ≤ 9
  k : ∀ w ∈ ws, In3 w
  o : o < ws.length
  s : s < ws.length
end Go.Proofs
namespace Go.Proofs
open Go Go.Own
set_option maxRecDepth 100000
set_option linter.unusedVariables false
abbrev nErr : ByteArray := { data := #[101, 114, 114, 111, 114] }
abbrev cod1 : ByteArray := { data := #[123, 36, 36, 32, 61, 32, 36, 49, 125] }
abbrev cod2 : ByteArray := { data := #[123, 102, 40, 36, 36, 41, 125] }
def Ltr : List ByteArray := [⟨#[112]⟩, ⟨#[113]⟩, ⟨#[114]⟩, ⟨#[115]⟩]
def NT4 : List ByteArray := [⟨#[97]⟩, ⟨#[98]⟩, ⟨#[99]⟩, ⟨#[100]⟩]
def LT : List Sym := [⟨⟨#[112]⟩, true, 0, 0⟩, ⟨⟨#[113]⟩, true, 0, 0⟩, ⟨⟨#[114]⟩, true, 0, 0⟩, ⟨⟨#[115]⟩, true, 0, 0⟩]
def NT : List Sym := [⟨⟨#[97]⟩, false, 0, 0⟩, ⟨⟨#[98]⟩, false, 0, 0⟩, ⟨⟨#[99]⟩, false, 0, 0⟩, ⟨⟨#[100]⟩, false, 0, 0⟩, ⟨nErr, false, 0, 0⟩]
abbrev syN : Sym := ⟨nE, false, 0, 0⟩
def PartN (L : List ByteArray) (p : Part) : Prop :=
  (∃ x, x ∈ LT ∧ p = ⟨x, nE, 0⟩) ∨ (∃ x, x ∈ NT ∧ p = ⟨x, nE, 0⟩ ∧ x.Name ∈ nErr :: L) ∨ p = ⟨syN, cod1, 0⟩ ∨ p = ⟨syN, cod2, 0⟩
structure AltN (L : List ByteArray) (a : Alt) : Prop where
  n : a.Parts.length ≤ 6
  parts : ∀ p ∈ a.Parts, PartN L p
  prec : a.Prec = syN
structure RuleN (L : List ByteArray) (r : Rule) : Prop where
  left : r.Left ∈ L
  n : 1 ≤ r.Alts.length ∧ r.Alts.length ≤ 13
  alts : ∀ a ∈ r.Alts, AltN L a
structure DeclN (d : Decl) : Prop where
  kind : 2 ≤ d.Kind ∧ d.Kind ≤ 4
  tag : d.Tag = nE
  n : 1 ≤ d.Syms.length ∧ d.Syms.length ≤ 4
  syms : ∀ x ∈ d.Syms, x ∈ LT
def codes (l : List Part) : Nat := (l.filter fun p => !decide (p.Code = nE)).length
def cA (l : List Alt) : Nat := (l.map fun a => codes a.Parts).sum
def nA (l : List Rule) : Nat := (l.map fun r => r.Alts.length).sum
def nC (l : List Rule) : Nat := (l.map fun r => cA r.Alts).sum
def names (l : List Decl) : List ByteArray := (l.flatMap (·.Syms)).map (·.Name)
structure SrcN (s : Source) : Prop where
  pro : s.Pro = nE
  decls : ∀ d ∈ s.Decls, DeclN d
  dn : s.Decls.length ≤ 4
  nd : (names s.Decls).Nodup
  rules : ∀ r ∈ s.Rules, RuleN (s.Rules.map (·.Left)) r
  lefts : ∀ r ∈ s.Rules, r.Left ∈ NT4
  rn : 1 ≤ s.Rules.length ∧ s.Rules.length ≤ 4
  na : nA s.Rules ≤ 13
  nc : nC s.Rules ≤ 18
theorem n90l {x : Sym} (h : x ∈ LT) : pf90 x false true = some true := by
  simp only [LT, List.mem_cons, List.not_mem_nil, or_false] at h
  rcases h with rfl | rfl | rfl | rfl <;> kernel_rfl
theorem n90n {x : Sym} (h : x ∈ NT) : pf90 x false true = some true := by
  simp only [NT, List.mem_cons, List.not_mem_nil, or_false] at h
  rcases h with rfl | rfl | rfl | rfl | rfl <;> kernel_rfl
theorem n79 {x : ByteArray} (h : x ∈ NT4) : pf79 x = some true := by
  simp only [NT4, List.mem_cons, List.not_mem_nil, or_false] at h
  rcases h with rfl | rfl | rfl | rfl <;> kernel_rfl
theorem n78 {d : Decl} (h : DeclN d) : Tot (pf78 d) fun r => r = true := by
  unfold pf78
  obtain ⟨hk, ht, hn, hs⟩ := h
  have k1 : decide (d.Kind = 1) = false := decide_eq_false (by omega)
  have k5 : decide (d.Kind < 5) = true := decide_eq_true (by omega)
  refine .by' (Ξ := fun c => c = false) ?_ fun c hc => ?_
  · refine Tot.cp (fun h => absurd h (by omega)) (fun _ => Tot.cp (fun h => absurd h (by omega)) (fun _ => Tot.cp (fun h => absurd h (by omega)) (fun _ => Tot.cp (fun h => absurd h (by omega)) (fun _ => Tot.cp (fun h => absurd h (by omega)) (fun _ => Tot.cn (fun h => absurd ht h) (fun _ => .so rfl))))))
  subst hc
  refine Tot.cd (fun h => by cases h) (fun _ => ?_)
  refine Tot.by' ((Tot.scan d.Syms (fun _ => True) (fun _ => False) (by omega) (fun s y h0 h1 hi hm => ?_) (fun s hs => by simp [hs]))) fun x hx => ?_
  · refine Tot.cp (fun _ => ?_) (fun h => absurd h1 h)
    rw [hi, k1, k5]
    refine Tot.sm ?_
    rw [n90l (hs _ hm)]
    refine Tot.sm (Tot.cd (fun h => by cases h) (fun _ => .so ⟨?_, trivial⟩))
    rw [w64_eq]; omega
  · rcases x with _ | r
    · exact .so rfl
    · exact (hx : False).elim
theorem n92 : pf92 syN = some true := by kernel_rfl
theorem n93a : pf93 cod1 0 = some 9 := by kernel_rfl
theorem n93b : pf93 cod2 0 = some 7 := by kernel_rfl
theorem n80 {L : List ByteArray} {a : Alt} (h : AltN L a) : Tot (pf80 a) fun r => r = true := by
  unfold pf80
  have hn := h.n
  refine Tot.by' ((Tot.scan a.Parts (fun _ => True) (fun _ => False) (by omega) (fun s y h0 h1 hi hm => ?_) (fun s hs => by simp [hs]))) fun x hx => ?_
  · refine Tot.cp (fun _ => ?_) (fun h => absurd h1 h)
    rw [hi]
    refine Tot.sm (.by' (Ξ := fun c => c = false) ?_ fun c hc => ?_)
    · rcases h.parts _ hm with ⟨x, hx, rfl⟩ | ⟨x, hx, rfl, _⟩ | rfl | rfl
      · refine ⟨false, ?_, rfl⟩
        simp only [n90l hx]
        rfl
      · refine ⟨false, ?_, rfl⟩
        simp only [n90n hx]
        rfl
      · refine ⟨false, ?_, rfl⟩
        simp only [n92, n93a]
        rfl
      · refine ⟨false, ?_, rfl⟩
        simp only [n92, n93b]
        rfl
    · subst hc
      refine Tot.cd (fun h => by cases h) (fun _ => .so ⟨?_, trivial⟩)
      rw [w64_eq]; omega
  · rcases x with _ | r
    · rw [h.prec, n92]
      exact .so rfl
    · exact (hx : False).elim
theorem n63 {s : Source} (h : SrcN s) : Tot (pf63 s) fun r => r = true := by
  unfold pf63
  have hrn := h.rn
  have hdn := h.dn
  refine .by' (Ξ := fun r => r = .inl ()) ?_ fun r hr => ?_
  · rw [h.pro]
    exact ⟨.inl (), rfl, rfl⟩
  subst hr
  refine Tot.by' (Ξ := LR (fun _ => True) (fun _ => False)) ?_ fun r hr => ?_
  · refine (Tot.scan s.Decls (fun _ => True) (fun _ => False) (by omega) (fun i y h0 h1 hi hm => ?_) (fun i hi => by simp [hi])).use fun x hx => ?_
    · refine Tot.cp (fun _ => ?_) (fun hh => absurd h1 hh)
      rw [hi]
      refine Tot.sm (.by' (n78 (h.decls _ hm)) fun c hc => ?_)
      subst hc
      refine Tot.cd (fun h => by cases h) (fun _ => .so ⟨?_, trivial⟩)
      rw [w64_eq]; omega
    · rcases x with x | x
      · trivial
      · exact hx
  rcases r with r | r
  · refine Tot.by' (Ξ := LR (fun _ => True) (fun _ => False)) ?_ fun r hr => ?_
    · refine (Tot.scan s.Rules (fun _ => True) (fun _ => False) (by omega) (fun i y h0 h1 hi hm => ?_) (fun i hi => by simp [hi])).use fun x hx => ?_
      · refine Tot.cp (fun _ => ?_) (fun hh => absurd h1 hh)
        rw [hi]
        have hr := h.rules _ hm
        have han := hr.n
        refine Tot.sm ?_
        refine .by' (Ξ := fun c => c = false) ?_ fun c hc => ?_
        · rw [n79 (h.lefts _ hm)]
          exact Tot.sm (.so (decide_eq_false (by omega)))
        subst hc
        refine Tot.cd (fun h => by cases h) (fun _ => ?_)
        refine Tot.by' (Ξ := LR (fun _ => True) (fun _ => False)) ?_ fun r hr => ?_
        · refine (Tot.scan y.Alts (fun _ => True) (fun _ => False) (by omega) (fun i y h0 h1 hi hm => ?_) (fun i hi => by simp [hi])).use fun x hx => ?_
          · refine Tot.cp (fun _ => ?_) (fun hh => absurd h1 hh)
            rw [hi]
            refine Tot.sm (.by' (n80 (hr.alts _ hm)) fun c hc => ?_)
            subst hc
            refine Tot.cd (fun h => by cases h) (fun _ => .so ⟨?_, trivial⟩)
            rw [w64_eq]; omega
          · rcases x with x | x
            · trivial
            · exact hx
        rcases r with r | r
        · refine .so ⟨?_, trivial⟩
          rw [w64_eq]; omega
        · exact hr.elim
      · rcases x with x | x
        · trivial
        · exact hx
    rcases r with r | r
    · exact .so (decide_eq_true (by omega))
    · exact hr.elim
  · exact hr.elim
end Go.Proofs
namespace Go.Proofs
open Go Go.Own
set_option maxRecDepth 100000
set_option linter.unusedVariables false
theorem nd_len {α : Type} [DecidableEq α] : ∀ (l m : List α), l.Nodup → (∀ x ∈ l, x ∈ m) → l.length ≤ m.length
  | [], _, _, _ => Nat.zero_le _
  | x :: l, m, hd, hm => by
    have hx := hm x (by simp)
    have hd' := List.nodup_cons.1 hd
    have := nd_len l (m.erase x) hd'.2 fun y hy => by
      have hne : y ≠ x := fun e => hd'.1 (e ▸ hy)
      exact (List.mem_erase_of_ne hne).2 (hm y (by simp [hy]))
    have hl := List.length_erase_of_mem hx
    have hp := List.length_pos_of_mem hx
    simp only [List.length_cons]
    omega
theorem k66 (m : Mk) (x : Sym) (h : m.f_g.Toks.length ≤ 100000000000) : Tot (pf66 m x) fun r => (r = -1 ∧ ∀ (i : Nat) (t : Tok), 1 ≤ i → i ≠ 2 → m.f_g.Toks[i]? = some t → ¬ (t.Name = x.Name ∧ t.Lit = x.Lit)) ∨
    (1 ≤ r ∧ r < m.f_g.Toks.length ∧ r ≠ 2 ∧ ∃ t, m.f_g.Toks[r.toNat]? = some t ∧ t.Name = x.Name ∧ t.Lit = x.Lit) := by
  unfold pf66
  refine Tot.by' (Ξ := LR (fun _ => ∀ (i : Nat) (t : Tok), 1 ≤ i → i ≠ 2 → m.f_g.Toks[i]? = some t → ¬ (t.Name = x.Name ∧ t.Lit = x.Lit)) (fun r => 1 ≤ r ∧ r < m.f_g.Toks.length ∧ r ≠ 2 ∧ ∃ t, m.f_g.Toks[r.toNat]? = some t ∧ t.Name = x.Name ∧ t.Lit = x.Lit)) ?_ fun x hx => ?_
  · refine Tot.count (fun j => j) m.f_g.Toks.length (fun j => 1 ≤ j ∧ ∀ (i : Nat) (t : Tok), (i : Int) < j → 1 ≤ i → i ≠ 2 → m.f_g.Toks[i]? = some t → ¬ (t.Name = x.Name ∧ t.Lit = x.Lit)) ⟨by decide, fun i t h1 h2 => by omega⟩ (by show (m.f_g.Toks.length : Int) - 1 < _; omega) fun j hj => ?_
    obtain ⟨h1, hall⟩ := hj
    refine Tot.cp (fun h2 => ?_) (fun h2 => .so fun i t a b c => hall i t (by have := (List.getElem?_eq_some_iff.1 c).1; omega) a b c)
    have e : w64 (j + 1) = j + 1 := by rw [w64_eq]; omega
    rw [e]
    obtain ⟨y, hy, hm⟩ := idx_some (l := m.f_g.Toks) (i := j) (by omega) h2
    have hy' := (idx_spec hy).2.2
    rw [hy]
    refine Tot.sm (.by' (Ξ := fun c => (c = true → j ≠ 2 ∧ y.Name = x.Name ∧ y.Lit = x.Lit) ∧ (c = false → j = 2 ∨ ¬ (y.Name = x.Name ∧ y.Lit = x.Lit))) ?_ fun c hc => Tot.cd (fun h => ?_) (fun h => ?_))
    · refine Tot.cp (fun hn => ?_) (fun hn => .so ⟨fun h => (by cases h), fun _ => .inr fun e => hn e.1⟩)
      refine Tot.cd (fun hl => .so ⟨fun h => ⟨by simpa using h, hn, by simpa using hl⟩, fun h => .inl (by simpa using h)⟩) (fun hl => .so ⟨fun h => (by cases h), fun _ => .inr fun e => by simp [e.2] at hl⟩)
    · obtain ⟨a, b⟩ := hc.1 h
      exact .so ⟨h1, h2, a, y, hy', b⟩
    · refine .so ⟨⟨?_, fun i t a b c d => ?_⟩, ?_, ?_⟩
      · show 1 ≤ j + 1; omega
      · have a : (i : Int) < j + 1 := a
        by_cases hij : (i : Int) < j
        · exact hall i t hij b c d
        · have : i = j.toNat := by omega
          rw [this, hy'] at d
          cases d
          rcases hc.2 h with e | e
          · exact absurd e (by omega)
          · exact e
      · show j < j + 1; omega
      · show j + 1 ≤ (m.f_g.Toks.length : Int); omega
  · rcases x with _ | r
    · exact .so (.inl ⟨rfl, hx⟩)
    · exact .so (.inr hx)
theorem k82 (m : Mk) (n : Int) (h : m.f_g.Toks.length ≤ 100000000000) : Tot (pf82 m n) fun r => r = -1 ∨ (3 ≤ r ∧ ∃ t, m.f_g.Toks[r.toNat]? = some t ∧ t.Num = n) := by
  unfold pf82
  refine Tot.by' (Ξ := LR (fun _ => True) (fun r => 3 ≤ r ∧ ∃ t, m.f_g.Toks[r.toNat]? = some t ∧ t.Num = n)) ?_ fun x hx => ?_
  · refine Tot.count (fun j => j) m.f_g.Toks.length (fun j => 3 ≤ j) (by decide) (by show (m.f_g.Toks.length : Int) - 3 < _; omega) fun j hj => ?_
    refine Tot.cp (fun h2 => ?_) (fun _ => .so trivial)
    have e : w64 (j + 1) = j + 1 := by rw [w64_eq]; omega
    rw [e]
    obtain ⟨y, hy, hm⟩ := idx_some (l := m.f_g.Toks) (i := j) (by omega) h2
    rw [hy]
    refine Tot.sm (Tot.cp (fun hn => .so ⟨hj, y, (idx_spec hy).2.2, hn⟩) (fun _ => .so ⟨?_, ?_, ?_⟩))
    · show 3 ≤ j + 1; omega
    · show j < j + 1; omega
    · show j + 1 ≤ (m.f_g.Toks.length : Int); omega
  · rcases x with _ | r
    · exact .so (.inl rfl)
    · exact .so (.inr hx)
structure K0 (m : Mk) (ns : List ByteArray) : Prop where
  e : m.f_e = 0
  tk : ∃ l : List Tok, m.f_g.Toks = T3 ++ l ∧ l.map (·.Name) = ns ∧ ∀ t ∈ l, t.Lit = true ∧ t.Name ∈ Ltr ∧ t.Num = byteAt t.Name 0 ∧ t.Tag = nE
  gv : m.f_given.length = m.f_g.Toks.length
  nd : ns.Nodup
theorem K0.mem {m : Mk} {ns : List ByteArray} (h : K0 m ns) : ∀ n ∈ ns, n ∈ Ltr := by
  obtain ⟨l, _, rfl, hl⟩ := h.tk
  intro n hn
  obtain ⟨t, ht, rfl⟩ := List.mem_map.1 hn
  exact (hl t ht).2.1
theorem K0.len {m : Mk} {ns : List ByteArray} (h : K0 m ns) : m.f_g.Toks.length = 3 + ns.length ∧ ns.length ≤ 4 := by
  have h4 := nd_len ns Ltr h.nd h.mem
  obtain ⟨l, e, rfl, hl⟩ := h.tk
  refine ⟨by rw [e]; simp [T3]; omega, h4⟩
theorem byte_inj {a b : ByteArray} (ha : a ∈ Ltr) (hb : b ∈ Ltr) (h : byteAt a 0 = byteAt b 0) : a = b := by
  simp only [Ltr, List.mem_cons, List.not_mem_nil, or_false] at ha hb
  rcases ha with rfl | rfl | rfl | rfl <;> rcases hb with rfl | rfl | rfl | rfl <;> first | rfl | exact absurd h (by decide)
theorem lt_spec {x : Sym} (h : x ∈ LT) : x.Lit = true ∧ x.Name ∈ Ltr ∧ x.Num = 0 ∧ x.At = 0 ∧ (x.Name.size = 1) ∧ bidx x.Name 0 = some (byteAt x.Name 0) ∧ w64 (byteAt x.Name 0) = byteAt x.Name 0 := by
  simp only [LT, List.mem_cons, List.not_mem_nil, or_false] at h
  rcases h with rfl | rfl | rfl | rfl <;> exact ⟨rfl, by simp [Ltr], rfl, rfl, rfl, rfl, rfl⟩
structure Rs (m m' : Mk) : Prop where
  lf : m'.f_lefts = m.f_lefts
  pr : m'.f_g.Prods = m.f_g.Prods
  inn : m'.f_inner = m.f_inner
  ty : m'.f_types = m.f_types
  lvl : m'.f_level = m.f_level
theorem Rs.rf (m : Mk) : Rs m m := ⟨rfl, rfl, rfl, rfl, rfl⟩
theorem k81 (m : Mk) (x : Sym) {ns : List ByteArray} (h : K0 m ns) (hx : x ∈ LT) :
    Tot (pf81 m x) fun r => (x.Name ∈ ns ∧ r.2 = m ∧ 0 ≤ r.1) ∨ (x.Name ∉ ns ∧ K0 r.2 (ns ++ [x.Name]) ∧ Rs m r.2 ∧ r.1 = m.f_g.Toks.length ∧ r.2.f_g.Toks = m.f_g.Toks ++ [⟨x.Name, true, byteAt x.Name 0, 0, 0, nE⟩]) := by
  unfold pf81
  obtain ⟨hlen, h4⟩ := h.len
  obtain ⟨x1, x2, x3, x4, x5, x6, x7⟩ := lt_spec hx
  refine .by' (k66 m x (by omega)) fun r hr => Tot.cp (fun h0 => .so (.inl ⟨?_, rfl, h0⟩)) (fun h0 => ?_)
  · rcases hr with ⟨rfl, _⟩ | ⟨a, b, c, t, d, e, f⟩
    · exact absurd h0 (by decide)
    · obtain ⟨l, el, rfl, hl⟩ := h.tk
      rw [el] at d
      by_cases h3 : r.toNat < 3
      · have : t ∈ T3 := by
          rw [List.getElem?_append_left (by exact h3)] at d
          exact List.mem_of_getElem? d
        have : t.Lit = false := by
          simp only [T3, List.mem_cons, List.not_mem_nil, or_false] at this
          rcases this with rfl | rfl | rfl <;> rfl
        rw [f, x1] at this; cases this
      · rw [List.getElem?_append_right (by show 3 ≤ r.toNat; omega)] at d
        rw [← e]
        exact List.mem_map.2 ⟨t, List.mem_of_getElem? d, rfl⟩
  · rcases hr with ⟨rfl, hno⟩ | ⟨a, _⟩
    · rw [x1, x6]
      have hnot : x.Name ∉ ns := fun hin => by
        obtain ⟨l, el, rfl, hl⟩ := h.tk
        obtain ⟨t, ht, e⟩ := List.mem_map.1 hin
        obtain ⟨j, hj, rfl⟩ := List.mem_iff_getElem.1 ht
        refine hno (j + 3) l[j] (by omega) (by omega) ?_ ⟨e, by rw [(hl _ ht).1, x1]⟩
        rw [el, List.getElem?_append_right (by show 3 ≤ j + 3; omega)]
        show l[j + 3 - 3]? = _
        rw [show j + 3 - 3 = j by omega, List.getElem?_eq_getElem hj]
      refine .by' (Ξ := fun j => j = (m, byteAt x.Name 0)) ?_ fun j hj => ?_
      · refine Tot.cd (fun _ => Tot.sm ?_) (fun h => by cases h)
        rw [x7]
        refine .by' (k82 m _ (by omega)) fun o ho => .by' (Ξ := fun j => j = m) ?_ fun j hj => .so (by rw [hj])
        refine Tot.cp (fun h0 => ?_) (fun _ => .so rfl)
        rcases ho with rfl | ⟨h3, t, d, e⟩
        · exact absurd h0 (by decide)
        · refine absurd ?_ hnot
          obtain ⟨l, el, rfl, hl⟩ := h.tk
          rw [el, List.getElem?_append_right (by show 3 ≤ o.toNat; omega)] at d
          have ht := List.mem_of_getElem? d
          have := hl t ht
          rw [this.2.2.1] at e
          rw [← byte_inj this.2.1 x2 e]
          exact List.mem_map.2 ⟨t, ht, rfl⟩
      · subst hj
        have hgv := h.gv
        refine .by' (Ξ := fun _ => True) (Tot.ap (by simp [lim]; omega) trivial) fun _ _ => .by' (Ξ := fun _ => True) (Tot.ap (by simp [lim]; omega) trivial) fun _ _ => .so (.inr ⟨hnot, ⟨h.e, ?_, ?_, ?_⟩, ⟨rfl, rfl, rfl, rfl, rfl⟩, ?_, rfl⟩)
        · obtain ⟨l, el, rfl, hl⟩ := h.tk
          refine ⟨l ++ [⟨x.Name, true, byteAt x.Name 0, 0, 0, nE⟩], ?_, by simp, fun t ht => ?_⟩
          · show m.f_g.Toks ++ [_] = _
            rw [el, List.append_assoc]
          · rcases List.mem_append.1 ht with ht | ht
            · exact hl t ht
            · rw [List.mem_singleton.1 ht]
              exact ⟨rfl, x2, rfl, rfl⟩
        · show (m.f_given ++ [true]).length = (m.f_g.Toks ++ [_]).length
          simp [hgv]
        · rw [List.nodup_append]
          refine ⟨h.nd, by simp, fun a ha b hb e => ?_⟩
          rw [List.mem_singleton.1 hb] at e
          exact hnot (e ▸ ha)
        · show w64 (((m.f_g.Toks ++ [_]).length : Int) - 1) = _
          rw [w64_eq]; simp; omega
    · exact absurd (by omega) h0
theorem k64 (m : Mk) (d : Decl) (x : Sym) {ns : List ByteArray} (h : K0 m ns) (hd : DeclN d) (hx : x ∈ LT) (hn : x.Name ∉ ns) :
    Tot (pf64 m d x) fun m' => K0 m' (ns ++ [x.Name]) ∧ Rs m m' := by
  unfold pf64
  obtain ⟨x1, x2, x3, x4, x5, x6, x7⟩ := lt_spec hx
  have hk := hd.kind
  obtain ⟨hlen, h4⟩ := h.len
  refine Tot.cp (fun h => absurd h (by omega)) (fun _ => .by' (k81 m x h hx) fun r hr => ?_)
  rcases hr with ⟨a, _⟩ | ⟨_, hK, hR, h1, hT⟩
  · exact absurd a hn
  obtain ⟨t, m1⟩ := r
  simp only at hK hR h1 hT ⊢
  subst h1
  have hi : ∀ v : Tok, idx (m.f_g.Toks ++ [v]) (m.f_g.Toks.length : Int) = some v := fun v => by
    simp [idx]
  rw [hT, hi]
  refine Tot.sm (.by' (Ξ := fun j => ∃ v : Tok, v.Name = x.Name ∧ v.Lit = true ∧ v.Num = byteAt x.Name 0 ∧ v.Tag = nE ∧ j = ⟨⟨m.f_g.Toks ++ [v], m1.f_g.Nons, m1.f_g.Prods, m1.f_g.Pro, m1.f_g.Tail⟩, m1.f_given, m1.f_types, m1.f_lefts, m1.f_e, m1.f_at, m1.f_name, m1.f_level, m1.f_inner⟩) ?_ fun j hj => ?_)
  · refine Tot.cn (fun _ => ?_) (fun h => absurd h (by omega))
    refine .by' (Ξ := fun j => j = m1) (Tot.cp (fun h => absurd h (by show ¬ (0 : Int) < 0; decide)) (fun _ => .so rfl)) fun j hj => ?_
    subst hj
    rw [hT, hi]
    refine Tot.sm (.so ⟨⟨x.Name, true, byteAt x.Name 0, j.f_level, w64 (d.Kind - 1), nE⟩, rfl, rfl, rfl, rfl, ?_⟩)
    have hs : ∀ v u : Tok, (m.f_g.Toks ++ [v]).set ((m.f_g.Toks.length : Int)).toNat u = m.f_g.Toks ++ [u] := fun v u => by
      simp
    simp only [hs]
  · obtain ⟨v, v1, v2, v3, v4, rfl⟩ := hj
    simp only
    rw [hi]
    refine Tot.sm (.by' (Ξ := fun j => j = ⟨⟨m.f_g.Toks ++ [v], m1.f_g.Nons, m1.f_g.Prods, m1.f_g.Pro, m1.f_g.Tail⟩, m1.f_given, m1.f_types, m1.f_lefts, m1.f_e, m1.f_at, m1.f_name, m1.f_level, m1.f_inner⟩) (Tot.cp (fun h => absurd h (by omega)) (fun _ => .so rfl)) fun j hj => ?_)
    subst hj
    simp only
    rw [hi]
    refine Tot.sm (.by' (Ξ := fun j => j = ⟨⟨m.f_g.Toks ++ [v], m1.f_g.Nons, m1.f_g.Prods, m1.f_g.Pro, m1.f_g.Tail⟩, m1.f_given, m1.f_types, m1.f_lefts, m1.f_e, m1.f_at, m1.f_name, m1.f_level, m1.f_inner⟩) (Tot.cn (fun h => absurd hd.tag h) (fun _ => .so rfl)) fun j hj => .so ?_)
    subst hj
    refine ⟨⟨hK.e, ?_, ?_, hK.nd⟩, hR.lf, hR.pr, hR.inn, hR.ty, hR.lvl⟩
    · obtain ⟨l, el, rfl, hl⟩ := h.tk
      refine ⟨l ++ [v], ?_, by simp [v1], fun t ht => ?_⟩
      · show m.f_g.Toks ++ [v] = _
        rw [el, List.append_assoc]
      · rcases List.mem_append.1 ht with ht | ht
        · exact hl t ht
        · rw [List.mem_singleton.1 ht, v1]
          exact ⟨v2, x2, v3, v4⟩
    · have := hK.gv
      rw [hT] at this
      show m1.f_given.length = (m.f_g.Toks ++ [v]).length
      rw [this]; simp
theorem k83 (m : Mk) (p : Part) {ns L : List ByteArray} (h : K0 m ns) (hL : ∀ n ∈ L, n ∈ m.f_lefts) (hlf : m.f_lefts.length ≤ 100000) (hp : PartN L p) (hc : p.Code = nE) :
    Tot (pf83 m p.Sym) fun r => (∃ ns', K0 r.2 ns') ∧ Rs m r.2 := by
  obtain ⟨hlen, h4⟩ := h.len
  unfold pf83
  rcases hp with ⟨x, hx, rfl⟩ | ⟨x, hx, rfl, hn⟩ | rfl | rfl
  · obtain ⟨x1, _⟩ := lt_spec hx
    refine Tot.cd (fun _ => ?_) (fun h => by rw [x1] at h; cases h)
    refine .by' (k81 m x h hx) fun r hr => .so ?_
    rcases hr with ⟨_, e, _⟩ | ⟨_, hK, hR, _⟩
    · show (∃ ns', K0 r.2 ns') ∧ Rs m r.2
      rw [e]
      exact ⟨⟨ns, h⟩, Rs.rf m⟩
    · exact ⟨⟨_, hK⟩, hR⟩
  · have hlit : x.Lit = false := by
      simp only [NT, List.mem_cons, List.not_mem_nil, or_false] at hx
      rcases hx with rfl | rfl | rfl | rfl | rfl <;> rfl
    refine Tot.cd (fun h => by rw [hlit] at h; cases h) (fun _ => ?_)
    refine .by' (t67 m x.Name (by simp only [big]; omega)) fun k hk => Tot.cp (fun _ => .so ⟨⟨ns, h⟩, Rs.rf m⟩) (fun h0 => ?_)
    rcases hk with ⟨rfl, hno⟩ | ⟨a, _⟩
    · refine .by' (k66 m x (by omega)) fun t ht => Tot.cp (fun hlt => ?_) (fun _ => .so ⟨⟨ns, h⟩, Rs.rf m⟩)
      exfalso
      rcases ht with ⟨rfl, hno2⟩ | ⟨a, _⟩
      · rcases List.mem_cons.1 hn with e | e
        · obtain ⟨l, el, _, _⟩ := h.tk
          exact hno2 1 ⟨nErr, false, (-1), 0, 0, nE⟩ (by omega) (by omega) (by rw [el]; rfl) ⟨e.symm, hlit.symm⟩
        · exact hno _ (hL _ e) rfl
      · omega
    · exact absurd a h0
  · exact absurd hc (by decide)
  · exact absurd hc (by decide)
end Go.Proofs
namespace Go.Proofs
open Go Go.Own
set_option maxRecDepth 100000
set_option linter.unusedVariables false
structure KA (m : Mk) (lf : List ByteArray) (Q I : Nat) : Prop where
  k : ∃ ns, K0 m ns
  lf : m.f_lefts = lf
  q : m.f_g.Prods.length ≤ Q
  i : 0 ≤ m.f_inner ∧ m.f_inner ≤ I
  r : ∀ p ∈ m.f_g.Prods, p.Right.length ≤ 8
  ty : m.f_types.length ≤ 100
theorem KA.mono {m : Mk} {lf : List ByteArray} {Q I Q' I' : Nat} (h : KA m lf Q I) (hQ : Q ≤ Q') (hI : I ≤ I') : KA m lf Q' I' :=
  ⟨h.k, h.lf, Nat.le_trans h.q hQ, ⟨h.i.1, by have := h.i.2; omega⟩, h.r, h.ty⟩
theorem KA.rs {m m' : Mk} {lf : List ByteArray} {Q I : Nat} (h : KA m lf Q I) (hk : ∃ ns, K0 m' ns) (hr : Rs m m') : KA m' lf Q I :=
  ⟨hk, hr.lf.trans h.lf, by rw [hr.pr]; exact h.q, by rw [hr.inn]; exact h.i, by rw [hr.pr]; exact h.r, by rw [hr.ty]; exact h.ty⟩
theorem codes_take (l : List Part) (i : Nat) (h : i < l.length) : codes (l.take (i + 1)) = codes (l.take i) + (if l[i].Code = nE then 0 else 1) := by
  rw [List.take_add_one, List.getElem?_eq_getElem h]
  unfold codes
  rw [List.filter_append, List.length_append]
  congr 1
  by_cases hc : l[i].Code = nE <;> simp [hc]
theorem k68 (m : Mk) (left : ByteArray) (a : Alt) {lf : List ByteArray} {Q I : Nat} (h : KA m lf Q I) (hlf : lf.length ≤ 100) (hQ : Q ≤ 100) (hI : I ≤ 100) {L : List ByteArray} (hL : ∀ n ∈ L, n ∈ lf) (ha : AltN L a) :
    Tot (pf68 m left a) fun m' => KA m' lf (Q + codes a.Parts + 1) (I + codes a.Parts) := by
  unfold pf68
  have hn := ha.n
  refine .by' (t67 m left (by rw [h.lf]; simp only [big]; omega)) fun x1 hx1 => ?_
  refine Tot.by' (Ξ := fun x3 => KA x3.1 lf (Q + codes a.Parts) (I + codes a.Parts) ∧ x3.2.1.length ≤ 6) ?_ fun x3 hx3 => ?_
  · refine Tot.count (fun s => s.2.2.2.2) a.Parts.length (fun s => 0 ≤ s.2.2.2.2 ∧ s.2.2.2.2 ≤ a.Parts.length ∧ KA s.1 lf (Q + codes (a.Parts.take s.2.2.2.2.toNat)) (I + codes (a.Parts.take s.2.2.2.2.toNat)) ∧ (s.2.1.length : Int) ≤ s.2.2.2.2) ⟨by show (0:Int) ≤ 0; omega, by show (0:Int) ≤ _; omega, h, Int.le_refl 0⟩ (by show (a.Parts.length : Int) - 0 < _; omega) fun s hs => ?_
    obtain ⟨m1, rt, cd, at_, i⟩ := s
    obtain ⟨h0, h1, hj, hl⟩ := hs
    simp only at h0 h1 hj hl ⊢
    have hw : w64 (i + 1) = i + 1 := by rw [w64_eq]; omega
    refine Tot.cp (fun hlt => ?_) (fun hge => .so ⟨?_, ?_⟩)
    · have hlt' : i.toNat < a.Parts.length := by omega
      have hidx : idx a.Parts i = some a.Parts[i.toNat] := by simp [idx, h0, hlt']
      have hct := codes_take a.Parts i.toNat hlt'
      have hcl : codes (a.Parts.take i.toNat) ≤ 6 := by
        unfold codes
        refine Nat.le_trans (List.length_filter_le _ _) ?_
        rw [List.length_take]; omega
      have hp := ha.parts _ (List.getElem_mem hlt')
      have e1 : (i + 1).toNat = i.toNat + 1 := by omega
      refine Tot.by' (Ξ := fun j => KA j.1 lf (Q + codes (a.Parts.take (i.toNat + 1))) (I + codes (a.Parts.take (i.toNat + 1))) ∧ (j.2.1.length : Int) ≤ i + 1) ?_ fun j hj6 => ?_
      · rw [hidx]
        generalize a.Parts[i.toNat] = y at hp hct
        refine Tot.sm ?_
        refine Tot.by' (Ξ := fun j => KA j.1 lf (Q + codes (a.Parts.take (i.toNat + 1))) (I + codes (a.Parts.take (i.toNat + 1))) ∧ (j.2.1.length : Int) ≤ i + 1) ?_ fun j hj8 => .so hj8
        refine Tot.by' (Ξ := fun j => KA j.1 lf (Q + codes (a.Parts.take (i.toNat + 1))) (I + codes (a.Parts.take (i.toNat + 1))) ∧ (j.2.1.length : Int) ≤ i + 1) ?_ fun j hj8 => .so hj8
        refine Tot.cp (fun hc => ?_) (fun hc => ?_)
        · obtain ⟨ns, hk⟩ := hj.k
          refine .by' (k83 m1 y hk (by rw [hj.lf]; exact hL) (by rw [hj.lf]; omega) hp hc) fun r ⟨hk', hr⟩ => ?_
          refine .by' (Ξ := fun _ => True) (Tot.ap (by simp [lim]; omega) trivial) fun _ _ => .so ⟨(hj.rs hk' hr).mono (by omega) (by omega), by show (((rt ++ [_]).length : Nat) : Int) ≤ _; simp; omega⟩
        · rw [if_neg hc] at hct
          refine Tot.by' (Ξ := fun j => KA (⟨(⟨m1.f_g.Toks, m1.f_g.Nons, j.1, m1.f_g.Pro, m1.f_g.Tail⟩ : Grammar), m1.f_given, m1.f_types, m1.f_lefts, m1.f_e, m1.f_at, m1.f_name, m1.f_level, j.2.1⟩ : yuccaref9_maker) lf (Q + codes (a.Parts.take (i.toNat + 1))) (I + codes (a.Parts.take (i.toNat + 1))) ∧ (j.2.2.1.length : Int) ≤ i + 1) ?_ fun j hj9 => .so hj9
          obtain ⟨ns, hk⟩ := hj.k
          have hin := hj.i
          have hq := hj.q
          refine Tot.cp (fun _ => .so ⟨?_, by show (rt.length : Int) ≤ _; omega⟩) (fun _ => ?_)
          · exact ⟨⟨ns, ⟨hk.e, hk.tk, hk.gv, hk.nd⟩⟩, hj.lf, by show m1.f_g.Prods.length ≤ _; omega, ⟨hin.1, by show m1.f_inner ≤ _; omega⟩, hj.r, hj.ty⟩
          · have w1 : w64 (m1.f_inner + 1) = m1.f_inner + 1 := by rw [w64_eq]; omega
            rw [w1]
            refine .by' (Ξ := fun _ => True) (Tot.ap (by simp [lim]; omega) trivial) fun _ _ => .by' (Ξ := fun _ => True) (Tot.ap (by simp [lim]; omega) trivial) fun _ _ => .by' (Ξ := fun _ => True) (Tot.ap (by simp [lim]; omega) trivial) fun _ _ => .so ⟨⟨⟨ns, ⟨hk.e, hk.tk, hk.gv, hk.nd⟩⟩, hj.lf, ?_, ⟨?_, ?_⟩, fun p hp => ?_, hj.ty⟩, ?_⟩
            · show (m1.f_g.Prods ++ [_]).length ≤ _; simp; omega
            · show 0 ≤ m1.f_inner + 1; omega
            · show m1.f_inner + 1 ≤ _; omega
            · rcases List.mem_append.1 hp with hp | hp
              · exact hj.r p hp
              · rw [List.mem_singleton.1 hp]; exact Nat.zero_le _
            · show (((rt ++ [_]).length : Nat) : Int) ≤ _; simp; omega
      · rw [hw]
        refine .so ⟨⟨?_, ?_, ?_, ?_⟩, ?_, ?_⟩
        · show (0:Int) ≤ i + 1; omega
        · show i + 1 ≤ (a.Parts.length : Int); omega
        · show KA j.1 lf (Q + codes (a.Parts.take (i + 1).toNat)) (I + codes (a.Parts.take (i + 1).toNat))
          rw [e1]; exact hj6.1
        · exact hj6.2
        · show i < i + 1; omega
        · show i + 1 ≤ (a.Parts.length : Int); omega
    · have : a.Parts.take i.toNat = a.Parts := List.take_of_length_le (by omega)
      rw [this] at hj
      exact hj
    · show rt.length ≤ 6; omega
  · obtain ⟨hj, hr⟩ := hx3
    refine Tot.by' (Ξ := fun _ => True) ?_ fun pr hpr => ?_
    · refine Tot.count (fun s => s.2) x3.2.1.length (fun s => 0 ≤ s.2) (Int.le_refl 0) (by show (x3.2.1.length : Int) - 0 < _; omega) fun s hs => ?_
      have hs : 0 ≤ s.2 := hs
      refine Tot.cp (fun hlt => ?_) (fun _ => .so trivial)
      have hw : w64 (s.2 + 1) = s.2 + 1 := by rw [w64_eq]; omega
      rw [hw]
      refine Tot.by' (Ξ := fun _ => True) ?_ fun p hp => .so ⟨?_, ?_, ?_⟩
      · obtain ⟨y, hy, hm⟩ := idx_some hs hlt
        rw [hy]
        refine Tot.sm (.by' (Ξ := fun _ => True) (Tot.cp (fun _ => Tot.sm (.so trivial)) (fun _ => .so trivial)) fun _ _ => .so trivial)
      · show (0:Int) ≤ s.2 + 1; omega
      · show s.2 < s.2 + 1; omega
      · show s.2 + 1 ≤ (x3.2.1.length : Int); omega
    · refine Tot.by' (Ξ := fun j => j.1 = x3.1) (Tot.cn (fun h => absurd (by rw [ha.prec]) h) (fun _ => .so rfl)) fun j hj27 => ?_
      have hcl : codes a.Parts ≤ 6 := by
        unfold codes
        exact Nat.le_trans (List.length_filter_le _ _) hn
      have hq := hj.q
      rw [hj27]
      obtain ⟨ns, hk⟩ := hj.k
      refine .by' (Ξ := fun _ => True) (Tot.ap (by simp [lim]; omega) trivial) fun _ _ => .by' (Ξ := fun _ => True) (Tot.ap (by simp [lim]; omega) trivial) fun _ _ => .so ⟨⟨ns, ⟨hk.e, hk.tk, hk.gv, hk.nd⟩⟩, hj.lf, ?_, hj.i, fun p hp => ?_, hj.ty⟩
      · show (x3.1.f_g.Prods ++ [_]).length ≤ _; simp; omega
      · rcases List.mem_append.1 hp with hp | hp
        · exact hj.r p hp
        · rw [List.mem_singleton.1 hp]
          show x3.2.1.length ≤ 8; omega
end Go.Proofs
namespace Go.Proofs
open Go Go.Own
set_option maxRecDepth 100000
set_option linter.unusedVariables false
theorem names_take (l : List Decl) (i : Nat) (h : i < l.length) : names (l.take (i + 1)) = names (l.take i) ++ (l[i].Syms).map (·.Name) := by
  rw [List.take_add_one, List.getElem?_eq_getElem h]
  unfold names
  rw [List.flatMap_append, List.map_append]
  exact congrArg _ (congrArg _ (List.append_nil _))
theorem nA_take (l : List Rule) (i : Nat) (h : i < l.length) : nA (l.take (i + 1)) = nA (l.take i) + l[i].Alts.length := by
  rw [List.take_add_one, List.getElem?_eq_getElem h]
  unfold nA
  rw [List.map_append, List.sum_append]
  rfl
theorem nC_take (l : List Rule) (i : Nat) (h : i < l.length) : nC (l.take (i + 1)) = nC (l.take i) + cA l[i].Alts := by
  rw [List.take_add_one, List.getElem?_eq_getElem h]
  unfold nC
  rw [List.map_append, List.sum_append]
  rfl
theorem cA_take (l : List Alt) (i : Nat) (h : i < l.length) : cA (l.take (i + 1)) = cA (l.take i) + codes l[i].Parts := by
  rw [List.take_add_one, List.getElem?_eq_getElem h]
  unfold cA
  rw [List.map_append, List.sum_append]
  rfl
theorem sum_take (l : List Nat) (i : Nat) : (l.take i).sum ≤ l.sum := by
  have := congrArg List.sum (List.take_append_drop i l)
  rw [List.sum_append] at this
  omega
theorem nA_le (l : List Rule) (i : Nat) : nA (l.take i) ≤ nA l := by
  unfold nA
  rw [List.map_take]
  exact sum_take ..
theorem nC_le (l : List Rule) (i : Nat) : nC (l.take i) ≤ nC l := by
  unfold nC
  rw [List.map_take]
  exact sum_take ..
theorem cA_le (l : List Alt) (i : Nat) : cA (l.take i) ≤ cA l := by
  unfold cA
  rw [List.map_take]
  exact sum_take ..
theorem K0.lvl {m : Mk} {ns : List ByteArray} (h : K0 m ns) (l : Int) : K0 (⟨m.f_g, m.f_given, m.f_types, m.f_lefts, m.f_e, m.f_at, m.f_name, l, m.f_inner⟩ : yuccaref9_maker) ns := ⟨h.e, h.tk, h.gv, h.nd⟩
structure KD (m : Mk) (ns : List ByteArray) : Prop where
  k : K0 m ns
  lf : m.f_lefts = []
  pr : m.f_g.Prods = []
  inn : m.f_inner = 0
  ty : m.f_types = []
theorem n50 (s : Source) (h : SrcN s) : Tot (pf50 s) fun r => r.2.1 = 0 := by
  unfold pf50
  have hrn := h.rn
  have hdn := h.dn
  have hna := h.na
  have hnc := h.nc
  refine .by' (n63 h) fun c hc => ?_
  subst hc
  refine Tot.cd (fun h => by cases h) (fun _ => ?_)
  refine .by' (Ξ := fun l => l = [false, false, false]) ⟨_, rfl, rfl⟩ fun x3 hx3 => ?_
  subst hx3
  -- declarations
  refine Tot.by' (Ξ := fun r => KD r.1 (names s.Decls) ∧ r.2 = nE) ?_ fun x5 h5 => ?_
  · refine Tot.count (fun z => z.2.2) s.Decls.length (fun z => 0 ≤ z.2.2 ∧ z.2.2 ≤ s.Decls.length ∧ KD z.1 (names (s.Decls.take z.2.2.toNat)) ∧ z.2.1 = nE) ⟨Int.le_refl 0, by show (0:Int) ≤ _; omega, ⟨⟨rfl, ⟨[], rfl, rfl, by simp⟩, rfl, by simp [names]⟩, rfl, rfl, rfl, rfl⟩, rfl⟩ (by show (s.Decls.length : Int) - 0 < _; omega) fun z hz => ?_
    obtain ⟨m, st, i⟩ := z
    obtain ⟨h0, h1, hm, hst⟩ := hz
    simp only at h0 h1 hm hst ⊢
    have hw : w64 (i + 1) = i + 1 := by rw [w64_eq]; omega
    rw [hw]
    refine Tot.cp (fun hlt => ?_) (fun hge => .so ⟨?_, hst⟩)
    · have hlt' : i.toNat < s.Decls.length := by omega
      have hidx : idx s.Decls i = some s.Decls[i.toNat] := by simp [idx, h0, hlt']
      have hnt := names_take s.Decls i.toNat hlt'
      have hnd := h.nd
      rw [← List.take_append_drop (i.toNat + 1) s.Decls] at hnd
      unfold names at hnd
      rw [List.flatMap_append, List.map_append] at hnd
      have hnd := (List.nodup_append.1 hnd).1
      have hnd : (names (s.Decls.take (i.toNat + 1))).Nodup := hnd
      rw [hnt] at hnd
      have hD := h.decls _ (List.getElem_mem hlt')
      rw [hidx]
      generalize s.Decls[i.toNat] = d at hnt hD hnd
      have hk := hD.kind
      have hsn := hD.n
      refine Tot.sm (.by' (Ξ := fun _ => True) (Tot.cd (fun _ => .so trivial) (fun _ => .so trivial)) fun c _ => .by' (Ξ := fun _ => True) (Tot.cd (fun _ => .so trivial) (fun _ => .so trivial)) fun j11 _ => ?_)
      refine Tot.by' (Ξ := fun r => KD r.1 (names (s.Decls.take (i.toNat + 1))) ∧ r.2 = nE) ?_ fun r hr => .so ⟨⟨?_, ?_, ?_, hr.2⟩, ?_, ?_⟩
      · refine Tot.count (fun z => z.2.2) d.Syms.length (fun z => 0 ≤ z.2.2 ∧ z.2.2 ≤ d.Syms.length ∧ KD z.1 (names (s.Decls.take i.toNat) ++ (d.Syms.take z.2.2.toNat).map (·.Name)) ∧ z.2.1 = nE) ⟨Int.le_refl 0, by show (0:Int) ≤ _; omega, ⟨by
          show K0 _ (names (s.Decls.take i.toNat) ++ (d.Syms.take 0).map (·.Name))
          rw [List.take_zero, List.map_nil, List.append_nil]
          exact hm.k.lvl _, hm.lf, hm.pr, hm.inn, hm.ty⟩, hst⟩ (by show (d.Syms.length : Int) - 0 < _; omega) fun z hz => ?_
        obtain ⟨m, st, k⟩ := z
        obtain ⟨g0, g1, hm, hst⟩ := hz
        simp only at g0 g1 hm hst ⊢
        have hwk : w64 (k + 1) = k + 1 := by rw [w64_eq]; omega
        rw [hwk]
        refine Tot.cp (fun hltk => ?_) (fun hgek => .so ⟨?_, hst⟩)
        · have hkt' : k.toNat < d.Syms.length := by omega
          have hkdx : idx d.Syms k = some d.Syms[k.toNat] := by simp [idx, g0, hkt']
          have htk : d.Syms.take (k.toNat + 1) = d.Syms.take k.toNat ++ [d.Syms[k.toNat]] := by
            rw [List.take_add_one, List.getElem?_eq_getElem hkt']; rfl
          have hx := hD.syms _ (List.getElem_mem hkt')
          have hfresh : d.Syms[k.toNat].Name ∉ names (s.Decls.take i.toNat) ++ (d.Syms.take k.toNat).map (·.Name) := by
            rw [← List.take_append_drop (k.toNat + 1) d.Syms, htk, List.map_append, List.map_append, ← List.append_assoc, ← List.append_assoc] at hnd
            have h2 := (List.nodup_append.1 hnd).1
            intro hin
            exact (List.nodup_append.1 h2).2.2 _ hin _ (by simp) rfl
          rw [hkdx]
          generalize d.Syms[k.toNat] = x at htk hx hfresh
          refine Tot.by' (Ξ := fun j => KD j.1 (names (s.Decls.take i.toNat) ++ (d.Syms.take (k.toNat + 1)).map (·.Name)) ∧ j.2 = nE) ?_ fun j hj => .so ⟨⟨?_, ?_, ?_, hj.2⟩, ?_, ?_⟩
          · refine Tot.cn (fun _ => Tot.sm ?_) (fun h => absurd h (by omega))
            refine .by' (k64 m d x hm.k hD hx hfresh) fun m' ⟨hk', hr⟩ => .so ⟨⟨?_, hr.lf.trans hm.lf, hr.pr.trans hm.pr, hr.inn.trans hm.inn, hr.ty.trans hm.ty⟩, hst⟩
            show K0 m' _
            rw [htk, List.map_append, ← List.append_assoc]
            exact hk'
          · show 0 ≤ k + 1; omega
          · show k + 1 ≤ (d.Syms.length : Int); omega
          · show KD j.1 (names (s.Decls.take i.toNat) ++ (d.Syms.take (k + 1).toNat).map (·.Name))
            rw [show (k + 1).toNat = k.toNat + 1 by omega]
            exact hj.1
          · show k < k + 1; omega
          · show k + 1 ≤ (d.Syms.length : Int); omega
        · rw [List.take_of_length_le (l := d.Syms) (by omega)] at hm
          show KD m (names (s.Decls.take (i.toNat + 1)))
          rw [hnt]
          exact hm
      · show 0 ≤ i + 1; omega
      · show i + 1 ≤ (s.Decls.length : Int); omega
      · show KD r.1 (names (s.Decls.take (i + 1).toNat))
        rw [show (i + 1).toNat = i.toNat + 1 by omega]
        exact hr.1
      · show i < i + 1; omega
      · show i + 1 ≤ (s.Decls.length : Int); omega
    · rw [List.take_of_length_le (by omega)] at hm
      exact hm
  obtain ⟨hm5, hst5⟩ := h5
  -- what stands on the left
  refine Tot.by' (Ξ := fun r => K0 r (names s.Decls) ∧ r.f_lefts.length ≤ 4 ∧ (∀ n ∈ s.Rules.map (·.Left), n ∈ r.f_lefts) ∧ r.f_g.Prods = [] ∧ r.f_inner = 0 ∧ r.f_types = []) ?_ fun x28 h28 => ?_
  · refine Tot.count (fun z => z.2) s.Rules.length (fun z => 0 ≤ z.2 ∧ z.2 ≤ s.Rules.length ∧ K0 z.1 (names s.Decls) ∧ (z.1.f_lefts.length : Int) ≤ z.2 ∧ (∀ n ∈ (s.Rules.take z.2.toNat).map (·.Left), n ∈ z.1.f_lefts) ∧ z.1.f_g.Prods = [] ∧ z.1.f_inner = 0 ∧ z.1.f_types = []) ⟨Int.le_refl 0, by show (0:Int) ≤ _; omega, hm5.k, by show ((x5.1.f_lefts.length : Nat) : Int) ≤ 0; rw [hm5.lf]; decide, by intro n hn; simp at hn, hm5.pr, hm5.inn, hm5.ty⟩ (by show (s.Rules.length : Int) - 0 < _; omega) fun z hz => ?_
    obtain ⟨m, i⟩ := z
    obtain ⟨h0, h1, hm, hll, hlm, hpr, hin, hty⟩ := hz
    simp only at h0 h1 hm hll hlm hpr hin hty ⊢
    have hw : w64 (i + 1) = i + 1 := by rw [w64_eq]; omega
    rw [hw]
    refine Tot.cp (fun hlt => ?_) (fun hge => .so ⟨hm, by show m.f_lefts.length ≤ 4; omega, ?_, hpr, hin, hty⟩)
    · have hlt' : i.toNat < s.Rules.length := by omega
      have hidx : idx s.Rules i = some s.Rules[i.toNat] := by simp [idx, h0, hlt']
      have htk : s.Rules.take (i.toNat + 1) = s.Rules.take i.toNat ++ [s.Rules[i.toNat]] := by
        rw [List.take_add_one, List.getElem?_eq_getElem hlt']; rfl
      have hnt := h.lefts _ (List.getElem_mem hlt')
      rw [hidx]
      generalize s.Rules[i.toNat] = r at htk hnt
      obtain ⟨hlen, h4⟩ := hm.len
      refine Tot.by' (Ξ := fun j => K0 j (names s.Decls) ∧ (j.f_lefts.length : Int) ≤ i + 1 ∧ (∀ n ∈ (s.Rules.take (i.toNat + 1)).map (·.Left), n ∈ j.f_lefts) ∧ j.f_g.Prods = [] ∧ j.f_inner = 0 ∧ j.f_types = []) ?_ fun j hj => .so ⟨⟨?_, ?_, hj.1, hj.2.1, ?_, hj.2.2.2⟩, ?_, ?_⟩
      · refine Tot.sm (.by' (k66 m _ (by omega)) fun t ht => ?_)
        refine .by' (Ξ := fun j => j = m) (Tot.cp (fun h0 => ?_) (fun _ => .so rfl)) fun j hj => ?_
        · exfalso
          rcases ht with ⟨rfl, _⟩ | ⟨a, b, c, u, d, e, f⟩
          · exact absurd h0 (by decide)
          · obtain ⟨l, el, _, hl⟩ := hm.tk
            have e : u.Name = r.Left := e
            have f : u.Lit = false := f
            rw [el] at d
            by_cases h3 : t.toNat < 3
            · have hu : u ∈ T3 := by
                rw [List.getElem?_append_left (by exact h3)] at d
                exact List.mem_of_getElem? d
              rw [← e] at hnt
              simp only [T3, List.mem_cons, List.not_mem_nil, or_false] at hu
              rcases hu with rfl | rfl | rfl <;> simp [NT4] at hnt
            · rw [List.getElem?_append_right (by show 3 ≤ t.toNat; omega)] at d
              rw [(hl u (List.mem_of_getElem? d)).1] at f
              cases f
        · subst hj
          refine .by' (t67 j r.Left (by simp only [big]; omega)) fun k hk => ?_
          refine Tot.by' (Ξ := fun l => (l.length : Int) ≤ i + 1 ∧ (∀ n ∈ j.f_lefts, n ∈ l) ∧ r.Left ∈ l) ?_ fun l hl => .so ⟨⟨hm.e, hm.tk, hm.gv, hm.nd⟩, hl.1, fun n hn => ?_, hpr, hin, hty⟩
          · refine Tot.cp (fun _ => ?_) (fun hge => .so ⟨by omega, fun _ h => h, ?_⟩)
            · exact .by' (Ξ := fun _ => True) (Tot.ap (by simp [lim]; omega) trivial) fun _ _ => .so ⟨by simp; omega, fun n hn => by simp [hn], by simp⟩
            · rcases hk with ⟨rfl, _⟩ | ⟨_, _, e⟩
              · exact absurd (by decide) hge
              · exact List.mem_of_getElem? e
          · rw [htk, List.map_append, List.mem_append] at hn
            rcases hn with hn | hn
            · exact hl.2.1 n (hlm n hn)
            · have hn : n ∈ [r.Left] := hn
              rw [List.mem_singleton.1 hn]
              exact hl.2.2
      · show 0 ≤ i + 1; omega
      · show i + 1 ≤ (s.Rules.length : Int); omega
      · show ∀ n ∈ (s.Rules.take (i + 1).toNat).map (·.Left), n ∈ j.f_lefts
        rw [show (i + 1).toNat = i.toNat + 1 by omega]
        exact hj.2.2.1
      · show i < i + 1; omega
      · show i + 1 ≤ (s.Rules.length : Int); omega
    · rw [List.take_of_length_le (by omega)] at hlm
      exact hlm
  obtain ⟨hm28, hll28, hlm28, hpr28, hin28, hty28⟩ := h28
  -- types and starts
  refine Tot.by' (Ξ := fun r => r = x28) ?_ fun x42 h42 => ?_
  · refine Tot.count (fun z => z.2) s.Decls.length (fun z => 0 ≤ z.2 ∧ z.2 ≤ s.Decls.length ∧ z.1 = x28) ⟨Int.le_refl 0, by show (0:Int) ≤ _; omega, rfl⟩ (by show (s.Decls.length : Int) - 0 < _; omega) fun z hz => ?_
    obtain ⟨m, i⟩ := z
    obtain ⟨h0, h1, hm⟩ := hz
    simp only at h0 h1 hm ⊢
    subst hm
    have hw : w64 (i + 1) = i + 1 := by rw [w64_eq]; omega
    rw [hw]
    refine Tot.cp (fun hlt => ?_) (fun _ => .so rfl)
    refine Tot.by' (Ξ := fun r => r = m) ?_ fun x46 h46 => .so ⟨⟨?_, ?_, h46⟩, ?_, ?_⟩
    · have hlt' : i.toNat < s.Decls.length := by omega
      have hi : idx s.Decls i = some s.Decls[i.toNat] := by simp [idx, h0, hlt']
      rw [hi]
      have hD := h.decls _ (List.getElem_mem hlt')
      generalize s.Decls[i.toNat] = d at hD
      have hsn := hD.n
      have hkd := hD.kind
      refine Tot.count (fun z => z.2) d.Syms.length (fun z => 0 ≤ z.2 ∧ z.2 ≤ d.Syms.length ∧ z.1 = m) ⟨Int.le_refl 0, by show (0:Int) ≤ _; omega, rfl⟩ (by show (d.Syms.length : Int) - 0 < _; omega) fun z hz => ?_
      obtain ⟨m', k⟩ := z
      obtain ⟨g0, g1, hm⟩ := hz
      simp only at g0 g1 hm ⊢
      subst hm
      have hwk : w64 (k + 1) = k + 1 := by rw [w64_eq]; omega
      rw [hwk]
      refine Tot.sm (Tot.cp (fun hltk => ?_) (fun _ => .so rfl))
      refine Tot.by' (Ξ := fun j => j = m') ?_ fun j hj => .so ⟨⟨?_, ?_, hj⟩, ?_, ?_⟩
      · refine Tot.sm (.by' (Tot.ix (Φ := fun _ => True) g0 hltk fun _ _ _ => trivial) fun x _ => ?_)
        refine .by' (Ξ := fun c => c = false) (Tot.sm (Tot.cp (fun h => absurd h (by omega)) (fun _ => .so rfl))) fun c hc => ?_
        subst hc
        refine .by' (Ξ := fun j => j = m') (.so rfl) fun j hj => .so hj
      · show 0 ≤ k + 1; omega
      · show k + 1 ≤ (d.Syms.length : Int); omega
      · show k < k + 1; omega
      · show k + 1 ≤ (d.Syms.length : Int); omega
    · show 0 ≤ i + 1; omega
    · show i + 1 ≤ (s.Decls.length : Int); omega
    · show i < i + 1; omega
    · show i + 1 ≤ (s.Decls.length : Int); omega
  subst h42
  -- the start
  refine Tot.by' (Ξ := fun _ => True) (Tot.cd (fun _ => .by' (Ξ := fun _ => True) (Tot.ix (by decide) (by omega) fun _ _ _ => trivial) fun _ _ => .so trivial) (fun _ => .so trivial)) fun j60 _ => ?_
  refine .by' (t67 x42 j60 (by simp only [big]; omega)) fun x63 h63 => ?_
  -- the alternatives
  refine Tot.by' (Ξ := fun r => KA r x42.f_lefts 32 18) ?_ fun x65 h65 => ?_
  · refine Tot.count (fun z => z.2) s.Rules.length (fun z => 0 ≤ z.2 ∧ z.2 ≤ s.Rules.length ∧ KA z.1 x42.f_lefts (1 + nA (s.Rules.take z.2.toNat) + nC (s.Rules.take z.2.toNat)) (nC (s.Rules.take z.2.toNat))) ⟨Int.le_refl 0, by show (0:Int) ≤ _; omega, ⟨⟨_, ⟨hm28.e, hm28.tk, hm28.gv, hm28.nd⟩⟩, rfl, by show 1 ≤ 1 + 0 + 0; omega, ⟨by show 0 ≤ x42.f_inner; omega, by show x42.f_inner ≤ ((0 : Nat) : Int); omega⟩, fun p hp => ?_, by show x42.f_types.length ≤ 100; rw [hty28]; decide⟩⟩ (by show (s.Rules.length : Int) - 0 < _; omega) fun z hz => ?_
    · rw [List.mem_singleton.1 hp]
      show 1 ≤ 8; omega
    · obtain ⟨m, i⟩ := z
      obtain ⟨h0, h1, hm⟩ := hz
      simp only at h0 h1 hm ⊢
      have hw : w64 (i + 1) = i + 1 := by rw [w64_eq]; omega
      rw [hw]
      have a1 := nA_le s.Rules i.toNat
      have c1 := nC_le s.Rules i.toNat
      refine Tot.cp (fun hlt => ?_) (fun _ => .so (hm.mono (by omega) (by omega)))
      refine Tot.by' (Ξ := fun r => KA r x42.f_lefts (1 + nA (s.Rules.take (i.toNat + 1)) + nC (s.Rules.take (i.toNat + 1))) (nC (s.Rules.take (i.toNat + 1)))) ?_ fun x69 h69 => .so ⟨⟨?_, ?_, ?_⟩, ?_, ?_⟩
      · have hlt' : i.toNat < s.Rules.length := by omega
        have hi : idx s.Rules i = some s.Rules[i.toNat] := by simp [idx, h0, hlt']
        have hat := nA_take s.Rules i.toNat hlt'
        have hct := nC_take s.Rules i.toNat hlt'
        have a2 := nA_le s.Rules (i.toNat + 1)
        have c2 := nC_le s.Rules (i.toNat + 1)
        have hR := h.rules _ (List.getElem_mem hlt')
        rw [hi]
        generalize s.Rules[i.toNat] = d at hat hct hR
        have hdn := hR.n
        refine Tot.count (fun z => z.2) d.Alts.length (fun z => 0 ≤ z.2 ∧ z.2 ≤ d.Alts.length ∧ KA z.1 x42.f_lefts (1 + nA (s.Rules.take i.toNat) + nC (s.Rules.take i.toNat) + z.2.toNat + cA (d.Alts.take z.2.toNat)) (nC (s.Rules.take i.toNat) + cA (d.Alts.take z.2.toNat))) ⟨Int.le_refl 0, by show (0:Int) ≤ _; omega, hm⟩ (by show (d.Alts.length : Int) - 0 < _; omega) fun z hz => ?_
        obtain ⟨m, k⟩ := z
        obtain ⟨g0, g1, hm⟩ := hz
        simp only at g0 g1 hm ⊢
        have hwk : w64 (k + 1) = k + 1 := by rw [w64_eq]; omega
        rw [hwk]
        have b1 := cA_le d.Alts k.toNat
        refine Tot.sm (Tot.cp (fun hltk => ?_) (fun _ => .so (hm.mono (by omega) (by omega))))
        have hkt' : k.toNat < d.Alts.length := by omega
        have hkdx : idx d.Alts k = some d.Alts[k.toNat] := by simp [idx, g0, hkt']
        have hct2 := cA_take d.Alts k.toNat hkt'
        have b2 := cA_le d.Alts (k.toNat + 1)
        have hA := hR.alts _ (List.getElem_mem hkt')
        generalize d.Alts[k.toNat] = a at hkdx hct2 hA
        refine Tot.sm (Tot.sm ?_)
        rw [hkdx]
        refine Tot.sm (.by' (k68 m d.Left a hm (by omega) (by omega) (by omega) hlm28 hA) fun m' hm' => .so ⟨⟨?_, ?_, ?_⟩, ?_, ?_⟩)
        · show 0 ≤ k + 1; omega
        · show k + 1 ≤ (d.Alts.length : Int); omega
        · show KA m' x42.f_lefts (1 + nA (s.Rules.take i.toNat) + nC (s.Rules.take i.toNat) + (k + 1).toNat + cA (d.Alts.take (k + 1).toNat)) (nC (s.Rules.take i.toNat) + cA (d.Alts.take (k + 1).toNat))
          rw [show (k + 1).toNat = k.toNat + 1 by omega]
          exact hm'.mono (by omega) (by omega)
        · show k < k + 1; omega
        · show k + 1 ≤ (d.Alts.length : Int); omega
      · show 0 ≤ i + 1; omega
      · show i + 1 ≤ (s.Rules.length : Int); omega
      · show KA x69 x42.f_lefts (1 + nA (s.Rules.take (i + 1).toNat) + nC (s.Rules.take (i + 1).toNat)) (nC (s.Rules.take (i + 1).toNat))
        rw [show (i + 1).toNat = i.toNat + 1 by omega]
        exact h69
      · show i < i + 1; omega
      · show i + 1 ≤ (s.Rules.length : Int); omega
  obtain ⟨ns, hk65⟩ := h65.k
  obtain ⟨hlen65, h465⟩ := hk65.len
  have h65q := h65.q
  have h65i := h65.i
  refine Tot.cn (fun h => absurd hk65.e h) (fun _ => ?_)
  have hll : x65.f_lefts.length ≤ 4 := by rw [h65.lf]; exact hll28
  -- nonterminals
  refine Tot.by' (Ξ := fun l => l.length ≤ 5) ?_ fun x79 h79 => ?_
  · refine Tot.count (fun z => z.2) x65.f_lefts.length (fun z => 0 ≤ z.2 ∧ z.2 ≤ x65.f_lefts.length ∧ z.1.length = 1 + z.2.toNat) ⟨Int.le_refl 0, by show (0:Int) ≤ _; omega, rfl⟩ (by show (x65.f_lefts.length : Int) - 0 < _; omega) fun z hz => ?_
    obtain ⟨l, i⟩ := z
    obtain ⟨h0, h1, hl⟩ := hz
    simp only at h0 h1 hl ⊢
    have hw : w64 (i + 1) = i + 1 := by rw [w64_eq]; omega
    rw [hw]
    refine Tot.cp (fun hlt => ?_) (fun _ => .so (by show l.length ≤ 5; omega))
    have hty := h65.ty
    refine .by' (Tot.ix (Φ := fun _ => True) h0 hlt fun _ _ _ => trivial) fun x82 _ => .by' (t69 _ _ (by show x65.f_types.length ≤ _; simp only [big]; omega)) fun x83 h83 => ?_
    have h83' : x83 = -1 ∨ (0 ≤ x83 ∧ x83 < x65.f_types.length) := h83
    refine .by' (Ξ := fun _ => True) (Tot.cp (fun h => .by' (Ξ := fun _ => True) (Tot.ix h (by omega) fun _ _ _ => trivial) fun _ _ => .so trivial) (fun _ => .so trivial)) fun j84 _ => ?_
    refine .by' (Ξ := fun _ => True) (Tot.ap (by simp [lim]; omega) trivial) fun _ _ => .so ⟨⟨?_, ?_, ?_⟩, ?_, ?_⟩
    · show 0 ≤ i + 1; omega
    · show i + 1 ≤ (x65.f_lefts.length : Int); omega
    · show (l ++ [_]).length = 1 + (i + 1).toNat
      simp; omega
    · show i < i + 1; omega
    · show i + 1 ≤ (x65.f_lefts.length : Int); omega
  refine Tot.by' (Ξ := fun l => l.length ≤ 23) ?_ fun x89 h89 => ?_
  · refine Tot.count (fun z => z.2) (x65.f_inner + 1) (fun z => 1 ≤ z.2 ∧ z.2 ≤ x65.f_inner + 1 ∧ (z.1.length : Int) ≤ 5 + (z.2 - 1)) ⟨Int.le_refl 1, by show (1:Int) ≤ _; omega, by show (x79.length : Int) ≤ 5 + (1 - 1); omega⟩ (by show x65.f_inner + 1 - 1 < _; omega) fun z hz => ?_
    obtain ⟨l, i⟩ := z
    obtain ⟨h0, h1, hl⟩ := hz
    simp only at h0 h1 hl ⊢
    have hw : w64 (i + 1) = i + 1 := by rw [w64_eq]; omega
    rw [hw]
    refine Tot.cp (fun hlt => ?_) (fun _ => .so (by show l.length ≤ 23; omega))
    refine .by' (t52 i (by omega) (by omega)) fun x92 h92 => .by' (Ξ := fun _ => True) (Tot.cat (by show 1 + x92.size ≤ _; omega) trivial) fun x93 _ => ?_
    refine .by' (Ξ := fun _ => True) (Tot.ap (by simp [lim]; omega) trivial) fun _ _ => .so ⟨⟨?_, ?_, ?_⟩, ?_, ?_⟩
    · show 1 ≤ i + 1; omega
    · show i + 1 ≤ x65.f_inner + 1; omega
    · show ((l ++ [_]).length : Int) ≤ 5 + (i + 1 - 1)
      simp; omega
    · show i < i + 1; omega
    · show i + 1 ≤ x65.f_inner + 1; omega
  -- numbers
  have hgv := hk65.gv
  refine Tot.by' (Ξ := fun l => l.length = x65.f_g.Toks.length) ?_ fun x96 h96 => ?_
  · refine Tot.count (fun z => z.2.2) x65.f_g.Toks.length (fun z => 3 ≤ z.2.2 ∧ z.2.2 ≤ x65.f_g.Toks.length ∧ z.1.length = x65.f_g.Toks.length) ⟨Int.le_refl 3, by show (3:Int) ≤ _; omega, rfl⟩ (by show (x65.f_g.Toks.length : Int) - 3 < _; omega) fun z hz => ?_
    obtain ⟨l, n, i⟩ := z
    obtain ⟨h0, h1, hl⟩ := hz
    simp only at h0 h1 hl ⊢
    have hw : w64 (i + 1) = i + 1 := by rw [w64_eq]; omega
    rw [hw]
    refine Tot.cp (fun hlt => ?_) (fun _ => .so hl)
    refine Tot.by' (Ξ := fun j => j.1.length = x65.f_g.Toks.length) ?_ fun j hj => .so ⟨⟨?_, ?_, hj⟩, ?_, ?_⟩
    · refine .by' (Tot.ix (Φ := fun _ => True) (by omega) (by rw [hgv]; omega) fun _ _ _ => trivial) fun _ _ => ?_
      refine Tot.by' (Ξ := fun j => j.1.length = x65.f_g.Toks.length) ?_ fun j hj => .so hj
      refine Tot.cd (fun _ => ?_) (fun _ => .so hl)
      exact .by' (Tot.ix (Φ := fun y => y ∈ l) (by omega) hlt fun _ _ h => h) fun y hy => .so (by show (l.set _ _).length = _; simp [hl])
    · show 3 ≤ i + 1; omega
    · show i + 1 ≤ (x65.f_g.Toks.length : Int); omega
    · show i < i + 1; omega
    · show i + 1 ≤ (x65.f_g.Toks.length : Int); omega
  -- limits
  refine Tot.by' (Ξ := fun c => c = false) (Tot.cp (fun h => absurd h (by omega)) (fun _ => Tot.cp (fun h => absurd h (by omega)) (fun _ => .so (decide_eq_false (by omega))))) fun c106 h106 => ?_
  subst h106
  refine Tot.by' (Ξ := fun c => c = false) ?_ fun x108 h108 => ?_
  · refine Tot.count (fun z => z.2) x65.f_g.Prods.length (fun z => 0 ≤ z.2 ∧ z.2 ≤ x65.f_g.Prods.length ∧ z.1 = false) ⟨Int.le_refl 0, by show (0:Int) ≤ _; omega, rfl⟩ (by show (x65.f_g.Prods.length : Int) - 0 < _; omega) fun z hz => ?_
    obtain ⟨c, i⟩ := z
    obtain ⟨h0, h1, hl⟩ := hz
    simp only at h0 h1 hl ⊢
    have hw : w64 (i + 1) = i + 1 := by rw [w64_eq]; omega
    rw [hw]
    subst hl
    refine Tot.cp (fun hlt => ?_) (fun hge => .so rfl)
    refine Tot.by' (Ξ := fun c' => c' = false) ?_ fun c' hc' => .so ⟨⟨?_, ?_, hc'⟩, ?_, ?_⟩
    · refine Tot.cd (fun h => by cases h) (fun _ => .by' (Tot.ix (Φ := fun y => y ∈ x65.f_g.Prods) h0 hlt fun y _ h => h) fun y hy => .so (decide_eq_false ?_))
      have := h65.r y hy
      omega
    · show 0 ≤ i + 1; omega
    · show i + 1 ≤ (x65.f_g.Prods.length : Int); omega
    · show i < i + 1; omega
    · show i + 1 ≤ (x65.f_g.Prods.length : Int); omega
  subst h108
  exact Tot.so rfl
end Go.Proofs
namespace Go.Proofs
open Go Go.Own
set_option maxRecDepth 100000
set_option linter.unusedVariables false
theorem four {P : Int → Prop} (i : Int) (h0 : 0 ≤ i) (h : i < 4) (a : P 0) (b : P 1) (c : P 2) (d : P 3) : P i := by
  obtain rfl | rfl | rfl | rfl : i = 0 ∨ i = 1 ∨ i = 2 ∨ i = 3 := by omega
  · exact a
  · exact b
  · exact c
  · exact d
theorem n49 (i : Int) (h0 : 0 ≤ i) (h : i < 4) : ∃ x, x ∈ LT ∧ pf49 i = some x ∧ Ltr[i.toNat]? = some x.Name := by
  refine four (P := fun i => ∃ x, x ∈ LT ∧ pf49 i = some x ∧ Ltr[i.toNat]? = some x.Name) i h0 h ?_ ?_ ?_ ?_
  · exact ⟨⟨⟨#[112]⟩, true, 0, 0⟩, by simp [LT], by kernel_rfl, rfl⟩
  · exact ⟨⟨⟨#[113]⟩, true, 0, 0⟩, by simp [LT], by kernel_rfl, rfl⟩
  · exact ⟨⟨⟨#[114]⟩, true, 0, 0⟩, by simp [LT], by kernel_rfl, rfl⟩
  · exact ⟨⟨⟨#[115]⟩, true, 0, 0⟩, by simp [LT], by kernel_rfl, rfl⟩
theorem n49' (i : Int) (h0 : 0 ≤ i) (h : i < 8) : ∃ x, x ∈ LT ∧ pf49 i = some x := by
  by_cases h4 : i < 4
  · obtain ⟨x, a, b, _⟩ := n49 i h0 h4
    exact ⟨x, a, b⟩
  · obtain rfl | rfl | rfl | rfl : i = 4 ∨ i = 5 ∨ i = 6 ∨ i = 7 := by omega
    · exact ⟨⟨⟨#[112]⟩, true, 0, 0⟩, by simp [LT], by kernel_rfl⟩
    · exact ⟨⟨⟨#[113]⟩, true, 0, 0⟩, by simp [LT], by kernel_rfl⟩
    · exact ⟨⟨⟨#[114]⟩, true, 0, 0⟩, by simp [LT], by kernel_rfl⟩
    · exact ⟨⟨⟨#[115]⟩, true, 0, 0⟩, by simp [LT], by kernel_rfl⟩
theorem n47 (i : Int) (h0 : 0 ≤ i) (h : i < 4) : ∃ s, pf47 i = some s ∧ NT4[i.toNat]? = some s ∧ (⟨s, false, 0, 0⟩ : Sym) ∈ NT := by
  refine four (P := fun i => ∃ s, pf47 i = some s ∧ NT4[i.toNat]? = some s ∧ (⟨s, false, 0, 0⟩ : Sym) ∈ NT) i h0 h ?_ ?_ ?_ ?_
  · exact ⟨⟨#[97]⟩, by kernel_rfl, rfl, by simp [NT]⟩
  · exact ⟨⟨#[98]⟩, by kernel_rfl, rfl, by simp [NT]⟩
  · exact ⟨⟨#[99]⟩, by kernel_rfl, rfl, by simp [NT]⟩
  · exact ⟨⟨#[100]⟩, by kernel_rfl, rfl, by simp [NT]⟩
theorem take_mem {l : List ByteArray} {i n : Nat} {s : ByteArray} (h : l[i]? = some s) (hn : i < n) : s ∈ l.take n := by
  refine List.mem_of_getElem? (i := i) ?_
  rw [List.getElem?_take, if_pos hn]
  exact h
theorem n48 (x n : Int) (hn : 1 ≤ n ∧ n ≤ 4) : Tot (pf48 x n) fun s => PartN (NT4.take n.toNat) ⟨s, nE, 0⟩ := by
  unfold pf48
  refine .by' (t25 x 14 (by decide) (by decide)) fun k hk => Tot.cp (fun h5 => ?_) (fun h5 => Tot.cp (fun _ => .so (.inr (.inl ⟨_, by simp [NT], rfl, by simp⟩))) (fun h13 => ?_))
  · refine .by' (Ξ := fun r => r = k % n) (Tot.rem (by omega) (Int.tmod_eq_emod_of_nonneg hk.1)) fun r hr => ?_
    have h0 : 0 ≤ k % n := Int.emod_nonneg _ (by omega)
    have h1 : k % n < n := Int.emod_lt_of_pos _ (by omega)
    rw [← hr] at h0 h1
    obtain ⟨s, hs, hg, hm⟩ := n47 r h0 (by omega)
    rw [hs]
    refine Tot.sm (.so (.inr (.inl ⟨_, hm, rfl, ?_⟩)))
    exact List.mem_cons_of_mem _ (take_mem hg (by omega))
  · have : w64 (k - 5) = k - 5 := by rw [w64_eq]; omega
    rw [this]
    obtain ⟨s, hm, hs⟩ := n49' (k - 5) (by omega) (by omega)
    rw [hs]
    exact Tot.sm (.so (.inl ⟨s, hm, rfl⟩))
structure DeclM (n : Nat) (d : Decl) : Prop where
  kind : 2 ≤ d.Kind ∧ d.Kind ≤ 4
  tag : d.Tag = nE
  n : 1 ≤ d.Syms.length ∧ d.Syms.length ≤ n
  syms : ∀ x ∈ d.Syms, x ∈ LT
theorem DeclM.mono {n m : Nat} {d : Decl} (h : DeclM n d) (hm : n ≤ m) : DeclM m d := ⟨h.kind, h.tag, ⟨h.n.1, Nat.le_trans h.n.2 hm⟩, h.syms⟩
theorem ltr_inj {i j : Nat} {n : ByteArray} (hi : Ltr[i]? = some n) (hj : Ltr[j]? = some n) (h : i < j) : False := by
  have hl := (List.getElem?_eq_some_iff.1 hj).1
  have hl : j < 4 := hl
  obtain rfl | rfl | rfl : j = 1 ∨ j = 2 ∨ j = 3 := by omega
  · obtain rfl : i = 0 := by omega
    rw [← hi] at hj; exact absurd hj (by decide)
  · obtain rfl | rfl : i = 0 ∨ i = 1 := by omega
    all_goals (rw [← hi] at hj; exact absurd hj (by decide))
  · obtain rfl | rfl | rfl : i = 0 ∨ i = 1 ∨ i = 2 := by omega
    all_goals (rw [← hi] at hj; exact absurd hj (by decide))
theorem n46 (l : List Int) : Tot (pf46 l) fun r => r.length ≤ 4 ∧ (∀ d ∈ r, DeclN d) ∧ (names r).Nodup := by
  unfold pf46
  refine Tot.by' (Ξ := fun r => r.length ≤ 4 ∧ (∀ d ∈ r, DeclN d) ∧ (names r).Nodup) ?_ fun r hr => .so hr
  refine Tot.count (fun s => s.2) 4 (fun s => 0 ≤ s.2 ∧ s.2 ≤ 4 ∧ s.1.length ≤ s.2.toNat ∧ (∀ d ∈ s.1, DeclM s.2.toNat d) ∧ (names s.1).Nodup ∧ ∀ n ∈ names s.1, ∃ j, j < s.2.toNat ∧ Ltr[j]? = some n) ⟨Int.le_refl 0, by decide, Nat.le_refl 0, fun d hd => absurd hd (by simp), by simp [names], by simp [names]⟩ (by decide) fun s hs => ?_
  obtain ⟨r, i⟩ := s
  obtain ⟨h0, h4, hl, hd, hnd, hnm⟩ := hs
  simp only at h0 h4 hl hd hnd hnm ⊢
  have hw : w64 (i + 1) = i + 1 := by rw [w64_eq]; omega
  rw [hw]
  refine .by' (Ξ := fun c => c = true → i < l.length ∧ i < 4) (Tot.cp (fun h => .so fun h2 => ⟨h, of_decide_eq_true h2⟩) (fun _ => .so fun h => by cases h)) fun c hc => Tot.cd (fun hc1 => ?_) (fun _ => .so ⟨by omega, fun d hdm => ?_, hnd⟩)
  · obtain ⟨hi, hi4⟩ := hc hc1
    have e : (i + 1).toNat = i.toNat + 1 := by omega
    refine Tot.by' (Ξ := fun j => j.length ≤ i.toNat + 1 ∧ (∀ d ∈ j, DeclM (i.toNat + 1) d) ∧ (names j).Nodup ∧ ∀ n ∈ names j, ∃ j, j < i.toNat + 1 ∧ Ltr[j]? = some n) ?_ fun j hj => .so ⟨⟨?_, ?_, ?_, ?_, hj.2.2.1, ?_⟩, ?_, ?_⟩
    · obtain ⟨x, hx, hxe, hxn⟩ := n49 i h0 hi4
      have hfresh : x.Name ∉ names r := fun hin => by
        obtain ⟨j, hj, e⟩ := hnm _ hin
        exact ltr_inj e hxn hj
      have hadd : ∀ L : List Decl, names L = names r ++ [x.Name] → (names L).Nodup ∧ ∀ n ∈ names L, ∃ j, j < i.toNat + 1 ∧ Ltr[j]? = some n := by
        intro L hL
        rw [hL]
        refine ⟨?_, fun n hn => ?_⟩
        · rw [List.nodup_append]
          refine ⟨hnd, by simp, fun a ha b hb e => ?_⟩
          rw [List.mem_singleton.1 hb] at e
          exact hfresh (e ▸ ha)
        · rcases List.mem_append.1 hn with hn | hn
          · obtain ⟨j, hj, e⟩ := hnm _ hn
            exact ⟨j, by omega, e⟩
          · rw [List.mem_singleton.1 hn]
            exact ⟨i.toNat, by omega, hxn⟩
      refine .by' (Tot.ix (Φ := fun _ => True) h0 hi fun _ _ _ => trivial) fun x8 _ => .by' (t25 x8 8 (by decide) (by decide)) fun x9 h9 => .by' (Ξ := fun y => y = x9 % 4) (Tot.rem (by decide) (Int.tmod_eq_emod_of_nonneg h9.1)) fun x10 h10 => ?_
      have hd' : ∀ d ∈ r, DeclM (i.toNat + 1) d := fun d hdm => (hd d hdm).mono (by omega)
      refine Tot.cp (fun _ => .so ⟨by omega, hd', hnd, fun n hn => ?_⟩) (fun hne => ?_)
      · obtain ⟨j, hj, e⟩ := hnm _ hn
        exact ⟨j, by omega, e⟩
      refine .by' (Ξ := fun c => c = true → 0 < (r.length : Int)) (Tot.cd (fun _ => .so fun h => of_decide_eq_true h) (fun _ => .so fun h => by cases h)) fun c hc => Tot.cd (fun hc2 => ?_) (fun _ => ?_)
      · have hpos := hc hc2
        rcases List.eq_nil_or_concat r with rfl | ⟨r0, d, rfl⟩
        · exact absurd hpos (by decide)
        rw [List.concat_eq_append] at *
        have hwl : w64 (((r0 ++ [d]).length : Int) - 1) = r0.length := by rw [w64_eq]; simp at hl ⊢; omega
        rw [hwl, hxe]
        have hix : idx (r0 ++ [d]) (r0.length : Int) = some d := by simp [idx]
        rw [hix]
        have hD := hd d (by simp)
        have hD1 := hD.n
        refine Tot.sm (Tot.sm (.by' (Ξ := fun _ => True) (Tot.ap (by simp [lim]; omega) trivial) fun _ _ => .so ?_))
        have hst : ∀ d' : Decl, (r0 ++ [d]).set ((r0.length : Int)).toNat d' = r0 ++ [d'] := fun d' => by simp
        simp only [hst]
        obtain ⟨a1, a2⟩ := hadd (r0 ++ [⟨d.Kind, d.Tag, d.Syms ++ [x], d.At⟩]) (by simp [names])
        refine ⟨by simp at hl ⊢; omega, fun d' hd2 => ?_, a1, a2⟩
        rcases List.mem_append.1 hd2 with h | h
        · exact hd' d' (by simp [h])
        · rw [List.mem_singleton.1 h]
          refine ⟨hD.kind, hD.tag, ⟨?_, ?_⟩, fun y hy => ?_⟩
          · show 1 ≤ (d.Syms ++ [x]).length; simp
          · show (d.Syms ++ [x]).length ≤ _; simp; omega
          · rcases List.mem_append.1 hy with hy | hy
            · exact hD.syms y hy
            · rw [List.mem_singleton.1 hy]; exact hx
      · rw [hxe]
        refine .by' (Ξ := fun y => y = x9 % 4) (Tot.rem (by decide) (Int.tmod_eq_emod_of_nonneg h9.1)) fun x18 h18 => Tot.sm (.by' (Ξ := fun _ => True) (Tot.ap (by simp [lim]; omega) trivial) fun _ _ => .so ?_)
        obtain ⟨a1, a2⟩ := hadd (r ++ [⟨w64 (1 + x18), nE, [x], 0⟩]) (by simp [names])
        refine ⟨by simp; omega, fun d' hd2 => ?_, a1, a2⟩
        rcases List.mem_append.1 hd2 with h | h
        · exact hd' d' h
        · rw [List.mem_singleton.1 h]
          refine ⟨?_, rfl, ⟨Nat.le_refl 1, by show 1 ≤ _; omega⟩, fun y hy => ?_⟩
          · show 2 ≤ w64 (1 + x18) ∧ w64 (1 + x18) ≤ 4
            rw [w64_eq]; omega
          · have hy : y ∈ [x] := hy
            rw [List.mem_singleton.1 hy]; exact hx
    · show 0 ≤ i + 1; omega
    · show i + 1 ≤ 4; omega
    · show j.length ≤ (i + 1).toNat; omega
    · show ∀ d ∈ j, DeclM (i + 1).toNat d
      rw [e]; exact hj.2.1
    · show ∀ n ∈ names j, ∃ k, k < (i + 1).toNat ∧ Ltr[k]? = some n
      rw [e]; exact hj.2.2.2
    · show i < i + 1; omega
    · show i + 1 ≤ 4; omega
  · have := hd d hdm
    exact ⟨this.kind, this.tag, ⟨this.n.1, by have := this.n.2; omega⟩, this.syms⟩
end Go.Proofs
namespace Go.Proofs
open Go Go.Own
set_option maxRecDepth 100000
set_option linter.unusedVariables false
theorem sum_set (f : Rule → Nat) : ∀ (l : List Rule) (k : Nat) (r r' : Rule), l[k]? = some r → ((l.set k r').map f).sum + f r = (l.map f).sum + f r'
  | x :: l, 0, r, r', h => by
    simp only [List.getElem?_cons_zero, Option.some.injEq] at h
    subst h
    simp only [List.set_cons_zero, List.map_cons, List.sum_cons]
    omega
  | x :: l, k + 1, r, r', h => by
    simp only [List.getElem?_cons_succ] at h
    have := sum_set f l k r r' h
    simp only [List.set_cons_succ, List.map_cons, List.sum_cons]
    omega
theorem left_set : ∀ (l : List Rule) (k : Nat) (r r' : Rule), l[k]? = some r → r'.Left = r.Left → (l.set k r').map (·.Left) = l.map (·.Left)
  | x :: l, 0, r, r', h, e => by
    simp only [List.getElem?_cons_zero, Option.some.injEq] at h
    subst h
    simp only [List.set_cons_zero, List.map_cons, e]
  | x :: l, k + 1, r, r', h, e => by
    simp only [List.getElem?_cons_succ] at h
    simp only [List.set_cons_succ, List.map_cons, left_set l k r r' h e]
theorem mem_sum (f : Rule → Nat) : ∀ (l : List Rule) (r : Rule), r ∈ l → f r ≤ (l.map f).sum
  | x :: l, r, h => by
    simp only [List.map_cons, List.sum_cons]
    rcases List.mem_cons.1 h with rfl | h
    · omega
    · have := mem_sum f l r h
      omega
theorem sum0 : ∀ (l : List Rule), (l.map fun _ => 0).sum = 0
  | [] => rfl
  | _ :: l => by simp only [List.map_cons, List.sum_cons, sum0 l]
structure RM (l : List Rule) (n : Nat) (A C : Nat) : Prop where
  lf : l.map (·.Left) = NT4.take n
  alts : ∀ r ∈ l, ∀ a ∈ r.Alts, AltN (NT4.take n) a
  a : nA l ≤ A
  c : nC l ≤ C
theorem RM.mono {l : List Rule} {n A C A' C' : Nat} (h : RM l n A C) (hA : A ≤ A') (hC : C ≤ C') : RM l n A' C' := ⟨h.lf, h.alts, Nat.le_trans h.a hA, Nat.le_trans h.c hC⟩
theorem RM.add {l : List Rule} {n A C k : Nat} {r : Rule} {a : Alt} {c : Nat} (h : RM l n A C) (hr : l[k]? = some r) (ha : AltN (NT4.take n) a) (hc : codes a.Parts ≤ c) :
    RM (l.set k ⟨r.Left, r.Alts ++ [a], r.At⟩) n (A + 1) (C + c) := by
  have hm := List.mem_of_getElem? hr
  refine ⟨?_, fun r' hr' b hb => ?_, ?_, ?_⟩
  · rw [left_set l k r ⟨r.Left, r.Alts ++ [a], r.At⟩ hr rfl]; exact h.lf
  · rcases mem_set2 hr' with h' | rfl
    · exact h.alts r' h' b hb
    · rcases List.mem_append.1 hb with hb | hb
      · exact h.alts r hm b hb
      · rw [List.mem_singleton.1 hb]; exact ha
  · have := sum_set (fun r => r.Alts.length) l k r ⟨r.Left, r.Alts ++ [a], r.At⟩ hr
    have ha := h.a
    unfold nA at ha ⊢
    simp only [List.length_append, List.length_singleton] at this
    omega
  · have := sum_set (fun r => cA r.Alts) l k r ⟨r.Left, r.Alts ++ [a], r.At⟩ hr
    have hcc := h.c
    unfold nC at hcc ⊢
    have e : cA (r.Alts ++ [a]) = cA r.Alts + codes a.Parts := by
      unfold cA
      rw [List.map_append, List.sum_append]; rfl
    simp only [e] at this
    omega
theorem codes_app (l : List Part) (p : Part) : codes (l ++ [p]) = codes l + (if p.Code = nE then 0 else 1) := by
  unfold codes
  rw [List.filter_append, List.length_append]
  congr 1
  by_cases hc : p.Code = nE <;> simp [hc]
theorem n17 (x : yuccalaw0_Gr) : Tot (pf17 x) SrcN := by
  unfold pf17
  refine .by' (t25 x.Nons 4 (by decide) (by decide)) fun x1 h1 => .by' (n46 x.Levels) fun x2 h2 => ?_
  have hw1 : w64 (1 + x1) = 1 + x1 := by rw [w64_eq]; omega
  rw [hw1]
  obtain ⟨n, hn⟩ : ∃ n : Nat, 1 + x1 = n := ⟨(1 + x1).toNat, by omega⟩
  rw [hn]
  have hn4 : 1 ≤ n ∧ n ≤ 4 := by omega
  refine .by' (Ξ := fun l => l = List.replicate n false) (Tot.mk (by simp [lim]; omega) rfl) fun x3 h3 => ?_
  have h3l : x3.length = n := by rw [h3]; simp
  have htl : (NT4.take n).length = n := by rw [List.length_take]; show min n 4 = n; omega
  refine Tot.by' (Ξ := fun l => RM l n 0 0) ?_ fun x5 h5 => ?_
  · refine Tot.count (fun s => s.2) n (fun s => 0 ≤ s.2 ∧ s.2 ≤ n ∧ s.1.map (·.Left) = NT4.take s.2.toNat ∧ ∀ r ∈ s.1, r.Alts = []) ⟨Int.le_refl 0, by show 0 ≤ (n : Int); omega, rfl, fun d hd => absurd hd (by simp)⟩ (by show (n : Int) - 0 < _; omega) fun s hs => ?_
    obtain ⟨l, i⟩ := s
    obtain ⟨g0, g1, hl, hP⟩ := hs
    simp only at g0 g1 hl hP ⊢
    have hw : w64 (i + 1) = i + 1 := by rw [w64_eq]; omega
    rw [hw]
    refine Tot.cp (fun hlt => ?_) (fun _ => .so ⟨?_, fun r hr a ha => ?_, ?_, ?_⟩)
    · obtain ⟨t, ht, htn, _⟩ := n47 i g0 (by omega)
      rw [ht]
      have hll : l.length ≤ 4 := by
        have := congrArg List.length hl
        rw [List.length_map, List.length_take] at this
        have h4 : NT4.length = 4 := rfl
        omega
      refine Tot.sm (.by' (Ξ := fun _ => True) (Tot.ap (by simp [lim]; omega) trivial) fun _ _ => .so ⟨⟨?_, ?_, ?_, fun r hr => ?_⟩, ?_, ?_⟩)
      · show 0 ≤ i + 1; omega
      · show i + 1 ≤ (n : Int); omega
      · show (l ++ [(⟨t, [], 0⟩ : Rule)]).map (·.Left) = NT4.take (i + 1).toNat
        rw [List.map_append, hl, show (i + 1).toNat = i.toNat + 1 by omega, List.take_add_one, htn]
        rfl
      · rcases List.mem_append.1 hr with hr | hr
        · exact hP r hr
        · rw [List.mem_singleton.1 hr]
      · show i < i + 1; omega
      · show i + 1 ≤ (n : Int); omega
    · have : i.toNat = n := by omega
      rw [← this]; exact hl
    · rw [hP r hr] at ha; exact absurd ha (by simp)
    · unfold nA
      rw [List.map_congr_left (g := fun _ => 0) (fun r hr => by rw [hP r hr]; rfl)]
      exact Nat.le_of_eq (sum0 l)
    · unfold nC
      rw [List.map_congr_left (g := fun _ => 0) (fun r hr => by rw [hP r hr]; rfl)]
      exact Nat.le_of_eq (sum0 l)
  have len : ∀ {l : List Rule} {A C : Nat}, RM l n A C → l.length = n := fun h => by
    have := congrArg List.length h.lf
    rw [List.length_map, htl] at this
    exact this
  refine Tot.by' (Ξ := fun r => RM r.1 n 9 18 ∧ (r.2.length : Int) = n) ?_ fun x11 h11 => ?_
  · refine Tot.count (fun s => s.2.2) 9 (fun s => 0 ≤ s.2.2 ∧ s.2.2 ≤ 9 ∧ RM s.1 n s.2.2.toNat (2 * s.2.2.toNat) ∧ (s.2.1.length : Int) = n) ⟨Int.le_refl 0, by show (0:Int) ≤ 9; decide, h5, by show (x3.length : Int) = _; omega⟩ (by show (9:Int) - 0 < _; decide) fun s hs => ?_
    obtain ⟨l, hb, i⟩ := s
    obtain ⟨g0, g1, hl, hhb⟩ := hs
    simp only at g0 g1 hl hhb ⊢
    have hw : w64 (i + 1) = i + 1 := by rw [w64_eq]; omega
    rw [hw]
    refine .by' (Ξ := fun c => c = true → i < x.Rules.length ∧ i < 9) (Tot.cp (fun h => .so fun h2 => ⟨h, of_decide_eq_true h2⟩) (fun _ => .so fun h => by cases h)) fun c hc => Tot.cd (fun hc1 => ?_) (fun _ => .so ⟨hl.mono (by omega) (by omega), hhb⟩)
    obtain ⟨hi, hi9⟩ := hc hc1
    have hlt' : i.toNat < x.Rules.length := by omega
    have hidx : idx x.Rules i = some x.Rules[i.toNat] := by simp [idx, g0, hlt']
    refine Tot.by' (Ξ := fun j => RM j.1 n (i.toNat + 1) (2 * (i.toNat + 1)) ∧ (j.2.length : Int) = n) ?_ fun j hj => .so ⟨⟨?_, ?_, ?_, hj.2⟩, ?_, ?_⟩
    · rw [hidx]
      generalize x.Rules[i.toNat] = rl
      refine Tot.sm (Tot.cp (fun _ => .so ⟨hl.mono (by omega) (by omega), hhb⟩) (fun hne => Tot.sm ?_))
      refine .by' (Tot.ix (Φ := fun _ => True) (Int.le_refl 0) (by omega) fun _ _ _ => trivial) fun x20 _ => .by' (t25 x20 n (by omega) (by omega)) fun x21 h21 => ?_
      refine Tot.by' (Ξ := fun r => r.1.length ≤ 5 ∧ codes r.1 ≤ 1 ∧ ∀ p ∈ r.1, PartN (NT4.take n) p) ?_ fun x23 h23 => ?_
      · refine Tot.count (fun s => s.2.2) 5 (fun s => 1 ≤ s.2.2 ∧ s.2.2 ≤ 5 ∧ (s.1.length : Int) ≤ (s.2.2 - 1) + codes s.1 ∧ (codes s.1 : Int) ≤ (if s.2.2 ≤ 1 then 0 else 1) ∧ ∀ p ∈ s.1, PartN (NT4.take n) p) ⟨Int.le_refl 1, by show (1:Int) ≤ 5; decide, by show (0:Int) ≤ _; decide, by show (0:Int) ≤ _; decide, fun d hd => absurd hd (by simp)⟩ (by show (5:Int) - 1 < _; decide) fun s hs => ?_
        obtain ⟨p, pl, k⟩ := s
        obtain ⟨e0, e1, ep, ec, hq⟩ := hs
        simp only at e0 e1 ep ec hq ⊢
        have hwk : w64 (k + 1) = k + 1 := by rw [w64_eq]; omega
        have ec1 : codes p ≤ 1 := by split at ec <;> omega
        rw [hwk]
        refine .by' (Ξ := fun c => c = true → k < rl.length ∧ k < 5) (Tot.sm (Tot.cp (fun h => .so fun h2 => ⟨h, of_decide_eq_true h2⟩) (fun _ => .so fun h => by cases h))) fun c hc => Tot.cd (fun hc1 => ?_) (fun _ => .so ⟨by show p.length ≤ 5; omega, ec1, hq⟩)
        obtain ⟨hk, hk5⟩ := hc hc1
        refine Tot.by' (Ξ := fun j => (j.1.length : Int) ≤ k + codes j.1 ∧ (codes j.1 : Int) ≤ 1 ∧ ∀ p ∈ j.1, PartN (NT4.take n) p) ?_ fun j hj => .so ⟨⟨?_, ?_, ?_, ?_, hj.2.2⟩, ?_, ?_⟩
        · refine Tot.sm (.by' (Tot.ix (Φ := fun _ => True) (by omega) hk fun _ _ _ => trivial) fun x31 _ => .by' (n48 x31 n (by omega)) fun x32 h32 => ?_)
          refine .by' (Ξ := fun _ => True) (Tot.cd (fun _ => Tot.cd (fun _ => .so trivial) (fun _ => .so trivial)) (fun _ => .so trivial)) fun c35 _ => ?_
          refine .by' (Ξ := fun _ => True) (Tot.ap (by simp [lim]; omega) trivial) fun _ _ => ?_
          have hc1 : codes (p ++ [(⟨x32, nE, 0⟩ : Part)]) = codes p := by rw [codes_app]; rfl
          have hp1 : ∀ q ∈ p ++ [(⟨x32, nE, 0⟩ : Part)], PartN (NT4.take n) q := fun q hq' => by
            rcases List.mem_append.1 hq' with h | h
            · exact hq q h
            · rw [List.mem_singleton.1 h]; exact h32
          refine .by' (Ξ := fun c => c = true → k = 1) ?_ fun c41 h41 => ?_
          · refine Tot.cp (fun hin => Tot.cp (fun hk1 => ?_) (fun _ => .so fun h => by cases h)) (fun _ => .so fun h => by cases h)
            exact .by' (Tot.ix (Φ := fun _ => True) g0 hin fun _ _ _ => trivial) fun _ _ => .by' (Ξ := fun _ => True) (Tot.rem (by decide) trivial) fun _ _ => .so fun _ => hk1
          · refine .by' (Ξ := fun l => (l.length : Int) ≤ k + codes l ∧ (codes l : Int) ≤ 1 ∧ ∀ p ∈ l, PartN (NT4.take n) p) ?_ fun j42 h42 => .so h42
            refine Tot.cd (fun hc => ?_) (fun _ => .so ⟨by rw [hc1]; simp; omega, by rw [hc1]; omega, hp1⟩)
            have hk1 := h41 hc
            rw [if_pos (by omega)] at ec
            have hc2 : codes ((p ++ [(⟨x32, nE, 0⟩ : Part)]) ++ [(⟨syN, cod1, 0⟩ : Part)]) = codes p + 1 := by rw [codes_app, hc1]; rfl
            refine .by' (Ξ := fun _ => True) (Tot.ap (by simp [lim]; omega) trivial) fun _ _ => .so ⟨?_, ?_, fun q hq' => ?_⟩
            · show ((((p ++ [(⟨x32, nE, 0⟩ : Part)]) ++ [(⟨syN, cod1, 0⟩ : Part)]).length : Nat) : Int) ≤ k + codes ((p ++ [(⟨x32, nE, 0⟩ : Part)]) ++ [(⟨syN, cod1, 0⟩ : Part)])
              rw [hc2]; simp; omega
            · show ((codes ((p ++ [(⟨x32, nE, 0⟩ : Part)]) ++ [(⟨syN, cod1, 0⟩ : Part)]) : Nat) : Int) ≤ 1
              rw [hc2]; omega
            · rcases List.mem_append.1 hq' with h | h
              · exact hp1 q h
              · rw [List.mem_singleton.1 h]; exact .inr (.inr (.inl rfl))
        · show 1 ≤ k + 1; omega
        · show k + 1 ≤ 5; omega
        · show (j.1.length : Int) ≤ (k + 1 - 1) + codes j.1
          have := hj.1; omega
        · show (codes j.1 : Int) ≤ (if k + 1 ≤ 1 then 0 else 1)
          rw [if_neg (by omega)]; exact hj.2.1
        · show k < k + 1; omega
        · show k + 1 ≤ 5; omega
      · refine .by' (Ξ := fun _ => True) (Tot.cp (fun h => .by' (Tot.ix (Φ := fun _ => True) g0 h fun _ _ _ => trivial) fun _ _ => .by' (Ξ := fun _ => True) (Tot.rem (by decide) trivial) fun _ _ => .so trivial) (fun _ => .so trivial)) fun c48 _ => ?_
        refine Tot.by' (Ξ := fun l => l.length ≤ 6 ∧ codes l ≤ 2 ∧ ∀ p ∈ l, PartN (NT4.take n) p) ?_ fun j49 h49 => ?_
        · refine Tot.cd (fun _ => ?_) (fun _ => .so ⟨by omega, by omega, h23.2.2⟩)
          have hc2 : codes (x23.1 ++ [(⟨syN, cod2, 0⟩ : Part)]) = codes x23.1 + 1 := by rw [codes_app]; rfl
          refine .by' (Ξ := fun _ => True) (Tot.ap (by simp [lim]; omega) trivial) fun _ _ => .so ⟨by simp; omega, by show codes (x23.1 ++ [(⟨syN, cod2, 0⟩ : Part)]) ≤ 2; omega, fun p hp => ?_⟩
          rcases List.mem_append.1 hp with hp | hp
          · exact h23.2.2 p hp
          · rw [List.mem_singleton.1 hp]; exact .inr (.inr (.inr rfl))
        · have hlen := len hl
          refine Tot.by' (Ξ := fun l => (l.length : Int) = n) ?_ fun c54 h54 => ?_
          · refine .by' (Tot.ix (Φ := fun _ => True) h21.1 (by omega) fun _ _ _ => trivial) fun _ _ => Tot.cd (fun _ => .so (by simp; omega)) (fun _ => .so (by simp; omega))
          · refine .by' (Tot.ix (Φ := fun y => l[x21.toNat]? = some y ∧ y ∈ l) h21.1 (by omega) fun y hy hm => ⟨(idx_spec hy).2.2, hm⟩) fun x55 h55 => ?_
            have hal : x55.Alts.length ≤ 9 := by
              have := mem_sum (fun r => r.Alts.length) l x55 h55.2
              have h9 := hl.a
              unfold nA at h9
              omega
            refine .by' (Ξ := fun _ => True) (Tot.ap (by simp [lim]; omega) trivial) fun _ _ => .so ⟨?_, h54⟩
            exact (hl.add h55.1 ⟨h49.1, h49.2.2, rfl⟩ h49.2.1).mono (by omega) (by omega)
    · show 0 ≤ i + 1; omega
    · show i + 1 ≤ 9; omega
    · show RM j.1 n (i + 1).toNat (2 * (i + 1).toNat)
      rw [show (i + 1).toNat = i.toNat + 1 by omega]
      exact hj.1
    · show i < i + 1; omega
    · show i + 1 ≤ 9; omega
  refine Tot.by' (Ξ := fun l => RM l n 13 18 ∧ ∀ r ∈ l, 1 ≤ r.Alts.length) ?_ fun x58 h58 => .so ⟨rfl, ?_, ?_, ?_, fun r hr => ?_, fun r hr => ?_, ?_, h58.1.a, h58.1.c⟩
  · refine Tot.count (fun s => s.2) n (fun s => 0 ≤ s.2 ∧ s.2 ≤ n ∧ RM s.1 n (9 + s.2.toNat) 18 ∧ ∀ (j : Nat) (r : Rule), j < s.2.toNat → s.1[j]? = some r → 1 ≤ r.Alts.length) ⟨Int.le_refl 0, by show (0 : Int) ≤ n; omega, h11.1, fun j r h => absurd h (Nat.not_lt_zero j)⟩ (by show (n : Int) - 0 < _; omega) fun s hs => ?_
    obtain ⟨l, i⟩ := s
    obtain ⟨g0, g1, hl, hP⟩ := hs
    simp only at g0 g1 hl hP ⊢
    have hw : w64 (i + 1) = i + 1 := by rw [w64_eq]; omega
    rw [hw]
    have hlen := len hl
    refine Tot.cp (fun hlt => ?_) (fun _ => .so ⟨hl.mono (by omega) (by omega), fun r hr => ?_⟩)
    · refine Tot.by' (Ξ := fun l => RM l n (9 + i.toNat + 1) 18 ∧ ∀ (j : Nat) (r : Rule), j < i.toNat + 1 → l[j]? = some r → 1 ≤ r.Alts.length) ?_ fun j hj => .so ⟨⟨?_, ?_, ?_, ?_⟩, ?_, ?_⟩
      · obtain ⟨y, hy, hm⟩ := idx_some (l := l) (i := i) g0 (by omega)
        have hy2 := (idx_spec hy).2.2
        refine .by' (Ξ := fun c => c = false → 1 ≤ y.Alts.length) ?_ fun c66 h66 => ?_
        · rw [hy]
          refine Tot.sm (Tot.cp (fun _ => .so fun h => by cases h) (fun hne => ?_))
          have h1 : 1 ≤ y.Alts.length := by omega
          exact .by' (Tot.ix (Φ := fun _ => True) g0 (by omega) fun _ _ _ => trivial) fun _ _ => Tot.cd (fun _ => .so fun _ => h1) (fun _ => .so fun _ => h1)
        · refine Tot.by' (Ξ := fun l => RM l n (9 + i.toNat + 1) 18 ∧ ∀ (j : Nat) (r : Rule), j < i.toNat + 1 → l[j]? = some r → 1 ≤ r.Alts.length) ?_ fun j hj => .so hj
          refine Tot.cd (fun _ => ?_) (fun hcf => .so ⟨hl.mono (by omega) (by omega), fun j r hj hr => ?_⟩)
          · rw [hy]
            obtain ⟨x, hx, hxe, _⟩ := n49 i g0 (by omega)
            rw [hxe]
            have hal : y.Alts.length ≤ 13 := by
              have := mem_sum (fun r => r.Alts.length) l y hm
              have h9 := hl.a
              unfold nA at h9
              omega
            refine Tot.sm (Tot.sm (.by' (Ξ := fun _ => True) (Tot.ap (by simp [lim]; omega) trivial) fun _ _ => .so ⟨?_, fun j r hj hr => ?_⟩))
            · exact hl.add (c := 0) hy2 ⟨by show 1 ≤ 6; omega, fun p hp => by
                have hp : p ∈ [(⟨x, nE, 0⟩ : Part)] := hp
                rw [List.mem_singleton.1 hp]; exact .inl ⟨x, hx, rfl⟩, rfl⟩ (by show codes [(⟨x, nE, 0⟩ : Part)] ≤ 0; exact Nat.le_refl 0)
            · rw [List.getElem?_set] at hr
              split at hr
              · split at hr
                · cases hr
                  show 1 ≤ (y.Alts ++ [_]).length; simp
                · cases hr
              · exact hP j r (by omega) hr
          · by_cases hji : j < i.toNat
            · exact hP j r hji hr
            · have : j = i.toNat := by omega
              subst this
              rw [hy2] at hr
              cases hr
              exact h66 hcf
      · show 0 ≤ i + 1; omega
      · show i + 1 ≤ (n : Int); omega
      · show RM j n (9 + (i + 1).toNat) 18
        rw [show (i + 1).toNat = i.toNat + 1 by omega]
        exact hj.1
      · show ∀ (k : Nat) (r : Rule), k < (i + 1).toNat → j[k]? = some r → 1 ≤ r.Alts.length
        rw [show (i + 1).toNat = i.toNat + 1 by omega]
        exact hj.2
      · show i < i + 1; omega
      · show i + 1 ≤ (n : Int); omega
    · obtain ⟨j, hj, rfl⟩ := List.mem_iff_getElem.1 hr
      exact hP j _ (by omega) (List.getElem?_eq_getElem hj)
  · exact h2.2.1
  · exact h2.1
  · exact h2.2.2
  · have hmem : r.Left ∈ x58.map (·.Left) := List.mem_map.2 ⟨r, hr, rfl⟩
    refine ⟨hmem, ⟨h58.2 r hr, ?_⟩, fun a ha => ?_⟩
    · have := mem_sum (fun r => r.Alts.length) x58 r hr
      have h9 := h58.1.a
      unfold nA at h9
      omega
    · show AltN (x58.map (·.Left)) a
      rw [h58.1.lf]
      exact h58.1.alts r hr a ha
  · have hmem : r.Left ∈ x58.map (·.Left) := List.mem_map.2 ⟨r, hr, rfl⟩
    rw [h58.1.lf] at hmem
    exact List.mem_of_mem_take hmem
  · have := len h58.1
    show 1 ≤ x58.length ∧ x58.length ≤ 4
    omega
end Go.Proofs
namespace Go.Proofs
open Go Go.Own
set_option maxRecDepth 100000
set_option linter.unusedVariables false
theorem g17 (x : yuccalaw0_Gr) : ∃ s g, pf17 x = some s ∧ SrcB s ∧ SrcN s ∧ pf18 s = some (g, true) ∧ GOk g := by
  obtain ⟨s, hs, hb⟩ := t17 x
  obtain ⟨s', hs', hn⟩ := n17 x
  rw [hs] at hs'
  cases hs'
  obtain ⟨⟨g, c⟩, hg, hok⟩ := t18 s hb
  have hc : c = true := by
    obtain ⟨r, hr, h0⟩ := n50 s hn
    unfold pf18 at hg
    rw [hr] at hg
    simp only [Option.bind_some, Option.some.injEq] at hg
    have := congrArg Prod.snd hg
    exact this.symm.trans (decide_eq_true h0)
  subst hc
  exact ⟨s, g, hs, hb, hn, hg, hok rfl⟩
theorem decS_zero (l : Int) (k : Int × Int) : (decS l k = 0) ↔ (l = 0 ∨ k.1 = 0) := by
  unfold decS
  by_cases h : l = 0 ∨ k.1 = 0
  · simp [h]
  · rw [if_neg h]
    simp only [h, iff_false]
    repeat' split
    all_goals decide
theorem decS_shift {l : Int} {k u : Int × Int} (h : decS l k = 1) (hl : 0 ≤ l) (hlt : k.1 < u.1) : decS l u = 1 := by
  unfold decS at h ⊢
  by_cases h1 : l = 0 ∨ k.1 = 0
  · rw [if_pos h1] at h; cases h
  · rw [if_neg h1] at h
    by_cases h2 : l < k.1 ∨ (k.1 = l ∧ k.2 = 2)
    · rw [if_neg (by omega), if_pos (by omega)]
    · rw [if_neg h2] at h
      split at h <;> cases h
theorem decS_red {l m : Int} {k : Int × Int} (h : decS l k = 2) (hl : 0 ≤ l) (hlt : l < m) : decS m k = 2 := by
  unfold decS at h ⊢
  by_cases h1 : l = 0 ∨ k.1 = 0
  · rw [if_pos h1] at h; cases h
  · rw [if_neg h1] at h
    by_cases h2 : l < k.1 ∨ (k.1 = l ∧ k.2 = 2)
    · rw [if_pos h2] at h; cases h
    · rw [if_neg (by omega), if_neg (by omega), if_pos (by omega)]
theorem t6 (x : yuccalaw0_Gr) (p q t u : Int) : Tot (pf6 x p q t u) fun r => r = true := by
  unfold pf6
  rw [w15]
  refine Tot.sm (Tot.cd (fun h => by cases h) (fun _ => ?_))
  obtain ⟨s, g, e17, _, _, e18, hg⟩ := g17 x
  rw [e17]
  refine Tot.sm ?_
  rw [e18]
  refine Tot.sm (Tot.cd (fun h => by cases h) (fun _ => ?_))
  simp only
  have hpn := hg.pn
  have htn := hg.tn
  refine .by' (t25 p _ (by omega) (by omega)) fun p hp => .by' (t25 q _ (by omega) (by omega)) fun q hq => .by' (t25 t _ (by omega) (by omega)) fun t ht => .by' (t25 u _ (by omega) (by omega)) fun u hu => ?_
  rw [e19, e19, e21]
  refine Tot.sm (Tot.sm (Tot.sm ?_))
  obtain ⟨kt, hkt, hktm⟩ := idx_some (l := g.Toks) (i := t) ht.1 ht.2
  obtain ⟨ku, hku, hkum⟩ := idx_some (l := g.Toks) (i := u) hu.1 hu.2
  have lv0 : ∀ p, 0 ≤ (levS g p).1 := fun p => by
    unfold levS tokS
    split
    · split
      · rename_i k hk
        exact hg.lv k (List.mem_of_getElem? (idx_spec hk).2.2)
      · decide
    · decide
  have et : tokS g t = (kt.Level, kt.Assoc) := by simp [tokS, hkt]
  have eu : tokS g u = (ku.Level, ku.Assoc) := by simp [tokS, hku]
  refine Tot.by' (Ξ := fun c => c = false) ?_ fun c hc => ?_
  · refine Tot.cp (fun h1 => ?_) (fun _ => .so rfl)
    rw [hku, hkt]
    refine Tot.sm (Tot.sm (Tot.cp (fun h2 => ?_) (fun _ => .so rfl)))
    rw [e21]
    refine Tot.sm (.so ?_)
    rw [decS_shift h1 (lv0 p) (by rw [et, eu]; exact h2)]; rfl
  subst hc
  refine Tot.cd (fun h => by cases h) (fun _ => ?_)
  refine Tot.by' (Ξ := fun c => c = false) ?_ fun c hc => ?_
  · refine Tot.cp (fun h1 => Tot.cp (fun h2 => ?_) (fun _ => .so rfl)) (fun _ => .so rfl)
    rw [e21]
    refine Tot.sm (.so ?_)
    rw [decS_red h1 (lv0 p) h2]; rfl
  subst hc
  refine Tot.cd (fun h => by cases h) (fun _ => ?_)
  refine Tot.by' (Ξ := fun c => c = true) ?_ fun c hc => .so hc
  refine Tot.cp (fun h => .so ?_) (fun h => ?_)
  · have := (decS_zero (levS g p).1 (tokS g t)).2 (.inl h)
    rw [this]; rfl
  · rw [hkt]
    refine Tot.sm (.so ?_)
    by_cases h2 : kt.Level = 0
    · have := (decS_zero (levS g p).1 (tokS g t)).2 (.inr (by rw [et]; exact h2))
      rw [this]; simp [h2]
    · have : ¬ decS (levS g p).1 (tokS g t) = 0 := fun e => by
        rcases (decS_zero _ _).1 e with e | e
        · exact h e
        · rw [et] at e; exact h2 e
      simp [this, h2]
end Go.Proofs
namespace Go.Proofs
open Go Go.Own
set_option maxRecDepth 100000
theorem uI : Try.prog.underlying 3 = some (.int .i64) := by kernel_rfl
theorem uB : Try.prog.underlying 4 = some .bool := by kernel_rfl
def okI (n : Int) : Prop := (Lit.int .i64 n).wf = true
def okB (_ : Bool) : Prop := True
def okL {α : Type} (p : α → Prop) (l : List α) : Prop := l.length ≤ maxLen ∧ ∀ x ∈ l, p x
def okGr (x : yuccalaw0_Gr) : Prop := okI x.Nons ∧ okL (okL okI) x.Rules ∧ okL okI x.Levels ∧ okL okI x.Inner ∧ okB x.Bare ∧ True
theorem aI : Ar Try.prog eI 3 okI := .int uI (by kernel_rfl) fun _ => rfl
theorem aB : Ar Try.prog eB 4 okB := .bool uB (by kernel_rfl) fun _ => rfl
theorem uLI : Try.prog.underlying 27 = some (.slice 3) := by kernel_rfl
theorem aLI : Ar Try.prog (eM eI) 27 (okL okI) := aI.slice (t := 27) uLI (by kernel_rfl) (by decide)
theorem aLLI : Ar Try.prog (eM (eM eI)) 26 (okL (okL okI)) := aLI.slice (t := 26) (by kernel_rfl) (by kernel_rfl) (by decide)
def eGr : En yuccalaw0_Gr := ⟨5, fun x => [I64 x.Nons, iR (eM eI) x.Rules, iR eI x.Levels, iR eI x.Inner, BB x.Bare], fun _ => rfl, fun _ => NRl.nr⟩
theorem sGr : strB Try.prog 29 [3, 26, 27, 27, 4] = true := by kernel_rfl
theorem aGr : Ar Try.prog eGr 29 okGr := .struct (t := 29) (.cons aI (.cons aLLI (.cons aLI (.cons aLI (.cons aB .nil))))) (fun b => (⟨b.1, b.2.1, b.2.2.1, b.2.2.2.1, b.2.2.2.2.1⟩ : yuccalaw0_Gr)) (fun x => (x.Nons, x.Rules, x.Levels, x.Inner, x.Bare, ())) (fun _ => rfl) (fun _ => rfl) sGr (by kernel_rfl)
theorem pLaid : laidOutB Try.prog = true := by kernel_rfl
theorem pMaps : mapsRowed Try.prog = true := by kernel_rfl
theorem pFull : ((List.range Try.prog.types.size).all fun t => match Try.prog.underlying t with | some (.slice e) => decide (0 < Try.prog.cellsOf e) | _ => true) = true := by kernel_rfl
end Go.Proofs
