/-
  What is proved here: parts of the proof that QRi states last: rules for walks through code, and of this program's functions what they answer. No condition of their own.
-/
import Derived.Test.YteohndfkdfehcaaRows
import Derived.Test.YteohndfkdfehcaaE4
namespace Go.Proofs
open Go Go.Own
set_option maxRecDepth 100000
set_option linter.unusedVariables false
theorem con68 (a0 : yuccaref9_maker) (a1 : ByteArray) (a2 : Alt) (r : yuccaref9_maker) (h : pf68 a0 a1 a2 = some r) : Con Try.prog 68 [.obj (eyuccaref9_maker_r.cells a0), SS a1, .agg (eAlt_0.cells a2)] [some (.obj [oR eTok r.f_g.Toks, oR eNon r.f_g.Nons, oR eProd_0 r.f_g.Prods, SS r.f_g.Pro, SS r.f_g.Tail, oR eB r.f_given, oR eNon r.f_types, oR eS r.f_lefts, I64 r.f_e, I64 r.f_at, SS r.f_name, I64 r.f_level, I64 r.f_inner]), none, none] (.tup []) := by
  unfold pf68 at h
  refine Con.go (N := ⟨173, [0]⟩) Try.func68 rfl rfl rfl rfl (W.fin ?_)
  refine W.st [(0, .obj (eyuccaref9_maker_r.cells a0)), (1, SS a1), (2, .agg (eAlt_0.cells a2))] ?_
  refine W.sq' ?_
  refine W.rx [(0, _), (1, _), (5, _)] (Rv (O.box (.aggF rfl rfl) rfl) <| RunL.fin (.n rfl (.n rfl (.n rfl .nil)))) ?_
  refine Px.sq ?_
  refine W.sq' ?_
  obtain ⟨x1, hx1, h⟩ := bnd h
  refine W.rd [[], [], [0, 1], [0, 1, 2], [], [4], rn 0 6 [], [], rn 0 8 []] [(0, _), (5, _), (6, _)] mixo (by kernel_rfl) (Dv 0 (O.mv (.obj rfl)) <| Dv 1 (O.mv (.lit rfl)) <| Dc 2 (PC.vw (ys := [.ptr ⟨0, []⟩ 0, SS a1]) rfl (.c (View.p0 rfl rfl) (.s .nil)) (con67 a0 a1 _ hx1) call67 rfl) <| Dv 3 (O.add (.k rfl) (.lit rfl)) <| Dv 4 (O.fO rfl (.obj rfl) fd98_2 rfl) <| Dv 5 (O.ldO (y := I64 a2.At) rfl (.ptr rfl) ct3 rfl rfl) <| Dv 6 (O.bu (cs := [I64 (w64 (1 + x1)), .nils, I64 (-1), SS ({ data := #[] }), .nils, I64 a2.At]) sc109 ze109 rfl rfl rfl) <| Dv 7 (O.al (cs := [I64 0, .nils, I64 0, SS ({ data := #[] }), .nils, I64 0]) ze109 rfl rfl) <| DL.sO 8 (G2 := [(0, .obj (eyuccaref9_maker_r.cells a0)), (5, .obj (eAlt_0.cells a2)), (6, .obj [I64 (w64 (1 + x1)), .nils, I64 (-1), SS ({ data := #[] }), .nils, I64 a2.At])]) (cs2 := [I64 (w64 (1 + x1)), .nils, I64 (-1), SS ({ data := #[] }), .nils, I64 a2.At]) rfl (by kernel_rfl) (by kernel_rfl) rfl rfl rfl (.obj rfl) (.aggF rfl rfl) rfl sz109 rfl rfl rfl rfl (.n rfl rfl (.n rfl rfl (.b rfl .nil))) <| DL.fin rfl rfl rfl (.n rfl (.n rfl (.n rfl .nil)))) ?_
  refine Px.sq ?_
  refine W.sq' ?_
  refine W.sq' ?_
  refine W.rx [(0, _), (5, _), (6, _), (7, _)] (Rv (O.as (.k rfl)) <| RunL.fin (.n rfl (.n rfl (.n rfl (.n rfl .nil))))) ?_
  refine Px.sq ?_
  refine W.bk ?_
  obtain ⟨x3, hl, h⟩ := bnd h
  refine W.tr (G1 := [(0, .obj (eyuccaref9_maker_r.cells a0)), (5, .obj (eAlt_0.cells a2)), (6, .obj [I64 (w64 (1 + x1)), oR eI ([] : List Int), I64 (-1), SS ({ data := #[] }), .nils, I64 a2.At]), (7, I64 0)]) (.n rfl (.n rfl (.w rfl rfl (WkL.obj (.f (.o (.f (.f (.f (.f .nil))))))) (.n rfl .nil)))) ?_
  refine W.lp1 (s := (a0, ([] : List Int), { data := #[] }, a2.At, 0)) (fun (s2 : yuccaref9_maker × List Int × ByteArray × Int × Int) => [(0, .obj (eyuccaref9_maker_r.cells s2.1)), (5, .obj (eAlt_0.cells a2)), (6, .obj [I64 (w64 (1 + x1)), oR eI s2.2.1, I64 (-1), SS s2.2.2.1, .nils, I64 s2.2.2.2.1]), (7, I64 s2.2.2.2.2)]) 0 (fun (x3 : yuccaref9_maker × List Int × ByteArray × Int) => [(0, .obj (eyuccaref9_maker_r.cells x3.1)), (5, .obj (eAlt_0.cells a2)), (6, .obj [I64 (w64 (1 + x1)), oR eI x3.2.1, I64 (-1), SS x3.2.2.1, .nils, I64 x3.2.2.2])]) hl (fun s2 o h => ?_) ?_
  · clear hl
    refine W.sq' ?_
    refine W.sq' ?_
    refine W.rx [(0, _), (5, _), (6, _), (7, _), (21, _)] (Rv (O.mv (.lit rfl)) <| Rv (O.fO rfl (.obj rfl) fd98_0 rfl) <| Rv (O.ldO (y := iR ePart a2.Parts) rfl (.ptr rfl) ct96 rfl rfl) <| Rv (O.lenI (.imm rfl) sl96) <| Rv (O.lss (.lit rfl) (.lit rfl)) <| RunL.fin (.n rfl (.n rfl (.n rfl (.n rfl (.n rfl .nil)))))) ?_
    refine Px.sq ?_
    refine W.cnd rfl (fun hb5 => ?_) (fun hb5 => ?_)
    · replace h := cndT hb5 h
      refine W.sk ?_
      refine Px.sq ?_
      refine W.sq' ?_
      obtain ⟨j6, hj, h⟩ := bnd h
      refine W.jn [(0, .obj (eyuccaref9_maker_r.cells j6.1)), (5, .obj (eAlt_0.cells a2)), (6, .obj [I64 (w64 (1 + x1)), oR eI j6.2.1, I64 (-1), SS j6.2.2.1, .nils, I64 j6.2.2.2]), (7, I64 s2.2.2.2.2)] ?_ ?_
      · clear h; have h := hj; clear hj
        refine W.bk ?_
        refine W.sq' ?_
        obtain ⟨x7, hx7, h⟩ := bnd h
        refine W.rx [(0, _), (5, _), (6, _), (7, _), (8, _)] (Rv (O.fO rfl (.obj rfl) fd98_0 rfl) <| Rv (O.ldO (y := iR ePart a2.Parts) rfl (.ptr rfl) ct96 rfl rfl) <| Rv (O.mv (.lit rfl)) <| Rv (O.ixI (.imm rfl) (.lit rfl) sl96 hx7) <| Rv (O.ldIN (cs' := [SS x7.Sym.Name, BB x7.Sym.Lit, I64 x7.Sym.Num, I64 x7.Sym.At, SS x7.Code, I64 x7.At]) (.iptr rfl) at100 rfl rfl) <| Rv (O.al (cs := [SS ({ data := #[] }), BB false, I64 0, I64 0, SS ({ data := #[] }), I64 0]) ze100 rfl rfl) <| RunL.sO (G2 := [(0, .obj (eyuccaref9_maker_r.cells s2.1)), (5, .obj (eAlt_0.cells a2)), (6, .obj [I64 (w64 (1 + x1)), oR eI s2.2.1, I64 (-1), SS s2.2.2.1, .nils, I64 s2.2.2.2.1]), (7, I64 s2.2.2.2.2), (8, .obj (ePart.cells x7))]) (cs2 := [SS x7.Sym.Name, BB x7.Sym.Lit, I64 x7.Sym.Num, I64 x7.Sym.At, SS x7.Code, I64 x7.At]) rfl (.obj rfl) (.aggF rfl rfl) rfl sz100 rfl rfl rfl rfl (.n rfl rfl (.n rfl rfl (.n rfl rfl (.n rfl rfl (.b rfl .nil))))) <| RunL.fin (.n rfl (.n rfl (.n rfl (.n rfl (.n rfl .nil)))))) ?_
        refine Px.sq ?_
        obtain ⟨j8, hj, h⟩ := bnd h
        refine W.jn [(0, .obj (eyuccaref9_maker_r.cells j8.1)), (5, .obj (eAlt_0.cells a2)), (6, .obj [I64 (w64 (1 + x1)), oR eI j8.2.1, I64 (-1), SS j8.2.2.1, .nils, I64 j8.2.2.2]), (7, I64 s2.2.2.2.2)] ?_ ?_
        · clear h; have h := hj; clear hj
          refine W.bk ?_
          refine W.sq' ?_
          refine W.rx [(0, _), (5, _), (6, _), (7, _), (8, _), (82, _)] (Rv (O.fO rfl (.obj rfl) fd100_1 rfl) <| Rv (O.ldO (y := SS x7.Code) rfl (.ptr rfl) ct9 rfl rfl) <| Rv (O.eqS (.lit rfl) (.k rfl)) <| Rv (O.as (.lit rfl)) <| RunL.fin (.n rfl (.n rfl (.n rfl (.n rfl (.n rfl (.n rfl .nil))))))) ?_
          refine Px.sq ?_
          obtain ⟨j9, hj, h⟩ := bnd h
          refine W.jn [(0, .obj (eyuccaref9_maker_r.cells j9.1)), (5, .obj (eAlt_0.cells a2)), (6, .obj [I64 (w64 (1 + x1)), oR eI j9.2.1, I64 (-1), SS j9.2.2.1, .nils, I64 j9.2.2.2]), (7, I64 s2.2.2.2.2)] ?_ ?_
          · clear h; have h := hj; clear hj
            refine W.cnd rfl (fun hb10 => ?_) (fun hb10 => ?_)
            · replace h := cndT hb10 h
              obtain ⟨x11, hx11, h⟩ := bnd h
              obtain ⟨x12, hx12, h⟩ := bnd h
              refine W.rd [[], [0], [], [], [3], [2, 3, 4], [2, 3, 4, 5], rn 0 7 [], rn 0 8 [], rn 0 9 []] [(0, _), (5, _), (6, _), (7, _)] mixo (by kernel_rfl) (Dv 0 (O.fO rfl (.obj rfl) fd109_1 rfl) <| Dv 1 (O.ldO (y := .brw eI.z ⟨6, [1]⟩ s2.2.1.length) rfl (.ptr rfl) ct27 rfl rfl) <| Dv 2 (O.mv (.obj rfl)) <| Dv 3 (O.fO rfl (.obj rfl) fd100_0 rfl) <| Dv 4 (O.ldON (cs' := [SS x7.Sym.Name, BB x7.Sym.Lit, I64 x7.Sym.Num, I64 x7.Sym.At]) rfl (.ptr rfl) at91 rfl rfl) <| DL.bu 5 (G2 := (6, .obj [I64 (w64 (1 + x1)), oR eI s2.2.1, I64 (-1), SS s2.2.2.1, .nils, I64 s2.2.2.2.1]) :: [(91, I64 x11.1), (0, .obj [oR eTok x11.2.f_g.Toks, oR eNon x11.2.f_g.Nons, oR eProd_0 x11.2.f_g.Prods, SS x11.2.f_g.Pro, SS x11.2.f_g.Tail, oR eB x11.2.f_given, oR eNon x11.2.f_types, oR eS x11.2.f_lefts, I64 x11.2.f_e, I64 x11.2.f_at, SS x11.2.f_name, I64 x11.2.f_level, I64 x11.2.f_inner]), (5, .obj (eAlt_0.cells a2)), (7, I64 s2.2.2.2.2)]) (U := [(1, 87, some (.brw eI.z ⟨6, [1]⟩ s2.2.1.length)), (0, 86, some (.ptr ⟨6, []⟩ 1))]) (EffV.box (r := 6) (G1 := [(0, .obj (eyuccaref9_maker_r.cells s2.1)), (5, .obj (eAlt_0.cells a2)), (7, I64 s2.2.2.2.2), (88, .ptr ⟨0, []⟩ 0), (90, .agg (eSym.cells x7.Sym))]) (G2 := [(91, I64 x11.1), (0, .obj [oR eTok x11.2.f_g.Toks, oR eNon x11.2.f_g.Nons, oR eProd_0 x11.2.f_g.Prods, SS x11.2.f_g.Pro, SS x11.2.f_g.Tail, oR eB x11.2.f_given, oR eNon x11.2.f_types, oR eS x11.2.f_lefts, I64 x11.2.f_e, I64 x11.2.f_at, SS x11.2.f_name, I64 x11.2.f_level, I64 x11.2.f_inner]), (5, .obj (eAlt_0.cells a2)), (7, I64 s2.2.2.2.2)]) (EO.call rfl rfl (CallOk.ln (G2 := [(5, .obj (eAlt_0.cells a2)), (7, I64 s2.2.2.2.2)]) (A := []) (ys := [.ptr ⟨0, []⟩ 0, .agg (eSym.cells x7.Sym)]) (args := [.obj (eyuccaref9_maker_r.cells s2.1), .agg (eSym.cells x7.Sym)]) (cs' := [oR eTok x11.2.f_g.Toks, oR eNon x11.2.f_g.Nons, oR eProd_0 x11.2.f_g.Prods, SS x11.2.f_g.Pro, SS x11.2.f_g.Tail, oR eB x11.2.f_given, oR eNon x11.2.f_types, oR eS x11.2.f_lefts, I64 x11.2.f_e, I64 x11.2.f_at, SS x11.2.f_name, I64 x11.2.f_level, I64 x11.2.f_inner]) (k0 := 0) rfl rfl rfl rfl (.b rfl (.n rfl .nil)) rfl (con83 s2.1 x7.Sym _ hx11) call83 (.n rfl (.n rfl .nil)) rfl rfl (.n rfl (.n rfl .nil)) .nil rfl)) rfl (.n rfl (.n rfl (.n rfl (.q rfl rfl rfl (.n rfl .nil))))) rfl rfl rfl) rfl rfl (by kernel_rfl) rfl rfl rfl (.c (.inl ⟨6, [1], _, _, _, _, rfl, by simp, rfl, rfl, Nat.le_refl _⟩) rfl rfl rfl rfl rfl (Gd.wanted .none) (O.ldO (y := .brw eI.z ⟨6, [1]⟩ s2.2.1.length) rfl (.ptr rfl) ct27 rfl rfl) (.c (.inr (.inr (.inr ⟨6, _, _, rfl, rfl, of_blt rfl, by simp⟩))) rfl rfl rfl rfl rfl (Gd.wanted .none) (O.fO rfl (.obj rfl) fd109_1 rfl) .nil)) (by kernel_rfl) <| DL.vi 6 (x := iR eI [x11.1]) (O.bs (ys := [I64 x11.1]) eI [x11.1] sl27 rfl rfl rfl rfl rfl rfl zt3 rfl rfl) rfl rfl rfl rfl .none <| Dv 7 (O.ap (en := eI) (r := x12) (.brw rfl) rfl (.imm rfl) .i ap27 rfl hx12) <| Dv 8 (O.fO rfl (.obj rfl) fd109_1 rfl) <| DL.bp 9 (G2 := [(0, .obj (eyuccaref9_maker_r.cells x11.2)), (5, .obj (eAlt_0.cells a2)), (6, .obj [I64 (w64 (1 + x1)), oR eI (s2.2.1 ++ [x11.1]), I64 (-1), SS s2.2.2.1, .nils, I64 s2.2.2.2.1]), (7, I64 s2.2.2.2.2)]) (EO.stP (g1 := _) (en := eI) (M := [x11.1]) (cs2 := [I64 (w64 (1 + x1)), oR eI (s2.2.1 ++ [x11.1]), I64 (-1), SS s2.2.2.1, .nils, I64 s2.2.2.2.1]) rfl rfl (.ptr rfl) (.pend rfl) rfl rfl rfl .ns .rf rfl rfl sz27 rfl rfl rfl rfl (.n rfl rfl (.n rfl rfl (.b rfl (.n rfl rfl .nil))))) rfl rfl rfl rfl (by kernel_rfl) (by kernel_rfl) <| DL.fin rfl rfl rfl (.n rfl (.n rfl (.n rfl (.n rfl .nil))))) ?_
              obtain rfl := sm h
              exact Px.jn (.n rfl (.n rfl (.n rfl (.n rfl .nil))))
            · replace h := cndF hb10 h
              refine W.sq' ?_
              refine W.rx [(0, _), (5, _), (6, _), (7, _), (8, _), (95, _)] (Rv (O.mv (.lit rfl)) <| Rv (O.add (.lit rfl) (.k rfl)) <| Rv (O.fO rfl (.obj rfl) fd98_0 rfl) <| Rv (O.ldO (y := iR ePart a2.Parts) rfl (.ptr rfl) ct96 rfl rfl) <| Rv (O.lenI (.imm rfl) sl96) <| Rv (O.eql (.lit rfl) (.lit rfl)) <| Rv (O.as (.lit rfl)) <| RunL.fin (.n rfl (.n rfl (.n rfl (.n rfl (.n rfl (.n rfl .nil))))))) ?_
              refine Px.sq ?_
              obtain ⟨j13, hj, h⟩ := bnd h
              refine W.jn [(0, .obj [oR eTok s2.1.f_g.Toks, oR eNon s2.1.f_g.Nons, oR eProd_0 j13.1, SS s2.1.f_g.Pro, SS s2.1.f_g.Tail, oR eB s2.1.f_given, oR eNon s2.1.f_types, oR eS s2.1.f_lefts, I64 s2.1.f_e, I64 s2.1.f_at, SS s2.1.f_name, I64 s2.1.f_level, I64 j13.2.1]), (5, .obj (eAlt_0.cells a2)), (6, .obj [I64 (w64 (1 + x1)), oR eI j13.2.2.1, I64 (-1), SS j13.2.2.2.1, .nils, I64 j13.2.2.2.2]), (7, I64 s2.2.2.2.2)] ?_ ?_
              · clear h; have h := hj; clear hj
                refine W.cnd rfl (fun hb14 => ?_) (fun hb14 => ?_)
                · replace h := cndT hb14 h
                  refine W.rd [[], [0], [], [2], [0, 1], [0, 1, 4], rn 0 6 [], rn 0 7 []] [(0, _), (5, _), (6, _), (7, _)] mixo (by kernel_rfl) (Dv 0 (O.fO rfl (.obj rfl) fd100_1 rfl) <| Dv 1 (O.ldO (y := SS x7.Code) rfl (.ptr rfl) ct9 rfl rfl) <| Dv 2 (O.fO rfl (.obj rfl) fd100_2 rfl) <| Dv 3 (O.ldO (y := I64 x7.At) rfl (.ptr rfl) ct3 rfl rfl) <| Dv 4 (O.fO rfl (.obj rfl) fd109_3 rfl) <| DL.bu 5 (G2 := [(0, .obj (eyuccaref9_maker_r.cells s2.1)), (5, .obj (eAlt_0.cells a2)), (6, .obj [I64 (w64 (1 + x1)), oR eI s2.2.1, I64 (-1), SS x7.Code, .nils, I64 s2.2.2.2.1]), (7, I64 s2.2.2.2.2), (8, .obj (ePart.cells x7))]) (U := [(3, 105, some (I64 x7.At)), (2, 104, some (.ptr ⟨8, []⟩ 5))]) (EffOk.v (EO.eff (EO.sO (G2 := [(0, .obj (eyuccaref9_maker_r.cells s2.1)), (5, .obj (eAlt_0.cells a2)), (6, .obj [I64 (w64 (1 + x1)), oR eI s2.2.1, I64 (-1), SS x7.Code, .nils, I64 s2.2.2.2.1]), (7, I64 s2.2.2.2.2), (8, .obj (ePart.cells x7))]) (cs2 := [I64 (w64 (1 + x1)), oR eI s2.2.1, I64 (-1), SS x7.Code, .nils, I64 s2.2.2.2.1]) rfl rfl rfl (.ptr rfl) (.lit rfl) rfl sz9 rfl rfl rfl rfl (.n rfl rfl (.n rfl rfl (.b rfl (.n rfl rfl (.n rfl rfl .nil)))))))) rfl rfl (by kernel_rfl) rfl rfl rfl (.c (.inr (.inl ⟨_, rfl⟩)) rfl rfl rfl rfl rfl (Gd.wanted .none) (O.ldO (y := I64 x7.At) rfl (.ptr rfl) ct3 rfl rfl) (.c (.inr (.inr (.inr ⟨8, _, _, rfl, rfl, of_blt rfl, by simp⟩))) rfl rfl rfl rfl rfl (Gd.wanted .none) (O.fO rfl (.obj rfl) fd100_2 rfl) .nil)) (by kernel_rfl) <| Dv 6 (O.fO rfl (.obj rfl) fd109_5 rfl) <| DL.sO 7 (G2 := [(0, .obj (eyuccaref9_maker_r.cells s2.1)), (5, .obj (eAlt_0.cells a2)), (6, .obj [I64 (w64 (1 + x1)), oR eI s2.2.1, I64 (-1), SS x7.Code, .nils, I64 x7.At]), (7, I64 s2.2.2.2.2)]) (cs2 := [I64 (w64 (1 + x1)), oR eI s2.2.1, I64 (-1), SS x7.Code, .nils, I64 x7.At]) rfl (by kernel_rfl) (by kernel_rfl) rfl rfl rfl (.ptr rfl) (.lit rfl) rfl sz3 rfl rfl rfl rfl (.n rfl rfl (.n rfl rfl (.b rfl (.n rfl rfl .nil)))) <| DL.fin rfl rfl rfl (.n rfl (.n rfl (.n rfl (.n rfl .nil))))) ?_
                  obtain rfl := sm h
                  exact Px.jn (.n rfl (.n rfl (.n rfl (.n rfl .nil))))
                · replace h := cndF hb14 h
                  refine W.sq' ?_
                  refine W.rx [(0, _), (5, _), (6, _), (7, _), (8, _)] (Rv (O.mv (.obj rfl)) <| Rv (O.nlP (.ptr rfl)) <| Rv (O.fO rfl (.ptr rfl) fd128_8 rfl) <| Rv (O.ldO (y := I64 s2.1.f_inner) rfl (.ptr rfl) ct3 rfl rfl) <| Rv (O.add (.lit rfl) (.k rfl)) <| Rv (O.nlP (.ptr rfl)) <| Rv (O.fO rfl (.ptr rfl) fd128_8 rfl) <| RunL.sO (G2 := [(0, .obj [oR eTok s2.1.f_g.Toks, oR eNon s2.1.f_g.Nons, oR eProd_0 s2.1.f_g.Prods, SS s2.1.f_g.Pro, SS s2.1.f_g.Tail, oR eB s2.1.f_given, oR eNon s2.1.f_types, oR eS s2.1.f_lefts, I64 s2.1.f_e, I64 s2.1.f_at, SS s2.1.f_name, I64 s2.1.f_level, I64 (w64 (s2.1.f_inner + 1))]), (5, .obj (eAlt_0.cells a2)), (6, .obj [I64 (w64 (1 + x1)), oR eI s2.2.1, I64 (-1), SS s2.2.2.1, .nils, I64 s2.2.2.2.1]), (7, I64 s2.2.2.2.2), (8, .obj (ePart.cells x7))]) (cs2 := [oR eTok s2.1.f_g.Toks, oR eNon s2.1.f_g.Nons, oR eProd_0 s2.1.f_g.Prods, SS s2.1.f_g.Pro, SS s2.1.f_g.Tail, oR eB s2.1.f_given, oR eNon s2.1.f_types, oR eS s2.1.f_lefts, I64 s2.1.f_e, I64 s2.1.f_at, SS s2.1.f_name, I64 s2.1.f_level, I64 (w64 (s2.1.f_inner + 1))]) rfl (.ptr rfl) (.lit rfl) rfl sz3 rfl rfl rfl rfl (.b rfl (.n rfl rfl (.n rfl rfl (.n rfl rfl (.n rfl rfl .nil))))) <| RunL.fin (.n rfl (.n rfl (.n rfl (.n rfl (.n rfl .nil)))))) ?_
                  refine Px.sq ?_
                  refine W.sq' ?_
                  obtain ⟨x15, hx15, h⟩ := bnd h
                  obtain ⟨x16, hx16, h⟩ := bnd h
                  refine W.rd [[], [], [1], [1, 2], [1, 2, 3], [1, 2, 3, 4], [], [6], [6, 7], [6, 7, 8], [6, 7, 8, 9], [], [11], [11, 12], [11, 12, 13], rn 6 9 [], [], [16], [], [], [19], [18, 19, 20], [], [22], rn 6 18 [], rn 6 19 [], rn 1 25 [], rn 0 27 [], rn 0 28 [], rn 0 29 [], rn 0 30 []] [(0, _), (5, _), (6, _), (7, _)] mixo (by kernel_rfl) (Dv 0 (O.mv (.obj rfl)) <| Dv 1 (O.mv (.obj rfl)) <| Dv 2 (O.nlP (.ptr rfl)) <| Dv 3 (O.fO rfl (.ptr rfl) fd128_0 rfl) <| Dv 4 (O.fO rfl (.ptr rfl) fd38_2 rfl) <| Dv 5 (O.ldO (y := .brw eProd_0.z ⟨0, [2]⟩ s2.1.f_g.Prods.length) rfl (.ptr rfl) ct36 rfl rfl) <| Dv 6 (O.mv (.obj rfl)) <| Dv 7 (O.nlP (.ptr rfl)) <| Dv 8 (O.fO rfl (.ptr rfl) fd128_3 rfl) <| Dv 9 (O.ldO (y := .brw eS.z ⟨0, [7]⟩ s2.1.f_lefts.length) rfl (.ptr rfl) ct61 rfl rfl) <| Dv 10 (O.lenO (.brw rfl) sl61) <| Dv 11 (O.mv (.obj rfl)) <| Dv 12 (O.nlP (.ptr rfl)) <| Dv 13 (O.fO rfl (.ptr rfl) fd128_8 rfl) <| Dv 14 (O.ldO (y := I64 (w64 (s2.1.f_inner + 1))) rfl (.ptr rfl) ct3 rfl rfl) <| Dv 15 (O.add (.lit rfl) (.lit rfl)) <| Dv 16 (O.fO rfl (.obj rfl) fd100_1 rfl) <| Dv 17 (O.ldO (y := SS x7.Code) rfl (.ptr rfl) ct9 rfl rfl) <| Dv 18 (O.bs (ys := []) eI ([] : List Int) sl27 rfl rfl rfl rfl rfl rfl zt3 rfl rfl) <| Dv 19 (O.fO rfl (.obj rfl) fd109_1 rfl) <| Dv 20 (O.ldO (y := .brw eI.z ⟨6, [1]⟩ s2.2.1.length) rfl (.ptr rfl) ct27 rfl rfl) <| Dv 21 (O.ap (en := eI) (r := x15) (.own rfl) rfl (.brw rfl) (.flat eI rfl) ap27 rfl hx15) <| Dv 22 (O.fO rfl (.obj rfl) fd100_2 rfl) <| Dv 23 (O.ldO (y := I64 x7.At) rfl (.ptr rfl) ct3 rfl rfl) <| Dv 24 (O.bu (cs := [I64 (w64 ((s2.1.f_lefts.length : Int) + (w64 (s2.1.f_inner + 1)))), .nils, I64 (-1), SS x7.Code, .brw eI.z ⟨57, []⟩ (([] : List Int).length + s2.2.1.length), I64 x7.At]) sc109 ze109 rfl rfl rfl) <| Dv 25 (O.bsL (ys := [.agg [I64 (w64 ((s2.1.f_lefts.length : Int) + (w64 (s2.1.f_inner + 1)))), .nils, I64 (-1), SS x7.Code, .brw eI.z ⟨57, []⟩ (([] : List Int).length + s2.2.1.length), I64 x7.At]]) (cs := [I64 (w64 ((s2.1.f_lefts.length : Int) + (w64 (s2.1.f_inner + 1)))), .nils, I64 (-1), SS x7.Code, .brw eI.z ⟨57, []⟩ (([] : List Int).length + s2.2.1.length), I64 x7.At]) sl36 rfl rfl rfl rfl rfl zt109 rfl rfl) <| Dv 26 (O.apL' (en := eProd_0) (M := [(⟨w64 ((s2.1.f_lefts.length : Int) + (w64 (s2.1.f_inner + 1))), ([] : List Int), (-1), x7.Code, ([] : List Int) ++ s2.2.1, x7.At⟩ : Prod)]) (r := x16) (.brw rfl) rfl (.own rfl) rfl rfl rfl rfl ap36 rfl hx16 (noP_spec (by kernel_rfl) (by kernel_rfl))) <| Dv 27 (O.nlP (.ptr rfl)) <| Dv 28 (O.fO rfl (.ptr rfl) fd128_0 rfl) <| Dv 29 (O.fO rfl (.ptr rfl) fd38_2 rfl) <| DL.bp 30 (G2 := [(0, .obj [oR eTok s2.1.f_g.Toks, oR eNon s2.1.f_g.Nons, oR eProd_0 (s2.1.f_g.Prods ++ [(⟨w64 ((s2.1.f_lefts.length : Int) + (w64 (s2.1.f_inner + 1))), ([] : List Int), (-1), x7.Code, ([] : List Int) ++ s2.2.1, x7.At⟩ : Prod)]), SS s2.1.f_g.Pro, SS s2.1.f_g.Tail, oR eB s2.1.f_given, oR eNon s2.1.f_types, oR eS s2.1.f_lefts, I64 s2.1.f_e, I64 s2.1.f_at, SS s2.1.f_name, I64 s2.1.f_level, I64 (w64 (s2.1.f_inner + 1))]), (5, .obj (eAlt_0.cells a2)), (6, .obj [I64 (w64 (1 + x1)), oR eI s2.2.1, I64 (-1), SS s2.2.2.1, .nils, I64 s2.2.2.2.1]), (7, I64 s2.2.2.2.2)]) (EO.stP (g1 := _) (en := eProd_0) (M := [(⟨w64 ((s2.1.f_lefts.length : Int) + (w64 (s2.1.f_inner + 1))), ([] : List Int), (-1), x7.Code, ([] : List Int) ++ s2.2.1, x7.At⟩ : Prod)]) (cs2 := [oR eTok s2.1.f_g.Toks, oR eNon s2.1.f_g.Nons, oR eProd_0 (s2.1.f_g.Prods ++ [(⟨w64 ((s2.1.f_lefts.length : Int) + (w64 (s2.1.f_inner + 1))), ([] : List Int), (-1), x7.Code, ([] : List Int) ++ s2.2.1, x7.At⟩ : Prod)]), SS s2.1.f_g.Pro, SS s2.1.f_g.Tail, oR eB s2.1.f_given, oR eNon s2.1.f_types, oR eS s2.1.f_lefts, I64 s2.1.f_e, I64 s2.1.f_at, SS s2.1.f_name, I64 s2.1.f_level, I64 (w64 (s2.1.f_inner + 1))]) rfl rfl (.ptr rfl) (.pend rfl) rfl rfl rfl (.f (.f (.f (.f (.pn rfl rfl rfl .ns (.f .nil)))))) (.f (.z (.f (.f (.z (hv := Vw.pn rfl rfl) (.f .nil)))))) rfl rfl sz36 rfl rfl rfl rfl (.b rfl (.n rfl rfl (.n rfl rfl (.n rfl rfl .nil))))) rfl rfl rfl rfl (by kernel_rfl) (by kernel_rfl) <| DL.fin rfl rfl rfl (.n rfl (.n rfl (.n rfl (.n rfl .nil))))) ?_
                  refine Px.sq ?_
                  obtain ⟨x17, hx17, h⟩ := bnd h
                  refine W.rd [[], [0], [], [2], [2, 3], [2, 3, 4], [2, 3, 4, 5], rn 2 5 [], [], [8], [8, 9], [8, 9, 10], rn 2 10 [], rn 2 11 [], rn 0 14 [], rn 0 15 [], rn 0 16 []] [(0, _), (5, _), (6, _), (7, _)] mixo (by kernel_rfl) (Dv 0 (O.fO rfl (.obj rfl) fd109_1 rfl) <| Dv 1 (O.ldO (y := .brw eI.z ⟨6, [1]⟩ s2.2.1.length) rfl (.ptr rfl) ct27 rfl rfl) <| Dv 2 (O.mv (.obj rfl)) <| Dv 3 (O.nlP (.ptr rfl)) <| Dv 4 (O.fO rfl (.ptr rfl) fd128_3 rfl) <| Dv 5 (O.ldO (y := .brw eS.z ⟨0, [7]⟩ s2.1.f_lefts.length) rfl (.ptr rfl) ct61 rfl rfl) <| Dv 6 (O.lenO (.brw rfl) sl61) <| Dv 7 (O.add (.k rfl) (.lit rfl)) <| Dv 8 (O.mv (.obj rfl)) <| Dv 9 (O.nlP (.ptr rfl)) <| Dv 10 (O.fO rfl (.ptr rfl) fd128_8 rfl) <| Dv 11 (O.ldO (y := I64 (w64 (s2.1.f_inner + 1))) rfl (.ptr rfl) ct3 rfl rfl) <| Dv 12 (O.add (.lit rfl) (.lit rfl)) <| DL.vi 13 (x := iR eI [w64 ((w64 (1000 + (s2.1.f_lefts.length : Int))) + (w64 (s2.1.f_inner + 1)))]) (O.bs (ys := [I64 (w64 ((w64 (1000 + (s2.1.f_lefts.length : Int))) + (w64 (s2.1.f_inner + 1))))]) eI [w64 ((w64 (1000 + (s2.1.f_lefts.length : Int))) + (w64 (s2.1.f_inner + 1)))] sl27 rfl rfl rfl rfl rfl rfl zt3 rfl rfl) rfl rfl rfl rfl .none <| Dv 14 (O.ap (en := eI) (r := x17) (.brw rfl) rfl (.imm rfl) .i ap27 rfl hx17) <| Dv 15 (O.fO rfl (.obj rfl) fd109_1 rfl) <| DL.bp 16 (G2 := [(0, .obj [oR eTok s2.1.f_g.Toks, oR eNon s2.1.f_g.Nons, oR eProd_0 (s2.1.f_g.Prods ++ [(⟨w64 ((s2.1.f_lefts.length : Int) + (w64 (s2.1.f_inner + 1))), ([] : List Int), (-1), x7.Code, ([] : List Int) ++ s2.2.1, x7.At⟩ : Prod)]), SS s2.1.f_g.Pro, SS s2.1.f_g.Tail, oR eB s2.1.f_given, oR eNon s2.1.f_types, oR eS s2.1.f_lefts, I64 s2.1.f_e, I64 s2.1.f_at, SS s2.1.f_name, I64 s2.1.f_level, I64 (w64 (s2.1.f_inner + 1))]), (5, .obj (eAlt_0.cells a2)), (6, .obj [I64 (w64 (1 + x1)), oR eI (s2.2.1 ++ [w64 ((w64 (1000 + (s2.1.f_lefts.length : Int))) + (w64 (s2.1.f_inner + 1)))]), I64 (-1), SS s2.2.2.1, .nils, I64 s2.2.2.2.1]), (7, I64 s2.2.2.2.2)]) (EO.stP (g1 := _) (en := eI) (M := [w64 ((w64 (1000 + (s2.1.f_lefts.length : Int))) + (w64 (s2.1.f_inner + 1)))]) (cs2 := [I64 (w64 (1 + x1)), oR eI (s2.2.1 ++ [w64 ((w64 (1000 + (s2.1.f_lefts.length : Int))) + (w64 (s2.1.f_inner + 1)))]), I64 (-1), SS s2.2.2.1, .nils, I64 s2.2.2.2.1]) rfl rfl (.ptr rfl) (.pend rfl) rfl rfl rfl .ns .rf rfl rfl sz27 rfl rfl rfl rfl (.n rfl rfl (.n rfl rfl (.b rfl (.n rfl rfl .nil))))) rfl rfl rfl rfl (by kernel_rfl) (by kernel_rfl) <| DL.fin rfl rfl rfl (.n rfl (.n rfl (.n rfl (.n rfl .nil))))) ?_
                  obtain rfl := sm h
                  exact Px.jn (.n rfl (.n rfl (.n rfl (.n rfl .nil))))
              obtain rfl := sm h
              exact Px.jn (.n rfl (.n rfl (.n rfl (.n rfl .nil))))
          refine Px.bk ?_
          obtain rfl := sm h
          exact Px.jn (.n rfl (.n rfl (.n rfl (.n rfl .nil))))
        refine Px.bk ?_
        obtain rfl := sm h
        exact Px.jn (.n rfl (.n rfl (.n rfl (.n rfl .nil))))
      refine Px.sq ?_
      refine W.rx [(0, _), (5, _), (6, _), (7, _)] (Rv (O.mv (.lit rfl)) <| Rv (O.add (.lit rfl) (.k rfl)) <| RunL.re (G1 := [(0, .obj (eyuccaref9_maker_r.cells j6.1)), (5, .obj (eAlt_0.cells a2)), (6, .obj [I64 (w64 (1 + x1)), oR eI j6.2.1, I64 (-1), SS j6.2.2.1, .nils, I64 j6.2.2.2]), (23, I64 (w64 (s2.2.2.2.2 + 1)))]) (.n rfl (.n rfl (.n rfl (.n rfl .nil)))) <| Rv (O.as (.lit rfl)) <| RunL.fin (.n rfl (.n rfl (.n rfl (.n rfl .nil))))) ?_
      obtain rfl := sm h
      exact Px.go (.n rfl (.n rfl (.n rfl (.n rfl .nil))))
    · replace h := cndF hb5 h
      refine W.xi ?_
      refine Px.sqE ?_
      obtain rfl := sm h
      exact Px.x1 (.n rfl (.n rfl (.n rfl .nil)))
  refine Px.bkH ?_
  refine Px.sq ?_
  refine W.sq' ?_
  refine W.sq' ?_
  refine W.rx [(0, _), (5, _), (6, _), (9, _)] (Rv (O.as (.k rfl)) <| RunL.fin (.n rfl (.n rfl (.n rfl (.n rfl .nil))))) ?_
  refine Px.sq ?_
  refine W.bk ?_
  obtain ⟨x19, hl, h⟩ := bnd h
  refine W.tr (G1 := [(0, .obj (eyuccaref9_maker_r.cells x3.1)), (5, .obj (eAlt_0.cells a2)), (6, .obj [I64 (w64 (1 + x1)), oR eI x3.2.1, I64 (-1), SS x3.2.2.1, .nils, I64 x3.2.2.2]), (9, I64 0)]) (.n rfl (.n rfl (.n rfl (.n rfl .nil)))) ?_
  refine W.lp1 (s := ((-1), 0)) (fun (s18 : Int × Int) => [(0, .obj (eyuccaref9_maker_r.cells x3.1)), (5, .obj (eAlt_0.cells a2)), (6, .obj [I64 (w64 (1 + x1)), oR eI x3.2.1, I64 s18.1, SS x3.2.2.1, .nils, I64 x3.2.2.2]), (9, I64 s18.2)]) 3 (fun (x19 : Int) => [(0, .obj (eyuccaref9_maker_r.cells x3.1)), (5, .obj (eAlt_0.cells a2)), (6, .obj [I64 (w64 (1 + x1)), oR eI x3.2.1, I64 x19, SS x3.2.2.1, .nils, I64 x3.2.2.2])]) hl (fun s18 o h => ?_) ?_
  · clear hl
    refine W.sq' ?_
    refine W.sq' ?_
    refine W.rx [(0, _), (5, _), (6, _), (9, _), (112, _)] (Rv (O.mv (.lit rfl)) <| Rv (O.fO rfl (.obj rfl) fd109_1 rfl) <| Rv (O.ldO (y := .brw eI.z ⟨6, [1]⟩ x3.2.1.length) rfl (.ptr rfl) ct27 rfl rfl) <| Rv (O.lenO (.brw rfl) sl27) <| Rv (O.lss (.lit rfl) (.lit rfl)) <| RunL.fin (.n rfl (.n rfl (.n rfl (.n rfl (.n rfl .nil)))))) ?_
    refine Px.sq ?_
    refine W.cnd rfl (fun hb21 => ?_) (fun hb21 => ?_)
    · replace h := cndT hb21 h
      refine W.sk ?_
      refine Px.sq ?_
      refine W.sq' ?_
      obtain ⟨j22, hj, h⟩ := bnd h
      refine W.jn [(0, .obj (eyuccaref9_maker_r.cells x3.1)), (5, .obj (eAlt_0.cells a2)), (6, .obj [I64 (w64 (1 + x1)), oR eI x3.2.1, I64 j22, SS x3.2.2.1, .nils, I64 x3.2.2.2]), (9, I64 s18.2)] ?_ ?_
      · clear h; have h := hj; clear hj
        refine W.bk ?_
        refine W.sq' ?_
        obtain ⟨x23, hx23, h⟩ := bnd h
        refine W.rx [(0, _), (5, _), (6, _), (9, _), (120, _)] (Rv (O.fO rfl (.obj rfl) fd109_1 rfl) <| Rv (O.ldO (y := .brw eI.z ⟨6, [1]⟩ x3.2.1.length) rfl (.ptr rfl) ct27 rfl rfl) <| Rv (O.mv (.lit rfl)) <| Rv (O.ixO (en := eI) rfl (.brw rfl) (.lit rfl) sl27 hx23 rfl) <| Rv (O.ldE (en := eI) (x' := I64 x23) rfl (.ptr rfl) ct3 hx23 rfl rfl) <| Rv (O.lss (.lit rfl) (.k rfl)) <| RunL.fin (.n rfl (.n rfl (.n rfl (.n rfl (.n rfl .nil)))))) ?_
        refine Px.sq ?_
        obtain ⟨j24, hj, h⟩ := bnd h
        refine W.jn [(0, .obj (eyuccaref9_maker_r.cells x3.1)), (5, .obj (eAlt_0.cells a2)), (6, .obj [I64 (w64 (1 + x1)), oR eI x3.2.1, I64 j24, SS x3.2.2.1, .nils, I64 x3.2.2.2]), (9, I64 s18.2)] ?_ ?_
        · clear h; have h := hj; clear hj
          refine W.cnd rfl (fun hb25 => ?_) (fun hb25 => ?_)
          · replace h := cndT hb25 h
            obtain ⟨x26, hx26, h⟩ := bnd h
            refine W.rx [(0, _), (5, _), (6, _), (9, _)] (Rv (O.fO rfl (.obj rfl) fd109_1 rfl) <| Rv (O.ldO (y := .brw eI.z ⟨6, [1]⟩ x3.2.1.length) rfl (.ptr rfl) ct27 rfl rfl) <| Rv (O.mv (.lit rfl)) <| Rv (O.ixO (en := eI) rfl (.brw rfl) (.lit rfl) sl27 hx26 rfl) <| Rv (O.ldE (en := eI) (x' := I64 x26) rfl (.ptr rfl) ct3 hx26 rfl rfl) <| Rv (O.fO rfl (.obj rfl) fd109_2 rfl) <| RunL.sO (G2 := [(0, .obj (eyuccaref9_maker_r.cells x3.1)), (5, .obj (eAlt_0.cells a2)), (6, .obj [I64 (w64 (1 + x1)), oR eI x3.2.1, I64 x26, SS x3.2.2.1, .nils, I64 x3.2.2.2]), (9, I64 s18.2)]) (cs2 := [I64 (w64 (1 + x1)), oR eI x3.2.1, I64 x26, SS x3.2.2.1, .nils, I64 x3.2.2.2]) rfl (.ptr rfl) (.lit rfl) rfl sz3 rfl rfl rfl rfl (.n rfl rfl (.n rfl rfl (.b rfl (.n rfl rfl .nil)))) <| RunL.fin (.n rfl (.n rfl (.n rfl (.n rfl .nil))))) ?_
            obtain rfl := sm h
            exact Px.jn (.n rfl (.n rfl (.n rfl (.n rfl .nil))))
          · replace h := cndF hb25 h
            refine W.sk ?_
            obtain rfl := sm h
            exact Px.jn (.n rfl (.n rfl (.n rfl (.n rfl .nil))))
        refine Px.bk ?_
        obtain rfl := sm h
        exact Px.jn (.n rfl (.n rfl (.n rfl (.n rfl .nil))))
      refine Px.sq ?_
      refine W.rx [(0, _), (5, _), (6, _), (9, _)] (Rv (O.mv (.lit rfl)) <| Rv (O.add (.lit rfl) (.k rfl)) <| RunL.re (G1 := [(0, .obj (eyuccaref9_maker_r.cells x3.1)), (5, .obj (eAlt_0.cells a2)), (6, .obj [I64 (w64 (1 + x1)), oR eI x3.2.1, I64 j22, SS x3.2.2.1, .nils, I64 x3.2.2.2]), (114, I64 (w64 (s18.2 + 1)))]) (.n rfl (.n rfl (.n rfl (.n rfl .nil)))) <| Rv (O.as (.lit rfl)) <| RunL.fin (.n rfl (.n rfl (.n rfl (.n rfl .nil))))) ?_
      obtain rfl := sm h
      exact Px.go (.n rfl (.n rfl (.n rfl (.n rfl .nil))))
    · replace h := cndF hb21 h
      refine W.xi ?_
      refine Px.sqE ?_
      obtain rfl := sm h
      exact Px.x1 (.n rfl (.n rfl (.n rfl .nil)))
  refine Px.bkH ?_
  refine Px.sq ?_
  refine W.sq' ?_
  refine W.sq' ?_
  refine W.rx [(0, _), (5, _), (6, _), (130, _)] (Rv (O.fO rfl (.obj rfl) fd98_1 rfl) <| Rv (O.fO rfl (.ptr rfl) fd91_0 rfl) <| Rv (O.ldO (y := SS a2.Prec.Name) rfl (.ptr rfl) ct9 rfl rfl) <| Rv (O.neS (.lit rfl) (.k rfl)) <| RunL.fin (.n rfl (.n rfl (.n rfl (.n rfl .nil))))) ?_
  refine Px.sq ?_
  obtain ⟨j27, hj, h⟩ := bnd h
  refine W.jn [(0, .obj (eyuccaref9_maker_r.cells j27.1)), (6, .obj [I64 (w64 (1 + x1)), oR eI x3.2.1, I64 j27.2, SS x3.2.2.1, .nils, I64 x3.2.2.2])] ?_ ?_
  · clear h; have h := hj; clear hj
    refine W.cnd rfl (fun hb28 => ?_) (fun hb28 => ?_)
    · replace h := cndT hb28 h
      refine W.sq' ?_
      refine W.rx [(0, _), (5, _), (6, _)] (Rv (O.fO rfl (.obj rfl) fd109_2 rfl) <| RunL.sO (G2 := [(0, .obj (eyuccaref9_maker_r.cells x3.1)), (5, .obj (eAlt_0.cells a2)), (6, .obj [I64 (w64 (1 + x1)), oR eI x3.2.1, I64 (-1), SS x3.2.2.1, .nils, I64 x3.2.2.2])]) (cs2 := [I64 (w64 (1 + x1)), oR eI x3.2.1, I64 (-1), SS x3.2.2.1, .nils, I64 x3.2.2.2]) rfl (.ptr rfl) (.k rfl) rfl sz3 rfl rfl rfl rfl (.n rfl rfl (.n rfl rfl (.b rfl .nil))) <| RunL.fin (.n rfl (.n rfl (.n rfl .nil)))) ?_
      refine Px.sq ?_
      refine W.sq' ?_
      obtain ⟨c31, hj, h⟩ := bnd h
      refine W.rx [(0, .obj (eyuccaref9_maker_r.cells x3.1)), (5, .obj (eAlt_0.cells a2)), (6, .obj [I64 (w64 (1 + x1)), oR eI x3.2.1, I64 (-1), SS x3.2.2.1, .nils, I64 x3.2.2.2]), (142, BB c31)] ?_ ?_
      · refine Rv (O.fO rfl (.obj rfl) fd98_1 rfl) <| Rv (O.fO rfl (.ptr rfl) fd91_1 rfl) <| Rv (O.ldO (y := BB a2.Prec.Lit) rfl (.ptr rfl) ct4 rfl rfl) <| Rv (O.mv (.lit rfl)) ?_
        rcases cnd hj with ⟨hb29, hj⟩ | ⟨hb29, hj⟩
        · obtain rfl := sm hj
          exact RunL.ps rfl rfl hb29 rfl rfl <| RunL.ps rfl rfl hb29 rfl rfl <| RunL.ps rfl rfl hb29 rfl rfl <| RunL.ps rfl rfl hb29 rfl rfl <| RunL.ps rfl rfl hb29 rfl rfl <| RunL.ps rfl rfl hb29 rfl rfl <| Rv (O.pkT (.lit rfl) hb29 (.k rfl)) <| RunL.fin (.n rfl (.n rfl (.n rfl (.n rfl .nil))))
        · refine RunL.v (O.mv (.obj rfl)) rfl rfl (.yb rfl rfl hb29) <| RunL.v (O.fO rfl (.obj rfl) fd98_1 rfl) rfl rfl (.yb rfl rfl hb29) <| RunL.v (O.fO rfl (.ptr rfl) fd91_0 rfl) rfl rfl (.yb rfl rfl hb29) <| RunL.v (O.ldO (y := SS a2.Prec.Name) rfl (.ptr rfl) ct9 rfl rfl) rfl rfl (.yb rfl rfl hb29) ?_
          obtain ⟨x30, hx30, hj⟩ := bnd hj
          obtain rfl := sm hj
          exact RunL.c (PC.vw (ys := [.ptr ⟨0, []⟩ 0, SS a2.Prec.Name]) rfl (.c (View.p0 rfl rfl) (.s .nil)) (con67 x3.1 a2.Prec.Name _ hx30) call67 rfl) rfl rfl (.yb rfl rfl hb29) <| RunL.v (O.lss (.lit rfl) (.k rfl)) rfl rfl (.yb rfl rfl hb29) <| Rv (O.pkF (.lit rfl) hb29 (.lit rfl)) <| RunL.fin (.n rfl (.n rfl (.n rfl (.n rfl .nil))))
      refine Px.sq ?_
      obtain ⟨j32, hj, h⟩ := bnd h
      refine W.jn [(0, .obj (eyuccaref9_maker_r.cells j32.1)), (6, .obj [I64 (w64 (1 + x1)), oR eI x3.2.1, I64 j32.2, SS x3.2.2.1, .nils, I64 x3.2.2.2])] ?_ ?_
      · clear h; have h := hj; clear hj
        refine W.cnd rfl (fun hb33 => ?_) (fun hb33 => ?_)
        · replace h := cndT hb33 h
          obtain ⟨x34, hx34, h⟩ := bnd h
          refine W.rx [(0, _), (6, _)] (Rv (O.mv (.obj rfl)) <| Rv (O.fO rfl (.obj rfl) fd98_1 rfl) <| Rv (O.ldON (cs' := [SS a2.Prec.Name, BB a2.Prec.Lit, I64 a2.Prec.Num, I64 a2.Prec.At]) rfl (.ptr rfl) at91 rfl rfl) <| RunL.ef (G2 := [(146, I64 x34.1), (0, .obj [oR eTok x34.2.f_g.Toks, oR eNon x34.2.f_g.Nons, oR eProd_0 x34.2.f_g.Prods, SS x34.2.f_g.Pro, SS x34.2.f_g.Tail, oR eB x34.2.f_given, oR eNon x34.2.f_types, oR eS x34.2.f_lefts, I64 x34.2.f_e, I64 x34.2.f_at, SS x34.2.f_name, I64 x34.2.f_level, I64 x34.2.f_inner]), (6, .obj [I64 (w64 (1 + x1)), oR eI x3.2.1, I64 (-1), SS x3.2.2.1, .nils, I64 x3.2.2.2])]) rfl (EO.call rfl rfl (CallOk.ln (G2 := [(6, .obj [I64 (w64 (1 + x1)), oR eI x3.2.1, I64 (-1), SS x3.2.2.1, .nils, I64 x3.2.2.2])]) (A := []) (ys := [.ptr ⟨0, []⟩ 0, .agg (eSym.cells a2.Prec)]) (args := [.obj (eyuccaref9_maker_r.cells x3.1), .agg (eSym.cells a2.Prec)]) (cs' := [oR eTok x34.2.f_g.Toks, oR eNon x34.2.f_g.Nons, oR eProd_0 x34.2.f_g.Prods, SS x34.2.f_g.Pro, SS x34.2.f_g.Tail, oR eB x34.2.f_given, oR eNon x34.2.f_types, oR eS x34.2.f_lefts, I64 x34.2.f_e, I64 x34.2.f_at, SS x34.2.f_name, I64 x34.2.f_level, I64 x34.2.f_inner]) (k0 := 0) rfl rfl rfl rfl (.b rfl (.n rfl .nil)) rfl (con83 x3.1 a2.Prec _ hx34) call83 (.n rfl .nil) rfl rfl (.n rfl .nil) .nil rfl)) <| Rv (O.fO rfl (.obj rfl) fd109_2 rfl) <| RunL.sO (G2 := [(0, .obj (eyuccaref9_maker_r.cells x34.2)), (6, .obj [I64 (w64 (1 + x1)), oR eI x3.2.1, I64 x34.1, SS x3.2.2.1, .nils, I64 x3.2.2.2])]) (cs2 := [I64 (w64 (1 + x1)), oR eI x3.2.1, I64 x34.1, SS x3.2.2.1, .nils, I64 x3.2.2.2]) rfl (.ptr rfl) (.lit rfl) rfl sz3 rfl rfl rfl rfl (.n rfl rfl (.b rfl .nil)) <| RunL.fin (.n rfl (.n rfl .nil))) ?_
          obtain rfl := sm h
          exact Px.jn (.n rfl (.n rfl .nil))
        · replace h := cndF hb33 h
          obtain ⟨x35, hx35, h⟩ := bnd h
          refine W.rx [(0, _), (6, _)] (Rv (O.mv (.obj rfl)) <| Rv (O.fO rfl (.obj rfl) fd98_1 rfl) <| Rv (O.fO rfl (.ptr rfl) fd91_3 rfl) <| Rv (O.ldO (y := I64 a2.Prec.At) rfl (.ptr rfl) ct3 rfl rfl) <| Rv (O.fO rfl (.obj rfl) fd98_1 rfl) <| Rv (O.fO rfl (.ptr rfl) fd91_0 rfl) <| Rv (O.ldO (y := SS a2.Prec.Name) rfl (.ptr rfl) ct9 rfl rfl) <| RunL.ef (G2 := [(155, .tup []), (0, .obj [oR eTok x35.f_g.Toks, oR eNon x35.f_g.Nons, oR eProd_0 x35.f_g.Prods, SS x35.f_g.Pro, SS x35.f_g.Tail, oR eB x35.f_given, oR eNon x35.f_types, oR eS x35.f_lefts, I64 x35.f_e, I64 x35.f_at, SS x35.f_name, I64 x35.f_level, I64 x35.f_inner]), (6, .obj [I64 (w64 (1 + x1)), oR eI x3.2.1, I64 (-1), SS x3.2.2.1, .nils, I64 x3.2.2.2])]) rfl (EO.call rfl rfl (CallOk.ln (G2 := [(6, .obj [I64 (w64 (1 + x1)), oR eI x3.2.1, I64 (-1), SS x3.2.2.1, .nils, I64 x3.2.2.2])]) (A := []) (ys := [.ptr ⟨0, []⟩ 0, I64 a2.Prec.At, SS a2.Prec.Name]) (args := [.obj (eyuccaref9_maker_r.cells x3.1), I64 a2.Prec.At, SS a2.Prec.Name]) (cs' := [oR eTok x35.f_g.Toks, oR eNon x35.f_g.Nons, oR eProd_0 x35.f_g.Prods, SS x35.f_g.Pro, SS x35.f_g.Tail, oR eB x35.f_given, oR eNon x35.f_types, oR eS x35.f_lefts, I64 x35.f_e, I64 x35.f_at, SS x35.f_name, I64 x35.f_level, I64 x35.f_inner]) (k0 := 0) rfl rfl rfl rfl (.b rfl (.n rfl (.n rfl .nil))) rfl (con65 x3.1 a2.Prec.At a2.Prec.Name _ hx35) call65 (.n rfl .nil) rfl rfl (.n rfl .nil) .nil rfl)) <| RunL.fin (.n rfl (.n rfl .nil))) ?_
          obtain rfl := sm h
          exact Px.jn (.n rfl (.n rfl .nil))
      obtain rfl := sm h
      exact Px.jn (.n rfl (.n rfl .nil))
    · replace h := cndF hb28 h
      refine W.sk ?_
      obtain rfl := sm h
      exact Px.jn (.n rfl (.n rfl .nil))
  refine Px.sq ?_
  refine W.sq' ?_
  obtain ⟨x36, hx36, h⟩ := bnd h
  refine W.rx [(0, _), (6, _)] (Rv (O.bs (ys := []) eI ([] : List Int) sl27 rfl rfl rfl rfl rfl rfl zt3 rfl rfl) <| Rv (O.fO rfl (.obj rfl) fd109_1 rfl) <| Rv (O.ldO (y := .brw eI.z ⟨6, [1]⟩ x3.2.1.length) rfl (.ptr rfl) ct27 rfl rfl) <| Rv (O.ap (en := eI) (r := x36) (.own rfl) rfl (.brw rfl) (.flat eI rfl) ap27 rfl hx36) <| Rv (O.fO rfl (.obj rfl) fd109_4 rfl) <| RunL.ef (G2 := [(0, .obj (eyuccaref9_maker_r.cells j27.1)), (6, .obj [I64 (w64 (1 + x1)), oR eI x3.2.1, I64 j27.2, SS x3.2.2.1, oR eI (([] : List Int) ++ x3.2.1), I64 x3.2.2.2])]) rfl (EO.stP (g1 := _) (en := eI) (M := x3.2.1) (cs2 := [I64 (w64 (1 + x1)), oR eI x3.2.1, I64 j27.2, SS x3.2.2.1, oR eI (([] : List Int) ++ x3.2.1), I64 x3.2.2.2]) rfl rfl (.ptr rfl) (.pend rfl) rfl rfl rfl .ns .rf rfl rfl sz27 rfl rfl rfl rfl (.n rfl rfl (.b rfl .nil))) <| RunL.fin (.n rfl (.n rfl .nil))) ?_
  refine Px.sq ?_
  refine W.fz (G1 := [(0, .obj (eyuccaref9_maker_r.cells j27.1)), (6, .obj [I64 (w64 (1 + x1)), iR eI x3.2.1, I64 j27.2, SS x3.2.2.1, oR eI (([] : List Int) ++ x3.2.1), I64 x3.2.2.2])]) [6] (.n rfl rfl (.z rfl rfl (FzL.obj (.f (.z (.f (.f (.f (.f .nil))))))) .nil)) ?_
  refine W.fz (G1 := [(0, .obj (eyuccaref9_maker_r.cells j27.1)), (6, .obj [I64 (w64 (1 + x1)), iR eI x3.2.1, I64 j27.2, SS x3.2.2.1, iR eI (([] : List Int) ++ x3.2.1), I64 x3.2.2.2])]) [6] (.n rfl rfl (.z rfl rfl (FzL.obj (.f (.f (.f (.f (.z (.f .nil))))))) .nil)) ?_
  obtain ⟨x37, hx37, h⟩ := bnd h
  refine W.rd [[], [], [1], [1, 2], [1, 2, 3], [1, 2, 3, 4], [], [6], rn 1 7 [], rn 0 9 [], rn 0 10 [], rn 0 11 [], rn 0 12 []] [(0, _)] mixo (by kernel_rfl) (Dv 0 (O.mv (.obj rfl)) <| Dv 1 (O.mv (.obj rfl)) <| Dv 2 (O.nlP (.ptr rfl)) <| Dv 3 (O.fO rfl (.ptr rfl) fd128_0 rfl) <| Dv 4 (O.fO rfl (.ptr rfl) fd38_2 rfl) <| Dv 5 (O.ldO (y := .brw eProd_0.z ⟨0, [2]⟩ j27.1.f_g.Prods.length) rfl (.ptr rfl) ct36 rfl rfl) <| Dv 6 (O.ldON (cs' := [I64 (w64 (1 + x1)), iR eI x3.2.1, I64 j27.2, SS x3.2.2.1, iR eI (([] : List Int) ++ x3.2.1), I64 x3.2.2.2]) rfl (.obj rfl) at109 rfl rfl) <| DL.vi 7 (x := iR eProd_0 [(⟨w64 (1 + x1), x3.2.1, j27.2, x3.2.2.1, ([] : List Int) ++ x3.2.1, x3.2.2.2⟩ : Prod)]) (O.bs (ys := [.agg [I64 (w64 (1 + x1)), iR eI x3.2.1, I64 j27.2, SS x3.2.2.1, iR eI (([] : List Int) ++ x3.2.1), I64 x3.2.2.2]]) eProd_0 [(⟨w64 (1 + x1), x3.2.1, j27.2, x3.2.2.1, ([] : List Int) ++ x3.2.1, x3.2.2.2⟩ : Prod)] sl36 rfl rfl rfl rfl rfl rfl zt109 rfl rfl) rfl rfl rfl rfl .none <| Dv 8 (O.ap (en := eProd_0) (r := x37) (.brw rfl) rfl (.imm rfl) .i ap36 rfl hx37) <| Dv 9 (O.nlP (.ptr rfl)) <| Dv 10 (O.fO rfl (.ptr rfl) fd128_0 rfl) <| Dv 11 (O.fO rfl (.ptr rfl) fd38_2 rfl) <| DL.bp 12 (G2 := [(0, .obj [oR eTok j27.1.f_g.Toks, oR eNon j27.1.f_g.Nons, oR eProd_0 (j27.1.f_g.Prods ++ [(⟨w64 (1 + x1), x3.2.1, j27.2, x3.2.2.1, ([] : List Int) ++ x3.2.1, x3.2.2.2⟩ : Prod)]), SS j27.1.f_g.Pro, SS j27.1.f_g.Tail, oR eB j27.1.f_given, oR eNon j27.1.f_types, oR eS j27.1.f_lefts, I64 j27.1.f_e, I64 j27.1.f_at, SS j27.1.f_name, I64 j27.1.f_level, I64 j27.1.f_inner])]) (EO.stP (g1 := _) (en := eProd_0) (M := [(⟨w64 (1 + x1), x3.2.1, j27.2, x3.2.2.1, ([] : List Int) ++ x3.2.1, x3.2.2.2⟩ : Prod)]) (cs2 := [oR eTok j27.1.f_g.Toks, oR eNon j27.1.f_g.Nons, oR eProd_0 (j27.1.f_g.Prods ++ [(⟨w64 (1 + x1), x3.2.1, j27.2, x3.2.2.1, ([] : List Int) ++ x3.2.1, x3.2.2.2⟩ : Prod)]), SS j27.1.f_g.Pro, SS j27.1.f_g.Tail, oR eB j27.1.f_given, oR eNon j27.1.f_types, oR eS j27.1.f_lefts, I64 j27.1.f_e, I64 j27.1.f_at, SS j27.1.f_name, I64 j27.1.f_level, I64 j27.1.f_inner]) rfl rfl (.ptr rfl) (.pend rfl) rfl rfl rfl .ns .rf rfl rfl sz36 rfl rfl rfl rfl (.b rfl .nil)) rfl rfl rfl rfl (by kernel_rfl) (by kernel_rfl) <| DL.fin rfl rfl rfl (.n rfl .nil)) ?_
  obtain rfl := sm h
  exact Px.fin (Fin.ro .nil rfl (of_decide_eq_true (by kernel_rfl)) (.so rfl rfl (.no (.no .nil))) rfl (.inl rfl))
def pf50 (a0 : Source) : Option (Grammar × Int × Int × ByteArray) :=
 (pf63 a0).bind fun x1 =>
 (bif !x1 then
 some ((⟨([] : List Tok), ([] : List Non), ([] : List Prod), { data := #[] }, { data := #[] }⟩ : Grammar), 1, 0, { data := #[] })
 else
 (mkO 3 false).bind fun x3 =>
 (loopM (R := yuccaref9_maker × ByteArray) (fun (s4 : yuccaref9_maker × ByteArray × Int) =>
 (bif decide (s4.2.2 < (a0.Decls.length : Int)) then
 (idx a0.Decls s4.2.2).bind fun x8 =>
 ((bif decide (2 ≤ x8.Kind) then some (decide (x8.Kind ≤ 4)) else some false)).bind fun c10 =>
 ((bif c10 then
 some (w64 (s4.1.f_level + 1))
 else
 some s4.1.f_level)).bind fun j11 =>
 (loopM (R := yuccaref9_maker × ByteArray) (fun (s13 : yuccaref9_maker × ByteArray × Int) =>
 (bif decide (s13.2.2 < (x8.Syms.length : Int)) then
 ((bif !decide (x8.Kind = 6) then
 (idx x8.Syms s13.2.2).bind fun x19 =>
 (pf64 s13.1 x8 x19).bind fun x20 =>
 some (x20, s13.2.1)
 else
 ((bif !decide (s13.2.1 = { data := #[] }) then
 (idx x8.Syms s13.2.2).bind fun x23 =>
 (idx x8.Syms s13.2.2).bind fun x24 =>
 (pf65 s13.1 x23.At x24.Name).bind fun x25 =>
 some x25
 else
 some s13.1)).bind fun j21 =>
 (idx x8.Syms s13.2.2).bind fun x26 =>
 some (j21, x26.Name))).bind fun j17 =>
 some (.inl (j17.1, j17.2, w64 (s13.2.2 + 1)))
 else
 some (.inr (s13.1, s13.2.1)))) ((⟨s4.1.f_g, s4.1.f_given, s4.1.f_types, s4.1.f_lefts, s4.1.f_e, s4.1.f_at, s4.1.f_name, j11, s4.1.f_inner⟩ : yuccaref9_maker), s4.2.1, 0)).bind fun x14 =>
 some (.inl (x14.1, x14.2, w64 (s4.2.2 + 1)))
 else
 some (.inr (s4.1, s4.2.1)))) ((⟨(⟨[(⟨{ data := #[36, 101, 110, 100] }, false, 0, 0, 0, { data := #[] }⟩ : Tok), (⟨{ data := #[101, 114, 114, 111, 114] }, false, (-1), 0, 0, { data := #[] }⟩ : Tok), (⟨{ data := #[36, 117, 110, 107] }, false, (-1), 0, 0, { data := #[] }⟩ : Tok)], [], [], { data := #[] }, { data := #[] }⟩ : Grammar), x3, [], [], 0, 0, { data := #[] }, 0, 0⟩ : yuccaref9_maker), { data := #[] }, 0)).bind fun x5 =>
 (loopM (R := yuccaref9_maker) (fun (s27 : yuccaref9_maker × Int) =>
 (bif decide (s27.2 < (a0.Rules.length : Int)) then
 ((idx a0.Rules s27.2).bind fun x32 =>
 (pf66 s27.1 (⟨x32.Left, false, 0, 0⟩ : Sym)).bind fun x33 =>
 ((bif decide (0 ≤ x33) then
 (pf65 s27.1 x32.At x32.Left).bind fun x36 =>
 some x36
 else
 some s27.1)).bind fun j34 =>
 (pf67 j34 x32.Left).bind fun x37 =>
 ((bif decide (x37 < 0) then
 (appO j34.f_lefts [x32.Left]).bind fun x40 =>
 some (j34.f_lefts ++ [x32.Left])
 else
 some j34.f_lefts)).bind fun j38 =>
 some (⟨j34.f_g, j34.f_given, j34.f_types, j38, j34.f_e, j34.f_at, j34.f_name, j34.f_level, j34.f_inner⟩ : yuccaref9_maker)).bind fun j31 =>
 some (.inl (j31, w64 (s27.2 + 1)))
 else
 some (.inr s27.1))) (x5.1, 0)).bind fun x28 =>
 (loopM (R := yuccaref9_maker) (fun (s41 : yuccaref9_maker × Int) =>
 (bif decide (s41.2 < (a0.Decls.length : Int)) then
 (loopM (R := yuccaref9_maker) (fun (s45 : yuccaref9_maker × Int) =>
 (idx a0.Decls s41.2).bind fun x48 =>
 (bif decide (s45.2 < (x48.Syms.length : Int)) then
 ((idx a0.Decls s41.2).bind fun x51 =>
 (idx x51.Syms s45.2).bind fun x52 =>
 (((idx a0.Decls s41.2).bind fun x53 => (bif decide (5 ≤ x53.Kind) then ((pf67 s45.1 x52.Name).bind fun x55 => some (decide (x55 < 0))) else some false))).bind fun c56 =>
 ((bif c56 then
 (pf65 s45.1 x52.At x52.Name).bind fun x59 =>
 some x59
 else
 some s45.1)).bind fun j57 =>
 some j57).bind fun j50 =>
 some (.inl (j50, w64 (s45.2 + 1)))
 else
 some (.inr s45.1))) (s41.1, 0)).bind fun x46 =>
 some (.inl (x46, w64 (s41.2 + 1)))
 else
 some (.inr s41.1))) (x28, 0)).bind fun x42 =>
 ((bif decide (x5.2 = { data := #[] }) then
 (idx a0.Rules 0).bind fun x62 =>
 some x62.Left
 else
 some x5.2)).bind fun j60 =>
 (pf67 x42 j60).bind fun x63 =>
 (loopM (R := yuccaref9_maker) (fun (s64 : yuccaref9_maker × Int) =>
 (bif decide (s64.2 < (a0.Rules.length : Int)) then
 (loopM (R := yuccaref9_maker) (fun (s68 : yuccaref9_maker × Int) =>
 (idx a0.Rules s64.2).bind fun x71 =>
 (bif decide (s68.2 < (x71.Alts.length : Int)) then
 (idx a0.Rules s64.2).bind fun x73 =>
 (idx a0.Rules s64.2).bind fun x74 =>
 (idx x74.Alts s68.2).bind fun x75 =>
 (pf68 s68.1 x73.Left x75).bind fun x76 =>
 some (.inl (x76, w64 (s68.2 + 1)))
 else
 some (.inr s68.1))) (s64.1, 0)).bind fun x69 =>
 some (.inl (x69, w64 (s64.2 + 1)))
 else
 some (.inr s64.1))) ((⟨(⟨x42.f_g.Toks, x42.f_g.Nons, [(⟨0, [w64 (1001 + x63)], (-1), { data := #[] }, ([] : List Int), 0⟩ : Prod)], x42.f_g.Pro, x42.f_g.Tail⟩ : Grammar), x42.f_given, x42.f_types, x42.f_lefts, x42.f_e, x42.f_at, x42.f_name, x42.f_level, x42.f_inner⟩ : yuccaref9_maker), 0)).bind fun x65 =>
 (bif !decide (x65.f_e = 0) then
 some ((⟨([] : List Tok), ([] : List Non), ([] : List Prod), { data := #[] }, { data := #[] }⟩ : Grammar), x65.f_e, x65.f_at, x65.f_name)
 else
 (loopM (R := List Non) (fun (s78 : List Non × Int) =>
 (bif decide (s78.2 < (x65.f_lefts.length : Int)) then
 (idx x65.f_lefts s78.2).bind fun x82 =>
 (pf69 (⟨(⟨x65.f_g.Toks, s78.1, x65.f_g.Prods, x65.f_g.Pro, x65.f_g.Tail⟩ : Grammar), x65.f_given, x65.f_types, x65.f_lefts, x65.f_e, x65.f_at, x65.f_name, x65.f_level, x65.f_inner⟩ : yuccaref9_maker) x82).bind fun x83 =>
 ((bif decide (0 ≤ x83) then
 (idx x65.f_types x83).bind fun x86 =>
 some x86.Tag
 else
 some ({ data := #[] }))).bind fun j84 =>
 (appO s78.1 [(⟨x82, j84⟩ : Non)]).bind fun x87 =>
 some (.inl (s78.1 ++ [(⟨x82, j84⟩ : Non)], w64 (s78.2 + 1)))
 else
 some (.inr s78.1))) ([(⟨{ data := #[36, 97, 99, 99, 101, 112, 116] }, { data := #[] }⟩ : Non)], 0)).bind fun x79 =>
 (loopM (R := List Non) (fun (s88 : List Non × Int) =>
 (bif decide (s88.2 ≤ x65.f_inner) then
 (pf52 s88.2).bind fun x92 =>
 (catO ({ data := #[64] }) x92).bind fun x93 =>
 (appO s88.1 [(⟨x93, { data := #[] }⟩ : Non)]).bind fun x94 =>
 some (.inl (s88.1 ++ [(⟨x93, { data := #[] }⟩ : Non)], w64 (s88.2 + 1)))
 else
 some (.inr s88.1))) (x79, 1)).bind fun x89 =>
 (loopM (R := List Tok) (fun (s95 : List Tok × Int × Int) =>
 (bif decide (s95.2.2 < (s95.1.length : Int)) then
 ((idx x65.f_given s95.2.2).bind fun x100 =>
 ((bif !x100 then
 (idx s95.1 s95.2.2).bind fun x103 =>
 some (s95.1.set s95.2.2.toNat (⟨x103.Name, x103.Lit, s95.2.1, x103.Level, x103.Assoc, x103.Tag⟩ : Tok), w64 (s95.2.1 + 1))
 else
 some (s95.1, s95.2.1))).bind fun j101 =>
 some (j101.1, j101.2)).bind fun j99 =>
 some (.inl (j99.1, j99.2, w64 (s95.2.2 + 1)))
 else
 some (.inr s95.1))) (x65.f_g.Toks, 57346, 3)).bind fun x96 =>
 ((bif decide (40 < (x96.length : Int)) then some true else (bif decide (24 < (x89.length : Int)) then some true else some (decide (60 < (x65.f_g.Prods.length : Int)))))).bind fun c106 =>
 (loopM (R := Bool) (fun (s107 : Bool × Int) =>
 (bif decide (s107.2 < (x65.f_g.Prods.length : Int)) then
 ((bif s107.1 then some true else ((idx x65.f_g.Prods s107.2).bind fun x112 => some (decide (8 < (x112.Right.length : Int)))))).bind fun c113 =>
 some (.inl (c113, w64 (s107.2 + 1)))
 else
 some (.inr s107.1))) (c106, 0)).bind fun x108 =>
 (bif x108 then
 some ((⟨([] : List Tok), ([] : List Non), ([] : List Prod), { data := #[] }, { data := #[] }⟩ : Grammar), 4, 0, { data := #[] })
 else
 some ((⟨x96, x89, x65.f_g.Prods, a0.Pro, a0.Tail⟩ : Grammar), 0, 0, { data := #[] }))))
theorem con50 (a0 : Source) (r : Grammar × Int × Int × ByteArray) (h : pf50 a0 = some r) : Con Try.prog 50 [.agg [SS a0.Pro, iR eDecl_0 a0.Decls, iR eRule_0 a0.Rules, SS a0.Tail]] [none] (.tup [.agg (eGrammar_0.cells r.1), I64 r.2.1, I64 r.2.2.1, SS r.2.2.2]) := by
  unfold pf50 at h
  refine Con.go (N := ⟨435, []⟩) Try.func50 rfl rfl rfl rfl (W.fin ?_)
  refine W.st [(0, .agg [SS a0.Pro, iR eDecl_0 a0.Decls, iR eRule_0 a0.Rules, SS a0.Tail])] ?_
  refine W.sq' ?_
  refine W.rx [(1, _), (2, _)] (Rv (O.box (.aggF rfl rfl) rfl) <| Rv (O.al (cs := [.nils, .nils, .nils, SS ({ data := #[] }), SS ({ data := #[] })]) ze38 rfl rfl) <| Rv (O.as (.k rfl)) <| Rv (O.as (.k rfl)) <| Rv (O.as (.k rfl)) <| RunL.fin (.n rfl (.n rfl .nil))) ?_
  refine Px.sq ?_
  refine W.sq' ?_
  refine W.sq' ?_
  obtain ⟨x1, hx1, h⟩ := bnd h
  refine W.rx [(1, _), (2, _), (28, _)] (Rv (O.ldON (cs' := [SS a0.Pro, iR eDecl_0 a0.Decls, iR eRule_0 a0.Rules, SS a0.Tail]) rfl (.obj rfl) at25 rfl rfl) <| Rc (PC.go (.cc (.aggF rfl rfl) .nil) (con63 a0 _ hx1) call63 rfl) <| Rv (O.not (.lit rfl)) <| RunL.fin (.n rfl (.n rfl (.n rfl .nil)))) ?_
  refine Px.sq ?_
  refine W.cnd rfl (fun hb2 => ?_) (fun hb2 => ?_)
  · replace h := cndT hb2 h
    refine W.sq' ?_
    refine W.rx [(2, _), (3, _), (4, _), (5, _)] (Rv (O.bu (cs := [.nils, .nils, .nils, SS ({ data := #[] }), SS ({ data := #[] })]) sc38 ze38 rfl rfl rfl) <| RunL.sO (G2 := [(2, .obj [.nils, .nils, .nils, SS ({ data := #[] }), SS ({ data := #[] })])]) (cs2 := [.nils, .nils, .nils, SS ({ data := #[] }), SS ({ data := #[] })]) rfl (.obj rfl) (.aggF rfl rfl) rfl sz38 rfl rfl rfl rfl (.b rfl .nil) <| Rv (O.as (.k rfl)) <| Rv (O.as (.k rfl)) <| Rv (O.as (.k rfl)) <| RunL.fin (.n rfl (.n rfl (.n rfl (.n rfl .nil))))) ?_
    refine Px.sq ?_
    refine W.fz (G1 := [(2, .obj [iR eTok ([] : List Tok), iR eNon ([] : List Non), iR eProd_0 ([] : List Prod), SS ({ data := #[] }), SS ({ data := #[] })]), (3, I64 1), (4, I64 0), (5, SS ({ data := #[] }))]) [2] (.z rfl rfl (FzL.obj (.z (.z (.z (.f (.f .nil)))))) (.n rfl rfl (.n rfl rfl (.n rfl rfl .nil)))) ?_
    refine W.rt ?_
    refine Px.sqR ?_
    obtain rfl := sm h
    exact Px.fin (Fin.ro (.c (ys0 := [iR eTok ([] : List Tok), iR eNon ([] : List Non), iR eProd_0 ([] : List Prod), SS ({ data := #[] }), SS ({ data := #[] })]) rfl at38 rfl rfl rfl (.f rfl (.f rfl (.f rfl (.f rfl (.f rfl .nil))))) (.f rfl rfl (.f rfl rfl (.f rfl rfl .nil)))) rfl (of_decide_eq_true (by kernel_rfl)) (.no .nil) rfl (.inr rfl))
  · replace h := cndF hb2 h
    refine W.sk ?_
    refine Px.sq ?_
    refine W.sq' ?_
    obtain ⟨x3, hx3, h⟩ := bnd h
    refine W.rx [(1, _), (2, _), (6, _)] (Rv (O.mk (en := eB) (z0 := false) sl102 (.k rfl) (.k rfl) ze4 rfl rfl hx3 bb4 rfl) <| Rv (O.bu (cs := [.nils, .nils, .nils, SS ({ data := #[] }), SS ({ data := #[] }), .brw eB.z ⟨30, []⟩ x3.length, .nils, .nils, I64 0, I64 0, SS ({ data := #[] }), I64 0, I64 0]) sc128 ze128 rfl rfl rfl) <| Rv (O.box (.aggF rfl rfl) rfl) <| RunL.ea (G2 := [(1, .obj [SS a0.Pro, iR eDecl_0 a0.Decls, iR eRule_0 a0.Rules, SS a0.Tail]), (2, .obj [.nils, .nils, .nils, SS ({ data := #[] }), SS ({ data := #[] })])]) rfl (EO.aG (y' := .obj [.nils, .nils, .nils, SS ({ data := #[] }), SS ({ data := #[] }), oR eB x3, .nils, .nils, I64 0, I64 0, SS ({ data := #[] }), I64 0, I64 0]) rfl rfl (.obj rfl) (.b rfl (.f (.f (.f (.f (.f (.r rfl (.f (.f (.f (.f (.f (.f (.f .nil))))))))))))) .nil) .refl (.n rfl (.n rfl .nil)) rfl rfl) <| RunL.fin (.n rfl (.n rfl (.n rfl .nil)))) ?_
    refine Px.sq ?_
    refine W.sq' ?_
    refine W.rx [(1, _), (2, _), (6, _)] (Rv (O.mv (.obj rfl)) <| Rv (O.bu (cs := [SS ({ data := #[36, 101, 110, 100] }), BB false, I64 0, I64 0, I64 0, SS ({ data := #[] })]) sc52 ze52 rfl rfl rfl) <| Rv (O.bu (cs := [SS ({ data := #[101, 114, 114, 111, 114] }), BB false, I64 (-1), I64 0, I64 0, SS ({ data := #[] })]) sc52 ze52 rfl rfl rfl) <| Rv (O.bu (cs := [SS ({ data := #[36, 117, 110, 107] }), BB false, I64 (-1), I64 0, I64 0, SS ({ data := #[] })]) sc52 ze52 rfl rfl rfl) <| Rv (O.bs (ys := [.agg [SS ({ data := #[36, 101, 110, 100] }), BB false, I64 0, I64 0, I64 0, SS ({ data := #[] })], .agg [SS ({ data := #[101, 114, 114, 111, 114] }), BB false, I64 (-1), I64 0, I64 0, SS ({ data := #[] })], .agg [SS ({ data := #[36, 117, 110, 107] }), BB false, I64 (-1), I64 0, I64 0, SS ({ data := #[] })]]) eTok [(⟨{ data := #[36, 101, 110, 100] }, false, 0, 0, 0, { data := #[] }⟩ : Tok), (⟨{ data := #[101, 114, 114, 111, 114] }, false, (-1), 0, 0, { data := #[] }⟩ : Tok), (⟨{ data := #[36, 117, 110, 107] }, false, (-1), 0, 0, { data := #[] }⟩ : Tok)] sl34 rfl rfl rfl rfl rfl rfl zt52 rfl rfl) <| Rv (O.nlP (.ptr rfl)) <| Rv (O.fO rfl (.ptr rfl) fd128_0 rfl) <| Rv (O.fO rfl (.ptr rfl) fd38_0 rfl) <| RunL.ef (G2 := [(1, .obj [SS a0.Pro, iR eDecl_0 a0.Decls, iR eRule_0 a0.Rules, SS a0.Tail]), (2, .obj [.nils, .nils, .nils, SS ({ data := #[] }), SS ({ data := #[] })]), (6, .obj [oR eTok [(⟨{ data := #[36, 101, 110, 100] }, false, 0, 0, 0, { data := #[] }⟩ : Tok), (⟨{ data := #[101, 114, 114, 111, 114] }, false, (-1), 0, 0, { data := #[] }⟩ : Tok), (⟨{ data := #[36, 117, 110, 107] }, false, (-1), 0, 0, { data := #[] }⟩ : Tok)], .nils, .nils, SS ({ data := #[] }), SS ({ data := #[] }), oR eB x3, .nils, .nils, I64 0, I64 0, SS ({ data := #[] }), I64 0, I64 0])]) rfl (EO.stB (y' := oR eTok [(⟨{ data := #[36, 101, 110, 100] }, false, 0, 0, 0, { data := #[] }⟩ : Tok), (⟨{ data := #[101, 114, 114, 111, 114] }, false, (-1), 0, 0, { data := #[] }⟩ : Tok), (⟨{ data := #[36, 117, 110, 107] }, false, (-1), 0, 0, { data := #[] }⟩ : Tok)]) (cs2 := [oR eTok [(⟨{ data := #[36, 101, 110, 100] }, false, 0, 0, 0, { data := #[] }⟩ : Tok), (⟨{ data := #[101, 114, 114, 111, 114] }, false, (-1), 0, 0, { data := #[] }⟩ : Tok), (⟨{ data := #[36, 117, 110, 107] }, false, (-1), 0, 0, { data := #[] }⟩ : Tok)], .nils, .nils, SS ({ data := #[] }), SS ({ data := #[] }), oR eB x3, .nils, .nils, I64 0, I64 0, SS ({ data := #[] }), I64 0, I64 0]) rfl rfl (.ptr rfl) (.own rfl) (.r rfl .nil) .refl rfl sz34 rfl rfl rfl rfl rfl (.n rfl rfl (.n rfl rfl (.b rfl .nil)))) <| RunL.fin (.n rfl (.n rfl (.n rfl .nil)))) ?_
    refine Px.sq ?_
    refine W.sq' ?_
    refine W.rx [(1, _), (2, _), (6, _), (7, _)] (Rv (O.as (.k rfl)) <| RunL.fin (.n rfl (.n rfl (.n rfl (.n rfl .nil))))) ?_
    refine Px.sq ?_
    refine W.sq' ?_
    refine W.sq' ?_
    refine W.rx [(1, _), (2, _), (6, _), (7, _), (8, _)] (Rv (O.as (.k rfl)) <| RunL.fin (.n rfl (.n rfl (.n rfl (.n rfl (.n rfl .nil)))))) ?_
    refine Px.sq ?_
    refine W.bk ?_
    obtain ⟨x5, hl, h⟩ := bnd h
    refine W.tr (G1 := [(1, .obj [SS a0.Pro, iR eDecl_0 a0.Decls, iR eRule_0 a0.Rules, SS a0.Tail]), (2, .obj [.nils, .nils, .nils, SS ({ data := #[] }), SS ({ data := #[] })]), (6, .obj [oR eTok (((⟨(⟨[(⟨{ data := #[36, 101, 110, 100] }, false, 0, 0, 0, { data := #[] }⟩ : Tok), (⟨{ data := #[101, 114, 114, 111, 114] }, false, (-1), 0, 0, { data := #[] }⟩ : Tok), (⟨{ data := #[36, 117, 110, 107] }, false, (-1), 0, 0, { data := #[] }⟩ : Tok)], [], [], { data := #[] }, { data := #[] }⟩ : Grammar), x3, [], [], 0, 0, { data := #[] }, 0, 0⟩ : yuccaref9_maker).f_g).Toks), oR eNon (((⟨(⟨[(⟨{ data := #[36, 101, 110, 100] }, false, 0, 0, 0, { data := #[] }⟩ : Tok), (⟨{ data := #[101, 114, 114, 111, 114] }, false, (-1), 0, 0, { data := #[] }⟩ : Tok), (⟨{ data := #[36, 117, 110, 107] }, false, (-1), 0, 0, { data := #[] }⟩ : Tok)], [], [], { data := #[] }, { data := #[] }⟩ : Grammar), x3, [], [], 0, 0, { data := #[] }, 0, 0⟩ : yuccaref9_maker).f_g).Nons), oR eProd_0 (((⟨(⟨[(⟨{ data := #[36, 101, 110, 100] }, false, 0, 0, 0, { data := #[] }⟩ : Tok), (⟨{ data := #[101, 114, 114, 111, 114] }, false, (-1), 0, 0, { data := #[] }⟩ : Tok), (⟨{ data := #[36, 117, 110, 107] }, false, (-1), 0, 0, { data := #[] }⟩ : Tok)], [], [], { data := #[] }, { data := #[] }⟩ : Grammar), x3, [], [], 0, 0, { data := #[] }, 0, 0⟩ : yuccaref9_maker).f_g).Prods), SS (((⟨(⟨[(⟨{ data := #[36, 101, 110, 100] }, false, 0, 0, 0, { data := #[] }⟩ : Tok), (⟨{ data := #[101, 114, 114, 111, 114] }, false, (-1), 0, 0, { data := #[] }⟩ : Tok), (⟨{ data := #[36, 117, 110, 107] }, false, (-1), 0, 0, { data := #[] }⟩ : Tok)], [], [], { data := #[] }, { data := #[] }⟩ : Grammar), x3, [], [], 0, 0, { data := #[] }, 0, 0⟩ : yuccaref9_maker).f_g).Pro), SS (((⟨(⟨[(⟨{ data := #[36, 101, 110, 100] }, false, 0, 0, 0, { data := #[] }⟩ : Tok), (⟨{ data := #[101, 114, 114, 111, 114] }, false, (-1), 0, 0, { data := #[] }⟩ : Tok), (⟨{ data := #[36, 117, 110, 107] }, false, (-1), 0, 0, { data := #[] }⟩ : Tok)], [], [], { data := #[] }, { data := #[] }⟩ : Grammar), x3, [], [], 0, 0, { data := #[] }, 0, 0⟩ : yuccaref9_maker).f_g).Tail), oR eB ((⟨(⟨[(⟨{ data := #[36, 101, 110, 100] }, false, 0, 0, 0, { data := #[] }⟩ : Tok), (⟨{ data := #[101, 114, 114, 111, 114] }, false, (-1), 0, 0, { data := #[] }⟩ : Tok), (⟨{ data := #[36, 117, 110, 107] }, false, (-1), 0, 0, { data := #[] }⟩ : Tok)], [], [], { data := #[] }, { data := #[] }⟩ : Grammar), x3, [], [], 0, 0, { data := #[] }, 0, 0⟩ : yuccaref9_maker).f_given), oR eNon ((⟨(⟨[(⟨{ data := #[36, 101, 110, 100] }, false, 0, 0, 0, { data := #[] }⟩ : Tok), (⟨{ data := #[101, 114, 114, 111, 114] }, false, (-1), 0, 0, { data := #[] }⟩ : Tok), (⟨{ data := #[36, 117, 110, 107] }, false, (-1), 0, 0, { data := #[] }⟩ : Tok)], [], [], { data := #[] }, { data := #[] }⟩ : Grammar), x3, [], [], 0, 0, { data := #[] }, 0, 0⟩ : yuccaref9_maker).f_types), oR eS ((⟨(⟨[(⟨{ data := #[36, 101, 110, 100] }, false, 0, 0, 0, { data := #[] }⟩ : Tok), (⟨{ data := #[101, 114, 114, 111, 114] }, false, (-1), 0, 0, { data := #[] }⟩ : Tok), (⟨{ data := #[36, 117, 110, 107] }, false, (-1), 0, 0, { data := #[] }⟩ : Tok)], [], [], { data := #[] }, { data := #[] }⟩ : Grammar), x3, [], [], 0, 0, { data := #[] }, 0, 0⟩ : yuccaref9_maker).f_lefts), I64 ((⟨(⟨[(⟨{ data := #[36, 101, 110, 100] }, false, 0, 0, 0, { data := #[] }⟩ : Tok), (⟨{ data := #[101, 114, 114, 111, 114] }, false, (-1), 0, 0, { data := #[] }⟩ : Tok), (⟨{ data := #[36, 117, 110, 107] }, false, (-1), 0, 0, { data := #[] }⟩ : Tok)], [], [], { data := #[] }, { data := #[] }⟩ : Grammar), x3, [], [], 0, 0, { data := #[] }, 0, 0⟩ : yuccaref9_maker).f_e), I64 ((⟨(⟨[(⟨{ data := #[36, 101, 110, 100] }, false, 0, 0, 0, { data := #[] }⟩ : Tok), (⟨{ data := #[101, 114, 114, 111, 114] }, false, (-1), 0, 0, { data := #[] }⟩ : Tok), (⟨{ data := #[36, 117, 110, 107] }, false, (-1), 0, 0, { data := #[] }⟩ : Tok)], [], [], { data := #[] }, { data := #[] }⟩ : Grammar), x3, [], [], 0, 0, { data := #[] }, 0, 0⟩ : yuccaref9_maker).f_at), SS ((⟨(⟨[(⟨{ data := #[36, 101, 110, 100] }, false, 0, 0, 0, { data := #[] }⟩ : Tok), (⟨{ data := #[101, 114, 114, 111, 114] }, false, (-1), 0, 0, { data := #[] }⟩ : Tok), (⟨{ data := #[36, 117, 110, 107] }, false, (-1), 0, 0, { data := #[] }⟩ : Tok)], [], [], { data := #[] }, { data := #[] }⟩ : Grammar), x3, [], [], 0, 0, { data := #[] }, 0, 0⟩ : yuccaref9_maker).f_name), I64 ((⟨(⟨[(⟨{ data := #[36, 101, 110, 100] }, false, 0, 0, 0, { data := #[] }⟩ : Tok), (⟨{ data := #[101, 114, 114, 111, 114] }, false, (-1), 0, 0, { data := #[] }⟩ : Tok), (⟨{ data := #[36, 117, 110, 107] }, false, (-1), 0, 0, { data := #[] }⟩ : Tok)], [], [], { data := #[] }, { data := #[] }⟩ : Grammar), x3, [], [], 0, 0, { data := #[] }, 0, 0⟩ : yuccaref9_maker).f_level), I64 ((⟨(⟨[(⟨{ data := #[36, 101, 110, 100] }, false, 0, 0, 0, { data := #[] }⟩ : Tok), (⟨{ data := #[101, 114, 114, 111, 114] }, false, (-1), 0, 0, { data := #[] }⟩ : Tok), (⟨{ data := #[36, 117, 110, 107] }, false, (-1), 0, 0, { data := #[] }⟩ : Tok)], [], [], { data := #[] }, { data := #[] }⟩ : Grammar), x3, [], [], 0, 0, { data := #[] }, 0, 0⟩ : yuccaref9_maker).f_inner)]), (7, SS ({ data := #[] })), (8, I64 0)]) (.n rfl (.n rfl (.w rfl rfl (WkL.obj (.f (.o (.o (.f (.f (.f (.o (.o (.f (.f (.f (.f (.f .nil)))))))))))))) (.n rfl (.n rfl .nil))))) ?_
    refine W.lp1 (s := ((⟨(⟨[(⟨{ data := #[36, 101, 110, 100] }, false, 0, 0, 0, { data := #[] }⟩ : Tok), (⟨{ data := #[101, 114, 114, 111, 114] }, false, (-1), 0, 0, { data := #[] }⟩ : Tok), (⟨{ data := #[36, 117, 110, 107] }, false, (-1), 0, 0, { data := #[] }⟩ : Tok)], [], [], { data := #[] }, { data := #[] }⟩ : Grammar), x3, [], [], 0, 0, { data := #[] }, 0, 0⟩ : yuccaref9_maker), { data := #[] }, 0)) (fun (s4 : yuccaref9_maker × ByteArray × Int) => [(1, .obj [SS a0.Pro, iR eDecl_0 a0.Decls, iR eRule_0 a0.Rules, SS a0.Tail]), (2, .obj [.nils, .nils, .nils, SS ({ data := #[] }), SS ({ data := #[] })]), (6, .obj (eyuccaref9_maker_r.cells s4.1)), (7, SS s4.2.1), (8, I64 s4.2.2)]) 0 (fun (x5 : yuccaref9_maker × ByteArray) => [(1, .obj [SS a0.Pro, iR eDecl_0 a0.Decls, iR eRule_0 a0.Rules, SS a0.Tail]), (2, .obj [.nils, .nils, .nils, SS ({ data := #[] }), SS ({ data := #[] })]), (6, .obj (eyuccaref9_maker_r.cells x5.1)), (7, SS x5.2)]) hl (fun s4 o h => ?_) ?_
    · clear hl
      refine W.sq' ?_
      refine W.sq' ?_
      refine W.rx [(1, _), (2, _), (6, _), (7, _), (8, _), (45, _)] (Rv (O.mv (.lit rfl)) <| Rv (O.fO rfl (.obj rfl) fd25_1 rfl) <| Rv (O.ldO (y := iR eDecl_0 a0.Decls) rfl (.ptr rfl) ct22 rfl rfl) <| Rv (O.lenI (.imm rfl) sl22) <| Rv (O.lss (.lit rfl) (.lit rfl)) <| RunL.fin (.n rfl (.n rfl (.n rfl (.n rfl (.n rfl (.n rfl .nil))))))) ?_
      refine Px.sq ?_
      refine W.cnd rfl (fun hb7 => ?_) (fun hb7 => ?_)
      · replace h := cndT hb7 h
        refine W.sk ?_
        refine Px.sq ?_
        refine W.sq' ?_
        refine W.bk ?_
        refine W.sq' ?_
        obtain ⟨x8, hx8, h⟩ := bnd h
        refine W.rx [(1, _), (2, _), (6, _), (7, _), (8, _), (9, _)] (Rv (O.fO rfl (.obj rfl) fd25_1 rfl) <| Rv (O.ldO (y := iR eDecl_0 a0.Decls) rfl (.ptr rfl) ct22 rfl rfl) <| Rv (O.mv (.lit rfl)) <| Rv (O.ixI (.imm rfl) (.lit rfl) sl22 hx8) <| Rv (O.ldIN (cs' := [I64 x8.Kind, SS x8.Tag, iR eSym x8.Syms, I64 x8.At]) (.iptr rfl) at89 rfl rfl) <| Rv (O.al (cs := [I64 0, SS ({ data := #[] }), .nils, I64 0]) ze89 rfl rfl) <| RunL.sO (G2 := [(1, .obj [SS a0.Pro, iR eDecl_0 a0.Decls, iR eRule_0 a0.Rules, SS a0.Tail]), (2, .obj [.nils, .nils, .nils, SS ({ data := #[] }), SS ({ data := #[] })]), (6, .obj (eyuccaref9_maker_r.cells s4.1)), (7, SS s4.2.1), (8, I64 s4.2.2), (9, .obj (eDecl_0.cells x8))]) (cs2 := [I64 x8.Kind, SS x8.Tag, iR eSym x8.Syms, I64 x8.At]) rfl (.obj rfl) (.aggF rfl rfl) rfl sz89 rfl rfl rfl rfl (.n rfl rfl (.n rfl rfl (.n rfl rfl (.n rfl rfl (.n rfl rfl (.b rfl .nil)))))) <| RunL.fin (.n rfl (.n rfl (.n rfl (.n rfl (.n rfl (.n rfl .nil))))))) ?_
        refine Px.sq ?_
        refine W.sq' ?_
        refine W.sq' ?_
        obtain ⟨c10, hj, h⟩ := bnd h
        refine W.rx [(1, .obj [SS a0.Pro, iR eDecl_0 a0.Decls, iR eRule_0 a0.Rules, SS a0.Tail]), (2, .obj [.nils, .nils, .nils, SS ({ data := #[] }), SS ({ data := #[] })]), (6, .obj (eyuccaref9_maker_r.cells s4.1)), (7, SS s4.2.1), (8, I64 s4.2.2), (9, .obj (eDecl_0.cells x8)), (60, BB c10)] ?_ ?_
        · refine Rv (O.fO rfl (.obj rfl) fd89_0 rfl) <| Rv (O.ldO (y := I64 x8.Kind) rfl (.ptr rfl) ct3 rfl rfl) <| Rv (O.geq (.lit rfl) (.k rfl)) <| Rv (O.mv (.lit rfl)) ?_
          rcases cnd hj with ⟨hb9, hj⟩ | ⟨hb9, hj⟩
          · obtain rfl := sm hj
            exact RunL.v (O.fO rfl (.obj rfl) fd89_0 rfl) rfl rfl (.yb rfl rfl hb9) <| RunL.v (O.ldO (y := I64 x8.Kind) rfl (.ptr rfl) ct3 rfl rfl) rfl rfl (.yb rfl rfl hb9) <| RunL.v (O.leq (.lit rfl) (.k rfl)) rfl rfl (.yb rfl rfl hb9) <| Rv (O.pkT (.lit rfl) hb9 (.lit rfl)) <| RunL.fin (.n rfl (.n rfl (.n rfl (.n rfl (.n rfl (.n rfl (.n rfl .nil)))))))
          · obtain rfl := sm hj
            exact RunL.ps rfl rfl hb9 rfl rfl <| RunL.ps rfl rfl hb9 rfl rfl <| RunL.ps rfl rfl hb9 rfl rfl <| Rv (O.pkF (.lit rfl) hb9 (.k rfl)) <| RunL.fin (.n rfl (.n rfl (.n rfl (.n rfl (.n rfl (.n rfl (.n rfl .nil)))))))
        refine Px.sq ?_
        obtain ⟨j11, hj, h⟩ := bnd h
        refine W.jn [(1, .obj [SS a0.Pro, iR eDecl_0 a0.Decls, iR eRule_0 a0.Rules, SS a0.Tail]), (2, .obj [.nils, .nils, .nils, SS ({ data := #[] }), SS ({ data := #[] })]), (6, .obj [oR eTok s4.1.f_g.Toks, oR eNon s4.1.f_g.Nons, oR eProd_0 s4.1.f_g.Prods, SS s4.1.f_g.Pro, SS s4.1.f_g.Tail, oR eB s4.1.f_given, oR eNon s4.1.f_types, oR eS s4.1.f_lefts, I64 s4.1.f_e, I64 s4.1.f_at, SS s4.1.f_name, I64 j11, I64 s4.1.f_inner]), (7, SS s4.2.1), (8, I64 s4.2.2), (9, .obj (eDecl_0.cells x8))] ?_ ?_
        · clear h; have h := hj; clear hj
          refine W.cnd rfl (fun hb12 => ?_) (fun hb12 => ?_)
          · replace h := cndT hb12 h
            refine W.rx [(1, _), (2, _), (6, _), (7, _), (8, _), (9, _)] (Rv (O.mv (.obj rfl)) <| Rv (O.nlP (.ptr rfl)) <| Rv (O.fO rfl (.ptr rfl) fd128_7 rfl) <| Rv (O.ldO (y := I64 s4.1.f_level) rfl (.ptr rfl) ct3 rfl rfl) <| Rv (O.add (.lit rfl) (.k rfl)) <| Rv (O.nlP (.ptr rfl)) <| Rv (O.fO rfl (.ptr rfl) fd128_7 rfl) <| RunL.sO (G2 := [(1, .obj [SS a0.Pro, iR eDecl_0 a0.Decls, iR eRule_0 a0.Rules, SS a0.Tail]), (2, .obj [.nils, .nils, .nils, SS ({ data := #[] }), SS ({ data := #[] })]), (6, .obj [oR eTok s4.1.f_g.Toks, oR eNon s4.1.f_g.Nons, oR eProd_0 s4.1.f_g.Prods, SS s4.1.f_g.Pro, SS s4.1.f_g.Tail, oR eB s4.1.f_given, oR eNon s4.1.f_types, oR eS s4.1.f_lefts, I64 s4.1.f_e, I64 s4.1.f_at, SS s4.1.f_name, I64 (w64 (s4.1.f_level + 1)), I64 s4.1.f_inner]), (7, SS s4.2.1), (8, I64 s4.2.2), (9, .obj (eDecl_0.cells x8))]) (cs2 := [oR eTok s4.1.f_g.Toks, oR eNon s4.1.f_g.Nons, oR eProd_0 s4.1.f_g.Prods, SS s4.1.f_g.Pro, SS s4.1.f_g.Tail, oR eB s4.1.f_given, oR eNon s4.1.f_types, oR eS s4.1.f_lefts, I64 s4.1.f_e, I64 s4.1.f_at, SS s4.1.f_name, I64 (w64 (s4.1.f_level + 1)), I64 s4.1.f_inner]) rfl (.ptr rfl) (.lit rfl) rfl sz3 rfl rfl rfl rfl (.n rfl rfl (.n rfl rfl (.b rfl (.n rfl rfl (.n rfl rfl (.n rfl rfl .nil)))))) <| RunL.fin (.n rfl (.n rfl (.n rfl (.n rfl (.n rfl (.n rfl .nil))))))) ?_
            obtain rfl := sm h
            exact Px.jn (.n rfl (.n rfl (.n rfl (.n rfl (.n rfl (.n rfl .nil))))))
          · replace h := cndF hb12 h
            refine W.sk ?_
            obtain rfl := sm h
            exact Px.jn (.n rfl (.n rfl (.n rfl (.n rfl (.n rfl (.n rfl .nil))))))
        refine Px.sq ?_
        refine W.sq' ?_
        refine W.rx [(1, _), (2, _), (6, _), (7, _), (8, _), (9, _), (10, _)] (Rv (O.as (.k rfl)) <| RunL.fin (.n rfl (.n rfl (.n rfl (.n rfl (.n rfl (.n rfl (.n rfl .nil)))))))) ?_
        refine Px.sq ?_
        refine W.bk ?_
        obtain ⟨x14, hl, h⟩ := bnd h
        refine W.tr (G1 := [(1, .obj [SS a0.Pro, iR eDecl_0 a0.Decls, iR eRule_0 a0.Rules, SS a0.Tail]), (2, .obj [.nils, .nils, .nils, SS ({ data := #[] }), SS ({ data := #[] })]), (6, .obj [oR eTok (((⟨s4.1.f_g, s4.1.f_given, s4.1.f_types, s4.1.f_lefts, s4.1.f_e, s4.1.f_at, s4.1.f_name, j11, s4.1.f_inner⟩ : yuccaref9_maker).f_g).Toks), oR eNon (((⟨s4.1.f_g, s4.1.f_given, s4.1.f_types, s4.1.f_lefts, s4.1.f_e, s4.1.f_at, s4.1.f_name, j11, s4.1.f_inner⟩ : yuccaref9_maker).f_g).Nons), oR eProd_0 (((⟨s4.1.f_g, s4.1.f_given, s4.1.f_types, s4.1.f_lefts, s4.1.f_e, s4.1.f_at, s4.1.f_name, j11, s4.1.f_inner⟩ : yuccaref9_maker).f_g).Prods), SS (((⟨s4.1.f_g, s4.1.f_given, s4.1.f_types, s4.1.f_lefts, s4.1.f_e, s4.1.f_at, s4.1.f_name, j11, s4.1.f_inner⟩ : yuccaref9_maker).f_g).Pro), SS (((⟨s4.1.f_g, s4.1.f_given, s4.1.f_types, s4.1.f_lefts, s4.1.f_e, s4.1.f_at, s4.1.f_name, j11, s4.1.f_inner⟩ : yuccaref9_maker).f_g).Tail), oR eB ((⟨s4.1.f_g, s4.1.f_given, s4.1.f_types, s4.1.f_lefts, s4.1.f_e, s4.1.f_at, s4.1.f_name, j11, s4.1.f_inner⟩ : yuccaref9_maker).f_given), oR eNon ((⟨s4.1.f_g, s4.1.f_given, s4.1.f_types, s4.1.f_lefts, s4.1.f_e, s4.1.f_at, s4.1.f_name, j11, s4.1.f_inner⟩ : yuccaref9_maker).f_types), oR eS ((⟨s4.1.f_g, s4.1.f_given, s4.1.f_types, s4.1.f_lefts, s4.1.f_e, s4.1.f_at, s4.1.f_name, j11, s4.1.f_inner⟩ : yuccaref9_maker).f_lefts), I64 ((⟨s4.1.f_g, s4.1.f_given, s4.1.f_types, s4.1.f_lefts, s4.1.f_e, s4.1.f_at, s4.1.f_name, j11, s4.1.f_inner⟩ : yuccaref9_maker).f_e), I64 ((⟨s4.1.f_g, s4.1.f_given, s4.1.f_types, s4.1.f_lefts, s4.1.f_e, s4.1.f_at, s4.1.f_name, j11, s4.1.f_inner⟩ : yuccaref9_maker).f_at), SS ((⟨s4.1.f_g, s4.1.f_given, s4.1.f_types, s4.1.f_lefts, s4.1.f_e, s4.1.f_at, s4.1.f_name, j11, s4.1.f_inner⟩ : yuccaref9_maker).f_name), I64 ((⟨s4.1.f_g, s4.1.f_given, s4.1.f_types, s4.1.f_lefts, s4.1.f_e, s4.1.f_at, s4.1.f_name, j11, s4.1.f_inner⟩ : yuccaref9_maker).f_level), I64 ((⟨s4.1.f_g, s4.1.f_given, s4.1.f_types, s4.1.f_lefts, s4.1.f_e, s4.1.f_at, s4.1.f_name, j11, s4.1.f_inner⟩ : yuccaref9_maker).f_inner)]), (7, SS s4.2.1), (8, I64 s4.2.2), (9, .obj (eDecl_0.cells x8)), (10, I64 0)]) (.n rfl (.n rfl (.n rfl (.n rfl (.n rfl (.n rfl (.n rfl .nil))))))) ?_
        refine W.lp1 (s := ((⟨s4.1.f_g, s4.1.f_given, s4.1.f_types, s4.1.f_lefts, s4.1.f_e, s4.1.f_at, s4.1.f_name, j11, s4.1.f_inner⟩ : yuccaref9_maker), s4.2.1, 0)) (fun (s13 : yuccaref9_maker × ByteArray × Int) => [(1, .obj [SS a0.Pro, iR eDecl_0 a0.Decls, iR eRule_0 a0.Rules, SS a0.Tail]), (2, .obj [.nils, .nils, .nils, SS ({ data := #[] }), SS ({ data := #[] })]), (6, .obj (eyuccaref9_maker_r.cells s13.1)), (7, SS s13.2.1), (8, I64 s4.2.2), (9, .obj (eDecl_0.cells x8)), (10, I64 s13.2.2)]) 2 (fun (x14 : yuccaref9_maker × ByteArray) => [(1, .obj [SS a0.Pro, iR eDecl_0 a0.Decls, iR eRule_0 a0.Rules, SS a0.Tail]), (2, .obj [.nils, .nils, .nils, SS ({ data := #[] }), SS ({ data := #[] })]), (6, .obj (eyuccaref9_maker_r.cells x14.1)), (7, SS x14.2), (8, I64 s4.2.2)]) hl (fun s13 o h => ?_) ?_
        · clear hl
          refine W.sq' ?_
          refine W.sq' ?_
          refine W.rx [(1, _), (2, _), (6, _), (7, _), (8, _), (9, _), (10, _), (72, _)] (Rv (O.mv (.lit rfl)) <| Rv (O.fO rfl (.obj rfl) fd89_2 rfl) <| Rv (O.ldO (y := iR eSym x8.Syms) rfl (.ptr rfl) ct87 rfl rfl) <| Rv (O.lenI (.imm rfl) sl87) <| Rv (O.lss (.lit rfl) (.lit rfl)) <| RunL.fin (.n rfl (.n rfl (.n rfl (.n rfl (.n rfl (.n rfl (.n rfl (.n rfl .nil))))))))) ?_
          refine Px.sq ?_
          refine W.cnd rfl (fun hb16 => ?_) (fun hb16 => ?_)
          · replace h := cndT hb16 h
            refine W.sk ?_
            refine Px.sq ?_
            refine W.sq' ?_
            obtain ⟨j17, hj, h⟩ := bnd h
            refine W.jn [(1, .obj [SS a0.Pro, iR eDecl_0 a0.Decls, iR eRule_0 a0.Rules, SS a0.Tail]), (2, .obj [.nils, .nils, .nils, SS ({ data := #[] }), SS ({ data := #[] })]), (6, .obj (eyuccaref9_maker_r.cells j17.1)), (7, SS j17.2), (8, I64 s4.2.2), (9, .obj (eDecl_0.cells x8)), (10, I64 s13.2.2)] ?_ ?_
            · clear h; have h := hj; clear hj
              refine W.bk ?_
              refine W.sq' ?_
              refine W.sq' ?_
              refine W.rx [(1, _), (2, _), (6, _), (7, _), (8, _), (9, _), (10, _), (77, _)] (Rv (O.fO rfl (.obj rfl) fd89_0 rfl) <| Rv (O.ldO (y := I64 x8.Kind) rfl (.ptr rfl) ct3 rfl rfl) <| Rv (O.neq (.lit rfl) (.k rfl)) <| RunL.fin (.n rfl (.n rfl (.n rfl (.n rfl (.n rfl (.n rfl (.n rfl (.n rfl .nil))))))))) ?_
              refine Px.sq ?_
              refine W.cnd rfl (fun hb18 => ?_) (fun hb18 => ?_)
              · replace h := cndT hb18 h
                refine W.sq' ?_
                obtain ⟨x19, hx19, h⟩ := bnd h
                obtain ⟨x20, hx20, h⟩ := bnd h
                refine W.rd [[], [], [], [2], [], [2, 3, 4], [2, 3, 4, 5], rn 0 7 []] [(1, _), (2, _), (6, _), (7, _), (8, _), (9, _), (10, _)] mixo (by kernel_rfl) (Dv 0 (O.mv (.obj rfl)) <| Dv 1 (O.ldON (cs' := [I64 x8.Kind, SS x8.Tag, iR eSym x8.Syms, I64 x8.At]) rfl (.obj rfl) at89 rfl rfl) <| Dv 2 (O.fO rfl (.obj rfl) fd89_2 rfl) <| Dv 3 (O.ldO (y := iR eSym x8.Syms) rfl (.ptr rfl) ct87 rfl rfl) <| Dv 4 (O.mv (.lit rfl)) <| Dv 5 (O.ixI (.imm rfl) (.lit rfl) sl87 hx19) <| Dv 6 (O.ldIN (cs' := [SS x19.Name, BB x19.Lit, I64 x19.Num, I64 x19.At]) (.iptr rfl) at91 rfl rfl) <| DL.bp 7 (G2 := [(85, .tup []), (6, .obj [oR eTok x20.f_g.Toks, oR eNon x20.f_g.Nons, oR eProd_0 x20.f_g.Prods, SS x20.f_g.Pro, SS x20.f_g.Tail, oR eB x20.f_given, oR eNon x20.f_types, oR eS x20.f_lefts, I64 x20.f_e, I64 x20.f_at, SS x20.f_name, I64 x20.f_level, I64 x20.f_inner]), (1, .obj [SS a0.Pro, iR eDecl_0 a0.Decls, iR eRule_0 a0.Rules, SS a0.Tail]), (2, .obj [.nils, .nils, .nils, SS ({ data := #[] }), SS ({ data := #[] })]), (7, SS s13.2.1), (8, I64 s4.2.2), (9, .obj (eDecl_0.cells x8)), (10, I64 s13.2.2)]) (EO.call rfl rfl (CallOk.ln (G2 := [(1, .obj [SS a0.Pro, iR eDecl_0 a0.Decls, iR eRule_0 a0.Rules, SS a0.Tail]), (2, .obj [.nils, .nils, .nils, SS ({ data := #[] }), SS ({ data := #[] })]), (7, SS s13.2.1), (8, I64 s4.2.2), (9, .obj (eDecl_0.cells x8)), (10, I64 s13.2.2)]) (A := []) (ys := [.ptr ⟨6, []⟩ 0, .agg (eDecl_0.cells x8), .agg (eSym.cells x19)]) (args := [.obj (eyuccaref9_maker_r.cells s13.1), .agg (eDecl_0.cells x8), .agg (eSym.cells x19)]) (cs' := [oR eTok x20.f_g.Toks, oR eNon x20.f_g.Nons, oR eProd_0 x20.f_g.Prods, SS x20.f_g.Pro, SS x20.f_g.Tail, oR eB x20.f_given, oR eNon x20.f_types, oR eS x20.f_lefts, I64 x20.f_e, I64 x20.f_at, SS x20.f_name, I64 x20.f_level, I64 x20.f_inner]) (k0 := 0) rfl rfl rfl rfl (.b rfl (.n rfl (.n rfl .nil))) rfl (con64 s13.1 x8 x19 _ hx20) call64 (.n rfl (.n rfl (.n rfl (.n rfl (.n rfl (.n rfl .nil)))))) rfl rfl (.n rfl (.n rfl (.n rfl (.n rfl (.n rfl (.n rfl .nil)))))) .nil rfl)) rfl rfl rfl rfl (by kernel_rfl) (by kernel_rfl) <| DL.fin rfl rfl rfl (.n rfl (.n rfl (.n rfl (.n rfl (.n rfl (.n rfl (.n rfl .nil)))))))) ?_
                refine Px.sq ?_
                refine W.xi ?_
                refine Px.sqE ?_
                refine Px.bkH ?_
                obtain rfl := sm h
                exact Px.jn (.n rfl (.n rfl (.n rfl (.n rfl (.n rfl (.n rfl (.n rfl .nil)))))))
              · replace h := cndF hb18 h
                refine W.sk ?_
                refine Px.sq ?_
                refine W.sq' ?_
                refine W.sq' ?_
                refine W.rx [(1, _), (2, _), (6, _), (8, _), (9, _), (10, _), (87, _)] (Rv (O.mv (.lit rfl)) <| Rv (O.neS (.lit rfl) (.k rfl)) <| RunL.fin (.n rfl (.n rfl (.n rfl (.n rfl (.n rfl (.n rfl (.n rfl .nil)))))))) ?_
                refine Px.sq ?_
                obtain ⟨j21, hj, h⟩ := bnd h
                refine W.jn [(1, .obj [SS a0.Pro, iR eDecl_0 a0.Decls, iR eRule_0 a0.Rules, SS a0.Tail]), (2, .obj [.nils, .nils, .nils, SS ({ data := #[] }), SS ({ data := #[] })]), (6, .obj (eyuccaref9_maker_r.cells j21)), (8, I64 s4.2.2), (9, .obj (eDecl_0.cells x8)), (10, I64 s13.2.2)] ?_ ?_
                · clear h; have h := hj; clear hj
                  refine W.cnd rfl (fun hb22 => ?_) (fun hb22 => ?_)
                  · replace h := cndT hb22 h
                    obtain ⟨x23, hx23, h⟩ := bnd h
                    obtain ⟨x24, hx24, h⟩ := bnd h
                    obtain ⟨x25, hx25, h⟩ := bnd h
                    refine W.rd [[], [], [1], [], [1, 2, 3], [1, 2, 3, 4], rn 1 5 [], [], [7], [], [7, 8, 9], [7, 8, 9, 10], rn 7 5 [], rn 0 13 []] [(1, _), (2, _), (6, _), (8, _), (9, _), (10, _)] mixo (by kernel_rfl) (Dv 0 (O.mv (.obj rfl)) <| Dv 1 (O.fO rfl (.obj rfl) fd89_2 rfl) <| Dv 2 (O.ldO (y := iR eSym x8.Syms) rfl (.ptr rfl) ct87 rfl rfl) <| Dv 3 (O.mv (.lit rfl)) <| Dv 4 (O.ixI (.imm rfl) (.lit rfl) sl87 hx23) <| Dv 5 (O.fI (.iptr rfl) fd91_3) <| Dv 6 (O.ldI (x := I64 x23.At) (.iptr rfl) ct3 rfl) <| Dv 7 (O.fO rfl (.obj rfl) fd89_2 rfl) <| Dv 8 (O.ldO (y := iR eSym x8.Syms) rfl (.ptr rfl) ct87 rfl rfl) <| Dv 9 (O.mv (.lit rfl)) <| Dv 10 (O.ixI (.imm rfl) (.lit rfl) sl87 hx24) <| Dv 11 (O.fI (.iptr rfl) fd91_0) <| Dv 12 (O.ldI (x := SS x24.Name) (.iptr rfl) ct9 rfl) <| DL.bp 13 (G2 := [(101, .tup []), (6, .obj [oR eTok x25.f_g.Toks, oR eNon x25.f_g.Nons, oR eProd_0 x25.f_g.Prods, SS x25.f_g.Pro, SS x25.f_g.Tail, oR eB x25.f_given, oR eNon x25.f_types, oR eS x25.f_lefts, I64 x25.f_e, I64 x25.f_at, SS x25.f_name, I64 x25.f_level, I64 x25.f_inner]), (1, .obj [SS a0.Pro, iR eDecl_0 a0.Decls, iR eRule_0 a0.Rules, SS a0.Tail]), (2, .obj [.nils, .nils, .nils, SS ({ data := #[] }), SS ({ data := #[] })]), (8, I64 s4.2.2), (9, .obj (eDecl_0.cells x8)), (10, I64 s13.2.2)]) (EO.call rfl rfl (CallOk.ln (G2 := [(1, .obj [SS a0.Pro, iR eDecl_0 a0.Decls, iR eRule_0 a0.Rules, SS a0.Tail]), (2, .obj [.nils, .nils, .nils, SS ({ data := #[] }), SS ({ data := #[] })]), (8, I64 s4.2.2), (9, .obj (eDecl_0.cells x8)), (10, I64 s13.2.2)]) (A := []) (ys := [.ptr ⟨6, []⟩ 0, I64 x23.At, SS x24.Name]) (args := [.obj (eyuccaref9_maker_r.cells s13.1), I64 x23.At, SS x24.Name]) (cs' := [oR eTok x25.f_g.Toks, oR eNon x25.f_g.Nons, oR eProd_0 x25.f_g.Prods, SS x25.f_g.Pro, SS x25.f_g.Tail, oR eB x25.f_given, oR eNon x25.f_types, oR eS x25.f_lefts, I64 x25.f_e, I64 x25.f_at, SS x25.f_name, I64 x25.f_level, I64 x25.f_inner]) (k0 := 0) rfl rfl rfl rfl (.b rfl (.n rfl (.n rfl .nil))) rfl (con65 s13.1 x23.At x24.Name _ hx25) call65 (.n rfl (.n rfl (.n rfl (.n rfl (.n rfl .nil))))) rfl rfl (.n rfl (.n rfl (.n rfl (.n rfl (.n rfl .nil))))) .nil rfl)) rfl rfl rfl rfl (by kernel_rfl) (by kernel_rfl) <| DL.fin rfl rfl rfl (.n rfl (.n rfl (.n rfl (.n rfl (.n rfl (.n rfl .nil))))))) ?_
                    obtain rfl := sm h
                    exact Px.jn (.n rfl (.n rfl (.n rfl (.n rfl (.n rfl (.n rfl .nil))))))
                  · replace h := cndF hb22 h
                    refine W.sk ?_
                    obtain rfl := sm h
                    exact Px.jn (.n rfl (.n rfl (.n rfl (.n rfl (.n rfl (.n rfl .nil))))))
                refine Px.sq ?_
                obtain ⟨x26, hx26, h⟩ := bnd h
                refine W.rx [(1, _), (2, _), (6, _), (7, _), (8, _), (9, _), (10, _)] (Rv (O.fO rfl (.obj rfl) fd89_2 rfl) <| Rv (O.ldO (y := iR eSym x8.Syms) rfl (.ptr rfl) ct87 rfl rfl) <| Rv (O.mv (.lit rfl)) <| Rv (O.ixI (.imm rfl) (.lit rfl) sl87 hx26) <| Rv (O.fI (.iptr rfl) fd91_0) <| Rv (O.ldI (x := SS x26.Name) (.iptr rfl) ct9 rfl) <| Rv (O.as (.lit rfl)) <| RunL.fin (.n rfl (.n rfl (.n rfl (.n rfl (.n rfl (.n rfl (.n rfl .nil)))))))) ?_
                refine Px.bk ?_
                obtain rfl := sm h
                exact Px.jn (.n rfl (.n rfl (.n rfl (.n rfl (.n rfl (.n rfl (.n rfl .nil)))))))
            refine Px.sq ?_
            refine W.rx [(1, _), (2, _), (6, _), (7, _), (8, _), (9, _), (10, _)] (Rv (O.mv (.lit rfl)) <| Rv (O.add (.lit rfl) (.k rfl)) <| RunL.re (G1 := [(1, .obj [SS a0.Pro, iR eDecl_0 a0.Decls, iR eRule_0 a0.Rules, SS a0.Tail]), (2, .obj [.nils, .nils, .nils, SS ({ data := #[] }), SS ({ data := #[] })]), (6, .obj (eyuccaref9_maker_r.cells j17.1)), (7, SS j17.2), (8, I64 s4.2.2), (9, .obj (eDecl_0.cells x8)), (74, I64 (w64 (s13.2.2 + 1)))]) (.n rfl (.n rfl (.n rfl (.n rfl (.n rfl (.n rfl (.n rfl .nil))))))) <| Rv (O.as (.lit rfl)) <| RunL.fin (.n rfl (.n rfl (.n rfl (.n rfl (.n rfl (.n rfl (.n rfl .nil)))))))) ?_
            obtain rfl := sm h
            exact Px.go (.n rfl (.n rfl (.n rfl (.n rfl (.n rfl (.n rfl (.n rfl .nil)))))))
          · replace h := cndF hb16 h
            refine W.xi ?_
            refine Px.sqE ?_
            obtain rfl := sm h
            exact Px.x1 (.n rfl (.n rfl (.n rfl (.n rfl (.n rfl .nil)))))
        refine Px.bkH ?_
        refine Px.bk ?_
        refine Px.sq ?_
        refine W.rx [(1, _), (2, _), (6, _), (7, _), (8, _)] (Rv (O.mv (.lit rfl)) <| Rv (O.add (.lit rfl) (.k rfl)) <| RunL.re (G1 := [(1, .obj [SS a0.Pro, iR eDecl_0 a0.Decls, iR eRule_0 a0.Rules, SS a0.Tail]), (2, .obj [.nils, .nils, .nils, SS ({ data := #[] }), SS ({ data := #[] })]), (6, .obj (eyuccaref9_maker_r.cells x14.1)), (7, SS x14.2), (47, I64 (w64 (s4.2.2 + 1)))]) (.n rfl (.n rfl (.n rfl (.n rfl (.n rfl .nil))))) <| Rv (O.as (.lit rfl)) <| RunL.fin (.n rfl (.n rfl (.n rfl (.n rfl (.n rfl .nil)))))) ?_
        obtain rfl := sm h
        exact Px.go (.n rfl (.n rfl (.n rfl (.n rfl (.n rfl .nil)))))
      · replace h := cndF hb7 h
        refine W.xi ?_
        refine Px.sqE ?_
        obtain rfl := sm h
        exact Px.x1 (.n rfl (.n rfl (.n rfl (.n rfl .nil))))
    refine Px.bkH ?_
    refine Px.sq ?_
    refine W.sq' ?_
    refine W.sq' ?_
    refine W.rx [(1, _), (2, _), (6, _), (7, _), (11, _)] (Rv (O.as (.k rfl)) <| RunL.fin (.n rfl (.n rfl (.n rfl (.n rfl (.n rfl .nil)))))) ?_
    refine Px.sq ?_
    refine W.bk ?_
    obtain ⟨x28, hl, h⟩ := bnd h
    refine W.tr (G1 := [(1, .obj [SS a0.Pro, iR eDecl_0 a0.Decls, iR eRule_0 a0.Rules, SS a0.Tail]), (2, .obj [.nils, .nils, .nils, SS ({ data := #[] }), SS ({ data := #[] })]), (6, .obj (eyuccaref9_maker_r.cells x5.1)), (7, SS x5.2), (11, I64 0)]) (.n rfl (.n rfl (.n rfl (.n rfl (.n rfl .nil))))) ?_
    refine W.lp1 (s := (x5.1, 0)) (fun (s27 : yuccaref9_maker × Int) => [(1, .obj [SS a0.Pro, iR eDecl_0 a0.Decls, iR eRule_0 a0.Rules, SS a0.Tail]), (2, .obj [.nils, .nils, .nils, SS ({ data := #[] }), SS ({ data := #[] })]), (6, .obj (eyuccaref9_maker_r.cells s27.1)), (7, SS x5.2), (11, I64 s27.2)]) 4 (fun (x28 : yuccaref9_maker) => [(1, .obj [SS a0.Pro, iR eDecl_0 a0.Decls, iR eRule_0 a0.Rules, SS a0.Tail]), (2, .obj [.nils, .nils, .nils, SS ({ data := #[] }), SS ({ data := #[] })]), (6, .obj (eyuccaref9_maker_r.cells x28)), (7, SS x5.2)]) hl (fun s27 o h => ?_) ?_
    · clear hl
      refine W.sq' ?_
      refine W.sq' ?_
      refine W.rx [(1, _), (2, _), (6, _), (7, _), (11, _), (112, _)] (Rv (O.mv (.lit rfl)) <| Rv (O.fO rfl (.obj rfl) fd25_2 rfl) <| Rv (O.ldO (y := iR eRule_0 a0.Rules) rfl (.ptr rfl) ct23 rfl rfl) <| Rv (O.lenI (.imm rfl) sl23) <| Rv (O.lss (.lit rfl) (.lit rfl)) <| RunL.fin (.n rfl (.n rfl (.n rfl (.n rfl (.n rfl (.n rfl .nil))))))) ?_
      refine Px.sq ?_
      refine W.cnd rfl (fun hb30 => ?_) (fun hb30 => ?_)
      · replace h := cndT hb30 h
        refine W.sk ?_
        refine Px.sq ?_
        refine W.sq' ?_
        obtain ⟨j31, hj, h⟩ := bnd h
        refine W.jn [(1, .obj [SS a0.Pro, iR eDecl_0 a0.Decls, iR eRule_0 a0.Rules, SS a0.Tail]), (2, .obj [.nils, .nils, .nils, SS ({ data := #[] }), SS ({ data := #[] })]), (6, .obj (eyuccaref9_maker_r.cells j31)), (7, SS x5.2), (11, I64 s27.2)] ?_ ?_
        · clear h; have h := hj; clear hj
          refine W.bk ?_
          refine W.sq' ?_
          obtain ⟨x32, hx32, h⟩ := bnd h
          refine W.rx [(1, _), (2, _), (6, _), (7, _), (11, _), (12, _)] (Rv (O.fO rfl (.obj rfl) fd25_2 rfl) <| Rv (O.ldO (y := iR eRule_0 a0.Rules) rfl (.ptr rfl) ct23 rfl rfl) <| Rv (O.mv (.lit rfl)) <| Rv (O.ixI (.imm rfl) (.lit rfl) sl23 hx32) <| Rv (O.ldIN (cs' := [SS x32.Left, iR eAlt_0 x32.Alts, I64 x32.At]) (.iptr rfl) at95 rfl rfl) <| Rv (O.al (cs := [SS ({ data := #[] }), .nils, I64 0]) ze95 rfl rfl) <| RunL.sO (G2 := [(1, .obj [SS a0.Pro, iR eDecl_0 a0.Decls, iR eRule_0 a0.Rules, SS a0.Tail]), (2, .obj [.nils, .nils, .nils, SS ({ data := #[] }), SS ({ data := #[] })]), (6, .obj (eyuccaref9_maker_r.cells s27.1)), (7, SS x5.2), (11, I64 s27.2), (12, .obj (eRule_0.cells x32))]) (cs2 := [SS x32.Left, iR eAlt_0 x32.Alts, I64 x32.At]) rfl (.obj rfl) (.aggF rfl rfl) rfl sz95 rfl rfl rfl rfl (.n rfl rfl (.n rfl rfl (.n rfl rfl (.n rfl rfl (.n rfl rfl (.b rfl .nil)))))) <| RunL.fin (.n rfl (.n rfl (.n rfl (.n rfl (.n rfl (.n rfl .nil))))))) ?_
          refine Px.sq ?_
          refine W.sq' ?_
          refine W.sq' ?_
          obtain ⟨x33, hx33, h⟩ := bnd h
          refine W.rx [(1, _), (2, _), (6, _), (7, _), (11, _), (12, _), (125, _)] (Rv (O.mv (.obj rfl)) <| Rv (O.fO rfl (.obj rfl) fd95_0 rfl) <| Rv (O.ldO (y := SS x32.Left) rfl (.ptr rfl) ct9 rfl rfl) <| Rv (O.bu (cs := [SS x32.Left, BB false, I64 0, I64 0]) sc91 ze91 rfl rfl rfl) <| Rc (PC.vw (ys := [.ptr ⟨6, []⟩ 0, .agg [SS x32.Left, BB false, I64 0, I64 0]]) rfl (.c (View.p0 rfl rfl) (.c (.ag (.s (.s (.s (.s .nil))))) .nil)) (con66 s27.1 (⟨x32.Left, false, 0, 0⟩ : Sym) _ hx33) call66 rfl) <| Rv (O.geq (.lit rfl) (.k rfl)) <| RunL.fin (.n rfl (.n rfl (.n rfl (.n rfl (.n rfl (.n rfl (.n rfl .nil)))))))) ?_
          refine Px.sq ?_
          obtain ⟨j34, hj, h⟩ := bnd h
          refine W.jn [(1, .obj [SS a0.Pro, iR eDecl_0 a0.Decls, iR eRule_0 a0.Rules, SS a0.Tail]), (2, .obj [.nils, .nils, .nils, SS ({ data := #[] }), SS ({ data := #[] })]), (6, .obj (eyuccaref9_maker_r.cells j34)), (7, SS x5.2), (11, I64 s27.2), (12, .obj (eRule_0.cells x32))] ?_ ?_
          · clear h; have h := hj; clear hj
            refine W.cnd rfl (fun hb35 => ?_) (fun hb35 => ?_)
            · replace h := cndT hb35 h
              obtain ⟨x36, hx36, h⟩ := bnd h
              refine W.rx [(1, _), (2, _), (6, _), (7, _), (11, _), (12, _)] (Rv (O.mv (.obj rfl)) <| Rv (O.fO rfl (.obj rfl) fd95_2 rfl) <| Rv (O.ldO (y := I64 x32.At) rfl (.ptr rfl) ct3 rfl rfl) <| Rv (O.fO rfl (.obj rfl) fd95_0 rfl) <| Rv (O.ldO (y := SS x32.Left) rfl (.ptr rfl) ct9 rfl rfl) <| RunL.ef (G2 := [(131, .tup []), (6, .obj [oR eTok x36.f_g.Toks, oR eNon x36.f_g.Nons, oR eProd_0 x36.f_g.Prods, SS x36.f_g.Pro, SS x36.f_g.Tail, oR eB x36.f_given, oR eNon x36.f_types, oR eS x36.f_lefts, I64 x36.f_e, I64 x36.f_at, SS x36.f_name, I64 x36.f_level, I64 x36.f_inner]), (1, .obj [SS a0.Pro, iR eDecl_0 a0.Decls, iR eRule_0 a0.Rules, SS a0.Tail]), (2, .obj [.nils, .nils, .nils, SS ({ data := #[] }), SS ({ data := #[] })]), (7, SS x5.2), (11, I64 s27.2), (12, .obj (eRule_0.cells x32))]) rfl (EO.call rfl rfl (CallOk.ln (G2 := [(1, .obj [SS a0.Pro, iR eDecl_0 a0.Decls, iR eRule_0 a0.Rules, SS a0.Tail]), (2, .obj [.nils, .nils, .nils, SS ({ data := #[] }), SS ({ data := #[] })]), (7, SS x5.2), (11, I64 s27.2), (12, .obj (eRule_0.cells x32))]) (A := []) (ys := [.ptr ⟨6, []⟩ 0, I64 x32.At, SS x32.Left]) (args := [.obj (eyuccaref9_maker_r.cells s27.1), I64 x32.At, SS x32.Left]) (cs' := [oR eTok x36.f_g.Toks, oR eNon x36.f_g.Nons, oR eProd_0 x36.f_g.Prods, SS x36.f_g.Pro, SS x36.f_g.Tail, oR eB x36.f_given, oR eNon x36.f_types, oR eS x36.f_lefts, I64 x36.f_e, I64 x36.f_at, SS x36.f_name, I64 x36.f_level, I64 x36.f_inner]) (k0 := 0) rfl rfl rfl rfl (.b rfl (.n rfl (.n rfl .nil))) rfl (con65 s27.1 x32.At x32.Left _ hx36) call65 (.n rfl (.n rfl (.n rfl (.n rfl (.n rfl .nil))))) rfl rfl (.n rfl (.n rfl (.n rfl (.n rfl (.n rfl .nil))))) .nil rfl)) <| RunL.fin (.n rfl (.n rfl (.n rfl (.n rfl (.n rfl (.n rfl .nil))))))) ?_
              obtain rfl := sm h
              exact Px.jn (.n rfl (.n rfl (.n rfl (.n rfl (.n rfl (.n rfl .nil))))))
            · replace h := cndF hb35 h
              refine W.sk ?_
              obtain rfl := sm h
              exact Px.jn (.n rfl (.n rfl (.n rfl (.n rfl (.n rfl (.n rfl .nil))))))
          refine Px.sq ?_
          refine W.sq' ?_
          obtain ⟨x37, hx37, h⟩ := bnd h
          refine W.rx [(1, _), (2, _), (6, _), (7, _), (11, _), (12, _), (136, _)] (Rv (O.mv (.obj rfl)) <| Rv (O.fO rfl (.obj rfl) fd95_0 rfl) <| Rv (O.ldO (y := SS x32.Left) rfl (.ptr rfl) ct9 rfl rfl) <| Rc (PC.vw (ys := [.ptr ⟨6, []⟩ 0, SS x32.Left]) rfl (.c (View.p0 rfl rfl) (.s .nil)) (con67 j34 x32.Left _ hx37) call67 rfl) <| Rv (O.lss (.lit rfl) (.k rfl)) <| RunL.fin (.n rfl (.n rfl (.n rfl (.n rfl (.n rfl (.n rfl (.n rfl .nil)))))))) ?_
          refine Px.sq ?_
          obtain ⟨j38, hj, h⟩ := bnd h
          refine W.jn [(1, .obj [SS a0.Pro, iR eDecl_0 a0.Decls, iR eRule_0 a0.Rules, SS a0.Tail]), (2, .obj [.nils, .nils, .nils, SS ({ data := #[] }), SS ({ data := #[] })]), (6, .obj [oR eTok j34.f_g.Toks, oR eNon j34.f_g.Nons, oR eProd_0 j34.f_g.Prods, SS j34.f_g.Pro, SS j34.f_g.Tail, oR eB j34.f_given, oR eNon j34.f_types, oR eS j38, I64 j34.f_e, I64 j34.f_at, SS j34.f_name, I64 j34.f_level, I64 j34.f_inner]), (7, SS x5.2), (11, I64 s27.2)] ?_ ?_
          · clear h; have h := hj; clear hj
            refine W.cnd rfl (fun hb39 => ?_) (fun hb39 => ?_)
            · replace h := cndT hb39 h
              obtain ⟨x40, hx40, h⟩ := bnd h
              refine W.rd [[], [], [1], [1, 2], [1, 2, 3], [], [5], [5, 6], rn 1 7 [], rn 0 9 [], rn 0 10 [], rn 0 11 []] [(1, _), (2, _), (6, _), (7, _), (11, _)] mixo (by kernel_rfl) (Dv 0 (O.mv (.obj rfl)) <| Dv 1 (O.mv (.obj rfl)) <| Dv 2 (O.nlP (.ptr rfl)) <| Dv 3 (O.fO rfl (.ptr rfl) fd128_3 rfl) <| Dv 4 (O.ldO (y := .brw eS.z ⟨6, [7]⟩ j34.f_lefts.length) rfl (.ptr rfl) ct61 rfl rfl) <| Dv 5 (O.fO rfl (.obj rfl) fd95_0 rfl) <| Dv 6 (O.ldO (y := SS x32.Left) rfl (.ptr rfl) ct9 rfl rfl) <| DL.vi 7 (x := iR eS [x32.Left]) (O.bs (ys := [SS x32.Left]) eS [x32.Left] sl61 rfl rfl rfl rfl rfl rfl zt9 rfl rfl) rfl rfl rfl rfl .none <| Dv 8 (O.ap (en := eS) (r := x40) (.brw rfl) rfl (.imm rfl) .i ap61 rfl hx40) <| Dv 9 (O.nlP (.ptr rfl)) <| Dv 10 (O.fO rfl (.ptr rfl) fd128_3 rfl) <| DL.bp 11 (G2 := [(1, .obj [SS a0.Pro, iR eDecl_0 a0.Decls, iR eRule_0 a0.Rules, SS a0.Tail]), (2, .obj [.nils, .nils, .nils, SS ({ data := #[] }), SS ({ data := #[] })]), (6, .obj [oR eTok j34.f_g.Toks, oR eNon j34.f_g.Nons, oR eProd_0 j34.f_g.Prods, SS j34.f_g.Pro, SS j34.f_g.Tail, oR eB j34.f_given, oR eNon j34.f_types, oR eS (j34.f_lefts ++ [x32.Left]), I64 j34.f_e, I64 j34.f_at, SS j34.f_name, I64 j34.f_level, I64 j34.f_inner]), (7, SS x5.2), (11, I64 s27.2)]) (EO.stP (g1 := _) (en := eS) (M := [x32.Left]) (cs2 := [oR eTok j34.f_g.Toks, oR eNon j34.f_g.Nons, oR eProd_0 j34.f_g.Prods, SS j34.f_g.Pro, SS j34.f_g.Tail, oR eB j34.f_given, oR eNon j34.f_types, oR eS (j34.f_lefts ++ [x32.Left]), I64 j34.f_e, I64 j34.f_at, SS j34.f_name, I64 j34.f_level, I64 j34.f_inner]) rfl rfl (.ptr rfl) (.pend rfl) rfl rfl rfl .ns .rf rfl rfl sz61 rfl rfl rfl rfl (.n rfl rfl (.n rfl rfl (.b rfl (.n rfl rfl (.n rfl rfl .nil)))))) rfl rfl rfl rfl (by kernel_rfl) (by kernel_rfl) <| DL.fin rfl rfl rfl (.n rfl (.n rfl (.n rfl (.n rfl (.n rfl .nil)))))) ?_
              obtain rfl := sm h
              exact Px.jn (.n rfl (.n rfl (.n rfl (.n rfl (.n rfl .nil)))))
            · replace h := cndF hb39 h
              refine W.sk ?_
              obtain rfl := sm h
              exact Px.jn (.n rfl (.n rfl (.n rfl (.n rfl (.n rfl .nil)))))
          refine Px.bk ?_
          obtain rfl := sm h
          exact Px.jn (.n rfl (.n rfl (.n rfl (.n rfl (.n rfl .nil)))))
        refine Px.sq ?_
        refine W.rx [(1, _), (2, _), (6, _), (7, _), (11, _)] (Rv (O.mv (.lit rfl)) <| Rv (O.add (.lit rfl) (.k rfl)) <| RunL.re (G1 := [(1, .obj [SS a0.Pro, iR eDecl_0 a0.Decls, iR eRule_0 a0.Rules, SS a0.Tail]), (2, .obj [.nils, .nils, .nils, SS ({ data := #[] }), SS ({ data := #[] })]), (6, .obj (eyuccaref9_maker_r.cells j31)), (7, SS x5.2), (114, I64 (w64 (s27.2 + 1)))]) (.n rfl (.n rfl (.n rfl (.n rfl (.n rfl .nil))))) <| Rv (O.as (.lit rfl)) <| RunL.fin (.n rfl (.n rfl (.n rfl (.n rfl (.n rfl .nil)))))) ?_
        obtain rfl := sm h
        exact Px.go (.n rfl (.n rfl (.n rfl (.n rfl (.n rfl .nil)))))
      · replace h := cndF hb30 h
        refine W.xi ?_
        refine Px.sqE ?_
        obtain rfl := sm h
        exact Px.x1 (.n rfl (.n rfl (.n rfl (.n rfl .nil))))
    refine Px.bkH ?_
    refine Px.sq ?_
    refine W.sq' ?_
    refine W.sq' ?_
    refine W.rx [(1, _), (2, _), (6, _), (7, _), (13, _)] (Rv (O.as (.k rfl)) <| RunL.fin (.n rfl (.n rfl (.n rfl (.n rfl (.n rfl .nil)))))) ?_
    refine Px.sq ?_
    refine W.bk ?_
    obtain ⟨x42, hl, h⟩ := bnd h
    refine W.tr (G1 := [(1, .obj [SS a0.Pro, iR eDecl_0 a0.Decls, iR eRule_0 a0.Rules, SS a0.Tail]), (2, .obj [.nils, .nils, .nils, SS ({ data := #[] }), SS ({ data := #[] })]), (6, .obj (eyuccaref9_maker_r.cells x28)), (7, SS x5.2), (13, I64 0)]) (.n rfl (.n rfl (.n rfl (.n rfl (.n rfl .nil))))) ?_
    refine W.lp1 (s := (x28, 0)) (fun (s41 : yuccaref9_maker × Int) => [(1, .obj [SS a0.Pro, iR eDecl_0 a0.Decls, iR eRule_0 a0.Rules, SS a0.Tail]), (2, .obj [.nils, .nils, .nils, SS ({ data := #[] }), SS ({ data := #[] })]), (6, .obj (eyuccaref9_maker_r.cells s41.1)), (7, SS x5.2), (13, I64 s41.2)]) 6 (fun (x42 : yuccaref9_maker) => [(1, .obj [SS a0.Pro, iR eDecl_0 a0.Decls, iR eRule_0 a0.Rules, SS a0.Tail]), (2, .obj [.nils, .nils, .nils, SS ({ data := #[] }), SS ({ data := #[] })]), (6, .obj (eyuccaref9_maker_r.cells x42)), (7, SS x5.2)]) hl (fun s41 o h => ?_) ?_
    · clear hl
      refine W.sq' ?_
      refine W.sq' ?_
      refine W.rx [(1, _), (2, _), (6, _), (7, _), (13, _), (152, _)] (Rv (O.mv (.lit rfl)) <| Rv (O.fO rfl (.obj rfl) fd25_1 rfl) <| Rv (O.ldO (y := iR eDecl_0 a0.Decls) rfl (.ptr rfl) ct22 rfl rfl) <| Rv (O.lenI (.imm rfl) sl22) <| Rv (O.lss (.lit rfl) (.lit rfl)) <| RunL.fin (.n rfl (.n rfl (.n rfl (.n rfl (.n rfl (.n rfl .nil))))))) ?_
      refine Px.sq ?_
      refine W.cnd rfl (fun hb44 => ?_) (fun hb44 => ?_)
      · replace h := cndT hb44 h
        refine W.sk ?_
        refine Px.sq ?_
        refine W.sq' ?_
        refine W.bk ?_
        refine W.sq' ?_
        refine W.rx [(1, _), (2, _), (6, _), (7, _), (13, _), (14, _)] (Rv (O.as (.k rfl)) <| RunL.fin (.n rfl (.n rfl (.n rfl (.n rfl (.n rfl (.n rfl .nil))))))) ?_
        refine Px.sq ?_
        refine W.bk ?_
        obtain ⟨x46, hl, h⟩ := bnd h
        refine W.tr (G1 := [(1, .obj [SS a0.Pro, iR eDecl_0 a0.Decls, iR eRule_0 a0.Rules, SS a0.Tail]), (2, .obj [.nils, .nils, .nils, SS ({ data := #[] }), SS ({ data := #[] })]), (6, .obj (eyuccaref9_maker_r.cells s41.1)), (7, SS x5.2), (13, I64 s41.2), (14, I64 0)]) (.n rfl (.n rfl (.n rfl (.n rfl (.n rfl (.n rfl .nil)))))) ?_
        refine W.lp1 (s := (s41.1, 0)) (fun (s45 : yuccaref9_maker × Int) => [(1, .obj [SS a0.Pro, iR eDecl_0 a0.Decls, iR eRule_0 a0.Rules, SS a0.Tail]), (2, .obj [.nils, .nils, .nils, SS ({ data := #[] }), SS ({ data := #[] })]), (6, .obj (eyuccaref9_maker_r.cells s45.1)), (7, SS x5.2), (13, I64 s41.2), (14, I64 s45.2)]) 8 (fun (x46 : yuccaref9_maker) => [(1, .obj [SS a0.Pro, iR eDecl_0 a0.Decls, iR eRule_0 a0.Rules, SS a0.Tail]), (2, .obj [.nils, .nils, .nils, SS ({ data := #[] }), SS ({ data := #[] })]), (6, .obj (eyuccaref9_maker_r.cells x46)), (7, SS x5.2), (13, I64 s41.2)]) hl (fun s45 o h => ?_) ?_
        · clear hl
          refine W.sq' ?_
          refine W.sq' ?_
          obtain ⟨x48, hx48, h⟩ := bnd h
          refine W.rx [(1, _), (2, _), (6, _), (7, _), (13, _), (14, _), (163, _)] (Rv (O.mv (.lit rfl)) <| Rv (O.fO rfl (.obj rfl) fd25_1 rfl) <| Rv (O.ldO (y := iR eDecl_0 a0.Decls) rfl (.ptr rfl) ct22 rfl rfl) <| Rv (O.mv (.lit rfl)) <| Rv (O.ixI (.imm rfl) (.lit rfl) sl22 hx48) <| Rv (O.fI (.iptr rfl) fd89_2) <| Rv (O.ldI (x := iR eSym x48.Syms) (.iptr rfl) ct87 rfl) <| Rv (O.lenI (.imm rfl) sl87) <| Rv (O.lss (.lit rfl) (.lit rfl)) <| RunL.fin (.n rfl (.n rfl (.n rfl (.n rfl (.n rfl (.n rfl (.n rfl .nil)))))))) ?_
          refine Px.sq ?_
          refine W.cnd rfl (fun hb49 => ?_) (fun hb49 => ?_)
          · replace h := cndT hb49 h
            refine W.sk ?_
            refine Px.sq ?_
            refine W.sq' ?_
            obtain ⟨j50, hj, h⟩ := bnd h
            refine W.jn [(1, .obj [SS a0.Pro, iR eDecl_0 a0.Decls, iR eRule_0 a0.Rules, SS a0.Tail]), (2, .obj [.nils, .nils, .nils, SS ({ data := #[] }), SS ({ data := #[] })]), (6, .obj (eyuccaref9_maker_r.cells j50)), (7, SS x5.2), (13, I64 s41.2), (14, I64 s45.2)] ?_ ?_
            · clear h; have h := hj; clear hj
              refine W.bk ?_
              refine W.sq' ?_
              obtain ⟨x51, hx51, h⟩ := bnd h
              obtain ⟨x52, hx52, h⟩ := bnd h
              refine W.rx [(1, _), (2, _), (6, _), (7, _), (13, _), (14, _), (15, _)] (Rv (O.fO rfl (.obj rfl) fd25_1 rfl) <| Rv (O.ldO (y := iR eDecl_0 a0.Decls) rfl (.ptr rfl) ct22 rfl rfl) <| Rv (O.mv (.lit rfl)) <| Rv (O.ixI (.imm rfl) (.lit rfl) sl22 hx51) <| Rv (O.fI (.iptr rfl) fd89_2) <| Rv (O.ldI (x := iR eSym x51.Syms) (.iptr rfl) ct87 rfl) <| Rv (O.mv (.lit rfl)) <| Rv (O.ixI (.imm rfl) (.lit rfl) sl87 hx52) <| Rv (O.ldIN (cs' := [SS x52.Name, BB x52.Lit, I64 x52.Num, I64 x52.At]) (.iptr rfl) at91 rfl rfl) <| Rv (O.al (cs := [SS ({ data := #[] }), BB false, I64 0, I64 0]) ze91 rfl rfl) <| RunL.sO (G2 := [(1, .obj [SS a0.Pro, iR eDecl_0 a0.Decls, iR eRule_0 a0.Rules, SS a0.Tail]), (2, .obj [.nils, .nils, .nils, SS ({ data := #[] }), SS ({ data := #[] })]), (6, .obj (eyuccaref9_maker_r.cells s45.1)), (7, SS x5.2), (13, I64 s41.2), (14, I64 s45.2), (15, .obj (eSym.cells x52))]) (cs2 := [SS x52.Name, BB x52.Lit, I64 x52.Num, I64 x52.At]) rfl (.obj rfl) (.aggF rfl rfl) rfl sz91 rfl rfl rfl rfl (.n rfl rfl (.n rfl rfl (.n rfl rfl (.n rfl rfl (.n rfl rfl (.n rfl rfl (.b rfl .nil))))))) <| RunL.fin (.n rfl (.n rfl (.n rfl (.n rfl (.n rfl (.n rfl (.n rfl .nil)))))))) ?_
              refine Px.sq ?_
              refine W.sq' ?_
              obtain ⟨c56, hj, h⟩ := bnd h
              refine W.rx [(1, .obj [SS a0.Pro, iR eDecl_0 a0.Decls, iR eRule_0 a0.Rules, SS a0.Tail]), (2, .obj [.nils, .nils, .nils, SS ({ data := #[] }), SS ({ data := #[] })]), (6, .obj (eyuccaref9_maker_r.cells s45.1)), (7, SS x5.2), (13, I64 s41.2), (14, I64 s45.2), (15, .obj (eSym.cells x52)), (188, BB c56)] ?_ ?_
              · refine Rv (O.fO rfl (.obj rfl) fd25_1 rfl) <| Rv (O.ldO (y := iR eDecl_0 a0.Decls) rfl (.ptr rfl) ct22 rfl rfl) <| Rv (O.mv (.lit rfl)) ?_
                obtain ⟨x53, hx53, hj⟩ := bnd hj
                refine Rv (O.ixI (.imm rfl) (.lit rfl) sl22 hx53) <| Rv (O.fI (.iptr rfl) fd89_0) <| Rv (O.ldI (x := I64 x53.Kind) (.iptr rfl) ct3 rfl) <| Rv (O.geq (.lit rfl) (.k rfl)) <| Rv (O.mv (.lit rfl)) ?_
                rcases cnd hj with ⟨hb54, hj⟩ | ⟨hb54, hj⟩
                · refine RunL.v (O.mv (.obj rfl)) rfl rfl (.yb rfl rfl hb54) <| RunL.v (O.fO rfl (.obj rfl) fd91_0 rfl) rfl rfl (.yb rfl rfl hb54) <| RunL.v (O.ldO (y := SS x52.Name) rfl (.ptr rfl) ct9 rfl rfl) rfl rfl (.yb rfl rfl hb54) ?_
                  obtain ⟨x55, hx55, hj⟩ := bnd hj
                  obtain rfl := sm hj
                  exact RunL.c (PC.vw (ys := [.ptr ⟨6, []⟩ 0, SS x52.Name]) rfl (.c (View.p0 rfl rfl) (.s .nil)) (con67 s45.1 x52.Name _ hx55) call67 rfl) rfl rfl (.yb rfl rfl hb54) <| RunL.v (O.lss (.lit rfl) (.k rfl)) rfl rfl (.yb rfl rfl hb54) <| Rv (O.pkT (.lit rfl) hb54 (.lit rfl)) <| RunL.fin (.n rfl (.n rfl (.n rfl (.n rfl (.n rfl (.n rfl (.n rfl (.n rfl .nil))))))))
                · obtain rfl := sm hj
                  exact RunL.ps rfl rfl hb54 rfl rfl <| RunL.ps rfl rfl hb54 rfl rfl <| RunL.ps rfl rfl hb54 rfl rfl <| RunL.ps rfl rfl hb54 rfl rfl <| RunL.ps rfl rfl hb54 rfl rfl <| Rv (O.pkF (.lit rfl) hb54 (.k rfl)) <| RunL.fin (.n rfl (.n rfl (.n rfl (.n rfl (.n rfl (.n rfl (.n rfl (.n rfl .nil))))))))
              refine Px.sq ?_
              obtain ⟨j57, hj, h⟩ := bnd h
              refine W.jn [(1, .obj [SS a0.Pro, iR eDecl_0 a0.Decls, iR eRule_0 a0.Rules, SS a0.Tail]), (2, .obj [.nils, .nils, .nils, SS ({ data := #[] }), SS ({ data := #[] })]), (6, .obj (eyuccaref9_maker_r.cells j57)), (7, SS x5.2), (13, I64 s41.2), (14, I64 s45.2)] ?_ ?_
              · clear h; have h := hj; clear hj
                refine W.cnd rfl (fun hb58 => ?_) (fun hb58 => ?_)
                · replace h := cndT hb58 h
                  obtain ⟨x59, hx59, h⟩ := bnd h
                  refine W.rx [(1, _), (2, _), (6, _), (7, _), (13, _), (14, _)] (Rv (O.mv (.obj rfl)) <| Rv (O.fO rfl (.obj rfl) fd91_3 rfl) <| Rv (O.ldO (y := I64 x52.At) rfl (.ptr rfl) ct3 rfl rfl) <| Rv (O.fO rfl (.obj rfl) fd91_0 rfl) <| Rv (O.ldO (y := SS x52.Name) rfl (.ptr rfl) ct9 rfl rfl) <| RunL.ef (G2 := [(194, .tup []), (6, .obj [oR eTok x59.f_g.Toks, oR eNon x59.f_g.Nons, oR eProd_0 x59.f_g.Prods, SS x59.f_g.Pro, SS x59.f_g.Tail, oR eB x59.f_given, oR eNon x59.f_types, oR eS x59.f_lefts, I64 x59.f_e, I64 x59.f_at, SS x59.f_name, I64 x59.f_level, I64 x59.f_inner]), (1, .obj [SS a0.Pro, iR eDecl_0 a0.Decls, iR eRule_0 a0.Rules, SS a0.Tail]), (2, .obj [.nils, .nils, .nils, SS ({ data := #[] }), SS ({ data := #[] })]), (7, SS x5.2), (13, I64 s41.2), (14, I64 s45.2)]) rfl (EO.call rfl rfl (CallOk.ln (G2 := [(1, .obj [SS a0.Pro, iR eDecl_0 a0.Decls, iR eRule_0 a0.Rules, SS a0.Tail]), (2, .obj [.nils, .nils, .nils, SS ({ data := #[] }), SS ({ data := #[] })]), (7, SS x5.2), (13, I64 s41.2), (14, I64 s45.2)]) (A := []) (ys := [.ptr ⟨6, []⟩ 0, I64 x52.At, SS x52.Name]) (args := [.obj (eyuccaref9_maker_r.cells s45.1), I64 x52.At, SS x52.Name]) (cs' := [oR eTok x59.f_g.Toks, oR eNon x59.f_g.Nons, oR eProd_0 x59.f_g.Prods, SS x59.f_g.Pro, SS x59.f_g.Tail, oR eB x59.f_given, oR eNon x59.f_types, oR eS x59.f_lefts, I64 x59.f_e, I64 x59.f_at, SS x59.f_name, I64 x59.f_level, I64 x59.f_inner]) (k0 := 0) rfl rfl rfl rfl (.b rfl (.n rfl (.n rfl .nil))) rfl (con65 s45.1 x52.At x52.Name _ hx59) call65 (.n rfl (.n rfl (.n rfl (.n rfl (.n rfl .nil))))) rfl rfl (.n rfl (.n rfl (.n rfl (.n rfl (.n rfl .nil))))) .nil rfl)) <| RunL.fin (.n rfl (.n rfl (.n rfl (.n rfl (.n rfl (.n rfl .nil))))))) ?_
                  obtain rfl := sm h
                  exact Px.jn (.n rfl (.n rfl (.n rfl (.n rfl (.n rfl (.n rfl .nil))))))
                · replace h := cndF hb58 h
                  refine W.sk ?_
                  obtain rfl := sm h
                  exact Px.jn (.n rfl (.n rfl (.n rfl (.n rfl (.n rfl (.n rfl .nil))))))
              refine Px.bk ?_
              obtain rfl := sm h
              exact Px.jn (.n rfl (.n rfl (.n rfl (.n rfl (.n rfl (.n rfl .nil))))))
            refine Px.sq ?_
            refine W.rx [(1, _), (2, _), (6, _), (7, _), (13, _), (14, _)] (Rv (O.mv (.lit rfl)) <| Rv (O.add (.lit rfl) (.k rfl)) <| RunL.re (G1 := [(1, .obj [SS a0.Pro, iR eDecl_0 a0.Decls, iR eRule_0 a0.Rules, SS a0.Tail]), (2, .obj [.nils, .nils, .nils, SS ({ data := #[] }), SS ({ data := #[] })]), (6, .obj (eyuccaref9_maker_r.cells j50)), (7, SS x5.2), (13, I64 s41.2), (165, I64 (w64 (s45.2 + 1)))]) (.n rfl (.n rfl (.n rfl (.n rfl (.n rfl (.n rfl .nil)))))) <| Rv (O.as (.lit rfl)) <| RunL.fin (.n rfl (.n rfl (.n rfl (.n rfl (.n rfl (.n rfl .nil))))))) ?_
            obtain rfl := sm h
            exact Px.go (.n rfl (.n rfl (.n rfl (.n rfl (.n rfl (.n rfl .nil))))))
          · replace h := cndF hb49 h
            refine W.xi ?_
            refine Px.sqE ?_
            obtain rfl := sm h
            exact Px.x1 (.n rfl (.n rfl (.n rfl (.n rfl (.n rfl .nil)))))
        refine Px.bkH ?_
        refine Px.bk ?_
        refine Px.sq ?_
        refine W.rx [(1, _), (2, _), (6, _), (7, _), (13, _)] (Rv (O.mv (.lit rfl)) <| Rv (O.add (.lit rfl) (.k rfl)) <| RunL.re (G1 := [(1, .obj [SS a0.Pro, iR eDecl_0 a0.Decls, iR eRule_0 a0.Rules, SS a0.Tail]), (2, .obj [.nils, .nils, .nils, SS ({ data := #[] }), SS ({ data := #[] })]), (6, .obj (eyuccaref9_maker_r.cells x46)), (7, SS x5.2), (154, I64 (w64 (s41.2 + 1)))]) (.n rfl (.n rfl (.n rfl (.n rfl (.n rfl .nil))))) <| Rv (O.as (.lit rfl)) <| RunL.fin (.n rfl (.n rfl (.n rfl (.n rfl (.n rfl .nil)))))) ?_
        obtain rfl := sm h
        exact Px.go (.n rfl (.n rfl (.n rfl (.n rfl (.n rfl .nil)))))
      · replace h := cndF hb44 h
        refine W.xi ?_
        refine Px.sqE ?_
        obtain rfl := sm h
        exact Px.x1 (.n rfl (.n rfl (.n rfl (.n rfl .nil))))
    refine Px.bkH ?_
    refine Px.sq ?_
    refine W.sq' ?_
    refine W.sq' ?_
    refine W.rx [(1, _), (2, _), (6, _), (7, _), (196, _)] (Rv (O.mv (.lit rfl)) <| Rv (O.eqS (.lit rfl) (.k rfl)) <| RunL.fin (.n rfl (.n rfl (.n rfl (.n rfl (.n rfl .nil)))))) ?_
    refine Px.sq ?_
    obtain ⟨j60, hj, h⟩ := bnd h
    refine W.jn [(1, .obj [SS a0.Pro, iR eDecl_0 a0.Decls, iR eRule_0 a0.Rules, SS a0.Tail]), (2, .obj [.nils, .nils, .nils, SS ({ data := #[] }), SS ({ data := #[] })]), (6, .obj (eyuccaref9_maker_r.cells x42)), (7, SS j60)] ?_ ?_
    · clear h; have h := hj; clear hj
      refine W.cnd rfl (fun hb61 => ?_) (fun hb61 => ?_)
      · replace h := cndT hb61 h
        obtain ⟨x62, hx62, h⟩ := bnd h
        refine W.rx [(1, _), (2, _), (6, _), (7, _)] (Rv (O.fO rfl (.obj rfl) fd25_2 rfl) <| Rv (O.ldO (y := iR eRule_0 a0.Rules) rfl (.ptr rfl) ct23 rfl rfl) <| Rv (O.ixI (.imm rfl) (.k rfl) sl23 hx62) <| Rv (O.fI (.iptr rfl) fd95_0) <| Rv (O.ldI (x := SS x62.Left) (.iptr rfl) ct9 rfl) <| RunL.re (G1 := [(1, .obj [SS a0.Pro, iR eDecl_0 a0.Decls, iR eRule_0 a0.Rules, SS a0.Tail]), (2, .obj [.nils, .nils, .nils, SS ({ data := #[] }), SS ({ data := #[] })]), (6, .obj (eyuccaref9_maker_r.cells x42)), (201, SS x62.Left)]) (.n rfl (.n rfl (.n rfl (.n rfl .nil)))) <| Rv (O.as (.lit rfl)) <| RunL.fin (.n rfl (.n rfl (.n rfl (.n rfl .nil))))) ?_
        obtain rfl := sm h
        exact Px.jn (.n rfl (.n rfl (.n rfl (.n rfl .nil))))
      · replace h := cndF hb61 h
        refine W.sk ?_
        obtain rfl := sm h
        exact Px.jn (.n rfl (.n rfl (.n rfl (.n rfl .nil))))
    refine Px.sq ?_
    refine W.sq' ?_
    obtain ⟨x63, hx63, h⟩ := bnd h
    refine W.rx [(1, _), (2, _), (6, _)] (Rv (O.mv (.obj rfl)) <| Rv (O.mv (.obj rfl)) <| Rv (O.mv (.lit rfl)) <| Rc (PC.vw (ys := [.ptr ⟨6, []⟩ 0, SS j60]) rfl (.c (View.p0 rfl rfl) (.s .nil)) (con67 x42 j60 _ hx63) call67 rfl) <| Rv (O.add (.k rfl) (.lit rfl)) <| RunL.vi (x := iR eI [w64 (1001 + x63)]) (O.bs (ys := [I64 (w64 (1001 + x63))]) eI [w64 (1001 + x63)] sl27 rfl rfl rfl rfl rfl rfl zt3 rfl rfl) rfl rfl .none <| RunL.vi (x := .agg [I64 0, iR eI [w64 (1001 + x63)], I64 (-1), SS ({ data := #[] }), iR eI ([] : List Int), I64 0]) (O.bu (cs := [I64 0, iR eI [w64 (1001 + x63)], I64 (-1), SS ({ data := #[] }), .nils, I64 0]) sc109 ze109 rfl rfl rfl) rfl rfl .none <| Rv (O.bs (ys := [.agg [I64 0, iR eI [w64 (1001 + x63)], I64 (-1), SS ({ data := #[] }), iR eI ([] : List Int), I64 0]]) eProd_0 [(⟨0, [w64 (1001 + x63)], (-1), { data := #[] }, ([] : List Int), 0⟩ : Prod)] sl36 rfl rfl rfl rfl rfl rfl zt109 rfl rfl) <| Rv (O.nlP (.ptr rfl)) <| Rv (O.fO rfl (.ptr rfl) fd128_0 rfl) <| Rv (O.fO rfl (.ptr rfl) fd38_2 rfl) <| RunL.ef (G2 := [(1, .obj [SS a0.Pro, iR eDecl_0 a0.Decls, iR eRule_0 a0.Rules, SS a0.Tail]), (2, .obj [.nils, .nils, .nils, SS ({ data := #[] }), SS ({ data := #[] })]), (6, .obj [oR eTok x42.f_g.Toks, oR eNon x42.f_g.Nons, oR eProd_0 [(⟨0, [w64 (1001 + x63)], (-1), { data := #[] }, ([] : List Int), 0⟩ : Prod)], SS x42.f_g.Pro, SS x42.f_g.Tail, oR eB x42.f_given, oR eNon x42.f_types, oR eS x42.f_lefts, I64 x42.f_e, I64 x42.f_at, SS x42.f_name, I64 x42.f_level, I64 x42.f_inner])]) rfl (EO.stB (y' := oR eProd_0 [(⟨0, [w64 (1001 + x63)], (-1), { data := #[] }, ([] : List Int), 0⟩ : Prod)]) (cs2 := [oR eTok x42.f_g.Toks, oR eNon x42.f_g.Nons, oR eProd_0 [(⟨0, [w64 (1001 + x63)], (-1), { data := #[] }, ([] : List Int), 0⟩ : Prod)], SS x42.f_g.Pro, SS x42.f_g.Tail, oR eB x42.f_given, oR eNon x42.f_types, oR eS x42.f_lefts, I64 x42.f_e, I64 x42.f_at, SS x42.f_name, I64 x42.f_level, I64 x42.f_inner]) rfl rfl (.ptr rfl) (.own rfl) (.r rfl .nil) .refl rfl sz36 rfl rfl rfl rfl rfl (.n rfl rfl (.n rfl rfl (.b rfl .nil)))) <| RunL.fin (.n rfl (.n rfl (.n rfl .nil)))) ?_
    refine Px.sq ?_
    refine W.sq' ?_
    refine W.sq' ?_
    refine W.rx [(1, _), (2, _), (6, _), (16, _)] (Rv (O.as (.k rfl)) <| RunL.fin (.n rfl (.n rfl (.n rfl (.n rfl .nil))))) ?_
    refine Px.sq ?_
    refine W.bk ?_
    obtain ⟨x65, hl, h⟩ := bnd h
    refine W.tr (G1 := [(1, .obj [SS a0.Pro, iR eDecl_0 a0.Decls, iR eRule_0 a0.Rules, SS a0.Tail]), (2, .obj [.nils, .nils, .nils, SS ({ data := #[] }), SS ({ data := #[] })]), (6, .obj [oR eTok (((⟨(⟨x42.f_g.Toks, x42.f_g.Nons, [(⟨0, [w64 (1001 + x63)], (-1), { data := #[] }, ([] : List Int), 0⟩ : Prod)], x42.f_g.Pro, x42.f_g.Tail⟩ : Grammar), x42.f_given, x42.f_types, x42.f_lefts, x42.f_e, x42.f_at, x42.f_name, x42.f_level, x42.f_inner⟩ : yuccaref9_maker).f_g).Toks), oR eNon (((⟨(⟨x42.f_g.Toks, x42.f_g.Nons, [(⟨0, [w64 (1001 + x63)], (-1), { data := #[] }, ([] : List Int), 0⟩ : Prod)], x42.f_g.Pro, x42.f_g.Tail⟩ : Grammar), x42.f_given, x42.f_types, x42.f_lefts, x42.f_e, x42.f_at, x42.f_name, x42.f_level, x42.f_inner⟩ : yuccaref9_maker).f_g).Nons), oR eProd_0 (((⟨(⟨x42.f_g.Toks, x42.f_g.Nons, [(⟨0, [w64 (1001 + x63)], (-1), { data := #[] }, ([] : List Int), 0⟩ : Prod)], x42.f_g.Pro, x42.f_g.Tail⟩ : Grammar), x42.f_given, x42.f_types, x42.f_lefts, x42.f_e, x42.f_at, x42.f_name, x42.f_level, x42.f_inner⟩ : yuccaref9_maker).f_g).Prods), SS (((⟨(⟨x42.f_g.Toks, x42.f_g.Nons, [(⟨0, [w64 (1001 + x63)], (-1), { data := #[] }, ([] : List Int), 0⟩ : Prod)], x42.f_g.Pro, x42.f_g.Tail⟩ : Grammar), x42.f_given, x42.f_types, x42.f_lefts, x42.f_e, x42.f_at, x42.f_name, x42.f_level, x42.f_inner⟩ : yuccaref9_maker).f_g).Pro), SS (((⟨(⟨x42.f_g.Toks, x42.f_g.Nons, [(⟨0, [w64 (1001 + x63)], (-1), { data := #[] }, ([] : List Int), 0⟩ : Prod)], x42.f_g.Pro, x42.f_g.Tail⟩ : Grammar), x42.f_given, x42.f_types, x42.f_lefts, x42.f_e, x42.f_at, x42.f_name, x42.f_level, x42.f_inner⟩ : yuccaref9_maker).f_g).Tail), oR eB ((⟨(⟨x42.f_g.Toks, x42.f_g.Nons, [(⟨0, [w64 (1001 + x63)], (-1), { data := #[] }, ([] : List Int), 0⟩ : Prod)], x42.f_g.Pro, x42.f_g.Tail⟩ : Grammar), x42.f_given, x42.f_types, x42.f_lefts, x42.f_e, x42.f_at, x42.f_name, x42.f_level, x42.f_inner⟩ : yuccaref9_maker).f_given), oR eNon ((⟨(⟨x42.f_g.Toks, x42.f_g.Nons, [(⟨0, [w64 (1001 + x63)], (-1), { data := #[] }, ([] : List Int), 0⟩ : Prod)], x42.f_g.Pro, x42.f_g.Tail⟩ : Grammar), x42.f_given, x42.f_types, x42.f_lefts, x42.f_e, x42.f_at, x42.f_name, x42.f_level, x42.f_inner⟩ : yuccaref9_maker).f_types), oR eS ((⟨(⟨x42.f_g.Toks, x42.f_g.Nons, [(⟨0, [w64 (1001 + x63)], (-1), { data := #[] }, ([] : List Int), 0⟩ : Prod)], x42.f_g.Pro, x42.f_g.Tail⟩ : Grammar), x42.f_given, x42.f_types, x42.f_lefts, x42.f_e, x42.f_at, x42.f_name, x42.f_level, x42.f_inner⟩ : yuccaref9_maker).f_lefts), I64 ((⟨(⟨x42.f_g.Toks, x42.f_g.Nons, [(⟨0, [w64 (1001 + x63)], (-1), { data := #[] }, ([] : List Int), 0⟩ : Prod)], x42.f_g.Pro, x42.f_g.Tail⟩ : Grammar), x42.f_given, x42.f_types, x42.f_lefts, x42.f_e, x42.f_at, x42.f_name, x42.f_level, x42.f_inner⟩ : yuccaref9_maker).f_e), I64 ((⟨(⟨x42.f_g.Toks, x42.f_g.Nons, [(⟨0, [w64 (1001 + x63)], (-1), { data := #[] }, ([] : List Int), 0⟩ : Prod)], x42.f_g.Pro, x42.f_g.Tail⟩ : Grammar), x42.f_given, x42.f_types, x42.f_lefts, x42.f_e, x42.f_at, x42.f_name, x42.f_level, x42.f_inner⟩ : yuccaref9_maker).f_at), SS ((⟨(⟨x42.f_g.Toks, x42.f_g.Nons, [(⟨0, [w64 (1001 + x63)], (-1), { data := #[] }, ([] : List Int), 0⟩ : Prod)], x42.f_g.Pro, x42.f_g.Tail⟩ : Grammar), x42.f_given, x42.f_types, x42.f_lefts, x42.f_e, x42.f_at, x42.f_name, x42.f_level, x42.f_inner⟩ : yuccaref9_maker).f_name), I64 ((⟨(⟨x42.f_g.Toks, x42.f_g.Nons, [(⟨0, [w64 (1001 + x63)], (-1), { data := #[] }, ([] : List Int), 0⟩ : Prod)], x42.f_g.Pro, x42.f_g.Tail⟩ : Grammar), x42.f_given, x42.f_types, x42.f_lefts, x42.f_e, x42.f_at, x42.f_name, x42.f_level, x42.f_inner⟩ : yuccaref9_maker).f_level), I64 ((⟨(⟨x42.f_g.Toks, x42.f_g.Nons, [(⟨0, [w64 (1001 + x63)], (-1), { data := #[] }, ([] : List Int), 0⟩ : Prod)], x42.f_g.Pro, x42.f_g.Tail⟩ : Grammar), x42.f_given, x42.f_types, x42.f_lefts, x42.f_e, x42.f_at, x42.f_name, x42.f_level, x42.f_inner⟩ : yuccaref9_maker).f_inner)]), (16, I64 0)]) (.n rfl (.n rfl (.n rfl (.n rfl .nil)))) ?_
    refine W.lp1 (s := ((⟨(⟨x42.f_g.Toks, x42.f_g.Nons, [(⟨0, [w64 (1001 + x63)], (-1), { data := #[] }, ([] : List Int), 0⟩ : Prod)], x42.f_g.Pro, x42.f_g.Tail⟩ : Grammar), x42.f_given, x42.f_types, x42.f_lefts, x42.f_e, x42.f_at, x42.f_name, x42.f_level, x42.f_inner⟩ : yuccaref9_maker), 0)) (fun (s64 : yuccaref9_maker × Int) => [(1, .obj [SS a0.Pro, iR eDecl_0 a0.Decls, iR eRule_0 a0.Rules, SS a0.Tail]), (2, .obj [.nils, .nils, .nils, SS ({ data := #[] }), SS ({ data := #[] })]), (6, .obj (eyuccaref9_maker_r.cells s64.1)), (16, I64 s64.2)]) 10 (fun (x65 : yuccaref9_maker) => [(1, .obj [SS a0.Pro, iR eDecl_0 a0.Decls, iR eRule_0 a0.Rules, SS a0.Tail]), (2, .obj [.nils, .nils, .nils, SS ({ data := #[] }), SS ({ data := #[] })]), (6, .obj (eyuccaref9_maker_r.cells x65))]) hl (fun s64 o h => ?_) ?_
    · clear hl
      refine W.sq' ?_
      refine W.sq' ?_
      refine W.rx [(1, _), (2, _), (6, _), (16, _), (217, _)] (Rv (O.mv (.lit rfl)) <| Rv (O.fO rfl (.obj rfl) fd25_2 rfl) <| Rv (O.ldO (y := iR eRule_0 a0.Rules) rfl (.ptr rfl) ct23 rfl rfl) <| Rv (O.lenI (.imm rfl) sl23) <| Rv (O.lss (.lit rfl) (.lit rfl)) <| RunL.fin (.n rfl (.n rfl (.n rfl (.n rfl (.n rfl .nil)))))) ?_
      refine Px.sq ?_
      refine W.cnd rfl (fun hb67 => ?_) (fun hb67 => ?_)
      · replace h := cndT hb67 h
        refine W.sk ?_
        refine Px.sq ?_
        refine W.sq' ?_
        refine W.bk ?_
        refine W.sq' ?_
        refine W.rx [(1, _), (2, _), (6, _), (16, _), (17, _)] (Rv (O.as (.k rfl)) <| RunL.fin (.n rfl (.n rfl (.n rfl (.n rfl (.n rfl .nil)))))) ?_
        refine Px.sq ?_
        refine W.bk ?_
        obtain ⟨x69, hl, h⟩ := bnd h
        refine W.tr (G1 := [(1, .obj [SS a0.Pro, iR eDecl_0 a0.Decls, iR eRule_0 a0.Rules, SS a0.Tail]), (2, .obj [.nils, .nils, .nils, SS ({ data := #[] }), SS ({ data := #[] })]), (6, .obj (eyuccaref9_maker_r.cells s64.1)), (16, I64 s64.2), (17, I64 0)]) (.n rfl (.n rfl (.n rfl (.n rfl (.n rfl .nil))))) ?_
        refine W.lp1 (s := (s64.1, 0)) (fun (s68 : yuccaref9_maker × Int) => [(1, .obj [SS a0.Pro, iR eDecl_0 a0.Decls, iR eRule_0 a0.Rules, SS a0.Tail]), (2, .obj [.nils, .nils, .nils, SS ({ data := #[] }), SS ({ data := #[] })]), (6, .obj (eyuccaref9_maker_r.cells s68.1)), (16, I64 s64.2), (17, I64 s68.2)]) 12 (fun (x69 : yuccaref9_maker) => [(1, .obj [SS a0.Pro, iR eDecl_0 a0.Decls, iR eRule_0 a0.Rules, SS a0.Tail]), (2, .obj [.nils, .nils, .nils, SS ({ data := #[] }), SS ({ data := #[] })]), (6, .obj (eyuccaref9_maker_r.cells x69)), (16, I64 s64.2)]) hl (fun s68 o h => ?_) ?_
        · clear hl
          refine W.sq' ?_
          refine W.sq' ?_
          obtain ⟨x71, hx71, h⟩ := bnd h
          refine W.rx [(1, _), (2, _), (6, _), (16, _), (17, _), (228, _)] (Rv (O.mv (.lit rfl)) <| Rv (O.fO rfl (.obj rfl) fd25_2 rfl) <| Rv (O.ldO (y := iR eRule_0 a0.Rules) rfl (.ptr rfl) ct23 rfl rfl) <| Rv (O.mv (.lit rfl)) <| Rv (O.ixI (.imm rfl) (.lit rfl) sl23 hx71) <| Rv (O.fI (.iptr rfl) fd95_1) <| Rv (O.ldI (x := iR eAlt_0 x71.Alts) (.iptr rfl) ct93 rfl) <| Rv (O.lenI (.imm rfl) sl93) <| Rv (O.lss (.lit rfl) (.lit rfl)) <| RunL.fin (.n rfl (.n rfl (.n rfl (.n rfl (.n rfl (.n rfl .nil))))))) ?_
          refine Px.sq ?_
          refine W.cnd rfl (fun hb72 => ?_) (fun hb72 => ?_)
          · replace h := cndT hb72 h
            refine W.sk ?_
            refine Px.sq ?_
            refine W.sq' ?_
            refine W.bk ?_
            obtain ⟨x73, hx73, h⟩ := bnd h
            obtain ⟨x74, hx74, h⟩ := bnd h
            obtain ⟨x75, hx75, h⟩ := bnd h
            obtain ⟨x76, hx76, h⟩ := bnd h
            refine W.rd [[], [], [1], [], [1, 2, 3], [1, 2, 3, 4], rn 1 5 [], [], [7], [], [7, 8, 9], [7, 8, 9, 10], rn 7 5 [], [], rn 7 7 [], rn 7 8 [], rn 0 16 []] [(1, _), (2, _), (6, _), (16, _), (17, _)] mixo (by kernel_rfl) (Dv 0 (O.mv (.obj rfl)) <| Dv 1 (O.fO rfl (.obj rfl) fd25_2 rfl) <| Dv 2 (O.ldO (y := iR eRule_0 a0.Rules) rfl (.ptr rfl) ct23 rfl rfl) <| Dv 3 (O.mv (.lit rfl)) <| Dv 4 (O.ixI (.imm rfl) (.lit rfl) sl23 hx73) <| Dv 5 (O.fI (.iptr rfl) fd95_0) <| Dv 6 (O.ldI (x := SS x73.Left) (.iptr rfl) ct9 rfl) <| Dv 7 (O.fO rfl (.obj rfl) fd25_2 rfl) <| Dv 8 (O.ldO (y := iR eRule_0 a0.Rules) rfl (.ptr rfl) ct23 rfl rfl) <| Dv 9 (O.mv (.lit rfl)) <| Dv 10 (O.ixI (.imm rfl) (.lit rfl) sl23 hx74) <| Dv 11 (O.fI (.iptr rfl) fd95_1) <| Dv 12 (O.ldI (x := iR eAlt_0 x74.Alts) (.iptr rfl) ct93 rfl) <| Dv 13 (O.mv (.lit rfl)) <| Dv 14 (O.ixI (.imm rfl) (.lit rfl) sl93 hx75) <| Dv 15 (O.ldIN (cs' := [iR ePart x75.Parts, SS x75.Prec.Name, BB x75.Prec.Lit, I64 x75.Prec.Num, I64 x75.Prec.At, I64 x75.At]) (.iptr rfl) at98 rfl rfl) <| DL.bp 16 (G2 := [(247, .tup []), (6, .obj [oR eTok x76.f_g.Toks, oR eNon x76.f_g.Nons, oR eProd_0 x76.f_g.Prods, SS x76.f_g.Pro, SS x76.f_g.Tail, oR eB x76.f_given, oR eNon x76.f_types, oR eS x76.f_lefts, I64 x76.f_e, I64 x76.f_at, SS x76.f_name, I64 x76.f_level, I64 x76.f_inner]), (1, .obj [SS a0.Pro, iR eDecl_0 a0.Decls, iR eRule_0 a0.Rules, SS a0.Tail]), (2, .obj [.nils, .nils, .nils, SS ({ data := #[] }), SS ({ data := #[] })]), (16, I64 s64.2), (17, I64 s68.2)]) (EO.call rfl rfl (CallOk.ln (G2 := [(1, .obj [SS a0.Pro, iR eDecl_0 a0.Decls, iR eRule_0 a0.Rules, SS a0.Tail]), (2, .obj [.nils, .nils, .nils, SS ({ data := #[] }), SS ({ data := #[] })]), (16, I64 s64.2), (17, I64 s68.2)]) (A := []) (ys := [.ptr ⟨6, []⟩ 0, SS x73.Left, .agg (eAlt_0.cells x75)]) (args := [.obj (eyuccaref9_maker_r.cells s68.1), SS x73.Left, .agg (eAlt_0.cells x75)]) (cs' := [oR eTok x76.f_g.Toks, oR eNon x76.f_g.Nons, oR eProd_0 x76.f_g.Prods, SS x76.f_g.Pro, SS x76.f_g.Tail, oR eB x76.f_given, oR eNon x76.f_types, oR eS x76.f_lefts, I64 x76.f_e, I64 x76.f_at, SS x76.f_name, I64 x76.f_level, I64 x76.f_inner]) (k0 := 0) rfl rfl rfl rfl (.b rfl (.n rfl (.n rfl .nil))) rfl (con68 s68.1 x73.Left x75 _ hx76) call68 (.n rfl (.n rfl (.n rfl (.n rfl .nil)))) rfl rfl (.n rfl (.n rfl (.n rfl (.n rfl .nil)))) .nil rfl)) rfl rfl rfl rfl (by kernel_rfl) (by kernel_rfl) <| DL.fin rfl rfl rfl (.n rfl (.n rfl (.n rfl (.n rfl (.n rfl .nil)))))) ?_
            refine Px.bk ?_
            refine Px.sq ?_
            refine W.rx [(1, _), (2, _), (6, _), (16, _), (17, _)] (Rv (O.mv (.lit rfl)) <| Rv (O.add (.lit rfl) (.k rfl)) <| RunL.re (G1 := [(1, .obj [SS a0.Pro, iR eDecl_0 a0.Decls, iR eRule_0 a0.Rules, SS a0.Tail]), (2, .obj [.nils, .nils, .nils, SS ({ data := #[] }), SS ({ data := #[] })]), (6, .obj (eyuccaref9_maker_r.cells x76)), (16, I64 s64.2), (230, I64 (w64 (s68.2 + 1)))]) (.n rfl (.n rfl (.n rfl (.n rfl (.n rfl .nil))))) <| Rv (O.as (.lit rfl)) <| RunL.fin (.n rfl (.n rfl (.n rfl (.n rfl (.n rfl .nil)))))) ?_
            obtain rfl := sm h
            exact Px.go (.n rfl (.n rfl (.n rfl (.n rfl (.n rfl .nil)))))
          · replace h := cndF hb72 h
            refine W.xi ?_
            refine Px.sqE ?_
            obtain rfl := sm h
            exact Px.x1 (.n rfl (.n rfl (.n rfl (.n rfl .nil))))
        refine Px.bkH ?_
        refine Px.bk ?_
        refine Px.sq ?_
        refine W.rx [(1, _), (2, _), (6, _), (16, _)] (Rv (O.mv (.lit rfl)) <| Rv (O.add (.lit rfl) (.k rfl)) <| RunL.re (G1 := [(1, .obj [SS a0.Pro, iR eDecl_0 a0.Decls, iR eRule_0 a0.Rules, SS a0.Tail]), (2, .obj [.nils, .nils, .nils, SS ({ data := #[] }), SS ({ data := #[] })]), (6, .obj (eyuccaref9_maker_r.cells x69)), (219, I64 (w64 (s64.2 + 1)))]) (.n rfl (.n rfl (.n rfl (.n rfl .nil)))) <| Rv (O.as (.lit rfl)) <| RunL.fin (.n rfl (.n rfl (.n rfl (.n rfl .nil))))) ?_
        obtain rfl := sm h
        exact Px.go (.n rfl (.n rfl (.n rfl (.n rfl .nil))))
      · replace h := cndF hb67 h
        refine W.xi ?_
        refine Px.sqE ?_
        obtain rfl := sm h
        exact Px.x1 (.n rfl (.n rfl (.n rfl .nil)))
    refine Px.bkH ?_
    refine Px.sq ?_
    refine W.sq' ?_
    refine W.sq' ?_
    refine W.rx [(1, _), (2, _), (6, _), (252, _)] (Rv (O.mv (.obj rfl)) <| Rv (O.nlP (.ptr rfl)) <| Rv (O.fO rfl (.ptr rfl) fd128_4 rfl) <| Rv (O.ldO (y := I64 x65.f_e) rfl (.ptr rfl) ct3 rfl rfl) <| Rv (O.neq (.lit rfl) (.k rfl)) <| RunL.fin (.n rfl (.n rfl (.n rfl (.n rfl .nil))))) ?_
    refine Px.sq ?_
    refine W.cnd rfl (fun hb77 => ?_) (fun hb77 => ?_)
    · replace h := cndT hb77 h
      refine W.sq' ?_
      refine W.rd [[], [], [1], [1, 2], [1, 2, 3], [], [5], [5, 6], [5, 6, 7], [], [9], [9, 10], [9, 10, 11], [0], rn 0 5 [13], rn 0 9 [13, 14], rn 0 16 []] [(2, _), (3, _), (4, _), (5, _)] mixo (by kernel_rfl) (Dv 0 (O.bu (cs := [.nils, .nils, .nils, SS ({ data := #[] }), SS ({ data := #[] })]) sc38 ze38 rfl rfl rfl) <| Dv 1 (O.mv (.obj rfl)) <| Dv 2 (O.nlP (.ptr rfl)) <| Dv 3 (O.fO rfl (.ptr rfl) fd128_4 rfl) <| Dv 4 (O.ldO (y := I64 x65.f_e) rfl (.ptr rfl) ct3 rfl rfl) <| Dv 5 (O.mv (.obj rfl)) <| Dv 6 (O.nlP (.ptr rfl)) <| Dv 7 (O.fO rfl (.ptr rfl) fd128_5 rfl) <| Dv 8 (O.ldO (y := I64 x65.f_at) rfl (.ptr rfl) ct3 rfl rfl) <| Dv 9 (O.mv (.obj rfl)) <| Dv 10 (O.nlP (.ptr rfl)) <| Dv 11 (O.fO rfl (.ptr rfl) fd128_6 rfl) <| Dv 12 (O.ldO (y := SS x65.f_name) rfl (.ptr rfl) ct9 rfl rfl) <| DL.bu 13 (G2 := [(2, .obj [.nils, .nils, .nils, SS ({ data := #[] }), SS ({ data := #[] })]), (6, .obj (eyuccaref9_maker_r.cells x65))]) (U := [(12, 265, some (SS x65.f_name)), (11, 264, some (.ptr ⟨6, []⟩ 10)), (10, 263, some (.ptr ⟨6, []⟩ 0)), (9, 262, some (.ptr ⟨6, []⟩ 0)), (8, 261, some (I64 x65.f_at)), (7, 260, some (.ptr ⟨6, []⟩ 9)), (6, 259, some (.ptr ⟨6, []⟩ 0)), (5, 258, some (.ptr ⟨6, []⟩ 0)), (4, 257, some (I64 x65.f_e)), (3, 256, some (.ptr ⟨6, []⟩ 8)), (2, 255, some (.ptr ⟨6, []⟩ 0)), (1, 254, some (.ptr ⟨6, []⟩ 0))]) (EffOk.v (EO.eff (EO.sO (G2 := [(2, .obj [.nils, .nils, .nils, SS ({ data := #[] }), SS ({ data := #[] })]), (6, .obj (eyuccaref9_maker_r.cells x65))]) (cs2 := [.nils, .nils, .nils, SS ({ data := #[] }), SS ({ data := #[] })]) rfl rfl rfl (.obj rfl) (.aggF rfl rfl) rfl sz38 rfl rfl rfl rfl (.b rfl (.n rfl rfl .nil))))) rfl rfl (by kernel_rfl) rfl rfl rfl (.c (.inr (.inl ⟨_, rfl⟩)) rfl rfl rfl rfl rfl (Gd.wanted .none) (O.ldO (y := SS x65.f_name) rfl (.ptr rfl) ct9 rfl rfl) (.c (.inr (.inr (.inr ⟨6, _, _, rfl, rfl, of_blt rfl, by simp⟩))) rfl rfl rfl rfl rfl (Gd.wanted .none) (O.fO rfl (.ptr rfl) fd128_6 rfl) (.c (.inr (.inr (.inr ⟨6, _, _, rfl, rfl, of_blt rfl, by simp⟩))) rfl rfl rfl rfl rfl (Gd.wanted .none) (O.nlP (.ptr rfl)) (.c (.inr (.inr (.inr ⟨6, _, _, rfl, rfl, of_blt rfl, by simp⟩))) rfl rfl rfl rfl rfl (Gd.wanted .none) (O.mv (.obj rfl)) (.c (.inr (.inl ⟨_, rfl⟩)) rfl rfl rfl rfl rfl (Gd.wanted .none) (O.ldO (y := I64 x65.f_at) rfl (.ptr rfl) ct3 rfl rfl) (.c (.inr (.inr (.inr ⟨6, _, _, rfl, rfl, of_blt rfl, by simp⟩))) rfl rfl rfl rfl rfl (Gd.wanted .none) (O.fO rfl (.ptr rfl) fd128_5 rfl) (.c (.inr (.inr (.inr ⟨6, _, _, rfl, rfl, of_blt rfl, by simp⟩))) rfl rfl rfl rfl rfl (Gd.wanted .none) (O.nlP (.ptr rfl)) (.c (.inr (.inr (.inr ⟨6, _, _, rfl, rfl, of_blt rfl, by simp⟩))) rfl rfl rfl rfl rfl (Gd.wanted .none) (O.mv (.obj rfl)) (.c (.inr (.inl ⟨_, rfl⟩)) rfl rfl rfl rfl rfl (Gd.wanted .none) (O.ldO (y := I64 x65.f_e) rfl (.ptr rfl) ct3 rfl rfl) (.c (.inr (.inr (.inr ⟨6, _, _, rfl, rfl, of_blt rfl, by simp⟩))) rfl rfl rfl rfl rfl (Gd.wanted .none) (O.fO rfl (.ptr rfl) fd128_4 rfl) (.c (.inr (.inr (.inr ⟨6, _, _, rfl, rfl, of_blt rfl, by simp⟩))) rfl rfl rfl rfl rfl (Gd.wanted .none) (O.nlP (.ptr rfl)) (.c (.inr (.inr (.inr ⟨6, _, _, rfl, rfl, of_blt rfl, by simp⟩))) rfl rfl rfl rfl rfl (Gd.wanted .none) (O.mv (.obj rfl)) .nil)))))))))))) (by kernel_rfl) <| Dv 14 (O.as (.lit rfl)) <| Dv 15 (O.as (.lit rfl)) <| Dv 16 (O.as (.lit rfl)) <| DL.fin rfl rfl rfl (.n rfl (.n rfl (.n rfl (.n rfl .nil))))) ?_
      refine Px.sq ?_
      refine W.fz (G1 := [(2, .obj [iR eTok ([] : List Tok), iR eNon ([] : List Non), iR eProd_0 ([] : List Prod), SS ({ data := #[] }), SS ({ data := #[] })]), (3, I64 x65.f_e), (4, I64 x65.f_at), (5, SS x65.f_name)]) [2] (.z rfl rfl (FzL.obj (.z (.z (.z (.f (.f .nil)))))) (.n rfl rfl (.n rfl rfl (.n rfl rfl .nil)))) ?_
      refine W.rt ?_
      refine Px.sqR ?_
      obtain rfl := sm h
      exact Px.fin (Fin.ro (.c (ys0 := [iR eTok ([] : List Tok), iR eNon ([] : List Non), iR eProd_0 ([] : List Prod), SS ({ data := #[] }), SS ({ data := #[] })]) rfl at38 rfl rfl rfl (.f rfl (.f rfl (.f rfl (.f rfl (.f rfl .nil))))) (.f rfl rfl (.f rfl rfl (.f rfl rfl .nil)))) rfl (of_decide_eq_true (by kernel_rfl)) (.no .nil) rfl (.inr rfl))
    · replace h := cndF hb77 h
      refine W.sk ?_
      refine Px.sq ?_
      refine W.sq' ?_
      refine W.rx [(1, _), (2, _), (6, _)] (Rv (O.mv (.obj rfl)) <| Rv (O.bu (cs := [SS ({ data := #[36, 97, 99, 99, 101, 112, 116] }), SS ({ data := #[] })]) sc135 ze135 rfl rfl rfl) <| Rv (O.bs (ys := [.agg [SS ({ data := #[36, 97, 99, 99, 101, 112, 116] }), SS ({ data := #[] })]]) eNon [(⟨{ data := #[36, 97, 99, 99, 101, 112, 116] }, { data := #[] }⟩ : Non)] sl35 rfl rfl rfl rfl rfl rfl zt135 rfl rfl) <| Rv (O.nlP (.ptr rfl)) <| Rv (O.fO rfl (.ptr rfl) fd128_0 rfl) <| Rv (O.fO rfl (.ptr rfl) fd38_1 rfl) <| RunL.ef (G2 := [(1, .obj [SS a0.Pro, iR eDecl_0 a0.Decls, iR eRule_0 a0.Rules, SS a0.Tail]), (2, .obj [.nils, .nils, .nils, SS ({ data := #[] }), SS ({ data := #[] })]), (6, .obj [oR eTok x65.f_g.Toks, oR eNon [(⟨{ data := #[36, 97, 99, 99, 101, 112, 116] }, { data := #[] }⟩ : Non)], oR eProd_0 x65.f_g.Prods, SS x65.f_g.Pro, SS x65.f_g.Tail, oR eB x65.f_given, oR eNon x65.f_types, oR eS x65.f_lefts, I64 x65.f_e, I64 x65.f_at, SS x65.f_name, I64 x65.f_level, I64 x65.f_inner])]) rfl (EO.stB (y' := oR eNon [(⟨{ data := #[36, 97, 99, 99, 101, 112, 116] }, { data := #[] }⟩ : Non)]) (cs2 := [oR eTok x65.f_g.Toks, oR eNon [(⟨{ data := #[36, 97, 99, 99, 101, 112, 116] }, { data := #[] }⟩ : Non)], oR eProd_0 x65.f_g.Prods, SS x65.f_g.Pro, SS x65.f_g.Tail, oR eB x65.f_given, oR eNon x65.f_types, oR eS x65.f_lefts, I64 x65.f_e, I64 x65.f_at, SS x65.f_name, I64 x65.f_level, I64 x65.f_inner]) rfl rfl (.ptr rfl) (.own rfl) (.r rfl .nil) .refl rfl sz35 rfl rfl rfl rfl rfl (.n rfl rfl (.n rfl rfl (.b rfl .nil)))) <| RunL.fin (.n rfl (.n rfl (.n rfl .nil)))) ?_
      refine Px.sq ?_
      refine W.sq' ?_
      refine W.sq' ?_
      refine W.rx [(1, _), (2, _), (6, _), (18, _)] (Rv (O.as (.k rfl)) <| RunL.fin (.n rfl (.n rfl (.n rfl (.n rfl .nil))))) ?_
      refine Px.sq ?_
      refine W.bk ?_
      obtain ⟨x79, hl, h⟩ := bnd h
      refine W.tr (G1 := [(1, .obj [SS a0.Pro, iR eDecl_0 a0.Decls, iR eRule_0 a0.Rules, SS a0.Tail]), (2, .obj [.nils, .nils, .nils, SS ({ data := #[] }), SS ({ data := #[] })]), (6, .obj [oR eTok x65.f_g.Toks, oR eNon [(⟨{ data := #[36, 97, 99, 99, 101, 112, 116] }, { data := #[] }⟩ : Non)], oR eProd_0 x65.f_g.Prods, SS x65.f_g.Pro, SS x65.f_g.Tail, oR eB x65.f_given, oR eNon x65.f_types, oR eS x65.f_lefts, I64 x65.f_e, I64 x65.f_at, SS x65.f_name, I64 x65.f_level, I64 x65.f_inner]), (18, I64 0)]) (.n rfl (.n rfl (.n rfl (.n rfl .nil)))) ?_
      refine W.lp1 (s := ([(⟨{ data := #[36, 97, 99, 99, 101, 112, 116] }, { data := #[] }⟩ : Non)], 0)) (fun (s78 : List Non × Int) => [(1, .obj [SS a0.Pro, iR eDecl_0 a0.Decls, iR eRule_0 a0.Rules, SS a0.Tail]), (2, .obj [.nils, .nils, .nils, SS ({ data := #[] }), SS ({ data := #[] })]), (6, .obj [oR eTok x65.f_g.Toks, oR eNon s78.1, oR eProd_0 x65.f_g.Prods, SS x65.f_g.Pro, SS x65.f_g.Tail, oR eB x65.f_given, oR eNon x65.f_types, oR eS x65.f_lefts, I64 x65.f_e, I64 x65.f_at, SS x65.f_name, I64 x65.f_level, I64 x65.f_inner]), (18, I64 s78.2)]) 14 (fun (x79 : List Non) => [(1, .obj [SS a0.Pro, iR eDecl_0 a0.Decls, iR eRule_0 a0.Rules, SS a0.Tail]), (2, .obj [.nils, .nils, .nils, SS ({ data := #[] }), SS ({ data := #[] })]), (6, .obj [oR eTok x65.f_g.Toks, oR eNon x79, oR eProd_0 x65.f_g.Prods, SS x65.f_g.Pro, SS x65.f_g.Tail, oR eB x65.f_given, oR eNon x65.f_types, oR eS x65.f_lefts, I64 x65.f_e, I64 x65.f_at, SS x65.f_name, I64 x65.f_level, I64 x65.f_inner])]) hl (fun s78 o h => ?_) ?_
      · clear hl
        refine W.sq' ?_
        refine W.sq' ?_
        refine W.rx [(1, _), (2, _), (6, _), (18, _), (278, _)] (Rv (O.mv (.lit rfl)) <| Rv (O.mv (.obj rfl)) <| Rv (O.nlP (.ptr rfl)) <| Rv (O.fO rfl (.ptr rfl) fd128_3 rfl) <| Rv (O.ldO (y := .brw eS.z ⟨6, [7]⟩ x65.f_lefts.length) rfl (.ptr rfl) ct61 rfl rfl) <| Rv (O.lenO (.brw rfl) sl61) <| Rv (O.lss (.lit rfl) (.lit rfl)) <| RunL.fin (.n rfl (.n rfl (.n rfl (.n rfl (.n rfl .nil)))))) ?_
        refine Px.sq ?_
        refine W.cnd rfl (fun hb81 => ?_) (fun hb81 => ?_)
        · replace h := cndT hb81 h
          refine W.sk ?_
          refine Px.sq ?_
          refine W.sq' ?_
          refine W.bk ?_
          refine W.sq' ?_
          obtain ⟨x82, hx82, h⟩ := bnd h
          refine W.rx [(1, _), (2, _), (6, _), (18, _), (19, _)] (Rv (O.mv (.obj rfl)) <| Rv (O.nlP (.ptr rfl)) <| Rv (O.fO rfl (.ptr rfl) fd128_3 rfl) <| Rv (O.ldO (y := .brw eS.z ⟨6, [7]⟩ x65.f_lefts.length) rfl (.ptr rfl) ct61 rfl rfl) <| Rv (O.mv (.lit rfl)) <| Rv (O.ixO (en := eS) rfl (.brw rfl) (.lit rfl) sl61 hx82 rfl) <| Rv (O.ldE (en := eS) (x' := SS x82) rfl (.ptr rfl) ct9 hx82 rfl rfl) <| Rv (O.bu (cs := [SS x82, SS ({ data := #[] })]) sc135 ze135 rfl rfl rfl) <| Rv (O.al (cs := [SS ({ data := #[] }), SS ({ data := #[] })]) ze135 rfl rfl) <| RunL.sO (G2 := [(1, .obj [SS a0.Pro, iR eDecl_0 a0.Decls, iR eRule_0 a0.Rules, SS a0.Tail]), (2, .obj [.nils, .nils, .nils, SS ({ data := #[] }), SS ({ data := #[] })]), (6, .obj [oR eTok x65.f_g.Toks, oR eNon s78.1, oR eProd_0 x65.f_g.Prods, SS x65.f_g.Pro, SS x65.f_g.Tail, oR eB x65.f_given, oR eNon x65.f_types, oR eS x65.f_lefts, I64 x65.f_e, I64 x65.f_at, SS x65.f_name, I64 x65.f_level, I64 x65.f_inner]), (18, I64 s78.2), (19, .obj [SS x82, SS ({ data := #[] })])]) (cs2 := [SS x82, SS ({ data := #[] })]) rfl (.obj rfl) (.aggF rfl rfl) rfl sz135 rfl rfl rfl rfl (.n rfl rfl (.n rfl rfl (.n rfl rfl (.n rfl rfl (.b rfl .nil))))) <| RunL.fin (.n rfl (.n rfl (.n rfl (.n rfl (.n rfl .nil)))))) ?_
          refine Px.sq ?_
          refine W.sq' ?_
          refine W.sq' ?_
          obtain ⟨x83, hx83, h⟩ := bnd h
          refine W.rx [(1, _), (2, _), (6, _), (18, _), (19, _), (20, _)] (Rv (O.mv (.obj rfl)) <| Rv (O.fO rfl (.obj rfl) fd135_0 rfl) <| Rv (O.ldO (y := SS x82) rfl (.ptr rfl) ct9 rfl rfl) <| Rc (PC.vw (ys := [.ptr ⟨6, []⟩ 0, SS x82]) rfl (.c (View.p0 rfl rfl) (.s .nil)) (con69 (⟨(⟨x65.f_g.Toks, s78.1, x65.f_g.Prods, x65.f_g.Pro, x65.f_g.Tail⟩ : Grammar), x65.f_given, x65.f_types, x65.f_lefts, x65.f_e, x65.f_at, x65.f_name, x65.f_level, x65.f_inner⟩ : yuccaref9_maker) x82 _ hx83) call69 rfl) <| Rv (O.as (.lit rfl)) <| RunL.fin (.n rfl (.n rfl (.n rfl (.n rfl (.n rfl (.n rfl .nil))))))) ?_
          refine Px.sq ?_
          refine W.sq' ?_
          refine W.rx [(1, _), (2, _), (6, _), (18, _), (19, _), (20, _), (294, _)] (Rv (O.mv (.lit rfl)) <| Rv (O.geq (.lit rfl) (.k rfl)) <| RunL.fin (.n rfl (.n rfl (.n rfl (.n rfl (.n rfl (.n rfl (.n rfl .nil)))))))) ?_
          refine Px.sq ?_
          obtain ⟨j84, hj, h⟩ := bnd h
          refine W.jn [(1, .obj [SS a0.Pro, iR eDecl_0 a0.Decls, iR eRule_0 a0.Rules, SS a0.Tail]), (2, .obj [.nils, .nils, .nils, SS ({ data := #[] }), SS ({ data := #[] })]), (6, .obj [oR eTok x65.f_g.Toks, oR eNon s78.1, oR eProd_0 x65.f_g.Prods, SS x65.f_g.Pro, SS x65.f_g.Tail, oR eB x65.f_given, oR eNon x65.f_types, oR eS x65.f_lefts, I64 x65.f_e, I64 x65.f_at, SS x65.f_name, I64 x65.f_level, I64 x65.f_inner]), (18, I64 s78.2), (19, .obj [SS x82, SS j84])] ?_ ?_
          · clear h; have h := hj; clear hj
            refine W.cnd rfl (fun hb85 => ?_) (fun hb85 => ?_)
            · replace h := cndT hb85 h
              obtain ⟨x86, hx86, h⟩ := bnd h
              refine W.rx [(1, _), (2, _), (6, _), (18, _), (19, _)] (Rv (O.mv (.obj rfl)) <| Rv (O.nlP (.ptr rfl)) <| Rv (O.fO rfl (.ptr rfl) fd128_2 rfl) <| Rv (O.ldO (y := .brw eNon.z ⟨6, [6]⟩ x65.f_types.length) rfl (.ptr rfl) ct35 rfl rfl) <| Rv (O.mv (.lit rfl)) <| Rv (O.ixO (en := eNon) rfl (.brw rfl) (.lit rfl) sl35 hx86 rfl) <| Rv (O.fE (en := eNon) rfl (.ptr rfl) fd135_1 hx86 rfl rfl) <| Rv (O.ldE (en := eNon) (x' := SS x86.Tag) rfl (.ptr rfl) ct9 hx86 rfl rfl) <| Rv (O.fO rfl (.obj rfl) fd135_1 rfl) <| RunL.sO (G2 := [(1, .obj [SS a0.Pro, iR eDecl_0 a0.Decls, iR eRule_0 a0.Rules, SS a0.Tail]), (2, .obj [.nils, .nils, .nils, SS ({ data := #[] }), SS ({ data := #[] })]), (6, .obj [oR eTok x65.f_g.Toks, oR eNon s78.1, oR eProd_0 x65.f_g.Prods, SS x65.f_g.Pro, SS x65.f_g.Tail, oR eB x65.f_given, oR eNon x65.f_types, oR eS x65.f_lefts, I64 x65.f_e, I64 x65.f_at, SS x65.f_name, I64 x65.f_level, I64 x65.f_inner]), (18, I64 s78.2), (19, .obj [SS x82, SS x86.Tag])]) (cs2 := [SS x82, SS x86.Tag]) rfl (.ptr rfl) (.lit rfl) rfl sz9 rfl rfl rfl rfl (.n rfl rfl (.n rfl rfl (.n rfl rfl (.n rfl rfl (.b rfl .nil))))) <| RunL.fin (.n rfl (.n rfl (.n rfl (.n rfl (.n rfl .nil)))))) ?_
              obtain rfl := sm h
              exact Px.jn (.n rfl (.n rfl (.n rfl (.n rfl (.n rfl .nil)))))
            · replace h := cndF hb85 h
              refine W.sk ?_
              obtain rfl := sm h
              exact Px.jn (.n rfl (.n rfl (.n rfl (.n rfl (.n rfl .nil)))))
          refine Px.sq ?_
          obtain ⟨x87, hx87, h⟩ := bnd h
          refine W.rd [[], [], [1], [1, 2], [1, 2, 3], [1, 2, 3, 4], [], [6], rn 1 7 [], rn 0 9 [], rn 0 10 [], rn 0 11 [], rn 0 12 []] [(1, _), (2, _), (6, _), (18, _)] mixo (by kernel_rfl) (Dv 0 (O.mv (.obj rfl)) <| Dv 1 (O.mv (.obj rfl)) <| Dv 2 (O.nlP (.ptr rfl)) <| Dv 3 (O.fO rfl (.ptr rfl) fd128_0 rfl) <| Dv 4 (O.fO rfl (.ptr rfl) fd38_1 rfl) <| Dv 5 (O.ldO (y := .brw eNon.z ⟨6, [1]⟩ s78.1.length) rfl (.ptr rfl) ct35 rfl rfl) <| Dv 6 (O.ldON (cs' := [SS x82, SS j84]) rfl (.obj rfl) at135 rfl rfl) <| DL.vi 7 (x := iR eNon [(⟨x82, j84⟩ : Non)]) (O.bs (ys := [.agg [SS x82, SS j84]]) eNon [(⟨x82, j84⟩ : Non)] sl35 rfl rfl rfl rfl rfl rfl zt135 rfl rfl) rfl rfl rfl rfl .none <| Dv 8 (O.ap (en := eNon) (r := x87) (.brw rfl) rfl (.imm rfl) .i ap35 rfl hx87) <| Dv 9 (O.nlP (.ptr rfl)) <| Dv 10 (O.fO rfl (.ptr rfl) fd128_0 rfl) <| Dv 11 (O.fO rfl (.ptr rfl) fd38_1 rfl) <| DL.bp 12 (G2 := [(1, .obj [SS a0.Pro, iR eDecl_0 a0.Decls, iR eRule_0 a0.Rules, SS a0.Tail]), (2, .obj [.nils, .nils, .nils, SS ({ data := #[] }), SS ({ data := #[] })]), (6, .obj [oR eTok x65.f_g.Toks, oR eNon (s78.1 ++ [(⟨x82, j84⟩ : Non)]), oR eProd_0 x65.f_g.Prods, SS x65.f_g.Pro, SS x65.f_g.Tail, oR eB x65.f_given, oR eNon x65.f_types, oR eS x65.f_lefts, I64 x65.f_e, I64 x65.f_at, SS x65.f_name, I64 x65.f_level, I64 x65.f_inner]), (18, I64 s78.2)]) (EO.stP (g1 := _) (en := eNon) (M := [(⟨x82, j84⟩ : Non)]) (cs2 := [oR eTok x65.f_g.Toks, oR eNon (s78.1 ++ [(⟨x82, j84⟩ : Non)]), oR eProd_0 x65.f_g.Prods, SS x65.f_g.Pro, SS x65.f_g.Tail, oR eB x65.f_given, oR eNon x65.f_types, oR eS x65.f_lefts, I64 x65.f_e, I64 x65.f_at, SS x65.f_name, I64 x65.f_level, I64 x65.f_inner]) rfl rfl (.ptr rfl) (.pend rfl) rfl rfl rfl .ns .rf rfl rfl sz35 rfl rfl rfl rfl (.n rfl rfl (.n rfl rfl (.b rfl (.n rfl rfl .nil))))) rfl rfl rfl rfl (by kernel_rfl) (by kernel_rfl) <| DL.fin rfl rfl rfl (.n rfl (.n rfl (.n rfl (.n rfl .nil))))) ?_
          refine Px.bk ?_
          refine Px.sq ?_
          refine W.rx [(1, _), (2, _), (6, _), (18, _)] (Rv (O.mv (.lit rfl)) <| Rv (O.add (.lit rfl) (.k rfl)) <| RunL.re (G1 := [(1, .obj [SS a0.Pro, iR eDecl_0 a0.Decls, iR eRule_0 a0.Rules, SS a0.Tail]), (2, .obj [.nils, .nils, .nils, SS ({ data := #[] }), SS ({ data := #[] })]), (6, .obj [oR eTok x65.f_g.Toks, oR eNon (s78.1 ++ [(⟨x82, j84⟩ : Non)]), oR eProd_0 x65.f_g.Prods, SS x65.f_g.Pro, SS x65.f_g.Tail, oR eB x65.f_given, oR eNon x65.f_types, oR eS x65.f_lefts, I64 x65.f_e, I64 x65.f_at, SS x65.f_name, I64 x65.f_level, I64 x65.f_inner]), (280, I64 (w64 (s78.2 + 1)))]) (.n rfl (.n rfl (.n rfl (.n rfl .nil)))) <| Rv (O.as (.lit rfl)) <| RunL.fin (.n rfl (.n rfl (.n rfl (.n rfl .nil))))) ?_
          obtain rfl := sm h
          exact Px.go (.n rfl (.n rfl (.n rfl (.n rfl .nil))))
        · replace h := cndF hb81 h
          refine W.xi ?_
          refine Px.sqE ?_
          obtain rfl := sm h
          exact Px.x1 (.n rfl (.n rfl (.n rfl .nil)))
      refine Px.bkH ?_
      refine Px.sq ?_
      refine W.sq' ?_
      refine W.sq' ?_
      refine W.rx [(1, _), (2, _), (6, _), (21, _)] (Rv (O.as (.k rfl)) <| RunL.fin (.n rfl (.n rfl (.n rfl (.n rfl .nil))))) ?_
      refine Px.sq ?_
      refine W.bk ?_
      obtain ⟨x89, hl, h⟩ := bnd h
      refine W.tr (G1 := [(1, .obj [SS a0.Pro, iR eDecl_0 a0.Decls, iR eRule_0 a0.Rules, SS a0.Tail]), (2, .obj [.nils, .nils, .nils, SS ({ data := #[] }), SS ({ data := #[] })]), (6, .obj [oR eTok x65.f_g.Toks, oR eNon x79, oR eProd_0 x65.f_g.Prods, SS x65.f_g.Pro, SS x65.f_g.Tail, oR eB x65.f_given, oR eNon x65.f_types, oR eS x65.f_lefts, I64 x65.f_e, I64 x65.f_at, SS x65.f_name, I64 x65.f_level, I64 x65.f_inner]), (21, I64 1)]) (.n rfl (.n rfl (.n rfl (.n rfl .nil)))) ?_
      refine W.lp1 (s := (x79, 1)) (fun (s88 : List Non × Int) => [(1, .obj [SS a0.Pro, iR eDecl_0 a0.Decls, iR eRule_0 a0.Rules, SS a0.Tail]), (2, .obj [.nils, .nils, .nils, SS ({ data := #[] }), SS ({ data := #[] })]), (6, .obj [oR eTok x65.f_g.Toks, oR eNon s88.1, oR eProd_0 x65.f_g.Prods, SS x65.f_g.Pro, SS x65.f_g.Tail, oR eB x65.f_given, oR eNon x65.f_types, oR eS x65.f_lefts, I64 x65.f_e, I64 x65.f_at, SS x65.f_name, I64 x65.f_level, I64 x65.f_inner]), (21, I64 s88.2)]) 16 (fun (x89 : List Non) => [(1, .obj [SS a0.Pro, iR eDecl_0 a0.Decls, iR eRule_0 a0.Rules, SS a0.Tail]), (2, .obj [.nils, .nils, .nils, SS ({ data := #[] }), SS ({ data := #[] })]), (6, .obj [oR eTok x65.f_g.Toks, oR eNon x89, oR eProd_0 x65.f_g.Prods, SS x65.f_g.Pro, SS x65.f_g.Tail, oR eB x65.f_given, oR eNon x65.f_types, oR eS x65.f_lefts, I64 x65.f_e, I64 x65.f_at, SS x65.f_name, I64 x65.f_level, I64 x65.f_inner])]) hl (fun s88 o h => ?_) ?_
      · clear hl
        refine W.sq' ?_
        refine W.sq' ?_
        refine W.rx [(1, _), (2, _), (6, _), (21, _), (321, _)] (Rv (O.mv (.lit rfl)) <| Rv (O.mv (.obj rfl)) <| Rv (O.nlP (.ptr rfl)) <| Rv (O.fO rfl (.ptr rfl) fd128_8 rfl) <| Rv (O.ldO (y := I64 x65.f_inner) rfl (.ptr rfl) ct3 rfl rfl) <| Rv (O.leq (.lit rfl) (.lit rfl)) <| RunL.fin (.n rfl (.n rfl (.n rfl (.n rfl (.n rfl .nil)))))) ?_
        refine Px.sq ?_
        refine W.cnd rfl (fun hb91 => ?_) (fun hb91 => ?_)
        · replace h := cndT hb91 h
          refine W.sk ?_
          refine Px.sq ?_
          refine W.sq' ?_
          refine W.bk ?_
          obtain ⟨x92, hx92, h⟩ := bnd h
          obtain ⟨x93, hx93, h⟩ := bnd h
          obtain ⟨x94, hx94, h⟩ := bnd h
          refine W.rd [[], [], [1], [1, 2], [1, 2, 3], [1, 2, 3, 4], [], [6], [6, 7], [6, 7, 8], [6, 7, 8, 9], rn 1 10 [], rn 0 12 [], rn 0 13 [], rn 0 14 [], rn 0 15 []] [(1, _), (2, _), (6, _), (21, _)] mixo (by kernel_rfl) (Dv 0 (O.mv (.obj rfl)) <| Dv 1 (O.mv (.obj rfl)) <| Dv 2 (O.nlP (.ptr rfl)) <| Dv 3 (O.fO rfl (.ptr rfl) fd128_0 rfl) <| Dv 4 (O.fO rfl (.ptr rfl) fd38_1 rfl) <| Dv 5 (O.ldO (y := .brw eNon.z ⟨6, [1]⟩ s88.1.length) rfl (.ptr rfl) ct35 rfl rfl) <| Dv 6 (O.mv (.lit rfl)) <| Dc 7 (PC.go (.cc (.lit rfl) .nil) (con52 s88.2 _ hx92) call52 rfl) <| Dv 8 (O.cat (.k rfl) (.lit rfl) hx93) <| Dv 9 (O.bu (cs := [SS x93, SS ({ data := #[] })]) sc135 ze135 rfl rfl rfl) <| DL.vi 10 (x := iR eNon [(⟨x93, { data := #[] }⟩ : Non)]) (O.bs (ys := [.agg [SS x93, SS ({ data := #[] })]]) eNon [(⟨x93, { data := #[] }⟩ : Non)] sl35 rfl rfl rfl rfl rfl rfl zt135 rfl rfl) rfl rfl rfl rfl .none <| Dv 11 (O.ap (en := eNon) (r := x94) (.brw rfl) rfl (.imm rfl) .i ap35 rfl hx94) <| Dv 12 (O.nlP (.ptr rfl)) <| Dv 13 (O.fO rfl (.ptr rfl) fd128_0 rfl) <| Dv 14 (O.fO rfl (.ptr rfl) fd38_1 rfl) <| DL.bp 15 (G2 := [(1, .obj [SS a0.Pro, iR eDecl_0 a0.Decls, iR eRule_0 a0.Rules, SS a0.Tail]), (2, .obj [.nils, .nils, .nils, SS ({ data := #[] }), SS ({ data := #[] })]), (6, .obj [oR eTok x65.f_g.Toks, oR eNon (s88.1 ++ [(⟨x93, { data := #[] }⟩ : Non)]), oR eProd_0 x65.f_g.Prods, SS x65.f_g.Pro, SS x65.f_g.Tail, oR eB x65.f_given, oR eNon x65.f_types, oR eS x65.f_lefts, I64 x65.f_e, I64 x65.f_at, SS x65.f_name, I64 x65.f_level, I64 x65.f_inner]), (21, I64 s88.2)]) (EO.stP (g1 := _) (en := eNon) (M := [(⟨x93, { data := #[] }⟩ : Non)]) (cs2 := [oR eTok x65.f_g.Toks, oR eNon (s88.1 ++ [(⟨x93, { data := #[] }⟩ : Non)]), oR eProd_0 x65.f_g.Prods, SS x65.f_g.Pro, SS x65.f_g.Tail, oR eB x65.f_given, oR eNon x65.f_types, oR eS x65.f_lefts, I64 x65.f_e, I64 x65.f_at, SS x65.f_name, I64 x65.f_level, I64 x65.f_inner]) rfl rfl (.ptr rfl) (.pend rfl) rfl rfl rfl .ns .rf rfl rfl sz35 rfl rfl rfl rfl (.n rfl rfl (.n rfl rfl (.b rfl (.n rfl rfl .nil))))) rfl rfl rfl rfl (by kernel_rfl) (by kernel_rfl) <| DL.fin rfl rfl rfl (.n rfl (.n rfl (.n rfl (.n rfl .nil))))) ?_
          refine Px.bk ?_
          refine Px.sq ?_
          refine W.rx [(1, _), (2, _), (6, _), (21, _)] (Rv (O.mv (.lit rfl)) <| Rv (O.add (.lit rfl) (.k rfl)) <| RunL.re (G1 := [(1, .obj [SS a0.Pro, iR eDecl_0 a0.Decls, iR eRule_0 a0.Rules, SS a0.Tail]), (2, .obj [.nils, .nils, .nils, SS ({ data := #[] }), SS ({ data := #[] })]), (6, .obj [oR eTok x65.f_g.Toks, oR eNon (s88.1 ++ [(⟨x93, { data := #[] }⟩ : Non)]), oR eProd_0 x65.f_g.Prods, SS x65.f_g.Pro, SS x65.f_g.Tail, oR eB x65.f_given, oR eNon x65.f_types, oR eS x65.f_lefts, I64 x65.f_e, I64 x65.f_at, SS x65.f_name, I64 x65.f_level, I64 x65.f_inner]), (323, I64 (w64 (s88.2 + 1)))]) (.n rfl (.n rfl (.n rfl (.n rfl .nil)))) <| Rv (O.as (.lit rfl)) <| RunL.fin (.n rfl (.n rfl (.n rfl (.n rfl .nil))))) ?_
          obtain rfl := sm h
          exact Px.go (.n rfl (.n rfl (.n rfl (.n rfl .nil))))
        · replace h := cndF hb91 h
          refine W.xi ?_
          refine Px.sqE ?_
          obtain rfl := sm h
          exact Px.x1 (.n rfl (.n rfl (.n rfl .nil)))
      refine Px.bkH ?_
      refine Px.sq ?_
      refine W.sq' ?_
      refine W.rx [(1, _), (2, _), (6, _), (22, _)] (Rv (O.as (.k rfl)) <| RunL.fin (.n rfl (.n rfl (.n rfl (.n rfl .nil))))) ?_
      refine Px.sq ?_
      refine W.sq' ?_
      refine W.sq' ?_
      refine W.rx [(1, _), (2, _), (6, _), (22, _), (23, _)] (Rv (O.as (.k rfl)) <| RunL.fin (.n rfl (.n rfl (.n rfl (.n rfl (.n rfl .nil)))))) ?_
      refine Px.sq ?_
      refine W.bk ?_
      obtain ⟨x96, hl, h⟩ := bnd h
      refine W.tr (G1 := [(1, .obj [SS a0.Pro, iR eDecl_0 a0.Decls, iR eRule_0 a0.Rules, SS a0.Tail]), (2, .obj [.nils, .nils, .nils, SS ({ data := #[] }), SS ({ data := #[] })]), (6, .obj [oR eTok x65.f_g.Toks, oR eNon x89, oR eProd_0 x65.f_g.Prods, SS x65.f_g.Pro, SS x65.f_g.Tail, oR eB x65.f_given, oR eNon x65.f_types, oR eS x65.f_lefts, I64 x65.f_e, I64 x65.f_at, SS x65.f_name, I64 x65.f_level, I64 x65.f_inner]), (22, I64 57346), (23, I64 3)]) (.n rfl (.n rfl (.n rfl (.n rfl (.n rfl .nil))))) ?_
      refine W.lp1 (s := (x65.f_g.Toks, 57346, 3)) (fun (s95 : List Tok × Int × Int) => [(1, .obj [SS a0.Pro, iR eDecl_0 a0.Decls, iR eRule_0 a0.Rules, SS a0.Tail]), (2, .obj [.nils, .nils, .nils, SS ({ data := #[] }), SS ({ data := #[] })]), (6, .obj [oR eTok s95.1, oR eNon x89, oR eProd_0 x65.f_g.Prods, SS x65.f_g.Pro, SS x65.f_g.Tail, oR eB x65.f_given, oR eNon x65.f_types, oR eS x65.f_lefts, I64 x65.f_e, I64 x65.f_at, SS x65.f_name, I64 x65.f_level, I64 x65.f_inner]), (22, I64 s95.2.1), (23, I64 s95.2.2)]) 18 (fun (x96 : List Tok) => [(1, .obj [SS a0.Pro, iR eDecl_0 a0.Decls, iR eRule_0 a0.Rules, SS a0.Tail]), (2, .obj [.nils, .nils, .nils, SS ({ data := #[] }), SS ({ data := #[] })]), (6, .obj [oR eTok x96, oR eNon x89, oR eProd_0 x65.f_g.Prods, SS x65.f_g.Pro, SS x65.f_g.Tail, oR eB x65.f_given, oR eNon x65.f_types, oR eS x65.f_lefts, I64 x65.f_e, I64 x65.f_at, SS x65.f_name, I64 x65.f_level, I64 x65.f_inner])]) hl (fun s95 o h => ?_) ?_
      · clear hl
        refine W.sq' ?_
        refine W.sq' ?_
        refine W.rx [(1, _), (2, _), (6, _), (22, _), (23, _), (346, _)] (Rv (O.mv (.lit rfl)) <| Rv (O.mv (.obj rfl)) <| Rv (O.nlP (.ptr rfl)) <| Rv (O.fO rfl (.ptr rfl) fd128_0 rfl) <| Rv (O.fO rfl (.ptr rfl) fd38_0 rfl) <| Rv (O.ldO (y := .brw eTok.z ⟨6, [0]⟩ s95.1.length) rfl (.ptr rfl) ct34 rfl rfl) <| Rv (O.lenO (.brw rfl) sl34) <| Rv (O.lss (.lit rfl) (.lit rfl)) <| RunL.fin (.n rfl (.n rfl (.n rfl (.n rfl (.n rfl (.n rfl .nil))))))) ?_
        refine Px.sq ?_
        refine W.cnd rfl (fun hb98 => ?_) (fun hb98 => ?_)
        · replace h := cndT hb98 h
          refine W.sk ?_
          refine Px.sq ?_
          refine W.sq' ?_
          obtain ⟨j99, hj, h⟩ := bnd h
          refine W.jn [(1, .obj [SS a0.Pro, iR eDecl_0 a0.Decls, iR eRule_0 a0.Rules, SS a0.Tail]), (2, .obj [.nils, .nils, .nils, SS ({ data := #[] }), SS ({ data := #[] })]), (6, .obj [oR eTok j99.1, oR eNon x89, oR eProd_0 x65.f_g.Prods, SS x65.f_g.Pro, SS x65.f_g.Tail, oR eB x65.f_given, oR eNon x65.f_types, oR eS x65.f_lefts, I64 x65.f_e, I64 x65.f_at, SS x65.f_name, I64 x65.f_level, I64 x65.f_inner]), (22, I64 j99.2), (23, I64 s95.2.2)] ?_ ?_
          · clear h; have h := hj; clear hj
            refine W.bk ?_
            refine W.sq' ?_
            obtain ⟨x100, hx100, h⟩ := bnd h
            refine W.rx [(1, _), (2, _), (6, _), (22, _), (23, _), (356, _)] (Rv (O.mv (.obj rfl)) <| Rv (O.nlP (.ptr rfl)) <| Rv (O.fO rfl (.ptr rfl) fd128_1 rfl) <| Rv (O.ldO (y := .brw eB.z ⟨6, [5]⟩ x65.f_given.length) rfl (.ptr rfl) ct102 rfl rfl) <| Rv (O.mv (.lit rfl)) <| Rv (O.ixO (en := eB) rfl (.brw rfl) (.lit rfl) sl102 hx100 rfl) <| Rv (O.ldE (en := eB) (x' := BB x100) rfl (.ptr rfl) ct4 hx100 rfl rfl) <| Rv (O.not (.lit rfl)) <| RunL.fin (.n rfl (.n rfl (.n rfl (.n rfl (.n rfl (.n rfl .nil))))))) ?_
            refine Px.sq ?_
            obtain ⟨j101, hj, h⟩ := bnd h
            refine W.jn [(1, .obj [SS a0.Pro, iR eDecl_0 a0.Decls, iR eRule_0 a0.Rules, SS a0.Tail]), (2, .obj [.nils, .nils, .nils, SS ({ data := #[] }), SS ({ data := #[] })]), (6, .obj [oR eTok j101.1, oR eNon x89, oR eProd_0 x65.f_g.Prods, SS x65.f_g.Pro, SS x65.f_g.Tail, oR eB x65.f_given, oR eNon x65.f_types, oR eS x65.f_lefts, I64 x65.f_e, I64 x65.f_at, SS x65.f_name, I64 x65.f_level, I64 x65.f_inner]), (22, I64 j101.2), (23, I64 s95.2.2)] ?_ ?_
            · clear h; have h := hj; clear hj
              refine W.cnd rfl (fun hb102 => ?_) (fun hb102 => ?_)
              · replace h := cndT hb102 h
                refine W.sq' ?_
                obtain ⟨x103, hx103, h⟩ := bnd h
                refine W.rx [(1, _), (2, _), (6, _), (22, _), (23, _)] (Rv (O.mv (.obj rfl)) <| Rv (O.nlP (.ptr rfl)) <| Rv (O.fO rfl (.ptr rfl) fd128_0 rfl) <| Rv (O.fO rfl (.ptr rfl) fd38_0 rfl) <| Rv (O.ldO (y := .brw eTok.z ⟨6, [0]⟩ s95.1.length) rfl (.ptr rfl) ct34 rfl rfl) <| Rv (O.mv (.lit rfl)) <| Rv (O.mv (.lit rfl)) <| Rv (O.ixO (en := eTok) rfl (.brw rfl) (.lit rfl) sl34 hx103 rfl) <| Rv (O.fE (en := eTok) rfl (.ptr rfl) fd52_2 hx103 rfl rfl) <| RunL.ef (G2 := [(1, .obj [SS a0.Pro, iR eDecl_0 a0.Decls, iR eRule_0 a0.Rules, SS a0.Tail]), (2, .obj [.nils, .nils, .nils, SS ({ data := #[] }), SS ({ data := #[] })]), (6, .obj [oR eTok (s95.1.set s95.2.2.toNat (⟨x103.Name, x103.Lit, s95.2.1, x103.Level, x103.Assoc, x103.Tag⟩ : Tok)), oR eNon x89, oR eProd_0 x65.f_g.Prods, SS x65.f_g.Pro, SS x65.f_g.Tail, oR eB x65.f_given, oR eNon x65.f_types, oR eS x65.f_lefts, I64 x65.f_e, I64 x65.f_at, SS x65.f_name, I64 x65.f_level, I64 x65.f_inner]), (22, I64 s95.2.1), (23, I64 s95.2.2)]) rfl (EO.stE (en := eTok) (y2 := (⟨x103.Name, x103.Lit, s95.2.1, x103.Level, x103.Assoc, x103.Tag⟩ : Tok)) (cs' := [I64 s95.2.1]) (x2 := .obj [oR eTok (s95.1.set s95.2.2.toNat (⟨x103.Name, x103.Lit, s95.2.1, x103.Level, x103.Assoc, x103.Tag⟩ : Tok)), oR eNon x89, oR eProd_0 x65.f_g.Prods, SS x65.f_g.Pro, SS x65.f_g.Tail, oR eB x65.f_given, oR eNon x65.f_types, oR eS x65.f_lefts, I64 x65.f_e, I64 x65.f_at, SS x65.f_name, I64 x65.f_level, I64 x65.f_inner]) rfl rfl (.ptr rfl) (.lit rfl) rfl hx103 sz3 rfl rfl rfl rfl rfl rfl rfl (.n rfl rfl (.n rfl rfl (.b rfl (.n rfl rfl (.n rfl rfl .nil)))))) <| RunL.fin (.n rfl (.n rfl (.n rfl (.n rfl (.n rfl .nil)))))) ?_
                refine Px.sq ?_
                refine W.rx [(1, _), (2, _), (6, _), (22, _), (23, _)] (Rv (O.mv (.lit rfl)) <| Rv (O.add (.lit rfl) (.k rfl)) <| RunL.re (G1 := [(1, .obj [SS a0.Pro, iR eDecl_0 a0.Decls, iR eRule_0 a0.Rules, SS a0.Tail]), (2, .obj [.nils, .nils, .nils, SS ({ data := #[] }), SS ({ data := #[] })]), (6, .obj [oR eTok (s95.1.set s95.2.2.toNat (⟨x103.Name, x103.Lit, s95.2.1, x103.Level, x103.Assoc, x103.Tag⟩ : Tok)), oR eNon x89, oR eProd_0 x65.f_g.Prods, SS x65.f_g.Pro, SS x65.f_g.Tail, oR eB x65.f_given, oR eNon x65.f_types, oR eS x65.f_lefts, I64 x65.f_e, I64 x65.f_at, SS x65.f_name, I64 x65.f_level, I64 x65.f_inner]), (23, I64 s95.2.2), (367, I64 (w64 (s95.2.1 + 1)))]) (.n rfl (.n rfl (.n rfl (.n rfl (.n rfl .nil))))) <| Rv (O.as (.lit rfl)) <| RunL.fin (.n rfl (.n rfl (.n rfl (.n rfl (.n rfl .nil)))))) ?_
                obtain rfl := sm h
                exact Px.jn (.n rfl (.n rfl (.n rfl (.n rfl (.n rfl .nil)))))
              · replace h := cndF hb102 h
                refine W.sk ?_
                obtain rfl := sm h
                exact Px.jn (.n rfl (.n rfl (.n rfl (.n rfl (.n rfl .nil)))))
            refine Px.bk ?_
            obtain rfl := sm h
            exact Px.jn (.n rfl (.n rfl (.n rfl (.n rfl (.n rfl .nil)))))
          refine Px.sq ?_
          refine W.rx [(1, _), (2, _), (6, _), (22, _), (23, _)] (Rv (O.mv (.lit rfl)) <| Rv (O.add (.lit rfl) (.k rfl)) <| RunL.re (G1 := [(1, .obj [SS a0.Pro, iR eDecl_0 a0.Decls, iR eRule_0 a0.Rules, SS a0.Tail]), (2, .obj [.nils, .nils, .nils, SS ({ data := #[] }), SS ({ data := #[] })]), (6, .obj [oR eTok j99.1, oR eNon x89, oR eProd_0 x65.f_g.Prods, SS x65.f_g.Pro, SS x65.f_g.Tail, oR eB x65.f_given, oR eNon x65.f_types, oR eS x65.f_lefts, I64 x65.f_e, I64 x65.f_at, SS x65.f_name, I64 x65.f_level, I64 x65.f_inner]), (22, I64 j99.2), (348, I64 (w64 (s95.2.2 + 1)))]) (.n rfl (.n rfl (.n rfl (.n rfl (.n rfl .nil))))) <| Rv (O.as (.lit rfl)) <| RunL.fin (.n rfl (.n rfl (.n rfl (.n rfl (.n rfl .nil)))))) ?_
          obtain rfl := sm h
          exact Px.go (.n rfl (.n rfl (.n rfl (.n rfl (.n rfl .nil)))))
        · replace h := cndF hb98 h
          refine W.xi ?_
          refine Px.sqE ?_
          obtain rfl := sm h
          exact Px.x1 (.n rfl (.n rfl (.n rfl .nil)))
      refine Px.bkH ?_
      refine Px.sq ?_
      refine W.sq' ?_
      obtain ⟨c106, hj, h⟩ := bnd h
      refine W.rx [(1, .obj [SS a0.Pro, iR eDecl_0 a0.Decls, iR eRule_0 a0.Rules, SS a0.Tail]), (2, .obj [.nils, .nils, .nils, SS ({ data := #[] }), SS ({ data := #[] })]), (6, .obj [oR eTok x96, oR eNon x89, oR eProd_0 x65.f_g.Prods, SS x65.f_g.Pro, SS x65.f_g.Tail, oR eB x65.f_given, oR eNon x65.f_types, oR eS x65.f_lefts, I64 x65.f_e, I64 x65.f_at, SS x65.f_name, I64 x65.f_level, I64 x65.f_inner]), (24, BB c106)] ?_ ?_
      · refine Rv (O.mv (.obj rfl)) <| Rv (O.nlP (.ptr rfl)) <| Rv (O.fO rfl (.ptr rfl) fd128_0 rfl) <| Rv (O.fO rfl (.ptr rfl) fd38_0 rfl) <| Rv (O.ldO (y := .brw eTok.z ⟨6, [0]⟩ x96.length) rfl (.ptr rfl) ct34 rfl rfl) <| Rv (O.lenO (.brw rfl) sl34) <| Rv (O.gtr (.lit rfl) (.k rfl)) <| Rv (O.mv (.lit rfl)) ?_
        rcases cnd hj with ⟨hb104, hj⟩ | ⟨hb104, hj⟩
        · obtain rfl := sm hj
          exact RunL.ps rfl rfl hb104 rfl rfl <| RunL.ps rfl rfl hb104 rfl rfl <| RunL.ps rfl rfl hb104 rfl rfl <| RunL.ps rfl rfl hb104 rfl rfl <| RunL.ps rfl rfl hb104 rfl rfl <| RunL.ps rfl rfl hb104 rfl rfl <| RunL.ps rfl rfl hb104 rfl rfl <| Rv (O.pkT (.lit rfl) hb104 (.k rfl)) <| Rv (O.mv (.lit rfl)) <| RunL.ps rfl rfl rfl rfl rfl <| RunL.ps rfl rfl rfl rfl rfl <| RunL.ps rfl rfl rfl rfl rfl <| RunL.ps rfl rfl rfl rfl rfl <| RunL.ps rfl rfl rfl rfl rfl <| RunL.ps rfl rfl rfl rfl rfl <| RunL.ps rfl rfl rfl rfl rfl <| Rv (O.pkT (.lit rfl) rfl (.k rfl)) <| Rv (O.as (.lit rfl)) <| RunL.fin (.n rfl (.n rfl (.n rfl (.n rfl .nil))))
        · refine RunL.v (O.mv (.obj rfl)) rfl rfl (.yb rfl rfl hb104) <| RunL.v (O.nlP (.ptr rfl)) rfl rfl (.yb rfl rfl hb104) <| RunL.v (O.fO rfl (.ptr rfl) fd128_0 rfl) rfl rfl (.yb rfl rfl hb104) <| RunL.v (O.fO rfl (.ptr rfl) fd38_1 rfl) rfl rfl (.yb rfl rfl hb104) <| RunL.v (O.ldO (y := .brw eNon.z ⟨6, [1]⟩ x89.length) rfl (.ptr rfl) ct35 rfl rfl) rfl rfl (.yb rfl rfl hb104) <| RunL.v (O.lenO (.brw rfl) sl35) rfl rfl (.yb rfl rfl hb104) <| RunL.v (O.gtr (.lit rfl) (.k rfl)) rfl rfl (.yb rfl rfl hb104) <| Rv (O.pkF (.lit rfl) hb104 (.lit rfl)) <| Rv (O.mv (.lit rfl)) ?_
          rcases cnd hj with ⟨hb105, hj⟩ | ⟨hb105, hj⟩
          · obtain rfl := sm hj
            exact RunL.ps rfl rfl hb105 rfl rfl <| RunL.ps rfl rfl hb105 rfl rfl <| RunL.ps rfl rfl hb105 rfl rfl <| RunL.ps rfl rfl hb105 rfl rfl <| RunL.ps rfl rfl hb105 rfl rfl <| RunL.ps rfl rfl hb105 rfl rfl <| RunL.ps rfl rfl hb105 rfl rfl <| Rv (O.pkT (.lit rfl) hb105 (.k rfl)) <| Rv (O.as (.lit rfl)) <| RunL.fin (.n rfl (.n rfl (.n rfl (.n rfl .nil))))
          · obtain rfl := sm hj
            exact RunL.v (O.mv (.obj rfl)) rfl rfl (.yb rfl rfl hb105) <| RunL.v (O.nlP (.ptr rfl)) rfl rfl (.yb rfl rfl hb105) <| RunL.v (O.fO rfl (.ptr rfl) fd128_0 rfl) rfl rfl (.yb rfl rfl hb105) <| RunL.v (O.fO rfl (.ptr rfl) fd38_2 rfl) rfl rfl (.yb rfl rfl hb105) <| RunL.v (O.ldO (y := .brw eProd_0.z ⟨6, [2]⟩ x65.f_g.Prods.length) rfl (.ptr rfl) ct36 rfl rfl) rfl rfl (.yb rfl rfl hb105) <| RunL.v (O.lenO (.brw rfl) sl36) rfl rfl (.yb rfl rfl hb105) <| RunL.v (O.gtr (.lit rfl) (.k rfl)) rfl rfl (.yb rfl rfl hb105) <| Rv (O.pkF (.lit rfl) hb105 (.lit rfl)) <| Rv (O.as (.lit rfl)) <| RunL.fin (.n rfl (.n rfl (.n rfl (.n rfl .nil))))
      refine Px.sq ?_
      refine W.sq' ?_
      refine W.sq' ?_
      refine W.rx [(1, _), (2, _), (6, _), (24, _), (25, _)] (Rv (O.as (.k rfl)) <| RunL.fin (.n rfl (.n rfl (.n rfl (.n rfl (.n rfl .nil)))))) ?_
      refine Px.sq ?_
      refine W.bk ?_
      obtain ⟨x108, hl, h⟩ := bnd h
      refine W.tr (G1 := [(1, .obj [SS a0.Pro, iR eDecl_0 a0.Decls, iR eRule_0 a0.Rules, SS a0.Tail]), (2, .obj [.nils, .nils, .nils, SS ({ data := #[] }), SS ({ data := #[] })]), (6, .obj [oR eTok x96, oR eNon x89, oR eProd_0 x65.f_g.Prods, SS x65.f_g.Pro, SS x65.f_g.Tail, oR eB x65.f_given, oR eNon x65.f_types, oR eS x65.f_lefts, I64 x65.f_e, I64 x65.f_at, SS x65.f_name, I64 x65.f_level, I64 x65.f_inner]), (24, BB c106), (25, I64 0)]) (.n rfl (.n rfl (.n rfl (.n rfl (.n rfl .nil))))) ?_
      refine W.lp1 (s := (c106, 0)) (fun (s107 : Bool × Int) => [(1, .obj [SS a0.Pro, iR eDecl_0 a0.Decls, iR eRule_0 a0.Rules, SS a0.Tail]), (2, .obj [.nils, .nils, .nils, SS ({ data := #[] }), SS ({ data := #[] })]), (6, .obj [oR eTok x96, oR eNon x89, oR eProd_0 x65.f_g.Prods, SS x65.f_g.Pro, SS x65.f_g.Tail, oR eB x65.f_given, oR eNon x65.f_types, oR eS x65.f_lefts, I64 x65.f_e, I64 x65.f_at, SS x65.f_name, I64 x65.f_level, I64 x65.f_inner]), (24, BB s107.1), (25, I64 s107.2)]) 20 (fun (x108 : Bool) => [(1, .obj [SS a0.Pro, iR eDecl_0 a0.Decls, iR eRule_0 a0.Rules, SS a0.Tail]), (2, .obj [.nils, .nils, .nils, SS ({ data := #[] }), SS ({ data := #[] })]), (6, .obj [oR eTok x96, oR eNon x89, oR eProd_0 x65.f_g.Prods, SS x65.f_g.Pro, SS x65.f_g.Tail, oR eB x65.f_given, oR eNon x65.f_types, oR eS x65.f_lefts, I64 x65.f_e, I64 x65.f_at, SS x65.f_name, I64 x65.f_level, I64 x65.f_inner]), (24, BB x108)]) hl (fun s107 o h => ?_) ?_
      · clear hl
        refine W.sq' ?_
        refine W.sq' ?_
        refine W.rx [(1, _), (2, _), (6, _), (24, _), (25, _), (400, _)] (Rv (O.mv (.lit rfl)) <| Rv (O.mv (.obj rfl)) <| Rv (O.nlP (.ptr rfl)) <| Rv (O.fO rfl (.ptr rfl) fd128_0 rfl) <| Rv (O.fO rfl (.ptr rfl) fd38_2 rfl) <| Rv (O.ldO (y := .brw eProd_0.z ⟨6, [2]⟩ x65.f_g.Prods.length) rfl (.ptr rfl) ct36 rfl rfl) <| Rv (O.lenO (.brw rfl) sl36) <| Rv (O.lss (.lit rfl) (.lit rfl)) <| RunL.fin (.n rfl (.n rfl (.n rfl (.n rfl (.n rfl (.n rfl .nil))))))) ?_
        refine Px.sq ?_
        refine W.cnd rfl (fun hb110 => ?_) (fun hb110 => ?_)
        · replace h := cndT hb110 h
          refine W.sk ?_
          refine Px.sq ?_
          refine W.sq' ?_
          refine W.bk ?_
          obtain ⟨c113, hj, h⟩ := bnd h
          refine W.rx [(1, .obj [SS a0.Pro, iR eDecl_0 a0.Decls, iR eRule_0 a0.Rules, SS a0.Tail]), (2, .obj [.nils, .nils, .nils, SS ({ data := #[] }), SS ({ data := #[] })]), (6, .obj [oR eTok x96, oR eNon x89, oR eProd_0 x65.f_g.Prods, SS x65.f_g.Pro, SS x65.f_g.Tail, oR eB x65.f_given, oR eNon x65.f_types, oR eS x65.f_lefts, I64 x65.f_e, I64 x65.f_at, SS x65.f_name, I64 x65.f_level, I64 x65.f_inner]), (24, BB c113), (25, I64 s107.2)] ?_ ?_
          · refine Rv (O.mv (.lit rfl)) <| Rv (O.mv (.lit rfl)) ?_
            rcases cnd hj with ⟨hb111, hj⟩ | ⟨hb111, hj⟩
            · obtain rfl := sm hj
              exact RunL.ps rfl rfl hb111 rfl rfl <| RunL.ps rfl rfl hb111 rfl rfl <| RunL.ps rfl rfl hb111 rfl rfl <| RunL.ps rfl rfl hb111 rfl rfl <| RunL.ps rfl rfl hb111 rfl rfl <| RunL.ps rfl rfl hb111 rfl rfl <| RunL.ps rfl rfl hb111 rfl rfl <| RunL.ps rfl rfl hb111 rfl rfl <| RunL.ps rfl rfl hb111 rfl rfl <| RunL.ps rfl rfl hb111 rfl rfl <| RunL.ps rfl rfl hb111 rfl rfl <| Rv (O.pkT (.lit rfl) hb111 (.k rfl)) <| RunL.re (G1 := [(1, .obj [SS a0.Pro, iR eDecl_0 a0.Decls, iR eRule_0 a0.Rules, SS a0.Tail]), (2, .obj [.nils, .nils, .nils, SS ({ data := #[] }), SS ({ data := #[] })]), (6, .obj [oR eTok x96, oR eNon x89, oR eProd_0 x65.f_g.Prods, SS x65.f_g.Pro, SS x65.f_g.Tail, oR eB x65.f_given, oR eNon x65.f_types, oR eS x65.f_lefts, I64 x65.f_e, I64 x65.f_at, SS x65.f_name, I64 x65.f_level, I64 x65.f_inner]), (25, I64 s107.2), (416, BB true)]) (.n rfl (.n rfl (.n rfl (.n rfl (.n rfl .nil))))) <| Rv (O.as (.lit rfl)) <| RunL.fin (.n rfl (.n rfl (.n rfl (.n rfl (.n rfl .nil)))))
            · refine RunL.v (O.mv (.obj rfl)) rfl rfl (.yb rfl rfl hb111) <| RunL.v (O.nlP (.ptr rfl)) rfl rfl (.yb rfl rfl hb111) <| RunL.v (O.fO rfl (.ptr rfl) fd128_0 rfl) rfl rfl (.yb rfl rfl hb111) <| RunL.v (O.fO rfl (.ptr rfl) fd38_2 rfl) rfl rfl (.yb rfl rfl hb111) <| RunL.v (O.ldO (y := .brw eProd_0.z ⟨6, [2]⟩ x65.f_g.Prods.length) rfl (.ptr rfl) ct36 rfl rfl) rfl rfl (.yb rfl rfl hb111) <| RunL.v (O.mv (.lit rfl)) rfl rfl (.yb rfl rfl hb111) ?_
              obtain ⟨x112, hx112, hj⟩ := bnd hj
              obtain rfl := sm hj
              exact RunL.v (O.ixO (en := eProd_0) rfl (.brw rfl) (.lit rfl) sl36 hx112 rfl) rfl rfl (.yb rfl rfl hb111) <| RunL.v (O.fE (en := eProd_0) rfl (.ptr rfl) fd109_1 hx112 rfl rfl) rfl rfl (.yb rfl rfl hb111) <| RunL.v (O.ldE (en := eProd_0) (x' := iR eI x112.Right) rfl (.ptr rfl) ct27 hx112 rfl rfl) rfl rfl (.yb rfl rfl hb111) <| RunL.v (O.lenI (.imm rfl) sl27) rfl rfl (.yb rfl rfl hb111) <| RunL.v (O.gtr (.lit rfl) (.k rfl)) rfl rfl (.yb rfl rfl hb111) <| Rv (O.pkF (.lit rfl) hb111 (.lit rfl)) <| RunL.re (G1 := [(1, .obj [SS a0.Pro, iR eDecl_0 a0.Decls, iR eRule_0 a0.Rules, SS a0.Tail]), (2, .obj [.nils, .nils, .nils, SS ({ data := #[] }), SS ({ data := #[] })]), (6, .obj [oR eTok x96, oR eNon x89, oR eProd_0 x65.f_g.Prods, SS x65.f_g.Pro, SS x65.f_g.Tail, oR eB x65.f_given, oR eNon x65.f_types, oR eS x65.f_lefts, I64 x65.f_e, I64 x65.f_at, SS x65.f_name, I64 x65.f_level, I64 x65.f_inner]), (25, I64 s107.2), (416, BB (decide (8 < (x112.Right.length : Int))))]) (.n rfl (.n rfl (.n rfl (.n rfl (.n rfl .nil))))) <| Rv (O.as (.lit rfl)) <| RunL.fin (.n rfl (.n rfl (.n rfl (.n rfl (.n rfl .nil)))))
          refine Px.bk ?_
          refine Px.sq ?_
          refine W.rx [(1, _), (2, _), (6, _), (24, _), (25, _)] (Rv (O.mv (.lit rfl)) <| Rv (O.add (.lit rfl) (.k rfl)) <| RunL.re (G1 := [(1, .obj [SS a0.Pro, iR eDecl_0 a0.Decls, iR eRule_0 a0.Rules, SS a0.Tail]), (2, .obj [.nils, .nils, .nils, SS ({ data := #[] }), SS ({ data := #[] })]), (6, .obj [oR eTok x96, oR eNon x89, oR eProd_0 x65.f_g.Prods, SS x65.f_g.Pro, SS x65.f_g.Tail, oR eB x65.f_given, oR eNon x65.f_types, oR eS x65.f_lefts, I64 x65.f_e, I64 x65.f_at, SS x65.f_name, I64 x65.f_level, I64 x65.f_inner]), (24, BB c113), (402, I64 (w64 (s107.2 + 1)))]) (.n rfl (.n rfl (.n rfl (.n rfl (.n rfl .nil))))) <| Rv (O.as (.lit rfl)) <| RunL.fin (.n rfl (.n rfl (.n rfl (.n rfl (.n rfl .nil)))))) ?_
          obtain rfl := sm h
          exact Px.go (.n rfl (.n rfl (.n rfl (.n rfl (.n rfl .nil)))))
        · replace h := cndF hb110 h
          refine W.xi ?_
          refine Px.sqE ?_
          obtain rfl := sm h
          exact Px.x1 (.n rfl (.n rfl (.n rfl (.n rfl .nil))))
      refine Px.bkH ?_
      refine Px.sq ?_
      refine W.sq' ?_
      refine W.sq' ?_
      refine W.rx [(1, _), (2, _), (6, _), (417, _)] (Rv (O.mv (.lit rfl)) <| RunL.fin (.n rfl (.n rfl (.n rfl (.n rfl .nil))))) ?_
      refine Px.sq ?_
      refine W.cnd rfl (fun hb114 => ?_) (fun hb114 => ?_)
      · replace h := cndT hb114 h
        refine W.sq' ?_
        refine W.rx [(2, _), (3, _), (4, _), (5, _)] (Rv (O.bu (cs := [.nils, .nils, .nils, SS ({ data := #[] }), SS ({ data := #[] })]) sc38 ze38 rfl rfl rfl) <| RunL.sO (G2 := [(2, .obj [.nils, .nils, .nils, SS ({ data := #[] }), SS ({ data := #[] })])]) (cs2 := [.nils, .nils, .nils, SS ({ data := #[] }), SS ({ data := #[] })]) rfl (.obj rfl) (.aggF rfl rfl) rfl sz38 rfl rfl rfl rfl (.b rfl .nil) <| Rv (O.as (.k rfl)) <| Rv (O.as (.k rfl)) <| Rv (O.as (.k rfl)) <| RunL.fin (.n rfl (.n rfl (.n rfl (.n rfl .nil))))) ?_
        refine Px.sq ?_
        refine W.fz (G1 := [(2, .obj [iR eTok ([] : List Tok), iR eNon ([] : List Non), iR eProd_0 ([] : List Prod), SS ({ data := #[] }), SS ({ data := #[] })]), (3, I64 4), (4, I64 0), (5, SS ({ data := #[] }))]) [2] (.z rfl rfl (FzL.obj (.z (.z (.z (.f (.f .nil)))))) (.n rfl rfl (.n rfl rfl (.n rfl rfl .nil)))) ?_
        refine W.rt ?_
        refine Px.sqR ?_
        obtain rfl := sm h
        exact Px.fin (Fin.ro (.c (ys0 := [iR eTok ([] : List Tok), iR eNon ([] : List Non), iR eProd_0 ([] : List Prod), SS ({ data := #[] }), SS ({ data := #[] })]) rfl at38 rfl rfl rfl (.f rfl (.f rfl (.f rfl (.f rfl (.f rfl .nil))))) (.f rfl rfl (.f rfl rfl (.f rfl rfl .nil)))) rfl (of_decide_eq_true (by kernel_rfl)) (.no .nil) rfl (.inr rfl))
      · replace h := cndF hb114 h
        refine W.sk ?_
        refine Px.sq ?_
        refine W.sq' ?_
        refine W.rd [[], [], [], [2], [], [4], [0, 2, 3], [0, 2, 3, 6], [0, 2, 3, 6, 7], [0, 2, 3, 6, 7, 8], rn 0 10 [], rn 0 11 [], rn 0 12 [], rn 0 13 []] [(2, _), (6, _)] mixo (by kernel_rfl) (Dv 0 (O.mv (.obj rfl)) <| Dv 1 (O.mv (.obj rfl)) <| Dv 2 (O.fO rfl (.obj rfl) fd25_0 rfl) <| Dv 3 (O.ldO (y := SS a0.Pro) rfl (.ptr rfl) ct9 rfl rfl) <| Dv 4 (O.fO rfl (.obj rfl) fd25_3 rfl) <| Dv 5 (O.ldO (y := SS a0.Tail) rfl (.ptr rfl) ct9 rfl rfl) <| Dv 6 (O.nlP (.ptr rfl)) <| Dv 7 (O.fO rfl (.ptr rfl) fd128_0 rfl) <| Dv 8 (O.fO rfl (.ptr rfl) fd38_3 rfl) <| DL.bu 9 (G2 := [(1, .obj [SS a0.Pro, iR eDecl_0 a0.Decls, iR eRule_0 a0.Rules, SS a0.Tail]), (2, .obj [.nils, .nils, .nils, SS ({ data := #[] }), SS ({ data := #[] })]), (6, .obj [oR eTok x96, oR eNon x89, oR eProd_0 x65.f_g.Prods, SS a0.Pro, SS x65.f_g.Tail, oR eB x65.f_given, oR eNon x65.f_types, oR eS x65.f_lefts, I64 x65.f_e, I64 x65.f_at, SS x65.f_name, I64 x65.f_level, I64 x65.f_inner])]) (U := [(5, 424, some (SS a0.Tail)), (4, 423, some (.ptr ⟨1, []⟩ 3)), (1, 420, some (.ptr ⟨6, []⟩ 0))]) (EffOk.v (EO.eff (EO.sO (G2 := [(1, .obj [SS a0.Pro, iR eDecl_0 a0.Decls, iR eRule_0 a0.Rules, SS a0.Tail]), (2, .obj [.nils, .nils, .nils, SS ({ data := #[] }), SS ({ data := #[] })]), (6, .obj [oR eTok x96, oR eNon x89, oR eProd_0 x65.f_g.Prods, SS a0.Pro, SS x65.f_g.Tail, oR eB x65.f_given, oR eNon x65.f_types, oR eS x65.f_lefts, I64 x65.f_e, I64 x65.f_at, SS x65.f_name, I64 x65.f_level, I64 x65.f_inner])]) (cs2 := [oR eTok x96, oR eNon x89, oR eProd_0 x65.f_g.Prods, SS a0.Pro, SS x65.f_g.Tail, oR eB x65.f_given, oR eNon x65.f_types, oR eS x65.f_lefts, I64 x65.f_e, I64 x65.f_at, SS x65.f_name, I64 x65.f_level, I64 x65.f_inner]) rfl rfl rfl (.ptr rfl) (.lit rfl) rfl sz9 rfl rfl rfl rfl (.n rfl rfl (.n rfl rfl (.b rfl .nil)))))) rfl rfl (by kernel_rfl) rfl rfl rfl (.c (.inr (.inl ⟨_, rfl⟩)) rfl rfl rfl rfl rfl (Gd.wanted .none) (O.ldO (y := SS a0.Tail) rfl (.ptr rfl) ct9 rfl rfl) (.c (.inr (.inr (.inr ⟨1, _, _, rfl, rfl, of_blt rfl, by simp⟩))) rfl rfl rfl rfl rfl (Gd.wanted .none) (O.fO rfl (.obj rfl) fd25_3 rfl) (.c (.inr (.inr (.inr ⟨6, _, _, rfl, rfl, of_blt rfl, by simp⟩))) rfl rfl rfl rfl rfl (Gd.wanted .none) (O.mv (.obj rfl)) .nil))) (by kernel_rfl) <| Dv 10 (O.nlP (.ptr rfl)) <| Dv 11 (O.fO rfl (.ptr rfl) fd128_0 rfl) <| Dv 12 (O.fO rfl (.ptr rfl) fd38_4 rfl) <| DL.sO 13 (G2 := [(2, .obj [.nils, .nils, .nils, SS ({ data := #[] }), SS ({ data := #[] })]), (6, .obj [oR eTok x96, oR eNon x89, oR eProd_0 x65.f_g.Prods, SS a0.Pro, SS a0.Tail, oR eB x65.f_given, oR eNon x65.f_types, oR eS x65.f_lefts, I64 x65.f_e, I64 x65.f_at, SS x65.f_name, I64 x65.f_level, I64 x65.f_inner])]) (cs2 := [oR eTok x96, oR eNon x89, oR eProd_0 x65.f_g.Prods, SS a0.Pro, SS a0.Tail, oR eB x65.f_given, oR eNon x65.f_types, oR eS x65.f_lefts, I64 x65.f_e, I64 x65.f_at, SS x65.f_name, I64 x65.f_level, I64 x65.f_inner]) rfl (by kernel_rfl) (by kernel_rfl) rfl rfl rfl (.ptr rfl) (.lit rfl) rfl sz9 rfl rfl rfl rfl (.n rfl rfl (.b rfl .nil)) <| DL.fin rfl rfl rfl (.n rfl (.n rfl .nil))) ?_
        refine Px.sq ?_
        refine W.sq' ?_
        refine W.fz (G1 := [(2, .obj [.nils, .nils, .nils, SS ({ data := #[] }), SS ({ data := #[] })]), (6, .obj [iR eTok x96, iR eNon x89, iR eProd_0 x65.f_g.Prods, SS a0.Pro, SS a0.Tail, oR eB x65.f_given, oR eNon x65.f_types, oR eS x65.f_lefts, I64 x65.f_e, I64 x65.f_at, SS x65.f_name, I64 x65.f_level, I64 x65.f_inner])]) [6] (.n rfl rfl (.z rfl rfl (FzL.obj (.z (.z (.z (.f (.f (.f (.f (.f (.f (.f (.f (.f (.f .nil)))))))))))))) .nil)) ?_
        refine W.rx [(2, _), (3, _), (4, _), (5, _)] (Rv (O.mv (.obj rfl)) <| Rv (O.nlP (.ptr rfl)) <| Rv (O.fO rfl (.ptr rfl) fd128_0 rfl) <| Rv (O.ldON (cs' := [iR eTok x96, iR eNon x89, iR eProd_0 x65.f_g.Prods, SS a0.Pro, SS a0.Tail]) rfl (.ptr rfl) at38 rfl rfl) <| RunL.sO (G2 := [(2, .obj [iR eTok x96, iR eNon x89, iR eProd_0 x65.f_g.Prods, SS a0.Pro, SS a0.Tail])]) (cs2 := [iR eTok x96, iR eNon x89, iR eProd_0 x65.f_g.Prods, SS a0.Pro, SS a0.Tail]) rfl (.obj rfl) (.aggF rfl rfl) rfl sz38 rfl rfl rfl rfl (.b rfl .nil) <| Rv (O.as (.k rfl)) <| Rv (O.as (.k rfl)) <| Rv (O.as (.k rfl)) <| RunL.fin (.n rfl (.n rfl (.n rfl (.n rfl .nil))))) ?_
        refine Px.sq ?_
        refine W.rt ?_
        obtain rfl := sm h
        exact Px.fin (Fin.ro (.c (ys0 := [iR eTok x96, iR eNon x89, iR eProd_0 x65.f_g.Prods, SS a0.Pro, SS a0.Tail]) rfl at38 rfl rfl rfl (.f rfl (.f rfl (.f rfl (.f rfl (.f rfl .nil))))) (.f rfl rfl (.f rfl rfl (.f rfl rfl .nil)))) rfl (of_decide_eq_true (by kernel_rfl)) (.no .nil) rfl (.inr rfl))
def pf18 (a0 : Source) : Option (Grammar × Bool) :=
 (pf50 a0).bind fun x1 =>
 some (x1.1, decide (x1.2.1 = 0))
theorem con18 (a0 : Source) (r : Grammar × Bool) (h : pf18 a0 = some r) : Con Try.prog 18 [.agg [SS a0.Pro, iR eDecl_0 a0.Decls, iR eRule_0 a0.Rules, SS a0.Tail]] [none] (.tup [.agg (eGrammar_0.cells r.1), BB r.2]) := by
  unfold pf18 at h
  refine Con.go (N := ⟨18, []⟩) Try.func18 rfl rfl rfl rfl (W.fin ?_)
  refine W.st [(0, .agg [SS a0.Pro, iR eDecl_0 a0.Decls, iR eRule_0 a0.Rules, SS a0.Tail])] ?_
  refine W.sq' ?_
  refine W.rx [(1, _), (2, _)] (Rv (O.box (.aggF rfl rfl) rfl) <| Rv (O.al (cs := [.nils, .nils, .nils, SS ({ data := #[] }), SS ({ data := #[] })]) ze38 rfl rfl) <| Rv (O.as (.k rfl)) <| RunL.fin (.n rfl (.n rfl .nil))) ?_
  refine Px.sq ?_
  refine W.sq' ?_
  obtain ⟨x1, hx1, h⟩ := bnd h
  refine W.rx [(2, _), (4, _), (5, _)] (Rv (O.ldON (cs' := [SS a0.Pro, iR eDecl_0 a0.Decls, iR eRule_0 a0.Rules, SS a0.Tail]) rfl (.obj rfl) at25 rfl rfl) <| Rc (PC.go (.cc (.aggF rfl rfl) .nil) (con50 a0 _ hx1) call50 rfl) <| Rv (O.mv (.tup rfl rfl)) <| Rv (O.ex (y := .agg (eGrammar_0.cells x1.1)) rfl rfl rfl) <| Rv (O.ex (y := I64 x1.2.1) rfl rfl rfl) <| Rv (O.ex (y := I64 x1.2.2.1) rfl rfl rfl) <| Rv (O.ex (y := SS x1.2.2.2) rfl rfl rfl) <| Rv (O.al (cs := [.nils, .nils, .nils, SS ({ data := #[] }), SS ({ data := #[] })]) ze38 rfl rfl) <| RunL.sO (G2 := [(2, .obj [.nils, .nils, .nils, SS ({ data := #[] }), SS ({ data := #[] })]), (4, .obj (eGrammar_0.cells x1.1)), (12, I64 x1.2.1), (13, I64 x1.2.2.1), (14, SS x1.2.2.2)]) (cs2 := [iR eTok x1.1.Toks, iR eNon x1.1.Nons, iR eProd_0 x1.1.Prods, SS x1.1.Pro, SS x1.1.Tail]) rfl (.obj rfl) (.aggF rfl rfl) rfl sz38 rfl rfl rfl rfl (.n rfl rfl (.b rfl (.n rfl rfl (.n rfl rfl (.n rfl rfl .nil))))) <| Rv (O.as (.lit rfl)) <| Rv (O.as (.lit rfl)) <| Rv (O.as (.lit rfl)) <| RunL.fin (.n rfl (.n rfl (.n rfl .nil)))) ?_
  refine Px.sq ?_
  refine W.sq' ?_
  refine W.rx [(2, _), (3, _)] (Rv (O.ldON (cs' := [iR eTok x1.1.Toks, iR eNon x1.1.Nons, iR eProd_0 x1.1.Prods, SS x1.1.Pro, SS x1.1.Tail]) rfl (.obj rfl) at38 rfl rfl) <| Rv (O.mv (.lit rfl)) <| Rv (O.eql (.lit rfl) (.k rfl)) <| RunL.sO (G2 := [(2, .obj (eGrammar_0.cells x1.1)), (17, BB (decide (x1.2.1 = 0)))]) (cs2 := [iR eTok x1.1.Toks, iR eNon x1.1.Nons, iR eProd_0 x1.1.Prods, SS x1.1.Pro, SS x1.1.Tail]) rfl (.obj rfl) (.aggF rfl rfl) rfl sz38 rfl rfl rfl rfl (.b rfl (.n rfl rfl .nil)) <| Rv (O.as (.lit rfl)) <| RunL.fin (.n rfl (.n rfl .nil))) ?_
  refine Px.sq ?_
  refine W.rt ?_
  obtain rfl := sm h
  exact Px.fin (Fin.ro (.c (ys0 := [iR eTok x1.1.Toks, iR eNon x1.1.Nons, iR eProd_0 x1.1.Prods, SS x1.1.Pro, SS x1.1.Tail]) rfl at38 rfl rfl rfl (.f rfl (.f rfl (.f rfl (.f rfl (.f rfl .nil))))) (.f rfl rfl .nil)) rfl (of_decide_eq_true (by kernel_rfl)) (.no .nil) rfl (.inr rfl))
def pf25 (a0 : Int) (a1 : Int) : Option (Int) :=
 (remO a0 a1).bind fun x1 =>
 ((bif decide (x1 < 0) then
 some (w64 (x1 + a1))
 else
 some x1)).bind fun j2 =>
 some j2
theorem con25 (a0 : Int) (a1 : Int) (r : Int) (h : pf25 a0 a1 = some r) : Con Try.prog 25 [I64 a0, I64 a1] [none, none] (I64 r) := by
  unfold pf25 at h
  refine Con.go (N := ⟨15, []⟩) Try.func25 rfl rfl rfl rfl (W.fin ?_)
  refine W.st [(0, I64 a0), (1, I64 a1)] ?_
  refine W.sq' ?_
  refine W.rx [(0, _), (1, _)] (Rv (O.as (.k rfl)) <| RunL.fin (.n rfl (.n rfl .nil))) ?_
  refine Px.sq ?_
  refine W.sq' ?_
  obtain ⟨x1, hx1, h⟩ := bnd h
  refine W.rx [(1, _), (5, _)] (Rv (O.mv (.lit rfl)) <| Rv (O.mv (.lit rfl)) <| Rv (O.rem (.lit rfl) (.lit rfl) hx1) <| Rv (O.as (.lit rfl)) <| RunL.fin (.n rfl (.n rfl .nil))) ?_
  refine Px.sq ?_
  refine W.sq' ?_
  refine W.sq' ?_
  refine W.rx [(1, _), (5, _), (10, _)] (Rv (O.mv (.lit rfl)) <| Rv (O.lss (.lit rfl) (.k rfl)) <| RunL.fin (.n rfl (.n rfl (.n rfl .nil)))) ?_
  refine Px.sq ?_
  obtain ⟨j2, hj, h⟩ := bnd h
  refine W.jn [(5, I64 j2)] ?_ ?_
  · clear h; have h := hj; clear hj
    refine W.cnd rfl (fun hb3 => ?_) (fun hb3 => ?_)
    · replace h := cndT hb3 h
      refine W.rx [(5, _)] (Rv (O.mv (.lit rfl)) <| Rv (O.mv (.lit rfl)) <| Rv (O.add (.lit rfl) (.lit rfl)) <| RunL.re (G1 := [(13, I64 (w64 (x1 + a1)))]) (.n rfl .nil) <| Rv (O.as (.lit rfl)) <| RunL.fin (.n rfl .nil)) ?_
      obtain rfl := sm h
      exact Px.jn (.n rfl .nil)
    · replace h := cndF hb3 h
      refine W.sk ?_
      obtain rfl := sm h
      exact Px.jn (.n rfl .nil)
  refine Px.sq ?_
  refine W.sq' ?_
  refine W.rx [(4, _)] (Rv (O.mv (.lit rfl)) <| Rv (O.as (.lit rfl)) <| RunL.fin (.n rfl .nil)) ?_
  refine Px.sq ?_
  refine W.rt ?_
  obtain rfl := sm h
  exact Px.fin (Fin.ro (.f rfl rfl .nil) rfl (of_decide_eq_true (by kernel_rfl)) (.no (.no .nil)) rfl (.inr rfl))
def pf23 (a0 : (List Int)) (a1 : Int) (a2 : Int) : Option (Grammar × Int × Bool) :=
 (loopM (R := List Decl × List Alt) (fun (s1 : List Decl × List Alt × Int) =>
 (bif decide (s1.2.2 < min (a0.length : Int) 9) then
 (pf52 s1.2.2).bind fun x5 =>
 (catO ({ data := #[116] }) x5).bind fun x6 =>
 (idx a0 s1.2.2).bind fun x7 =>
 (pf25 x7 3).bind fun x8 =>
 (appO s1.1 [(⟨w64 (2 + x8), { data := #[] }, [(⟨x6, false, 0, 0⟩ : Sym)], 0⟩ : Decl)]).bind fun x9 =>
 (appO s1.2.1 [(⟨[(⟨(⟨{ data := #[101] }, false, 0, 0⟩ : Sym), { data := #[] }, 0⟩ : Part), (⟨(⟨x6, false, 0, 0⟩ : Sym), { data := #[] }, 0⟩ : Part), (⟨(⟨{ data := #[101] }, false, 0, 0⟩ : Sym), { data := #[] }, 0⟩ : Part)], (⟨{ data := #[] }, false, 0, 0⟩ : Sym), 0⟩ : Alt)]).bind fun x10 =>
 some (.inl (s1.1 ++ [(⟨w64 (2 + x8), { data := #[] }, [(⟨x6, false, 0, 0⟩ : Sym)], 0⟩ : Decl)], s1.2.1 ++ [(⟨[(⟨(⟨{ data := #[101] }, false, 0, 0⟩ : Sym), { data := #[] }, 0⟩ : Part), (⟨(⟨x6, false, 0, 0⟩ : Sym), { data := #[] }, 0⟩ : Part), (⟨(⟨{ data := #[101] }, false, 0, 0⟩ : Sym), { data := #[] }, 0⟩ : Part)], (⟨{ data := #[] }, false, 0, 0⟩ : Sym), 0⟩ : Alt)], w64 (s1.2.2 + 1)))
 else
 some (.inr (s1.1, s1.2.1)))) (([] : List Decl), ([] : List Alt), 0)).bind fun x2 =>
 (appO x2.2 [(⟨[(⟨(⟨{ data := #[120] }, true, 0, 0⟩ : Sym), { data := #[] }, 0⟩ : Part)], (⟨{ data := #[] }, false, 0, 0⟩ : Sym), 0⟩ : Alt)]).bind fun x11 =>
 ((bif decide (0 < min (a0.length : Int) 9) then
 (pf52 a1).bind fun x14 =>
 (catO ({ data := #[116] }) x14).bind fun x15 =>
 (pf52 a2).bind fun x16 =>
 (catO ({ data := #[116] }) x16).bind fun x17 =>
 (appO (x2.2 ++ [(⟨[(⟨(⟨{ data := #[120] }, true, 0, 0⟩ : Sym), { data := #[] }, 0⟩ : Part)], (⟨{ data := #[] }, false, 0, 0⟩ : Sym), 0⟩ : Alt)]) [(⟨[(⟨(⟨x15, false, 0, 0⟩ : Sym), { data := #[] }, 0⟩ : Part), (⟨(⟨{ data := #[101] }, false, 0, 0⟩ : Sym), { data := #[] }, 0⟩ : Part)], (⟨x17, false, 0, 0⟩ : Sym), 0⟩ : Alt)]).bind fun x18 =>
 some ((x2.2 ++ [(⟨[(⟨(⟨{ data := #[120] }, true, 0, 0⟩ : Sym), { data := #[] }, 0⟩ : Part)], (⟨{ data := #[] }, false, 0, 0⟩ : Sym), 0⟩ : Alt)]) ++ [(⟨[(⟨(⟨x15, false, 0, 0⟩ : Sym), { data := #[] }, 0⟩ : Part), (⟨(⟨{ data := #[101] }, false, 0, 0⟩ : Sym), { data := #[] }, 0⟩ : Part)], (⟨x17, false, 0, 0⟩ : Sym), 0⟩ : Alt)])
 else
 some (x2.2 ++ [(⟨[(⟨(⟨{ data := #[120] }, true, 0, 0⟩ : Sym), { data := #[] }, 0⟩ : Part)], (⟨{ data := #[] }, false, 0, 0⟩ : Sym), 0⟩ : Alt)]))).bind fun j12 =>
 (pf18 (⟨{ data := #[] }, x2.1, [(⟨{ data := #[101] }, j12, 0⟩ : Rule)], { data := #[] }⟩ : Source)).bind fun x19 =>
 some (x19.1, min (a0.length : Int) 9, x19.2)
theorem con23 (a0 : (List Int)) (a1 : Int) (a2 : Int) (r : Grammar × Int × Bool) (h : pf23 a0 a1 a2 = some r) : Con Try.prog 23 [iR eI a0, I64 a1, I64 a2] [none, none, none] (.tup [.agg (eGrammar_0.cells r.1), I64 r.2.1, BB r.2.2]) := by
  unfold pf23 at h
  refine Con.go (N := ⟨96, []⟩) Try.func23 rfl rfl rfl rfl (W.fin ?_)
  refine W.st [(0, iR eI a0), (1, I64 a1), (2, I64 a2)] ?_
  refine W.sq' ?_
  refine W.rx [(0, _), (1, _), (2, _), (6, _)] (Rv (O.al (cs := [.nils, .nils, .nils, SS ({ data := #[] }), SS ({ data := #[] })]) ze38 rfl rfl) <| Rv (O.as (.k rfl)) <| Rv (O.as (.k rfl)) <| RunL.fin (.n rfl (.n rfl (.n rfl (.n rfl .nil))))) ?_
  refine Px.sq ?_
  refine W.sq' ?_
  refine W.rx [(0, _), (1, _), (2, _), (6, _), (9, _)] (Rv (O.al (cs := [SS ({ data := #[] }), .nils, .nils, SS ({ data := #[] })]) ze25 rfl rfl) <| RunL.fin (.n rfl (.n rfl (.n rfl (.n rfl (.n rfl .nil)))))) ?_
  refine Px.sq ?_
  refine W.sq' ?_
  refine W.rx [(0, _), (1, _), (2, _), (6, _), (9, _), (10, _)] (Rv (O.mv (.imm rfl)) <| Rv (O.lenI (.imm rfl) sl27) <| Rv (O.min' (.lit rfl) (.k rfl)) <| Rv (O.as (.lit rfl)) <| RunL.fin (.n rfl (.n rfl (.n rfl (.n rfl (.n rfl (.n rfl .nil))))))) ?_
  refine Px.sq ?_
  refine W.sq' ?_
  refine W.rx [(0, _), (1, _), (2, _), (6, _), (9, _), (10, _), (11, _)] (Rv (O.bu (cs := [SS ({ data := #[101] }), BB false, I64 0, I64 0]) sc91 ze91 rfl rfl rfl) <| Rv (O.bu (cs := [SS ({ data := #[101] }), BB false, I64 0, I64 0, SS ({ data := #[] }), I64 0]) sc100 ze100 rfl rfl rfl) <| Rv (O.al (cs := [SS ({ data := #[] }), BB false, I64 0, I64 0, SS ({ data := #[] }), I64 0]) ze100 rfl rfl) <| RunL.sO (G2 := [(0, iR eI a0), (1, I64 a1), (2, I64 a2), (6, .obj [.nils, .nils, .nils, SS ({ data := #[] }), SS ({ data := #[] })]), (9, .obj [SS ({ data := #[] }), .nils, .nils, SS ({ data := #[] })]), (10, I64 (min (a0.length : Int) 9)), (11, .obj [SS ({ data := #[101] }), BB false, I64 0, I64 0, SS ({ data := #[] }), I64 0])]) (cs2 := [SS ({ data := #[101] }), BB false, I64 0, I64 0, SS ({ data := #[] }), I64 0]) rfl (.obj rfl) (.aggF rfl rfl) rfl sz100 rfl rfl rfl rfl (.n rfl rfl (.n rfl rfl (.n rfl rfl (.n rfl rfl (.n rfl rfl (.n rfl rfl (.b rfl .nil))))))) <| RunL.fin (.n rfl (.n rfl (.n rfl (.n rfl (.n rfl (.n rfl (.n rfl .nil)))))))) ?_
  refine Px.sq ?_
  refine W.sq' ?_
  refine W.rx [(0, _), (1, _), (2, _), (6, _), (9, _), (10, _), (11, _), (12, _)] (Rv (O.bu (cs := [SS ({ data := #[101] }), .nils, I64 0]) sc95 ze95 rfl rfl rfl) <| Rv (O.al (cs := [SS ({ data := #[] }), .nils, I64 0]) ze95 rfl rfl) <| RunL.sO (G2 := [(0, iR eI a0), (1, I64 a1), (2, I64 a2), (6, .obj [.nils, .nils, .nils, SS ({ data := #[] }), SS ({ data := #[] })]), (9, .obj [SS ({ data := #[] }), .nils, .nils, SS ({ data := #[] })]), (10, I64 (min (a0.length : Int) 9)), (11, .obj [SS ({ data := #[101] }), BB false, I64 0, I64 0, SS ({ data := #[] }), I64 0]), (12, .obj [SS ({ data := #[101] }), .nils, I64 0])]) (cs2 := [SS ({ data := #[101] }), .nils, I64 0]) rfl (.obj rfl) (.aggF rfl rfl) rfl sz95 rfl rfl rfl rfl (.n rfl rfl (.n rfl rfl (.n rfl rfl (.n rfl rfl (.n rfl rfl (.n rfl rfl (.n rfl rfl (.b rfl .nil)))))))) <| RunL.fin (.n rfl (.n rfl (.n rfl (.n rfl (.n rfl (.n rfl (.n rfl (.n rfl .nil))))))))) ?_
  refine Px.sq ?_
  refine W.sq' ?_
  refine W.sq' ?_
  refine W.rx [(0, _), (1, _), (2, _), (6, _), (9, _), (10, _), (11, _), (12, _), (13, _)] (Rv (O.as (.k rfl)) <| RunL.fin (.n rfl (.n rfl (.n rfl (.n rfl (.n rfl (.n rfl (.n rfl (.n rfl (.n rfl .nil)))))))))) ?_
  refine Px.sq ?_
  refine W.bk ?_
  obtain ⟨x2, hl, h⟩ := bnd h
  refine W.tr (G1 := [(0, iR eI a0), (1, I64 a1), (2, I64 a2), (6, .obj [.nils, .nils, .nils, SS ({ data := #[] }), SS ({ data := #[] })]), (9, .obj [SS ({ data := #[] }), oR eDecl_0 ([] : List Decl), .nils, SS ({ data := #[] })]), (10, I64 (min (a0.length : Int) 9)), (11, .obj [SS ({ data := #[101] }), BB false, I64 0, I64 0, SS ({ data := #[] }), I64 0]), (12, .obj [SS ({ data := #[101] }), oR eAlt_0 ([] : List Alt), I64 0]), (13, I64 0)]) (.n rfl (.n rfl (.n rfl (.n rfl (.w rfl rfl (WkL.obj (.f (.o (.f (.f .nil))))) (.n rfl (.n rfl (.w rfl rfl (WkL.obj (.f (.o (.f .nil)))) (.n rfl .nil))))))))) ?_
  refine W.lp1 (s := (([] : List Decl), ([] : List Alt), 0)) (fun (s1 : List Decl × List Alt × Int) => [(0, iR eI a0), (1, I64 a1), (2, I64 a2), (6, .obj [.nils, .nils, .nils, SS ({ data := #[] }), SS ({ data := #[] })]), (9, .obj [SS ({ data := #[] }), oR eDecl_0 s1.1, .nils, SS ({ data := #[] })]), (10, I64 (min (a0.length : Int) 9)), (11, .obj [SS ({ data := #[101] }), BB false, I64 0, I64 0, SS ({ data := #[] }), I64 0]), (12, .obj [SS ({ data := #[101] }), oR eAlt_0 s1.2.1, I64 0]), (13, I64 s1.2.2)]) 0 (fun (x2 : List Decl × List Alt) => [(1, I64 a1), (2, I64 a2), (6, .obj [.nils, .nils, .nils, SS ({ data := #[] }), SS ({ data := #[] })]), (9, .obj [SS ({ data := #[] }), oR eDecl_0 x2.1, .nils, SS ({ data := #[] })]), (10, I64 (min (a0.length : Int) 9)), (11, .obj [SS ({ data := #[101] }), BB false, I64 0, I64 0, SS ({ data := #[] }), I64 0]), (12, .obj [SS ({ data := #[101] }), oR eAlt_0 x2.2, I64 0])]) hl (fun s1 o h => ?_) ?_
  · clear hl
    refine W.sq' ?_
    refine W.sq' ?_
    refine W.rx [(0, _), (1, _), (2, _), (6, _), (9, _), (10, _), (11, _), (12, _), (13, _), (25, _)] (Rv (O.mv (.lit rfl)) <| Rv (O.mv (.lit rfl)) <| Rv (O.lss (.lit rfl) (.lit rfl)) <| RunL.fin (.n rfl (.n rfl (.n rfl (.n rfl (.n rfl (.n rfl (.n rfl (.n rfl (.n rfl (.n rfl .nil))))))))))) ?_
    refine Px.sq ?_
    refine W.cnd rfl (fun hb4 => ?_) (fun hb4 => ?_)
    · replace h := cndT hb4 h
      refine W.sk ?_
      refine Px.sq ?_
      refine W.sq' ?_
      refine W.bk ?_
      refine W.sq' ?_
      obtain ⟨x5, hx5, h⟩ := bnd h
      obtain ⟨x6, hx6, h⟩ := bnd h
      refine W.rx [(0, _), (1, _), (2, _), (6, _), (9, _), (10, _), (11, _), (12, _), (13, _), (14, _)] (Rv (O.mv (.lit rfl)) <| Rc (PC.go (.cc (.lit rfl) .nil) (con52 s1.2.2 _ hx5) call52 rfl) <| Rv (O.cat (.k rfl) (.lit rfl) hx6) <| Rv (O.bu (cs := [SS x6, BB false, I64 0, I64 0]) sc91 ze91 rfl rfl rfl) <| Rv (O.al (cs := [SS ({ data := #[] }), BB false, I64 0, I64 0]) ze91 rfl rfl) <| RunL.sO (G2 := [(0, iR eI a0), (1, I64 a1), (2, I64 a2), (6, .obj [.nils, .nils, .nils, SS ({ data := #[] }), SS ({ data := #[] })]), (9, .obj [SS ({ data := #[] }), oR eDecl_0 s1.1, .nils, SS ({ data := #[] })]), (10, I64 (min (a0.length : Int) 9)), (11, .obj [SS ({ data := #[101] }), BB false, I64 0, I64 0, SS ({ data := #[] }), I64 0]), (12, .obj [SS ({ data := #[101] }), oR eAlt_0 s1.2.1, I64 0]), (13, I64 s1.2.2), (14, .obj [SS x6, BB false, I64 0, I64 0])]) (cs2 := [SS x6, BB false, I64 0, I64 0]) rfl (.obj rfl) (.aggF rfl rfl) rfl sz91 rfl rfl rfl rfl (.n rfl rfl (.n rfl rfl (.n rfl rfl (.n rfl rfl (.n rfl rfl (.n rfl rfl (.n rfl rfl (.n rfl rfl (.n rfl rfl (.b rfl .nil)))))))))) <| RunL.fin (.n rfl (.n rfl (.n rfl (.n rfl (.n rfl (.n rfl (.n rfl (.n rfl (.n rfl (.n rfl .nil))))))))))) ?_
      refine Px.sq ?_
      refine W.sq' ?_
      obtain ⟨x7, hx7, h⟩ := bnd h
      obtain ⟨x8, hx8, h⟩ := bnd h
      obtain ⟨x9, hx9, h⟩ := bnd h
      refine W.rd [[], [0], [], [], [2, 3], [2, 3, 4], [2, 3, 4, 5], rn 2 5 [], [], [8], rn 2 8 [], rn 2 9 [], rn 0 12 [], rn 0 13 [], rn 0 14 []] [(0, _), (1, _), (2, _), (6, _), (9, _), (10, _), (11, _), (12, _), (13, _), (14, _)] mixo (by kernel_rfl) (Dv 0 (O.fO rfl (.obj rfl) fd25_1 rfl) <| Dv 1 (O.ldO (y := .brw eDecl_0.z ⟨9, [1]⟩ s1.1.length) rfl (.ptr rfl) ct22 rfl rfl) <| Dv 2 (O.mv (.imm rfl)) <| Dv 3 (O.mv (.lit rfl)) <| Dv 4 (O.ixI (.imm rfl) (.lit rfl) sl27 hx7) <| Dv 5 (O.ldI (x := I64 x7) (.iptr rfl) ct3 rfl) <| Dc 6 (PC.go (.cc (.lit rfl) (.cc (.k rfl) .nil)) (con25 x7 3 _ hx8) call25 rfl) <| Dv 7 (O.add (.k rfl) (.lit rfl)) <| Dv 8 (O.ldON (cs' := [SS x6, BB false, I64 0, I64 0]) rfl (.obj rfl) at91 rfl rfl) <| DL.vi 9 (x := iR eSym [(⟨x6, false, 0, 0⟩ : Sym)]) (O.bs (ys := [.agg [SS x6, BB false, I64 0, I64 0]]) eSym [(⟨x6, false, 0, 0⟩ : Sym)] sl87 rfl rfl rfl rfl rfl rfl zt91 rfl rfl) rfl rfl rfl rfl .none <| Dv 10 (O.bu (cs := [I64 (w64 (2 + x8)), SS ({ data := #[] }), iR eSym [(⟨x6, false, 0, 0⟩ : Sym)], I64 0]) sc89 ze89 rfl rfl rfl) <| DL.vi 11 (x := iR eDecl_0 [(⟨w64 (2 + x8), { data := #[] }, [(⟨x6, false, 0, 0⟩ : Sym)], 0⟩ : Decl)]) (O.bs (ys := [.agg [I64 (w64 (2 + x8)), SS ({ data := #[] }), iR eSym [(⟨x6, false, 0, 0⟩ : Sym)], I64 0]]) eDecl_0 [(⟨w64 (2 + x8), { data := #[] }, [(⟨x6, false, 0, 0⟩ : Sym)], 0⟩ : Decl)] sl22 rfl rfl rfl rfl rfl rfl zt89 rfl rfl) rfl rfl rfl rfl .none <| Dv 12 (O.ap (en := eDecl_0) (r := x9) (.brw rfl) rfl (.imm rfl) .i ap22 rfl hx9) <| Dv 13 (O.fO rfl (.obj rfl) fd25_1 rfl) <| DL.bp 14 (G2 := [(0, iR eI a0), (1, I64 a1), (2, I64 a2), (6, .obj [.nils, .nils, .nils, SS ({ data := #[] }), SS ({ data := #[] })]), (9, .obj [SS ({ data := #[] }), oR eDecl_0 (s1.1 ++ [(⟨w64 (2 + x8), { data := #[] }, [(⟨x6, false, 0, 0⟩ : Sym)], 0⟩ : Decl)]), .nils, SS ({ data := #[] })]), (10, I64 (min (a0.length : Int) 9)), (11, .obj [SS ({ data := #[101] }), BB false, I64 0, I64 0, SS ({ data := #[] }), I64 0]), (12, .obj [SS ({ data := #[101] }), oR eAlt_0 s1.2.1, I64 0]), (13, I64 s1.2.2), (14, .obj [SS x6, BB false, I64 0, I64 0])]) (EO.stP (g1 := _) (en := eDecl_0) (M := [(⟨w64 (2 + x8), { data := #[] }, [(⟨x6, false, 0, 0⟩ : Sym)], 0⟩ : Decl)]) (cs2 := [SS ({ data := #[] }), oR eDecl_0 (s1.1 ++ [(⟨w64 (2 + x8), { data := #[] }, [(⟨x6, false, 0, 0⟩ : Sym)], 0⟩ : Decl)]), .nils, SS ({ data := #[] })]) rfl rfl (.ptr rfl) (.pend rfl) rfl rfl rfl .ns .rf rfl rfl sz22 rfl rfl rfl rfl (.n rfl rfl (.n rfl rfl (.n rfl rfl (.n rfl rfl (.b rfl (.n rfl rfl (.n rfl rfl (.n rfl rfl (.n rfl rfl (.n rfl rfl .nil))))))))))) rfl rfl rfl rfl (by kernel_rfl) (by kernel_rfl) <| DL.fin rfl rfl rfl (.n rfl (.n rfl (.n rfl (.n rfl (.n rfl (.n rfl (.n rfl (.n rfl (.n rfl (.n rfl .nil))))))))))) ?_
      refine Px.sq ?_
      obtain ⟨x10, hx10, h⟩ := bnd h
      refine W.rx [(0, _), (1, _), (2, _), (6, _), (9, _), (10, _), (11, _), (12, _), (13, _)] (Rv (O.fO rfl (.obj rfl) fd95_1 rfl) <| Rv (O.ldO (y := .brw eAlt_0.z ⟨12, [1]⟩ s1.2.1.length) rfl (.ptr rfl) ct93 rfl rfl) <| Rv (O.ldON (cs' := [SS ({ data := #[101] }), BB false, I64 0, I64 0, SS ({ data := #[] }), I64 0]) rfl (.obj rfl) at100 rfl rfl) <| Rv (O.ldON (cs' := [SS x6, BB false, I64 0, I64 0]) rfl (.obj rfl) at91 rfl rfl) <| Rv (O.bu (cs := [SS x6, BB false, I64 0, I64 0, SS ({ data := #[] }), I64 0]) sc100 ze100 rfl rfl rfl) <| Rv (O.ldON (cs' := [SS ({ data := #[101] }), BB false, I64 0, I64 0, SS ({ data := #[] }), I64 0]) rfl (.obj rfl) at100 rfl rfl) <| RunL.vi (x := iR ePart [(⟨(⟨{ data := #[101] }, false, 0, 0⟩ : Sym), { data := #[] }, 0⟩ : Part), (⟨(⟨x6, false, 0, 0⟩ : Sym), { data := #[] }, 0⟩ : Part), (⟨(⟨{ data := #[101] }, false, 0, 0⟩ : Sym), { data := #[] }, 0⟩ : Part)]) (O.bs (ys := [.agg [SS ({ data := #[101] }), BB false, I64 0, I64 0, SS ({ data := #[] }), I64 0], .agg [SS x6, BB false, I64 0, I64 0, SS ({ data := #[] }), I64 0], .agg [SS ({ data := #[101] }), BB false, I64 0, I64 0, SS ({ data := #[] }), I64 0]]) ePart [(⟨(⟨{ data := #[101] }, false, 0, 0⟩ : Sym), { data := #[] }, 0⟩ : Part), (⟨(⟨x6, false, 0, 0⟩ : Sym), { data := #[] }, 0⟩ : Part), (⟨(⟨{ data := #[101] }, false, 0, 0⟩ : Sym), { data := #[] }, 0⟩ : Part)] sl96 rfl rfl rfl rfl rfl rfl zt100 rfl rfl) rfl rfl .none <| Rv (O.bu (cs := [iR ePart [(⟨(⟨{ data := #[101] }, false, 0, 0⟩ : Sym), { data := #[] }, 0⟩ : Part), (⟨(⟨x6, false, 0, 0⟩ : Sym), { data := #[] }, 0⟩ : Part), (⟨(⟨{ data := #[101] }, false, 0, 0⟩ : Sym), { data := #[] }, 0⟩ : Part)], SS ({ data := #[] }), BB false, I64 0, I64 0, I64 0]) sc98 ze98 rfl rfl rfl) <| RunL.vi (x := iR eAlt_0 [(⟨[(⟨(⟨{ data := #[101] }, false, 0, 0⟩ : Sym), { data := #[] }, 0⟩ : Part), (⟨(⟨x6, false, 0, 0⟩ : Sym), { data := #[] }, 0⟩ : Part), (⟨(⟨{ data := #[101] }, false, 0, 0⟩ : Sym), { data := #[] }, 0⟩ : Part)], (⟨{ data := #[] }, false, 0, 0⟩ : Sym), 0⟩ : Alt)]) (O.bs (ys := [.agg [iR ePart [(⟨(⟨{ data := #[101] }, false, 0, 0⟩ : Sym), { data := #[] }, 0⟩ : Part), (⟨(⟨x6, false, 0, 0⟩ : Sym), { data := #[] }, 0⟩ : Part), (⟨(⟨{ data := #[101] }, false, 0, 0⟩ : Sym), { data := #[] }, 0⟩ : Part)], SS ({ data := #[] }), BB false, I64 0, I64 0, I64 0]]) eAlt_0 [(⟨[(⟨(⟨{ data := #[101] }, false, 0, 0⟩ : Sym), { data := #[] }, 0⟩ : Part), (⟨(⟨x6, false, 0, 0⟩ : Sym), { data := #[] }, 0⟩ : Part), (⟨(⟨{ data := #[101] }, false, 0, 0⟩ : Sym), { data := #[] }, 0⟩ : Part)], (⟨{ data := #[] }, false, 0, 0⟩ : Sym), 0⟩ : Alt)] sl93 rfl rfl rfl rfl rfl rfl zt98 rfl rfl) rfl rfl .none <| Rv (O.ap (en := eAlt_0) (r := x10) (.brw rfl) rfl (.imm rfl) .i ap93 rfl hx10) <| Rv (O.fO rfl (.obj rfl) fd95_1 rfl) <| RunL.ef (G2 := [(0, iR eI a0), (1, I64 a1), (2, I64 a2), (6, .obj [.nils, .nils, .nils, SS ({ data := #[] }), SS ({ data := #[] })]), (9, .obj [SS ({ data := #[] }), oR eDecl_0 (s1.1 ++ [(⟨w64 (2 + x8), { data := #[] }, [(⟨x6, false, 0, 0⟩ : Sym)], 0⟩ : Decl)]), .nils, SS ({ data := #[] })]), (10, I64 (min (a0.length : Int) 9)), (11, .obj [SS ({ data := #[101] }), BB false, I64 0, I64 0, SS ({ data := #[] }), I64 0]), (12, .obj [SS ({ data := #[101] }), oR eAlt_0 (s1.2.1 ++ [(⟨[(⟨(⟨{ data := #[101] }, false, 0, 0⟩ : Sym), { data := #[] }, 0⟩ : Part), (⟨(⟨x6, false, 0, 0⟩ : Sym), { data := #[] }, 0⟩ : Part), (⟨(⟨{ data := #[101] }, false, 0, 0⟩ : Sym), { data := #[] }, 0⟩ : Part)], (⟨{ data := #[] }, false, 0, 0⟩ : Sym), 0⟩ : Alt)]), I64 0]), (13, I64 s1.2.2)]) rfl (EO.stP (g1 := _) (en := eAlt_0) (M := [(⟨[(⟨(⟨{ data := #[101] }, false, 0, 0⟩ : Sym), { data := #[] }, 0⟩ : Part), (⟨(⟨x6, false, 0, 0⟩ : Sym), { data := #[] }, 0⟩ : Part), (⟨(⟨{ data := #[101] }, false, 0, 0⟩ : Sym), { data := #[] }, 0⟩ : Part)], (⟨{ data := #[] }, false, 0, 0⟩ : Sym), 0⟩ : Alt)]) (cs2 := [SS ({ data := #[101] }), oR eAlt_0 (s1.2.1 ++ [(⟨[(⟨(⟨{ data := #[101] }, false, 0, 0⟩ : Sym), { data := #[] }, 0⟩ : Part), (⟨(⟨x6, false, 0, 0⟩ : Sym), { data := #[] }, 0⟩ : Part), (⟨(⟨{ data := #[101] }, false, 0, 0⟩ : Sym), { data := #[] }, 0⟩ : Part)], (⟨{ data := #[] }, false, 0, 0⟩ : Sym), 0⟩ : Alt)]), I64 0]) rfl rfl (.ptr rfl) (.pend rfl) rfl rfl rfl .ns .rf rfl rfl sz93 rfl rfl rfl rfl (.n rfl rfl (.n rfl rfl (.n rfl rfl (.n rfl rfl (.n rfl rfl (.n rfl rfl (.n rfl rfl (.b rfl (.n rfl rfl .nil)))))))))) <| RunL.fin (.n rfl (.n rfl (.n rfl (.n rfl (.n rfl (.n rfl (.n rfl (.n rfl (.n rfl .nil)))))))))) ?_
      refine Px.bk ?_
      refine Px.sq ?_
      refine W.rx [(0, _), (1, _), (2, _), (6, _), (9, _), (10, _), (11, _), (12, _), (13, _)] (Rv (O.mv (.lit rfl)) <| Rv (O.add (.lit rfl) (.k rfl)) <| RunL.re (G1 := [(0, iR eI a0), (1, I64 a1), (2, I64 a2), (6, .obj [.nils, .nils, .nils, SS ({ data := #[] }), SS ({ data := #[] })]), (9, .obj [SS ({ data := #[] }), oR eDecl_0 (s1.1 ++ [(⟨w64 (2 + x8), { data := #[] }, [(⟨x6, false, 0, 0⟩ : Sym)], 0⟩ : Decl)]), .nils, SS ({ data := #[] })]), (10, I64 (min (a0.length : Int) 9)), (11, .obj [SS ({ data := #[101] }), BB false, I64 0, I64 0, SS ({ data := #[] }), I64 0]), (12, .obj [SS ({ data := #[101] }), oR eAlt_0 (s1.2.1 ++ [(⟨[(⟨(⟨{ data := #[101] }, false, 0, 0⟩ : Sym), { data := #[] }, 0⟩ : Part), (⟨(⟨x6, false, 0, 0⟩ : Sym), { data := #[] }, 0⟩ : Part), (⟨(⟨{ data := #[101] }, false, 0, 0⟩ : Sym), { data := #[] }, 0⟩ : Part)], (⟨{ data := #[] }, false, 0, 0⟩ : Sym), 0⟩ : Alt)]), I64 0]), (27, I64 (w64 (s1.2.2 + 1)))]) (.n rfl (.n rfl (.n rfl (.n rfl (.n rfl (.n rfl (.n rfl (.n rfl (.n rfl .nil))))))))) <| Rv (O.as (.lit rfl)) <| RunL.fin (.n rfl (.n rfl (.n rfl (.n rfl (.n rfl (.n rfl (.n rfl (.n rfl (.n rfl .nil)))))))))) ?_
      obtain rfl := sm h
      exact Px.go (.n rfl (.n rfl (.n rfl (.n rfl (.n rfl (.n rfl (.n rfl (.n rfl (.n rfl .nil)))))))))
    · replace h := cndF hb4 h
      refine W.xi ?_
      refine Px.sqE ?_
      obtain rfl := sm h
      exact Px.x1 (.n rfl (.n rfl (.n rfl (.n rfl (.n rfl (.n rfl (.n rfl .nil)))))))
  refine Px.bkH ?_
  refine Px.sq ?_
  refine W.sq' ?_
  obtain ⟨x11, hx11, h⟩ := bnd h
  refine W.rx [(1, _), (2, _), (6, _), (9, _), (10, _), (11, _), (12, _)] (Rv (O.fO rfl (.obj rfl) fd95_1 rfl) <| Rv (O.ldO (y := .brw eAlt_0.z ⟨12, [1]⟩ x2.2.length) rfl (.ptr rfl) ct93 rfl rfl) <| Rv (O.bu (cs := [SS ({ data := #[120] }), BB true, I64 0, I64 0]) sc91 ze91 rfl rfl rfl) <| Rv (O.bu (cs := [SS ({ data := #[120] }), BB true, I64 0, I64 0, SS ({ data := #[] }), I64 0]) sc100 ze100 rfl rfl rfl) <| RunL.vi (x := iR ePart [(⟨(⟨{ data := #[120] }, true, 0, 0⟩ : Sym), { data := #[] }, 0⟩ : Part)]) (O.bs (ys := [.agg [SS ({ data := #[120] }), BB true, I64 0, I64 0, SS ({ data := #[] }), I64 0]]) ePart [(⟨(⟨{ data := #[120] }, true, 0, 0⟩ : Sym), { data := #[] }, 0⟩ : Part)] sl96 rfl rfl rfl rfl rfl rfl zt100 rfl rfl) rfl rfl .none <| Rv (O.bu (cs := [iR ePart [(⟨(⟨{ data := #[120] }, true, 0, 0⟩ : Sym), { data := #[] }, 0⟩ : Part)], SS ({ data := #[] }), BB false, I64 0, I64 0, I64 0]) sc98 ze98 rfl rfl rfl) <| RunL.vi (x := iR eAlt_0 [(⟨[(⟨(⟨{ data := #[120] }, true, 0, 0⟩ : Sym), { data := #[] }, 0⟩ : Part)], (⟨{ data := #[] }, false, 0, 0⟩ : Sym), 0⟩ : Alt)]) (O.bs (ys := [.agg [iR ePart [(⟨(⟨{ data := #[120] }, true, 0, 0⟩ : Sym), { data := #[] }, 0⟩ : Part)], SS ({ data := #[] }), BB false, I64 0, I64 0, I64 0]]) eAlt_0 [(⟨[(⟨(⟨{ data := #[120] }, true, 0, 0⟩ : Sym), { data := #[] }, 0⟩ : Part)], (⟨{ data := #[] }, false, 0, 0⟩ : Sym), 0⟩ : Alt)] sl93 rfl rfl rfl rfl rfl rfl zt98 rfl rfl) rfl rfl .none <| Rv (O.ap (en := eAlt_0) (r := x11) (.brw rfl) rfl (.imm rfl) .i ap93 rfl hx11) <| Rv (O.fO rfl (.obj rfl) fd95_1 rfl) <| RunL.ef (G2 := [(1, I64 a1), (2, I64 a2), (6, .obj [.nils, .nils, .nils, SS ({ data := #[] }), SS ({ data := #[] })]), (9, .obj [SS ({ data := #[] }), oR eDecl_0 x2.1, .nils, SS ({ data := #[] })]), (10, I64 (min (a0.length : Int) 9)), (11, .obj [SS ({ data := #[101] }), BB false, I64 0, I64 0, SS ({ data := #[] }), I64 0]), (12, .obj [SS ({ data := #[101] }), oR eAlt_0 (x2.2 ++ [(⟨[(⟨(⟨{ data := #[120] }, true, 0, 0⟩ : Sym), { data := #[] }, 0⟩ : Part)], (⟨{ data := #[] }, false, 0, 0⟩ : Sym), 0⟩ : Alt)]), I64 0])]) rfl (EO.stP (g1 := _) (en := eAlt_0) (M := [(⟨[(⟨(⟨{ data := #[120] }, true, 0, 0⟩ : Sym), { data := #[] }, 0⟩ : Part)], (⟨{ data := #[] }, false, 0, 0⟩ : Sym), 0⟩ : Alt)]) (cs2 := [SS ({ data := #[101] }), oR eAlt_0 (x2.2 ++ [(⟨[(⟨(⟨{ data := #[120] }, true, 0, 0⟩ : Sym), { data := #[] }, 0⟩ : Part)], (⟨{ data := #[] }, false, 0, 0⟩ : Sym), 0⟩ : Alt)]), I64 0]) rfl rfl (.ptr rfl) (.pend rfl) rfl rfl rfl .ns .rf rfl rfl sz93 rfl rfl rfl rfl (.n rfl rfl (.n rfl rfl (.n rfl rfl (.n rfl rfl (.n rfl rfl (.n rfl rfl (.b rfl .nil)))))))) <| RunL.fin (.n rfl (.n rfl (.n rfl (.n rfl (.n rfl (.n rfl (.n rfl .nil)))))))) ?_
  refine Px.sq ?_
  refine W.sq' ?_
  refine W.sq' ?_
  refine W.rx [(1, _), (2, _), (6, _), (9, _), (10, _), (11, _), (12, _), (67, _)] (Rv (O.mv (.lit rfl)) <| Rv (O.gtr (.lit rfl) (.k rfl)) <| RunL.fin (.n rfl (.n rfl (.n rfl (.n rfl (.n rfl (.n rfl (.n rfl (.n rfl .nil))))))))) ?_
  refine Px.sq ?_
  obtain ⟨j12, hj, h⟩ := bnd h
  refine W.jn [(6, .obj [.nils, .nils, .nils, SS ({ data := #[] }), SS ({ data := #[] })]), (9, .obj [SS ({ data := #[] }), oR eDecl_0 x2.1, .nils, SS ({ data := #[] })]), (10, I64 (min (a0.length : Int) 9)), (12, .obj [SS ({ data := #[101] }), oR eAlt_0 j12, I64 0])] ?_ ?_
  · clear h; have h := hj; clear hj
    refine W.cnd rfl (fun hb13 => ?_) (fun hb13 => ?_)
    · replace h := cndT hb13 h
      obtain ⟨x14, hx14, h⟩ := bnd h
      obtain ⟨x15, hx15, h⟩ := bnd h
      obtain ⟨x16, hx16, h⟩ := bnd h
      obtain ⟨x17, hx17, h⟩ := bnd h
      obtain ⟨x18, hx18, h⟩ := bnd h
      refine W.rd [[], [0], [], [2], [2, 3], [2, 3, 4], [2, 3, 4, 5], [], rn 2 6 [], [], [2, 3, 9], [2, 3, 9, 10], [2, 3, 9, 10, 11], rn 2 11 [], rn 2 12 [], rn 0 15 [], rn 0 16 [], rn 0 17 []] [(6, _), (9, _), (10, _), (12, _)] mixo (by kernel_rfl) (Dv 0 (O.fO rfl (.obj rfl) fd95_1 rfl) <| Dv 1 (O.ldO (y := .brw eAlt_0.z ⟨12, [1]⟩ (x2.2 ++ [(⟨[(⟨(⟨{ data := #[120] }, true, 0, 0⟩ : Sym), { data := #[] }, 0⟩ : Part)], (⟨{ data := #[] }, false, 0, 0⟩ : Sym), 0⟩ : Alt)]).length) rfl (.ptr rfl) ct93 rfl rfl) <| Dv 2 (O.mv (.lit rfl)) <| Dc 3 (PC.go (.cc (.lit rfl) .nil) (con52 a1 _ hx14) call52 rfl) <| Dv 4 (O.cat (.k rfl) (.lit rfl) hx15) <| Dv 5 (O.bu (cs := [SS x15, BB false, I64 0, I64 0]) sc91 ze91 rfl rfl rfl) <| Dv 6 (O.bu (cs := [SS x15, BB false, I64 0, I64 0, SS ({ data := #[] }), I64 0]) sc100 ze100 rfl rfl rfl) <| Dv 7 (O.ldON (cs' := [SS ({ data := #[101] }), BB false, I64 0, I64 0, SS ({ data := #[] }), I64 0]) rfl (.obj rfl) at100 rfl rfl) <| DL.vi 8 (x := iR ePart [(⟨(⟨x15, false, 0, 0⟩ : Sym), { data := #[] }, 0⟩ : Part), (⟨(⟨{ data := #[101] }, false, 0, 0⟩ : Sym), { data := #[] }, 0⟩ : Part)]) (O.bs (ys := [.agg [SS x15, BB false, I64 0, I64 0, SS ({ data := #[] }), I64 0], .agg [SS ({ data := #[101] }), BB false, I64 0, I64 0, SS ({ data := #[] }), I64 0]]) ePart [(⟨(⟨x15, false, 0, 0⟩ : Sym), { data := #[] }, 0⟩ : Part), (⟨(⟨{ data := #[101] }, false, 0, 0⟩ : Sym), { data := #[] }, 0⟩ : Part)] sl96 rfl rfl rfl rfl rfl rfl zt100 rfl rfl) rfl rfl rfl rfl .none <| Dv 9 (O.mv (.lit rfl)) <| Dc 10 (PC.go (.cc (.lit rfl) .nil) (con52 a2 _ hx16) call52 rfl) <| Dv 11 (O.cat (.k rfl) (.lit rfl) hx17) <| Dv 12 (O.bu (cs := [SS x17, BB false, I64 0, I64 0]) sc91 ze91 rfl rfl rfl) <| Dv 13 (O.bu (cs := [iR ePart [(⟨(⟨x15, false, 0, 0⟩ : Sym), { data := #[] }, 0⟩ : Part), (⟨(⟨{ data := #[101] }, false, 0, 0⟩ : Sym), { data := #[] }, 0⟩ : Part)], SS x17, BB false, I64 0, I64 0, I64 0]) sc98 ze98 rfl rfl rfl) <| DL.vi 14 (x := iR eAlt_0 [(⟨[(⟨(⟨x15, false, 0, 0⟩ : Sym), { data := #[] }, 0⟩ : Part), (⟨(⟨{ data := #[101] }, false, 0, 0⟩ : Sym), { data := #[] }, 0⟩ : Part)], (⟨x17, false, 0, 0⟩ : Sym), 0⟩ : Alt)]) (O.bs (ys := [.agg [iR ePart [(⟨(⟨x15, false, 0, 0⟩ : Sym), { data := #[] }, 0⟩ : Part), (⟨(⟨{ data := #[101] }, false, 0, 0⟩ : Sym), { data := #[] }, 0⟩ : Part)], SS x17, BB false, I64 0, I64 0, I64 0]]) eAlt_0 [(⟨[(⟨(⟨x15, false, 0, 0⟩ : Sym), { data := #[] }, 0⟩ : Part), (⟨(⟨{ data := #[101] }, false, 0, 0⟩ : Sym), { data := #[] }, 0⟩ : Part)], (⟨x17, false, 0, 0⟩ : Sym), 0⟩ : Alt)] sl93 rfl rfl rfl rfl rfl rfl zt98 rfl rfl) rfl rfl rfl rfl .none <| Dv 15 (O.ap (en := eAlt_0) (r := x18) (.brw rfl) rfl (.imm rfl) .i ap93 rfl hx18) <| Dv 16 (O.fO rfl (.obj rfl) fd95_1 rfl) <| DL.bp 17 (G2 := [(6, .obj [.nils, .nils, .nils, SS ({ data := #[] }), SS ({ data := #[] })]), (9, .obj [SS ({ data := #[] }), oR eDecl_0 x2.1, .nils, SS ({ data := #[] })]), (10, I64 (min (a0.length : Int) 9)), (12, .obj [SS ({ data := #[101] }), oR eAlt_0 ((x2.2 ++ [(⟨[(⟨(⟨{ data := #[120] }, true, 0, 0⟩ : Sym), { data := #[] }, 0⟩ : Part)], (⟨{ data := #[] }, false, 0, 0⟩ : Sym), 0⟩ : Alt)]) ++ [(⟨[(⟨(⟨x15, false, 0, 0⟩ : Sym), { data := #[] }, 0⟩ : Part), (⟨(⟨{ data := #[101] }, false, 0, 0⟩ : Sym), { data := #[] }, 0⟩ : Part)], (⟨x17, false, 0, 0⟩ : Sym), 0⟩ : Alt)]), I64 0])]) (EO.stP (g1 := _) (en := eAlt_0) (M := [(⟨[(⟨(⟨x15, false, 0, 0⟩ : Sym), { data := #[] }, 0⟩ : Part), (⟨(⟨{ data := #[101] }, false, 0, 0⟩ : Sym), { data := #[] }, 0⟩ : Part)], (⟨x17, false, 0, 0⟩ : Sym), 0⟩ : Alt)]) (cs2 := [SS ({ data := #[101] }), oR eAlt_0 ((x2.2 ++ [(⟨[(⟨(⟨{ data := #[120] }, true, 0, 0⟩ : Sym), { data := #[] }, 0⟩ : Part)], (⟨{ data := #[] }, false, 0, 0⟩ : Sym), 0⟩ : Alt)]) ++ [(⟨[(⟨(⟨x15, false, 0, 0⟩ : Sym), { data := #[] }, 0⟩ : Part), (⟨(⟨{ data := #[101] }, false, 0, 0⟩ : Sym), { data := #[] }, 0⟩ : Part)], (⟨x17, false, 0, 0⟩ : Sym), 0⟩ : Alt)]), I64 0]) rfl rfl (.ptr rfl) (.pend rfl) rfl rfl rfl .ns .rf rfl rfl sz93 rfl rfl rfl rfl (.n rfl rfl (.n rfl rfl (.n rfl rfl (.b rfl .nil))))) rfl rfl rfl rfl (by kernel_rfl) (by kernel_rfl) <| DL.fin rfl rfl rfl (.n rfl (.n rfl (.n rfl (.n rfl .nil))))) ?_
      obtain rfl := sm h
      exact Px.jn (.n rfl (.n rfl (.n rfl (.n rfl .nil))))
    · replace h := cndF hb13 h
      refine W.sk ?_
      obtain rfl := sm h
      exact Px.jn (.n rfl (.n rfl (.n rfl (.n rfl .nil))))
  refine Px.sq ?_
  refine W.sq' ?_
  refine W.fz (G1 := [(6, .obj [.nils, .nils, .nils, SS ({ data := #[] }), SS ({ data := #[] })]), (9, .obj [SS ({ data := #[] }), oR eDecl_0 x2.1, .nils, SS ({ data := #[] })]), (10, I64 (min (a0.length : Int) 9)), (12, .obj [SS ({ data := #[101] }), iR eAlt_0 j12, I64 0])]) [12] (.n rfl rfl (.n rfl rfl (.n rfl rfl (.z rfl rfl (FzL.obj (.f (.z (.f .nil)))) .nil)))) ?_
  refine W.rx [(6, _), (9, _), (10, _)] (Rv (O.ldON (cs' := [SS ({ data := #[101] }), iR eAlt_0 j12, I64 0]) rfl (.obj rfl) at95 rfl rfl) <| Rv (O.bs (ys := [.agg [SS ({ data := #[101] }), iR eAlt_0 j12, I64 0]]) eRule_0 [(⟨{ data := #[101] }, j12, 0⟩ : Rule)] sl23 rfl rfl rfl rfl rfl rfl zt95 rfl rfl) <| Rv (O.fO rfl (.obj rfl) fd25_2 rfl) <| RunL.ef (G2 := [(6, .obj [.nils, .nils, .nils, SS ({ data := #[] }), SS ({ data := #[] })]), (9, .obj [SS ({ data := #[] }), oR eDecl_0 x2.1, oR eRule_0 [(⟨{ data := #[101] }, j12, 0⟩ : Rule)], SS ({ data := #[] })]), (10, I64 (min (a0.length : Int) 9))]) rfl (EO.stB (y' := oR eRule_0 [(⟨{ data := #[101] }, j12, 0⟩ : Rule)]) (cs2 := [SS ({ data := #[] }), oR eDecl_0 x2.1, oR eRule_0 [(⟨{ data := #[101] }, j12, 0⟩ : Rule)], SS ({ data := #[] })]) rfl rfl (.ptr rfl) (.own rfl) (.r rfl .nil) .refl rfl sz23 rfl rfl rfl rfl rfl (.n rfl rfl (.b rfl (.n rfl rfl .nil)))) <| RunL.fin (.n rfl (.n rfl (.n rfl .nil)))) ?_
  refine Px.sq ?_
  refine W.sq' ?_
  refine W.fz (G1 := [(6, .obj [.nils, .nils, .nils, SS ({ data := #[] }), SS ({ data := #[] })]), (9, .obj [SS ({ data := #[] }), iR eDecl_0 x2.1, iR eRule_0 [(⟨{ data := #[101] }, j12, 0⟩ : Rule)], SS ({ data := #[] })]), (10, I64 (min (a0.length : Int) 9))]) [9] (.n rfl rfl (.z rfl rfl (FzL.obj (.f (.z (.z (.f .nil))))) (.n rfl rfl .nil))) ?_
  obtain ⟨x19, hx19, h⟩ := bnd h
  refine W.rx [(6, _), (10, _), (15, _), (16, _)] (Rv (O.ldON (cs' := [SS ({ data := #[] }), iR eDecl_0 x2.1, iR eRule_0 [(⟨{ data := #[101] }, j12, 0⟩ : Rule)], SS ({ data := #[] })]) rfl (.obj rfl) at25 rfl rfl) <| Rc (PC.go (.cc (.aggF rfl rfl) .nil) (con18 (⟨{ data := #[] }, x2.1, [(⟨{ data := #[101] }, j12, 0⟩ : Rule)], { data := #[] }⟩ : Source) _ hx19) call18 rfl) <| Rv (O.mv (.tup rfl rfl)) <| Rv (O.ex (y := .agg (eGrammar_0.cells x19.1)) rfl rfl rfl) <| Rv (O.ex (y := BB x19.2) rfl rfl rfl) <| Rv (O.al (cs := [.nils, .nils, .nils, SS ({ data := #[] }), SS ({ data := #[] })]) ze38 rfl rfl) <| RunL.sO (G2 := [(6, .obj [.nils, .nils, .nils, SS ({ data := #[] }), SS ({ data := #[] })]), (10, I64 (min (a0.length : Int) 9)), (15, .obj (eGrammar_0.cells x19.1)), (92, BB x19.2)]) (cs2 := [iR eTok x19.1.Toks, iR eNon x19.1.Nons, iR eProd_0 x19.1.Prods, SS x19.1.Pro, SS x19.1.Tail]) rfl (.obj rfl) (.aggF rfl rfl) rfl sz38 rfl rfl rfl rfl (.n rfl rfl (.n rfl rfl (.b rfl (.n rfl rfl .nil)))) <| Rv (O.as (.lit rfl)) <| RunL.fin (.n rfl (.n rfl (.n rfl (.n rfl .nil))))) ?_
  refine Px.sq ?_
  refine W.sq' ?_
  refine W.rx [(6, _), (7, _), (8, _)] (Rv (O.ldON (cs' := [iR eTok x19.1.Toks, iR eNon x19.1.Nons, iR eProd_0 x19.1.Prods, SS x19.1.Pro, SS x19.1.Tail]) rfl (.obj rfl) at38 rfl rfl) <| Rv (O.mv (.lit rfl)) <| Rv (O.mv (.lit rfl)) <| RunL.sO (G2 := [(6, .obj (eGrammar_0.cells x19.1)), (94, I64 (min (a0.length : Int) 9)), (95, BB x19.2)]) (cs2 := [iR eTok x19.1.Toks, iR eNon x19.1.Nons, iR eProd_0 x19.1.Prods, SS x19.1.Pro, SS x19.1.Tail]) rfl (.obj rfl) (.aggF rfl rfl) rfl sz38 rfl rfl rfl rfl (.b rfl (.n rfl rfl (.n rfl rfl .nil))) <| Rv (O.as (.lit rfl)) <| Rv (O.as (.lit rfl)) <| RunL.fin (.n rfl (.n rfl (.n rfl .nil)))) ?_
  refine Px.sq ?_
  refine W.rt ?_
  obtain rfl := sm h
  exact Px.fin (Fin.ro (.c (ys0 := [iR eTok x19.1.Toks, iR eNon x19.1.Nons, iR eProd_0 x19.1.Prods, SS x19.1.Pro, SS x19.1.Tail]) rfl at38 rfl rfl rfl (.f rfl (.f rfl (.f rfl (.f rfl (.f rfl .nil))))) (.f rfl rfl (.f rfl rfl .nil))) rfl (of_decide_eq_true (by kernel_rfl)) (.no (.no (.no .nil))) rfl (.inr rfl))
def pf20 (a0 : Grammar) (a1 : Int) : Option (Int × Int) :=
 ((bif decide (a1 < 0) then some true else (bif decide ((a0.Prods.length : Int) ≤ a1) then some true else ((idx a0.Prods a1).bind fun x3 => some (decide (x3.Prec < 0)))))).bind fun c4 =>
 (bif c4 then
 some (0, 0)
 else
 (idx a0.Prods a1).bind fun x6 =>
 (idx a0.Toks x6.Prec).bind fun x7 =>
 some (x7.Level, x7.Assoc))
def pf22 (a0 : Grammar) (a1 : Int) (a2 : Int) : Option (Int) :=
 (pf20 a0 a1).bind fun x1 =>
 ((bif decide (x1.1 = 0) then some true else (bif decide (a2 < 0) then some true else (bif decide ((a0.Toks.length : Int) ≤ a2) then some true else ((idx a0.Toks a2).bind fun x5 => some (decide (x5.Level = 0))))))).bind fun c6 =>
 (bif c6 then
 some 0
 else
 (idx a0.Toks a2).bind fun x8 =>
 (bif decide (x1.1 < x8.Level) then
 some 1
 else
 (bif decide (x8.Level < x1.1) then
 some 2
 else
 (bif decide (x8.Assoc = 1) then
 some 2
 else
 (bif decide (x8.Assoc = 2) then
 some 1
 else
 some 3)))))
def pf15  : Option (Bool) :=
 (pf23 [0, 0] 0 1).bind fun x1 =>
 (pf19 x1.1 2).bind fun x2 =>
 (pf19 x1.1 9).bind fun x3 =>
 ((bif x1.2.2 then (bif decide (x2.1 = 2) then (bif decide (x2.2 = 1) then (bif decide (x3.1 = 0) then (bif decide (x3.2 = 0) then ((pf21 x1.1 2 3).bind fun x9 => (bif decide (x9 = 2) then ((pf21 x1.1 1 4).bind fun x11 => (bif decide (x11 = 1) then ((pf21 x1.1 3 3).bind fun x13 => some (decide (x13 = 0))) else some false)) else some false)) else some false) else some false) else some false) else some false) else some false)).bind fun c14 =>
 some c14
theorem con15  (r : Bool) (h : pf15  = some r) : Con Try.prog 15 [] [] (BB r) := by
  unfold pf15 at h
  refine Con.go (N := ⟨56, []⟩) Try.func15 rfl rfl rfl rfl (W.fin ?_)
  refine W.st [] ?_
  refine W.sq' ?_
  refine W.rx [] (Rv (O.as (.k rfl)) <| RunL.fin .nil) ?_
  refine Px.sq ?_
  refine W.sq' ?_
  obtain ⟨x1, hx1, h⟩ := bnd h
  refine W.rx [(1, _), (3, _)] (RunL.vi (x := iR eI [0, 0]) (O.bs (ys := [I64 0, I64 0]) eI [0, 0] sl27 rfl rfl rfl rfl rfl rfl zt3 rfl rfl) rfl rfl .none <| Rc (PC.go (.cc (.imm rfl) (.cc (.k rfl) (.cc (.k rfl) .nil))) (con23 [0, 0] 0 1 _ hx1) call23 rfl) <| Rv (O.mv (.tup rfl rfl)) <| Rv (O.ex (y := .agg (eGrammar_0.cells x1.1)) rfl rfl rfl) <| Rv (O.ex (y := I64 x1.2.1) rfl rfl rfl) <| Rv (O.ex (y := BB x1.2.2) rfl rfl rfl) <| Rv (O.al (cs := [.nils, .nils, .nils, SS ({ data := #[] }), SS ({ data := #[] })]) ze38 rfl rfl) <| RunL.sO (G2 := [(1, .obj (eGrammar_0.cells x1.1)), (12, I64 x1.2.1), (13, BB x1.2.2)]) (cs2 := [iR eTok x1.1.Toks, iR eNon x1.1.Nons, iR eProd_0 x1.1.Prods, SS x1.1.Pro, SS x1.1.Tail]) rfl (.obj rfl) (.aggF rfl rfl) rfl sz38 rfl rfl rfl rfl (.b rfl (.n rfl rfl (.n rfl rfl .nil))) <| Rv (O.as (.lit rfl)) <| Rv (O.as (.lit rfl)) <| RunL.fin (.n rfl (.n rfl .nil))) ?_
  refine Px.sq ?_
  refine W.sq' ?_
  obtain ⟨x2, hx2, h⟩ := bnd h
  refine W.rx [(1, _), (3, _), (4, _), (5, _)] (Rv (O.ldON (cs' := [iR eTok x1.1.Toks, iR eNon x1.1.Nons, iR eProd_0 x1.1.Prods, SS x1.1.Pro, SS x1.1.Tail]) rfl (.obj rfl) at38 rfl rfl) <| Rc (PC.go (.cc (.aggF rfl rfl) (.cc (.k rfl) .nil)) (con19 x1.1 2 _ hx2) call19 rfl) <| Rv (O.mv (.tupF rfl rfl)) <| Rv (O.ex (y := I64 x2.1) rfl rfl rfl) <| Rv (O.ex (y := I64 x2.2) rfl rfl rfl) <| Rv (O.as (.lit rfl)) <| Rv (O.as (.lit rfl)) <| RunL.fin (.n rfl (.n rfl (.n rfl (.n rfl .nil))))) ?_
  refine Px.sq ?_
  refine W.sq' ?_
  obtain ⟨x3, hx3, h⟩ := bnd h
  refine W.rx [(1, _), (3, _), (4, _), (5, _), (6, _), (7, _)] (Rv (O.ldON (cs' := [iR eTok x1.1.Toks, iR eNon x1.1.Nons, iR eProd_0 x1.1.Prods, SS x1.1.Pro, SS x1.1.Tail]) rfl (.obj rfl) at38 rfl rfl) <| Rc (PC.go (.cc (.aggF rfl rfl) (.cc (.k rfl) .nil)) (con19 x1.1 9 _ hx3) call19 rfl) <| Rv (O.mv (.tupF rfl rfl)) <| Rv (O.ex (y := I64 x3.1) rfl rfl rfl) <| Rv (O.ex (y := I64 x3.2) rfl rfl rfl) <| Rv (O.as (.lit rfl)) <| Rv (O.as (.lit rfl)) <| RunL.fin (.n rfl (.n rfl (.n rfl (.n rfl (.n rfl (.n rfl .nil))))))) ?_
  refine Px.sq ?_
  refine W.sq' ?_
  obtain ⟨c14, hj, h⟩ := bnd h
  refine W.rx [(0, BB c14)] ?_ ?_
  · refine Rv (O.mv (.lit rfl)) <| Rv (O.mv (.lit rfl)) ?_
    rcases cnd hj with ⟨hb4, hj⟩ | ⟨hb4, hj⟩
    · refine RunL.v (O.mv (.lit rfl)) rfl rfl (.yb rfl rfl hb4) <| RunL.v (O.eql (.lit rfl) (.k rfl)) rfl rfl (.yb rfl rfl hb4) <| Rv (O.pkT (.lit rfl) hb4 (.lit rfl)) <| Rv (O.mv (.lit rfl)) ?_
      rcases cnd hj with ⟨hb5, hj⟩ | ⟨hb5, hj⟩
      · refine RunL.v (O.mv (.lit rfl)) rfl rfl (.yb rfl rfl hb5) <| RunL.v (O.eql (.lit rfl) (.k rfl)) rfl rfl (.yb rfl rfl hb5) <| Rv (O.pkT (.lit rfl) hb5 (.lit rfl)) <| Rv (O.mv (.lit rfl)) ?_
        rcases cnd hj with ⟨hb6, hj⟩ | ⟨hb6, hj⟩
        · refine RunL.v (O.mv (.lit rfl)) rfl rfl (.yb rfl rfl hb6) <| RunL.v (O.eql (.lit rfl) (.k rfl)) rfl rfl (.yb rfl rfl hb6) <| Rv (O.pkT (.lit rfl) hb6 (.lit rfl)) <| Rv (O.mv (.lit rfl)) ?_
          rcases cnd hj with ⟨hb7, hj⟩ | ⟨hb7, hj⟩
          · refine RunL.v (O.mv (.lit rfl)) rfl rfl (.yb rfl rfl hb7) <| RunL.v (O.eql (.lit rfl) (.k rfl)) rfl rfl (.yb rfl rfl hb7) <| Rv (O.pkT (.lit rfl) hb7 (.lit rfl)) <| Rv (O.mv (.lit rfl)) ?_
            rcases cnd hj with ⟨hb8, hj⟩ | ⟨hb8, hj⟩
            · refine RunL.v (O.ldON (cs' := [iR eTok x1.1.Toks, iR eNon x1.1.Nons, iR eProd_0 x1.1.Prods, SS x1.1.Pro, SS x1.1.Tail]) rfl (.obj rfl) at38 rfl rfl) rfl rfl (.yb rfl rfl hb8) ?_
              obtain ⟨x9, hx9, hj⟩ := bnd hj
              refine RunL.c (PC.go (.cc (.aggF rfl rfl) (.cc (.k rfl) (.cc (.k rfl) .nil))) (con21 x1.1 2 3 _ hx9) call21 rfl) rfl rfl (.yb rfl rfl hb8) <| RunL.v (O.eql (.lit rfl) (.k rfl)) rfl rfl (.yb rfl rfl hb8) <| Rv (O.pkT (.lit rfl) hb8 (.lit rfl)) <| Rv (O.mv (.lit rfl)) ?_
              rcases cnd hj with ⟨hb10, hj⟩ | ⟨hb10, hj⟩
              · refine RunL.v (O.ldON (cs' := [iR eTok x1.1.Toks, iR eNon x1.1.Nons, iR eProd_0 x1.1.Prods, SS x1.1.Pro, SS x1.1.Tail]) rfl (.obj rfl) at38 rfl rfl) rfl rfl (.yb rfl rfl hb10) ?_
                obtain ⟨x11, hx11, hj⟩ := bnd hj
                refine RunL.c (PC.go (.cc (.aggF rfl rfl) (.cc (.k rfl) (.cc (.k rfl) .nil))) (con21 x1.1 1 4 _ hx11) call21 rfl) rfl rfl (.yb rfl rfl hb10) <| RunL.v (O.eql (.lit rfl) (.k rfl)) rfl rfl (.yb rfl rfl hb10) <| Rv (O.pkT (.lit rfl) hb10 (.lit rfl)) <| Rv (O.mv (.lit rfl)) ?_
                rcases cnd hj with ⟨hb12, hj⟩ | ⟨hb12, hj⟩
                · refine RunL.v (O.ldON (cs' := [iR eTok x1.1.Toks, iR eNon x1.1.Nons, iR eProd_0 x1.1.Prods, SS x1.1.Pro, SS x1.1.Tail]) rfl (.obj rfl) at38 rfl rfl) rfl rfl (.yb rfl rfl hb12) ?_
                  obtain ⟨x13, hx13, hj⟩ := bnd hj
                  obtain rfl := sm hj
                  exact RunL.c (PC.go (.cc (.aggF rfl rfl) (.cc (.k rfl) (.cc (.k rfl) .nil))) (con21 x1.1 3 3 _ hx13) call21 rfl) rfl rfl (.yb rfl rfl hb12) <| RunL.v (O.eql (.lit rfl) (.k rfl)) rfl rfl (.yb rfl rfl hb12) <| Rv (O.pkT (.lit rfl) hb12 (.lit rfl)) <| Rv (O.as (.lit rfl)) <| RunL.fin (.n rfl .nil)
                · obtain rfl := sm hj
                  exact RunL.ps rfl rfl hb12 rfl rfl <| RunL.ps rfl rfl hb12 rfl rfl <| RunL.ps rfl rfl hb12 rfl rfl <| Rv (O.pkF (.lit rfl) hb12 (.k rfl)) <| Rv (O.as (.lit rfl)) <| RunL.fin (.n rfl .nil)
              · obtain rfl := sm hj
                exact RunL.ps rfl rfl hb10 rfl rfl <| RunL.ps rfl rfl hb10 rfl rfl <| RunL.ps rfl rfl hb10 rfl rfl <| Rv (O.pkF (.lit rfl) hb10 (.k rfl)) <| Rv (O.mv (.lit rfl)) <| RunL.ps rfl rfl rfl rfl rfl <| RunL.ps rfl rfl rfl rfl rfl <| RunL.ps rfl rfl rfl rfl rfl <| Rv (O.pkF (.lit rfl) rfl (.k rfl)) <| Rv (O.as (.lit rfl)) <| RunL.fin (.n rfl .nil)
            · obtain rfl := sm hj
              exact RunL.ps rfl rfl hb8 rfl rfl <| RunL.ps rfl rfl hb8 rfl rfl <| RunL.ps rfl rfl hb8 rfl rfl <| Rv (O.pkF (.lit rfl) hb8 (.k rfl)) <| Rv (O.mv (.lit rfl)) <| RunL.ps rfl rfl rfl rfl rfl <| RunL.ps rfl rfl rfl rfl rfl <| RunL.ps rfl rfl rfl rfl rfl <| Rv (O.pkF (.lit rfl) rfl (.k rfl)) <| Rv (O.mv (.lit rfl)) <| RunL.ps rfl rfl rfl rfl rfl <| RunL.ps rfl rfl rfl rfl rfl <| RunL.ps rfl rfl rfl rfl rfl <| Rv (O.pkF (.lit rfl) rfl (.k rfl)) <| Rv (O.as (.lit rfl)) <| RunL.fin (.n rfl .nil)
          · obtain rfl := sm hj
            exact RunL.ps rfl rfl hb7 rfl rfl <| RunL.ps rfl rfl hb7 rfl rfl <| Rv (O.pkF (.lit rfl) hb7 (.k rfl)) <| Rv (O.mv (.lit rfl)) <| RunL.ps rfl rfl rfl rfl rfl <| RunL.ps rfl rfl rfl rfl rfl <| RunL.ps rfl rfl rfl rfl rfl <| Rv (O.pkF (.lit rfl) rfl (.k rfl)) <| Rv (O.mv (.lit rfl)) <| RunL.ps rfl rfl rfl rfl rfl <| RunL.ps rfl rfl rfl rfl rfl <| RunL.ps rfl rfl rfl rfl rfl <| Rv (O.pkF (.lit rfl) rfl (.k rfl)) <| Rv (O.mv (.lit rfl)) <| RunL.ps rfl rfl rfl rfl rfl <| RunL.ps rfl rfl rfl rfl rfl <| RunL.ps rfl rfl rfl rfl rfl <| Rv (O.pkF (.lit rfl) rfl (.k rfl)) <| Rv (O.as (.lit rfl)) <| RunL.fin (.n rfl .nil)
        · obtain rfl := sm hj
          exact RunL.ps rfl rfl hb6 rfl rfl <| RunL.ps rfl rfl hb6 rfl rfl <| Rv (O.pkF (.lit rfl) hb6 (.k rfl)) <| Rv (O.mv (.lit rfl)) <| RunL.ps rfl rfl rfl rfl rfl <| RunL.ps rfl rfl rfl rfl rfl <| Rv (O.pkF (.lit rfl) rfl (.k rfl)) <| Rv (O.mv (.lit rfl)) <| RunL.ps rfl rfl rfl rfl rfl <| RunL.ps rfl rfl rfl rfl rfl <| RunL.ps rfl rfl rfl rfl rfl <| Rv (O.pkF (.lit rfl) rfl (.k rfl)) <| Rv (O.mv (.lit rfl)) <| RunL.ps rfl rfl rfl rfl rfl <| RunL.ps rfl rfl rfl rfl rfl <| RunL.ps rfl rfl rfl rfl rfl <| Rv (O.pkF (.lit rfl) rfl (.k rfl)) <| Rv (O.mv (.lit rfl)) <| RunL.ps rfl rfl rfl rfl rfl <| RunL.ps rfl rfl rfl rfl rfl <| RunL.ps rfl rfl rfl rfl rfl <| Rv (O.pkF (.lit rfl) rfl (.k rfl)) <| Rv (O.as (.lit rfl)) <| RunL.fin (.n rfl .nil)
      · obtain rfl := sm hj
        exact RunL.ps rfl rfl hb5 rfl rfl <| RunL.ps rfl rfl hb5 rfl rfl <| Rv (O.pkF (.lit rfl) hb5 (.k rfl)) <| Rv (O.mv (.lit rfl)) <| RunL.ps rfl rfl rfl rfl rfl <| RunL.ps rfl rfl rfl rfl rfl <| Rv (O.pkF (.lit rfl) rfl (.k rfl)) <| Rv (O.mv (.lit rfl)) <| RunL.ps rfl rfl rfl rfl rfl <| RunL.ps rfl rfl rfl rfl rfl <| Rv (O.pkF (.lit rfl) rfl (.k rfl)) <| Rv (O.mv (.lit rfl)) <| RunL.ps rfl rfl rfl rfl rfl <| RunL.ps rfl rfl rfl rfl rfl <| RunL.ps rfl rfl rfl rfl rfl <| Rv (O.pkF (.lit rfl) rfl (.k rfl)) <| Rv (O.mv (.lit rfl)) <| RunL.ps rfl rfl rfl rfl rfl <| RunL.ps rfl rfl rfl rfl rfl <| RunL.ps rfl rfl rfl rfl rfl <| Rv (O.pkF (.lit rfl) rfl (.k rfl)) <| Rv (O.mv (.lit rfl)) <| RunL.ps rfl rfl rfl rfl rfl <| RunL.ps rfl rfl rfl rfl rfl <| RunL.ps rfl rfl rfl rfl rfl <| Rv (O.pkF (.lit rfl) rfl (.k rfl)) <| Rv (O.as (.lit rfl)) <| RunL.fin (.n rfl .nil)
    · obtain rfl := sm hj
      exact RunL.ps rfl rfl hb4 rfl rfl <| RunL.ps rfl rfl hb4 rfl rfl <| Rv (O.pkF (.lit rfl) hb4 (.k rfl)) <| Rv (O.mv (.lit rfl)) <| RunL.ps rfl rfl rfl rfl rfl <| RunL.ps rfl rfl rfl rfl rfl <| Rv (O.pkF (.lit rfl) rfl (.k rfl)) <| Rv (O.mv (.lit rfl)) <| RunL.ps rfl rfl rfl rfl rfl <| RunL.ps rfl rfl rfl rfl rfl <| Rv (O.pkF (.lit rfl) rfl (.k rfl)) <| Rv (O.mv (.lit rfl)) <| RunL.ps rfl rfl rfl rfl rfl <| RunL.ps rfl rfl rfl rfl rfl <| Rv (O.pkF (.lit rfl) rfl (.k rfl)) <| Rv (O.mv (.lit rfl)) <| RunL.ps rfl rfl rfl rfl rfl <| RunL.ps rfl rfl rfl rfl rfl <| RunL.ps rfl rfl rfl rfl rfl <| Rv (O.pkF (.lit rfl) rfl (.k rfl)) <| Rv (O.mv (.lit rfl)) <| RunL.ps rfl rfl rfl rfl rfl <| RunL.ps rfl rfl rfl rfl rfl <| RunL.ps rfl rfl rfl rfl rfl <| Rv (O.pkF (.lit rfl) rfl (.k rfl)) <| Rv (O.mv (.lit rfl)) <| RunL.ps rfl rfl rfl rfl rfl <| RunL.ps rfl rfl rfl rfl rfl <| RunL.ps rfl rfl rfl rfl rfl <| Rv (O.pkF (.lit rfl) rfl (.k rfl)) <| Rv (O.as (.lit rfl)) <| RunL.fin (.n rfl .nil)
  refine Px.sq ?_
  refine W.rt ?_
  obtain rfl := sm h
  exact Px.fin (Fin.ro (.f rfl rfl .nil) rfl (of_decide_eq_true (by kernel_rfl)) .nil rfl (.inr rfl))
def pf27 (a0 : ByteArray) (a1 : Int) : Option (ByteArray) :=
 (bif decide (a1 < (a0.size : Int)) then
 (cutO a0 0 a1).bind fun x2 =>
 some x2
 else
 some a0)
def pf45 (a0 : Sym) : Option (Sym) :=
 (pf27 a0.Name 25).bind fun x1 =>
 some (⟨x1, a0.Lit, a0.Num, a0.At⟩ : Sym)
def pf16 (a0 : Source) : Option (Source) :=
 (pf27 a0.Pro 40).bind fun x1 =>
 (pf27 a0.Tail 40).bind fun x2 =>
 (loopM (R := List Decl) (fun (s3 : List Decl × Int) =>
 ((bif decide (s3.2 < (a0.Decls.length : Int)) then some (decide (s3.2 < 8)) else some false)).bind fun c7 =>
 (bif c7 then
 (idx a0.Decls s3.2).bind fun x9 =>
 (idx a0.Decls s3.2).bind fun x10 =>
 (pf27 x10.Tag 25).bind fun x11 =>
 (idx a0.Decls s3.2).bind fun x12 =>
 (loopM (R := List Sym) (fun (s13 : List Sym × Int) =>
 (((idx a0.Decls s3.2).bind fun x16 => (bif decide (s13.2 < (x16.Syms.length : Int)) then some (decide (s13.2 < 6)) else some false))).bind fun c18 =>
 (bif c18 then
 (idx a0.Decls s3.2).bind fun x20 =>
 (idx x20.Syms s13.2).bind fun x21 =>
 (pf45 x21).bind fun x22 =>
 (appO s13.1 [x22]).bind fun x23 =>
 some (.inl (s13.1 ++ [x22], w64 (s13.2 + 1)))
 else
 some (.inr s13.1))) (([] : List Sym), 0)).bind fun x14 =>
 (appO s3.1 [(⟨x9.Kind, x11, x14, x12.At⟩ : Decl)]).bind fun x24 =>
 some (.inl (s3.1 ++ [(⟨x9.Kind, x11, x14, x12.At⟩ : Decl)], w64 (s3.2 + 1)))
 else
 some (.inr s3.1))) (([] : List Decl), 0)).bind fun x4 =>
 (loopM (R := List Rule) (fun (s25 : List Rule × Int) =>
 ((bif decide (s25.2 < (a0.Rules.length : Int)) then some (decide (s25.2 < 6)) else some false)).bind fun c29 =>
 (bif c29 then
 (idx a0.Rules s25.2).bind fun x31 =>
 (pf27 x31.Left 25).bind fun x32 =>
 (idx a0.Rules s25.2).bind fun x33 =>
 (loopM (R := List Alt) (fun (s34 : List Alt × Int) =>
 (((idx a0.Rules s25.2).bind fun x37 => (bif decide (s34.2 < (x37.Alts.length : Int)) then some (decide (s34.2 < 5)) else some false))).bind fun c39 =>
 (bif c39 then
 (idx a0.Rules s25.2).bind fun x41 =>
 (idx x41.Alts s34.2).bind fun x42 =>
 (pf45 x42.Prec).bind fun x43 =>
 (idx a0.Rules s25.2).bind fun x44 =>
 (idx x44.Alts s34.2).bind fun x45 =>
 (loopM (R := List Part) (fun (s46 : List Part × Int) =>
 (((idx a0.Rules s25.2).bind fun x49 => ((idx x49.Alts s34.2).bind fun x50 => (bif decide (s46.2 < (x50.Parts.length : Int)) then some (decide (s46.2 < 6)) else some false)))).bind fun c52 =>
 (bif c52 then
 (idx a0.Rules s25.2).bind fun x54 =>
 (idx x54.Alts s34.2).bind fun x55 =>
 (idx x55.Parts s46.2).bind fun x56 =>
 (pf45 x56.Sym).bind fun x57 =>
 (pf27 x56.Code 60).bind fun x58 =>
 (appO s46.1 [(⟨x57, x58, x56.At⟩ : Part)]).bind fun x59 =>
 some (.inl (s46.1 ++ [(⟨x57, x58, x56.At⟩ : Part)], w64 (s46.2 + 1)))
 else
 some (.inr s46.1))) (([] : List Part), 0)).bind fun x47 =>
 (appO s34.1 [(⟨x47, x43, x45.At⟩ : Alt)]).bind fun x60 =>
 some (.inl (s34.1 ++ [(⟨x47, x43, x45.At⟩ : Alt)], w64 (s34.2 + 1)))
 else
 some (.inr s34.1))) (([] : List Alt), 0)).bind fun x35 =>
 (appO s25.1 [(⟨x32, x35, x33.At⟩ : Rule)]).bind fun x61 =>
 some (.inl (s25.1 ++ [(⟨x32, x35, x33.At⟩ : Rule)], w64 (s25.2 + 1)))
 else
 some (.inr s25.1))) (([] : List Rule), 0)).bind fun x26 =>
 some (⟨x1, x4, x26, x2⟩ : Source)
def pf62  : Option (ByteArray) :=
 some ({ data := #[112, 113, 114, 115] })
theorem con62  (r : ByteArray) (h : pf62  = some r) : Con Try.prog 62 [] [] (SS r) := by
  unfold pf62 at h
  refine Con.go (N := ⟨1, []⟩) Try.func62 rfl rfl rfl rfl (W.fin ?_)
  refine W.st [] ?_
  refine W.sq' ?_
  refine W.rx [] (Rv (O.as (.k rfl)) <| RunL.fin .nil) ?_
  refine Px.sq ?_
  refine W.sq' ?_
  refine W.rx [(0, _)] (Rv (O.as (.k rfl)) <| RunL.fin (.n rfl .nil)) ?_
  refine Px.sq ?_
  refine W.rt ?_
  obtain rfl := sm h
  exact Px.fin (Fin.ro (.f rfl rfl .nil) rfl (of_decide_eq_true (by kernel_rfl)) .nil rfl (.inr rfl))
def pf49 (a0 : Int) : Option (Sym) :=
 (pf62 ).bind fun x1 =>
 (remO a0 4).bind fun x2 =>
 (remO a0 4).bind fun x3 =>
 (cutO x1 x2 (w64 (x3 + 1))).bind fun x4 =>
 some (⟨x4, true, 0, 0⟩ : Sym)
theorem con49 (a0 : Int) (r : Sym) (h : pf49 a0 = some r) : Con Try.prog 49 [I64 a0] [none] (.agg (eSym.cells r)) := by
  unfold pf49 at h
  refine Con.go (N := ⟨11, []⟩) Try.func49 rfl rfl rfl rfl (W.fin ?_)
  refine W.st [(0, I64 a0)] ?_
  refine W.sq' ?_
  refine W.rx [(0, _), (2, _)] (Rv (O.al (cs := [SS ({ data := #[] }), BB false, I64 0, I64 0]) ze91 rfl rfl) <| RunL.fin (.n rfl (.n rfl .nil))) ?_
  refine Px.sq ?_
  refine W.sq' ?_
  obtain ⟨x1, hx1, h⟩ := bnd h
  obtain ⟨x2, hx2, h⟩ := bnd h
  obtain ⟨x3, hx3, h⟩ := bnd h
  obtain ⟨x4, hx4, h⟩ := bnd h
  refine W.rx [(2, _)] (Rc (PC.go .nil (con62  _ hx1) call62 rfl) <| Rv (O.mv (.lit rfl)) <| Rv (O.rem (.lit rfl) (.k rfl) hx2) <| Rv (O.mv (.lit rfl)) <| Rv (O.rem (.lit rfl) (.k rfl) hx3) <| Rv (O.add (.lit rfl) (.k rfl)) <| Rv (O.sl (.lit rfl) (.lit rfl) (.lit rfl) st9 hx4) <| Rv (O.bu (cs := [SS x4, BB true, I64 0, I64 0]) sc91 ze91 rfl rfl rfl) <| RunL.sO (G2 := [(2, .obj [SS x4, BB true, I64 0, I64 0])]) (cs2 := [SS x4, BB true, I64 0, I64 0]) rfl (.obj rfl) (.aggF rfl rfl) rfl sz91 rfl rfl rfl rfl (.b rfl .nil) <| RunL.fin (.n rfl .nil)) ?_
  refine Px.sq ?_
  refine W.rt ?_
  obtain rfl := sm h
  exact Px.fin (Fin.ro (.c (ys0 := [SS x4, BB true, I64 0, I64 0]) rfl at91 rfl rfl rfl (.f rfl (.f rfl (.f rfl (.f rfl .nil)))) .nil) rfl (of_decide_eq_true (by kernel_rfl)) (.no .nil) rfl (.inr rfl))
def eDecl_1 : En Decl := ⟨4, fun x => [I64 x.Kind, SS x.Tag, oR eSym x.Syms, I64 x.At], fun _ => rfl, fun _ => NRl.nr⟩
instance : Tw eDecl_1 eDecl_0 := ⟨rfl, fun x => (inferInstance : Vws [I64 x.Kind, SS x.Tag, oR eSym x.Syms, I64 x.At] [I64 x.Kind, SS x.Tag, iR eSym x.Syms, I64 x.At])⟩
instance {x : Decl} : Vws (eDecl_1.cells x) [I64 x.Kind, SS x.Tag, iR eSym x.Syms, I64 x.At] := (inferInstance : Vws [I64 x.Kind, SS x.Tag, oR eSym x.Syms, I64 x.At] [I64 x.Kind, SS x.Tag, iR eSym x.Syms, I64 x.At])
def pf46 (a0 : (List Int)) : Option ((List Decl)) :=
 (loopM (R := List Decl) (fun (s1 : List Decl × Int) =>
 ((bif decide (s1.2 < (a0.length : Int)) then some (decide (s1.2 < 4)) else some false)).bind fun c5 =>
 (bif c5 then
 ((idx a0 s1.2).bind fun x8 =>
 (pf25 x8 8).bind fun x9 =>
 (remO x9 4).bind fun x10 =>
 (bif decide (x10 = 0) then
 some s1.1
 else
 ((bif decide (4 < x9) then some (decide (0 < (s1.1.length : Int))) else some false)).bind fun c13 =>
 (bif c13 then
 (idx s1.1 (w64 ((s1.1.length : Int) - 1))).bind fun x15 =>
 (pf49 s1.2).bind fun x16 =>
 (appO x15.Syms [x16]).bind fun x17 =>
 some (s1.1.set (w64 ((s1.1.length : Int) - 1)).toNat (⟨x15.Kind, x15.Tag, x15.Syms ++ [x16], x15.At⟩ : Decl))
 else
 (remO x9 4).bind fun x18 =>
 (pf49 s1.2).bind fun x19 =>
 (appO s1.1 [(⟨w64 (1 + x18), { data := #[] }, [x19], 0⟩ : Decl)]).bind fun x20 =>
 some (s1.1 ++ [(⟨w64 (1 + x18), { data := #[] }, [x19], 0⟩ : Decl)])))).bind fun j7 =>
 some (.inl (j7, w64 (s1.2 + 1)))
 else
 some (.inr s1.1))) (([] : List Decl), 0)).bind fun x2 =>
 some x2
theorem con46 (a0 : (List Int)) (r : (List Decl)) (h : pf46 a0 = some r) : Con Try.prog 46 [iR eI a0] [none] (iR eDecl_0 r) := by
  unfold pf46 at h
  refine Con.go (N := ⟨59, []⟩) Try.func46 rfl rfl rfl rfl (W.fin ?_)
  refine W.st [(0, iR eI a0)] ?_
  refine W.sq' ?_
  refine W.rx [(0, _)] (Rv (O.as .knil) <| RunL.fin (.n rfl .nil)) ?_
  refine Px.sq ?_
  refine W.sq' ?_
  refine W.rx [(0, _), (3, _)] (Rv (O.as .knil) <| RunL.fin (.n rfl (.n rfl .nil))) ?_
  refine Px.sq ?_
  refine W.sq' ?_
  refine W.sq' ?_
  refine W.rx [(0, _), (3, _), (4, _)] (Rv (O.as (.k rfl)) <| RunL.fin (.n rfl (.n rfl (.n rfl .nil)))) ?_
  refine Px.sq ?_
  refine W.bk ?_
  obtain ⟨x2, hl, h⟩ := bnd h
  refine W.tr (G1 := [(0, iR eI a0), (3, oR eDecl_1 ([] : List Decl)), (4, I64 0)]) (.n rfl (.w rfl rfl .nilOwn (.n rfl .nil))) ?_
  refine W.lp1 (s := (([] : List Decl), 0)) (fun (s1 : List Decl × Int) => [(0, iR eI a0), (3, oR eDecl_1 s1.1), (4, I64 s1.2)]) 0 (fun (x2 : List Decl) => [(3, oR eDecl_1 x2)]) hl (fun s1 o h => ?_) ?_
  · clear hl
    refine W.sq' ?_
    refine W.sq' ?_
    obtain ⟨c5, hj, h⟩ := bnd h
    refine W.rx [(0, iR eI a0), (3, oR eDecl_1 s1.1), (4, I64 s1.2), (14, BB c5)] ?_ ?_
    · refine Rv (O.mv (.lit rfl)) <| Rv (O.mv (.imm rfl)) <| Rv (O.lenI (.imm rfl) sl27) <| Rv (O.lss (.lit rfl) (.lit rfl)) <| Rv (O.mv (.lit rfl)) ?_
      rcases cnd hj with ⟨hb4, hj⟩ | ⟨hb4, hj⟩
      · obtain rfl := sm hj
        exact RunL.v (O.mv (.lit rfl)) rfl rfl (.yb rfl rfl hb4) <| RunL.v (O.lss (.lit rfl) (.k rfl)) rfl rfl (.yb rfl rfl hb4) <| Rv (O.pkT (.lit rfl) hb4 (.lit rfl)) <| RunL.fin (.n rfl (.n rfl (.n rfl (.n rfl .nil))))
      · obtain rfl := sm hj
        exact RunL.ps rfl rfl hb4 rfl rfl <| RunL.ps rfl rfl hb4 rfl rfl <| Rv (O.pkF (.lit rfl) hb4 (.k rfl)) <| RunL.fin (.n rfl (.n rfl (.n rfl (.n rfl .nil))))
    refine Px.sq ?_
    refine W.cnd rfl (fun hb6 => ?_) (fun hb6 => ?_)
    · replace h := cndT hb6 h
      refine W.sk ?_
      refine Px.sq ?_
      refine W.sq' ?_
      obtain ⟨j7, hj, h⟩ := bnd h
      refine W.jn [(0, iR eI a0), (3, oR eDecl_1 j7), (4, I64 s1.2)] ?_ ?_
      · clear h; have h := hj; clear hj
        refine W.bk ?_
        refine W.sq' ?_
        obtain ⟨x8, hx8, h⟩ := bnd h
        obtain ⟨x9, hx9, h⟩ := bnd h
        refine W.rx [(0, _), (3, _), (4, _), (5, _)] (Rv (O.mv (.imm rfl)) <| Rv (O.mv (.lit rfl)) <| Rv (O.ixI (.imm rfl) (.lit rfl) sl27 hx8) <| Rv (O.ldI (x := I64 x8) (.iptr rfl) ct3 rfl) <| Rc (PC.go (.cc (.lit rfl) (.cc (.k rfl) .nil)) (con25 x8 8 _ hx9) call25 rfl) <| Rv (O.as (.lit rfl)) <| RunL.fin (.n rfl (.n rfl (.n rfl (.n rfl .nil))))) ?_
        refine Px.sq ?_
        refine W.sq' ?_
        refine W.sq' ?_
        obtain ⟨x10, hx10, h⟩ := bnd h
        refine W.rx [(0, _), (3, _), (4, _), (5, _), (24, _)] (Rv (O.mv (.lit rfl)) <| Rv (O.rem (.lit rfl) (.k rfl) hx10) <| Rv (O.eql (.lit rfl) (.k rfl)) <| RunL.fin (.n rfl (.n rfl (.n rfl (.n rfl (.n rfl .nil)))))) ?_
        refine Px.sq ?_
        refine W.cnd rfl (fun hb11 => ?_) (fun hb11 => ?_)
        · replace h := cndT hb11 h
          refine W.xi ?_
          refine Px.sqE ?_
          refine Px.bkH ?_
          obtain rfl := sm h
          exact Px.jn (.n rfl (.n rfl (.n rfl .nil)))
        · replace h := cndF hb11 h
          refine W.sk ?_
          refine Px.sq ?_
          refine W.sq' ?_
          refine W.sq' ?_
          refine W.rx [(0, _), (3, _), (4, _), (5, _), (6, _)] (Rv (O.mv (.own rfl)) <| Rv (O.lenO (.brw rfl) sl22) <| Rv (O.as (.lit rfl)) <| RunL.fin (.n rfl (.n rfl (.n rfl (.n rfl (.n rfl .nil)))))) ?_
          refine Px.sq ?_
          refine W.sq' ?_
          obtain ⟨c13, hj, h⟩ := bnd h
          refine W.rx [(0, iR eI a0), (3, oR eDecl_1 s1.1), (4, I64 s1.2), (5, I64 x9), (6, I64 (s1.1.length : Int)), (32, BB c13)] ?_ ?_
          · refine Rv (O.mv (.lit rfl)) <| Rv (O.gtr (.lit rfl) (.k rfl)) <| Rv (O.mv (.lit rfl)) ?_
            rcases cnd hj with ⟨hb12, hj⟩ | ⟨hb12, hj⟩
            · obtain rfl := sm hj
              exact RunL.v (O.mv (.lit rfl)) rfl rfl (.yb rfl rfl hb12) <| RunL.v (O.gtr (.lit rfl) (.k rfl)) rfl rfl (.yb rfl rfl hb12) <| Rv (O.pkT (.lit rfl) hb12 (.lit rfl)) <| RunL.fin (.n rfl (.n rfl (.n rfl (.n rfl (.n rfl (.n rfl .nil))))))
            · obtain rfl := sm hj
              exact RunL.ps rfl rfl hb12 rfl rfl <| RunL.ps rfl rfl hb12 rfl rfl <| Rv (O.pkF (.lit rfl) hb12 (.k rfl)) <| RunL.fin (.n rfl (.n rfl (.n rfl (.n rfl (.n rfl (.n rfl .nil))))))
          refine Px.sq ?_
          refine W.cnd rfl (fun hb14 => ?_) (fun hb14 => ?_)
          · replace h := cndT hb14 h
            refine W.sq' ?_
            obtain ⟨x15, hx15, h⟩ := bnd h
            obtain ⟨x16, hx16, h⟩ := bnd h
            obtain ⟨x17, hx17, h⟩ := bnd h
            refine W.rd [[], [], [1], [], [], [4], [3, 4, 5], [3, 4, 5, 6], rn 3 5 [], [], [9], [9, 10], rn 3 9 [], rn 0 13 [], rn 0 14 [], rn 0 15 []] [(0, _), (3, _), (4, _)] mixo (by kernel_rfl) (Dv 0 (O.mv (.own rfl)) <| Dv 1 (O.mv (.lit rfl)) <| Dv 2 (O.sub (.lit rfl) (.k rfl)) <| Dv 3 (O.mv (.own rfl)) <| Dv 4 (O.mv (.lit rfl)) <| Dv 5 (O.sub (.lit rfl) (.k rfl)) <| Dv 6 (O.ixO (en := eDecl_1) rfl (.brw rfl) (.lit rfl) sl22 hx15 rfl) <| Dv 7 (O.fE (en := eDecl_1) rfl (.ptr rfl) fd89_2 hx15 rfl rfl) <| Dv 8 (O.ldE (en := eDecl_1) (x' := .brw eSym.z ⟨3, [(w64 ((s1.1.length : Int) - 1)).toNat * eDecl_1.z + 2]⟩ x15.Syms.length) rfl (.ptr rfl) ct87 hx15 rfl rfl) <| Dv 9 (O.mv (.lit rfl)) <| Dc 10 (PC.go (.cc (.lit rfl) .nil) (con49 s1.2 _ hx16) call49 rfl) <| DL.vi 11 (x := iR eSym [x16]) (O.bs (ys := [.agg (eSym.cells x16)]) eSym [x16] sl87 rfl rfl rfl rfl rfl rfl zt91 rfl rfl) rfl rfl rfl rfl .none <| Dv 12 (O.ap (en := eSym) (r := x17) (.brw rfl) (atP_el (r := 3) (path := []) (o := 2) (en := eDecl_1) rfl hx15 rfl) (.imm rfl) .i ap87 rfl hx17) <| Dv 13 (O.ixO (en := eDecl_1) rfl (.brw rfl) (.lit rfl) sl22 hx15 rfl) <| Dv 14 (O.fE (en := eDecl_1) rfl (.ptr rfl) fd89_2 hx15 rfl rfl) <| DL.bp 15 (G2 := [(0, iR eI a0), (3, oR eDecl_1 (s1.1.set (w64 ((s1.1.length : Int) - 1)).toNat (⟨x15.Kind, x15.Tag, x15.Syms ++ [x16], x15.At⟩ : Decl))), (4, I64 s1.2)]) (EO.stEP (en := eDecl_1) (en2 := eSym) (M := [x16]) (y2 := (⟨x15.Kind, x15.Tag, x15.Syms ++ [x16], x15.At⟩ : Decl)) (x2 := oR eDecl_1 (s1.1.set (w64 ((s1.1.length : Int) - 1)).toNat (⟨x15.Kind, x15.Tag, x15.Syms ++ [x16], x15.At⟩ : Decl))) (y0 := .own eDecl_1.z s1.1.length ((rowc eDecl_1 s1.1).set ((w64 ((s1.1.length : Int) - 1)).toNat * eDecl_1.z + 2) .dead)) rfl rfl (.ptr rfl) (.pend rfl) rfl rfl hx15 rfl rfl .ns .rf rfl rfl sz87 rfl rfl rfl rfl rfl rfl (.n rfl rfl (.b rfl (.n rfl rfl .nil)))) rfl rfl rfl rfl (by kernel_rfl) (by kernel_rfl) <| DL.fin rfl rfl rfl (.n rfl (.n rfl (.n rfl .nil)))) ?_
            refine Px.sq ?_
            refine W.xi ?_
            refine Px.sqE ?_
            refine Px.bkH ?_
            obtain rfl := sm h
            exact Px.jn (.n rfl (.n rfl (.n rfl .nil)))
          · replace h := cndF hb14 h
            refine W.sk ?_
            refine Px.sq ?_
            obtain ⟨x18, hx18, h⟩ := bnd h
            obtain ⟨x19, hx19, h⟩ := bnd h
            obtain ⟨x20, hx20, h⟩ := bnd h
            refine W.rx [(0, _), (3, _), (4, _)] (Rv (O.mv (.own rfl)) <| Rv (O.mv (.lit rfl)) <| Rv (O.rem (.lit rfl) (.k rfl) hx18) <| Rv (O.add (.k rfl) (.lit rfl)) <| Rv (O.mv (.lit rfl)) <| Rc (PC.go (.cc (.lit rfl) .nil) (con49 s1.2 _ hx19) call49 rfl) <| Rv (O.bsL (ys := [.agg (eSym.cells x19)]) (cs := [SS x19.Name, BB x19.Lit, I64 x19.Num, I64 x19.At]) sl87 rfl rfl rfl rfl rfl zt91 rfl rfl) <| Rv (O.bu (cs := [I64 (w64 (1 + x18)), SS ({ data := #[] }), .brw 4 ⟨54, []⟩ 1, I64 0]) sc89 ze89 rfl rfl rfl) <| Rv (O.bsL (ys := [.agg [I64 (w64 (1 + x18)), SS ({ data := #[] }), .brw 4 ⟨54, []⟩ 1, I64 0]]) (cs := [I64 (w64 (1 + x18)), SS ({ data := #[] }), .brw 4 ⟨54, []⟩ 1, I64 0]) sl22 rfl rfl rfl rfl rfl zt89 rfl rfl) <| Rv (O.apL (en := eDecl_1) (M := [(⟨w64 (1 + x18), { data := #[] }, [x19], 0⟩ : Decl)]) (r := x20) (.brw rfl) rfl (.own rfl) rfl rfl rfl rfl ap22 rfl hx20) <| RunL.ea (G2 := [(0, iR eI a0), (4, I64 s1.2)]) rfl (EO.apG (M := [(⟨w64 (1 + x18), { data := #[] }, [x19], 0⟩ : Decl)]) rfl rfl (.pend rfl) rfl rfl rfl (.f (.f (.l rfl rfl (.f (.f (.f (.f .nil)))) (.f .nil)))) (.f (.f (.f (.f .nil)))) rfl rfl (.n rfl (.n rfl .nil)) rfl rfl) <| RunL.fin (.n rfl (.n rfl (.n rfl .nil)))) ?_
            refine Px.bk ?_
            obtain rfl := sm h
            exact Px.jn (.n rfl (.n rfl (.n rfl .nil)))
      refine Px.sq ?_
      refine W.rx [(0, _), (3, _), (4, _)] (Rv (O.mv (.lit rfl)) <| Rv (O.add (.lit rfl) (.k rfl)) <| RunL.re (G1 := [(0, iR eI a0), (3, oR eDecl_1 j7), (16, I64 (w64 (s1.2 + 1)))]) (.n rfl (.n rfl (.n rfl .nil))) <| Rv (O.as (.lit rfl)) <| RunL.fin (.n rfl (.n rfl (.n rfl .nil)))) ?_
      obtain rfl := sm h
      exact Px.go (.n rfl (.n rfl (.n rfl .nil)))
    · replace h := cndF hb6 h
      refine W.xi ?_
      refine Px.sqE ?_
      obtain rfl := sm h
      exact Px.x1 (.n rfl .nil)
  refine Px.bkH ?_
  refine Px.sq ?_
  refine W.sq' ?_
  refine W.rx [(2, _)] (Rv (O.mv (.own rfl)) <| RunL.ea (G2 := []) rfl (EO.aR rfl rfl (.brw rfl) rfl .nil rfl rfl) <| RunL.fin (.n rfl .nil)) ?_
  refine Px.sq ?_
  refine W.fz (G1 := [(2, iR eDecl_0 x2)]) [2] (.z rfl rfl .zz .nil) ?_
  refine W.rt ?_
  obtain rfl := sm h
  exact Px.fin (Fin.ro (.f rfl rfl .nil) rfl (of_decide_eq_true (by kernel_rfl)) (.no .nil) rfl (.inr rfl))
def pf47 (a0 : Int) : Option (ByteArray) :=
 some (strOfNums [w8 (w64 (97 + a0))])
theorem con47 (a0 : Int) (r : ByteArray) (h : pf47 a0 = some r) : Con Try.prog 47 [I64 a0] [none] (SS r) := by
  unfold pf47 at h
  refine Con.go (N := ⟨8, []⟩) Try.func47 rfl rfl rfl rfl (W.fin ?_)
  refine W.st [(0, I64 a0)] ?_
  refine W.sq' ?_
  refine W.rx [(0, _)] (Rv (O.as (.k rfl)) <| RunL.fin (.n rfl .nil)) ?_
  refine Px.sq ?_
  refine W.sq' ?_
  refine W.rx [(2, _)] (Rv (O.mv (.lit rfl)) <| Rv (O.add (.k rfl) (.lit rfl)) <| Rv (O.cvI (.lit rfl) it3 it5) <| RunL.vi (x := iR eU [w8 (w64 (97 + a0))]) (O.bs (ys := [U8 (w8 (w64 (97 + a0)))]) eU [w8 (w64 (97 + a0))] sl60 rfl rfl rfl rfl rfl rfl zt5 rfl rfl) rfl rfl .none <| Rv (O.cvC (.imm rfl) by60_9) <| Rv (O.as (.lit rfl)) <| RunL.fin (.n rfl .nil)) ?_
  refine Px.sq ?_
  refine W.rt ?_
  obtain rfl := sm h
  exact Px.fin (Fin.ro (.f rfl rfl .nil) rfl (of_decide_eq_true (by kernel_rfl)) (.no .nil) rfl (.inr rfl))
def pf48 (a0 : Int) (a1 : Int) : Option (Sym) :=
 (pf25 a0 14).bind fun x1 =>
 (bif decide (x1 < 5) then
 (remO x1 a1).bind fun x3 =>
 (pf47 x3).bind fun x4 =>
 some (⟨x4, false, 0, 0⟩ : Sym)
 else
 (bif decide (x1 = 13) then
 some (⟨{ data := #[101, 114, 114, 111, 114] }, false, 0, 0⟩ : Sym)
 else
 (pf49 (w64 (x1 - 5))).bind fun x6 =>
 some x6))
theorem con48 (a0 : Int) (a1 : Int) (r : Sym) (h : pf48 a0 a1 = some r) : Con Try.prog 48 [I64 a0, I64 a1] [none, none] (.agg (eSym.cells r)) := by
  unfold pf48 at h
  refine Con.go (N := ⟨23, []⟩) Try.func48 rfl rfl rfl rfl (W.fin ?_)
  refine W.st [(0, I64 a0), (1, I64 a1)] ?_
  refine W.sq' ?_
  refine W.rx [(0, _), (1, _), (4, _)] (Rv (O.al (cs := [SS ({ data := #[] }), BB false, I64 0, I64 0]) ze91 rfl rfl) <| RunL.fin (.n rfl (.n rfl (.n rfl .nil)))) ?_
  refine Px.sq ?_
  refine W.sq' ?_
  obtain ⟨x1, hx1, h⟩ := bnd h
  refine W.rx [(1, _), (4, _), (5, _)] (Rv (O.mv (.lit rfl)) <| Rc (PC.go (.cc (.lit rfl) (.cc (.k rfl) .nil)) (con25 a0 14 _ hx1) call25 rfl) <| Rv (O.as (.lit rfl)) <| RunL.fin (.n rfl (.n rfl (.n rfl .nil)))) ?_
  refine Px.sq ?_
  refine W.sq' ?_
  refine W.bk ?_
  refine W.sq' ?_
  refine W.rx [(1, _), (4, _), (5, _), (8, _)] (Rv (O.mv (.lit rfl)) <| Rv (O.lss (.lit rfl) (.k rfl)) <| Rv (O.as (.lit rfl)) <| RunL.fin (.n rfl (.n rfl (.n rfl (.n rfl .nil))))) ?_
  refine Px.sq ?_
  refine W.cnd rfl (fun hb2 => ?_) (fun hb2 => ?_)
  · replace h := cndT hb2 h
    refine W.sq' ?_
    obtain ⟨x3, hx3, h⟩ := bnd h
    obtain ⟨x4, hx4, h⟩ := bnd h
    refine W.rx [(4, _)] (Rv (O.mv (.lit rfl)) <| Rv (O.mv (.lit rfl)) <| Rv (O.rem (.lit rfl) (.lit rfl) hx3) <| Rc (PC.go (.cc (.lit rfl) .nil) (con47 x3 _ hx4) call47 rfl) <| Rv (O.bu (cs := [SS x4, BB false, I64 0, I64 0]) sc91 ze91 rfl rfl rfl) <| RunL.sO (G2 := [(4, .obj [SS x4, BB false, I64 0, I64 0])]) (cs2 := [SS x4, BB false, I64 0, I64 0]) rfl (.obj rfl) (.aggF rfl rfl) rfl sz91 rfl rfl rfl rfl (.b rfl .nil) <| RunL.fin (.n rfl .nil)) ?_
    refine Px.sq ?_
    refine W.rt ?_
    refine Px.bkR ?_
    refine Px.sqR ?_
    obtain rfl := sm h
    exact Px.fin (Fin.ro (.c (ys0 := [SS x4, BB false, I64 0, I64 0]) rfl at91 rfl rfl rfl (.f rfl (.f rfl (.f rfl (.f rfl .nil)))) .nil) rfl (of_decide_eq_true (by kernel_rfl)) (.no (.no .nil)) rfl (.inr rfl))
  · replace h := cndF hb2 h
    refine W.sq' ?_
    refine W.rx [(4, _), (5, _), (16, _)] (Rv (O.mv (.lit rfl)) <| Rv (O.eql (.lit rfl) (.k rfl)) <| Rv (O.as (.lit rfl)) <| RunL.fin (.n rfl (.n rfl (.n rfl .nil)))) ?_
    refine Px.sq ?_
    refine W.cnd rfl (fun hb5 => ?_) (fun hb5 => ?_)
    · replace h := cndT hb5 h
      refine W.sq' ?_
      refine W.rx [(4, _)] (Rv (O.bu (cs := [SS ({ data := #[101, 114, 114, 111, 114] }), BB false, I64 0, I64 0]) sc91 ze91 rfl rfl rfl) <| RunL.sO (G2 := [(4, .obj [SS ({ data := #[101, 114, 114, 111, 114] }), BB false, I64 0, I64 0])]) (cs2 := [SS ({ data := #[101, 114, 114, 111, 114] }), BB false, I64 0, I64 0]) rfl (.obj rfl) (.aggF rfl rfl) rfl sz91 rfl rfl rfl rfl (.b rfl .nil) <| RunL.fin (.n rfl .nil)) ?_
      refine Px.sq ?_
      refine W.rt ?_
      refine Px.bkR ?_
      refine Px.sqR ?_
      obtain rfl := sm h
      exact Px.fin (Fin.ro (.c (ys0 := [SS ({ data := #[101, 114, 114, 111, 114] }), BB false, I64 0, I64 0]) rfl at91 rfl rfl rfl (.f rfl (.f rfl (.f rfl (.f rfl .nil)))) .nil) rfl (of_decide_eq_true (by kernel_rfl)) (.no (.no .nil)) rfl (.inr rfl))
    · replace h := cndF hb5 h
      refine W.sk ?_
      refine Px.bk ?_
      refine Px.sq ?_
      refine W.sq' ?_
      obtain ⟨x6, hx6, h⟩ := bnd h
      refine W.rx [(4, _)] (Rv (O.mv (.lit rfl)) <| Rv (O.sub (.lit rfl) (.k rfl)) <| Rc (PC.go (.cc (.lit rfl) .nil) (con49 (w64 (x1 - 5)) _ hx6) call49 rfl) <| RunL.sO (G2 := [(4, .obj (eSym.cells x6))]) (cs2 := [SS x6.Name, BB x6.Lit, I64 x6.Num, I64 x6.At]) rfl (.obj rfl) (.aggF rfl rfl) rfl sz91 rfl rfl rfl rfl (.b rfl .nil) <| RunL.fin (.n rfl .nil)) ?_
      refine Px.sq ?_
      refine W.rt ?_
      obtain rfl := sm h
      exact Px.fin (Fin.ro (.c (ys0 := [SS x6.Name, BB x6.Lit, I64 x6.Num, I64 x6.At]) rfl at91 rfl rfl rfl (.f rfl (.f rfl (.f rfl (.f rfl .nil)))) .nil) rfl (of_decide_eq_true (by kernel_rfl)) (.no (.no .nil)) rfl (.inr rfl))
structure yuccalaw0_Gr where
  Nons : Int
  Rules : (List (List Int))
  Levels : (List Int)
  Inner : (List Int)
  Bare : Bool
  deriving DecidableEq, Inhabited
def eRule_1 : En Rule := ⟨3, fun x => [SS x.Left, oR eAlt_0 x.Alts, I64 x.At], fun _ => rfl, fun _ => NRl.nr⟩
instance : Tw eRule_1 eRule_0 := ⟨rfl, fun x => (inferInstance : Vws [SS x.Left, oR eAlt_0 x.Alts, I64 x.At] [SS x.Left, iR eAlt_0 x.Alts, I64 x.At])⟩
instance {x : Rule} : Vws (eRule_1.cells x) [SS x.Left, iR eAlt_0 x.Alts, I64 x.At] := (inferInstance : Vws [SS x.Left, oR eAlt_0 x.Alts, I64 x.At] [SS x.Left, iR eAlt_0 x.Alts, I64 x.At])
def pf17 (a0 : yuccalaw0_Gr) : Option (Source) :=
 (pf25 a0.Nons 4).bind fun x1 =>
 (pf46 a0.Levels).bind fun x2 =>
 (mkO (w64 (1 + x1)) false).bind fun x3 =>
 (loopM (R := List Rule) (fun (s4 : List Rule × Int) =>
 (bif decide (s4.2 < w64 (1 + x1)) then
 (pf47 s4.2).bind fun x8 =>
 (appO s4.1 [(⟨x8, ([] : List Alt), 0⟩ : Rule)]).bind fun x9 =>
 some (.inl (s4.1 ++ [(⟨x8, ([] : List Alt), 0⟩ : Rule)], w64 (s4.2 + 1)))
 else
 some (.inr s4.1))) (([] : List Rule), 0)).bind fun x5 =>
 (loopM (R := List Rule × List Bool) (fun (s10 : List Rule × List Bool × Int) =>
 ((bif decide (s10.2.2 < (a0.Rules.length : Int)) then some (decide (s10.2.2 < 9)) else some false)).bind fun c14 =>
 (bif c14 then
 ((idx a0.Rules s10.2.2).bind fun x17 =>
 (bif decide ((x17.length : Int) = 0) then
 some (s10.1, s10.2.1)
 else
 (idx a0.Rules s10.2.2).bind fun x19 =>
 (idx x19 0).bind fun x20 =>
 (pf25 x20 (w64 (1 + x1))).bind fun x21 =>
 (loopM (R := List Part × Bool) (fun (s22 : List Part × Bool × Int) =>
 (((idx a0.Rules s10.2.2).bind fun x25 => (bif decide (s22.2.2 < (x25.length : Int)) then some (decide (s22.2.2 < 5)) else some false))).bind fun c27 =>
 (bif c27 then
 ((idx a0.Rules s10.2.2).bind fun x30 =>
 (idx x30 s22.2.2).bind fun x31 =>
 (pf48 x31 (w64 (1 + x1))).bind fun x32 =>
 ((bif s22.2.1 then (bif x32.Lit then some true else some (decide (x32.Name = { data := #[101, 114, 114, 111, 114] }))) else some false)).bind fun c35 =>
 (appO s22.1 [(⟨x32, { data := #[] }, 0⟩ : Part)]).bind fun x36 =>
 ((bif decide (s10.2.2 < (a0.Inner.length : Int)) then (bif decide (s22.2.2 = 1) then ((idx a0.Inner s10.2.2).bind fun x39 => ((remO x39 3).bind fun x40 => some (decide (x40 = 1)))) else some false) else some false)).bind fun c41 =>
 ((bif c41 then
 (appO (s22.1 ++ [(⟨x32, { data := #[] }, 0⟩ : Part)]) [(⟨(⟨{ data := #[] }, false, 0, 0⟩ : Sym), { data := #[123, 36, 36, 32, 61, 32, 36, 49, 125] }, 0⟩ : Part)]).bind fun x44 =>
 some ((s22.1 ++ [(⟨x32, { data := #[] }, 0⟩ : Part)]) ++ [(⟨(⟨{ data := #[] }, false, 0, 0⟩ : Sym), { data := #[123, 36, 36, 32, 61, 32, 36, 49, 125] }, 0⟩ : Part)])
 else
 some (s22.1 ++ [(⟨x32, { data := #[] }, 0⟩ : Part)]))).bind fun j42 =>
 some (j42, c35)).bind fun j29 =>
 some (.inl (j29.1, j29.2, w64 (s22.2.2 + 1)))
 else
 some (.inr (s22.1, s22.2.1)))) (([] : List Part), true, 1)).bind fun x23 =>
 ((bif decide (s10.2.2 < (a0.Inner.length : Int)) then ((idx a0.Inner s10.2.2).bind fun x46 => ((remO x46 2).bind fun x47 => some (!decide (x47 = 0)))) else some false)).bind fun c48 =>
 ((bif c48 then
 (appO x23.1 [(⟨(⟨{ data := #[] }, false, 0, 0⟩ : Sym), { data := #[123, 102, 40, 36, 36, 41, 125] }, 0⟩ : Part)]).bind fun x51 =>
 some (x23.1 ++ [(⟨(⟨{ data := #[] }, false, 0, 0⟩ : Sym), { data := #[123, 102, 40, 36, 36, 41, 125] }, 0⟩ : Part)])
 else
 some x23.1)).bind fun j49 =>
 (((idx s10.2.1 x21).bind fun x52 => (bif x52 then some (s10.2.1.set x21.toNat true) else some (s10.2.1.set x21.toNat x23.2)))).bind fun c54 =>
 (idx s10.1 x21).bind fun x55 =>
 (appO x55.Alts [(⟨j49, (⟨{ data := #[] }, false, 0, 0⟩ : Sym), 0⟩ : Alt)]).bind fun x56 =>
 some (s10.1.set x21.toNat (⟨x55.Left, x55.Alts ++ [(⟨j49, (⟨{ data := #[] }, false, 0, 0⟩ : Sym), 0⟩ : Alt)], x55.At⟩ : Rule), c54))).bind fun j16 =>
 some (.inl (j16.1, j16.2, w64 (s10.2.2 + 1)))
 else
 some (.inr (s10.1, s10.2.1)))) (x5, x3, 0)).bind fun x11 =>
 (loopM (R := List Rule) (fun (s57 : List Rule × Int) =>
 (bif decide (s57.2 < w64 (1 + x1)) then
 ((((idx s57.1 s57.2).bind fun x62 => (bif decide ((x62.Alts.length : Int) = 0) then some true else ((idx x11.2 s57.2).bind fun x64 => (bif !x64 then some (!a0.Bare) else some false))))).bind fun c66 =>
 ((bif c66 then
 (idx s57.1 s57.2).bind fun x69 =>
 (pf49 s57.2).bind fun x70 =>
 (appO x69.Alts [(⟨[(⟨x70, { data := #[] }, 0⟩ : Part)], (⟨{ data := #[] }, false, 0, 0⟩ : Sym), 0⟩ : Alt)]).bind fun x71 =>
 some (s57.1.set s57.2.toNat (⟨x69.Left, x69.Alts ++ [(⟨[(⟨x70, { data := #[] }, 0⟩ : Part)], (⟨{ data := #[] }, false, 0, 0⟩ : Sym), 0⟩ : Alt)], x69.At⟩ : Rule))
 else
 some s57.1)).bind fun j67 =>
 some j67).bind fun j61 =>
 some (.inl (j61, w64 (s57.2 + 1)))
 else
 some (.inr s57.1))) (x11.1, 0)).bind fun x58 =>
 some (⟨{ data := #[] }, x2, x58, { data := #[] }⟩ : Source)
end Go.Proofs
