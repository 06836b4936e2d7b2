/-
  What is proved here: parts of the proof that QAs states last: rules for walks through code, and of this program's functions what they answer. No condition of their own.
-/
import Derived.KernelRfl
import Derived.Test.YteohndfkdfehcaaRows
import Derived.Test.YteohndfkdfehcaaE4
namespace Go.Proofs
open Go Go.Own
set_option maxRecDepth 100000
set_option linter.unusedVariables false
theorem con68 (a0 : yuccaref9_maker) (a1 : ByteArray) (a2 : Alt) (r : yuccaref9_maker) (h : pf68 a0 a1 a2 = some r) : Con Try.prog 68 [.obj (eyuccaref9_maker_r.cells a0), SS a1, .agg (eAlt_0.cells a2)] [some (.obj [oR eTok r.f_g.Toks, oR eNon r.f_g.Nons, oR eProd_0 r.f_g.Prods, SS r.f_g.Pro, SS r.f_g.Tail, oR eB r.f_given, oR eNon r.f_types, oR eS r.f_lefts, I64 r.f_e, I64 r.f_at, SS r.f_name, I64 r.f_level, I64 r.f_inner]), none, none] (.tup []) := by
  unfold pf68 at h
  refine Con.go (N := ⟨173, [0]⟩) Try.func68 rfl rfl rfl rfl (W.fin ?_)
  refine W.st [(0, .obj (eyuccaref9_maker_r.cells a0)), (1, SS a1), (2, .agg (eAlt_0.cells a2))] ?_
  refine W.sq' ?_
  refine W.rx [(0, _), (1, _), (5, _)] (Rv (O.box (.aggF rfl rfl) rfl) <| RunL.fin (.n rfl (.n rfl (.n rfl .nil)))) ?_
  refine Px.sq ?_
  refine W.sq' ?_
  obtain ⟨x1, hx1, h⟩ := bnd h
  refine W.rd [[], [], [0, 1], [0, 1, 2], [], [4], rn 0 6 [], [], rn 0 8 []] [(0, _), (5, _), (6, _)] mixo (by kernel_rfl) (Dv 0 (O.mv (.obj rfl)) <| Dv 1 (O.mv (.lit rfl)) <| Dc 2 (PC.vw (ys := [.ptr ⟨0, []⟩ 0, SS a1]) rfl (.c (View.p0 rfl rfl) (.s .nil)) (con67 a0 a1 _ hx1) call67 rfl) <| Dv 3 (O.add (.k rfl) (.lit rfl)) <| Dv 4 (O.fO rfl (.obj rfl) fd98_2 rfl) <| Dv 5 (O.ldO (y := I64 a2.At) rfl (.ptr rfl) ct3 rfl rfl) <| Dv 6 (O.bu (cs := [I64 (w64 (1 + x1)), .nils, I64 (-1), SS ({ data := #[] }), .nils, I64 a2.At]) sc109 ze109 rfl rfl rfl) <| Dv 7 (O.al (cs := [I64 0, .nils, I64 0, SS ({ data := #[] }), .nils, I64 0]) ze109 rfl rfl) <| DL.sO 8 (G2 := [(0, .obj (eyuccaref9_maker_r.cells a0)), (5, .obj (eAlt_0.cells a2)), (6, .obj [I64 (w64 (1 + x1)), .nils, I64 (-1), SS ({ data := #[] }), .nils, I64 a2.At])]) (cs2 := [I64 (w64 (1 + x1)), .nils, I64 (-1), SS ({ data := #[] }), .nils, I64 a2.At]) rfl (by kernel_rfl) (by kernel_rfl) rfl rfl rfl (.obj rfl) (.aggF rfl rfl) rfl sz109 rfl rfl rfl rfl (.n rfl rfl (.n rfl rfl (.b rfl .nil))) <| DL.fin rfl rfl rfl (.n rfl (.n rfl (.n rfl .nil)))) ?_
  refine Px.sq ?_
  refine W.sq' ?_
  refine W.sq' ?_
  refine W.rx [(0, _), (5, _), (6, _), (7, _)] (Rv (O.as (.k rfl)) <| RunL.fin (.n rfl (.n rfl (.n rfl (.n rfl .nil))))) ?_
  refine Px.sq ?_
  refine W.bk ?_
  obtain ⟨x3, hl, h⟩ := bnd h
  refine W.tr (G1 := [(0, .obj (eyuccaref9_maker_r.cells a0)), (5, .obj (eAlt_0.cells a2)), (6, .obj [I64 (w64 (1 + x1)), oR eI ([] : List Int), I64 (-1), SS ({ data := #[] }), .nils, I64 a2.At]), (7, I64 0)]) (.n rfl (.n rfl (.w rfl rfl (WkL.obj (.f (.o (.f (.f (.f (.f .nil))))))) (.n rfl .nil)))) ?_
  refine W.lp1 (s := (a0, ([] : List Int), { data := #[] }, a2.At, 0)) (fun (s2 : yuccaref9_maker × List Int × ByteArray × Int × Int) => [(0, .obj (eyuccaref9_maker_r.cells s2.1)), (5, .obj (eAlt_0.cells a2)), (6, .obj [I64 (w64 (1 + x1)), oR eI s2.2.1, I64 (-1), SS s2.2.2.1, .nils, I64 s2.2.2.2.1]), (7, I64 s2.2.2.2.2)]) 0 (fun (x3 : yuccaref9_maker × List Int × ByteArray × Int) => [(0, .obj (eyuccaref9_maker_r.cells x3.1)), (5, .obj (eAlt_0.cells a2)), (6, .obj [I64 (w64 (1 + x1)), oR eI x3.2.1, I64 (-1), SS x3.2.2.1, .nils, I64 x3.2.2.2])]) hl (fun s2 o h => ?_) ?_
  · clear hl
    refine W.sq' ?_
    refine W.sq' ?_
    refine W.rx [(0, _), (5, _), (6, _), (7, _), (21, _)] (Rv (O.mv (.lit rfl)) <| Rv (O.fO rfl (.obj rfl) fd98_0 rfl) <| Rv (O.ldO (y := iR ePart a2.Parts) rfl (.ptr rfl) ct96 rfl rfl) <| Rv (O.lenI (.imm rfl) sl96) <| Rv (O.lss (.lit rfl) (.lit rfl)) <| RunL.fin (.n rfl (.n rfl (.n rfl (.n rfl (.n rfl .nil)))))) ?_
    refine Px.sq ?_
    refine W.cnd rfl (fun hb5 => ?_) (fun hb5 => ?_)
    · replace h := cndT hb5 h
      refine W.sk ?_
      refine Px.sq ?_
      refine W.sq' ?_
      obtain ⟨j6, hj, h⟩ := bnd h
      refine W.jn [(0, .obj (eyuccaref9_maker_r.cells j6.1)), (5, .obj (eAlt_0.cells a2)), (6, .obj [I64 (w64 (1 + x1)), oR eI j6.2.1, I64 (-1), SS j6.2.2.1, .nils, I64 j6.2.2.2]), (7, I64 s2.2.2.2.2)] ?_ ?_
      · clear h; have h := hj; clear hj
        refine W.bk ?_
        refine W.sq' ?_
        obtain ⟨x7, hx7, h⟩ := bnd h
        refine W.rx [(0, _), (5, _), (6, _), (7, _), (8, _)] (Rv (O.fO rfl (.obj rfl) fd98_0 rfl) <| Rv (O.ldO (y := iR ePart a2.Parts) rfl (.ptr rfl) ct96 rfl rfl) <| Rv (O.mv (.lit rfl)) <| Rv (O.ixI (.imm rfl) (.lit rfl) sl96 hx7) <| Rv (O.ldIN (cs' := [SS x7.Sym.Name, BB x7.Sym.Lit, I64 x7.Sym.Num, I64 x7.Sym.At, SS x7.Code, I64 x7.At]) (.iptr rfl) at100 rfl rfl) <| Rv (O.al (cs := [SS ({ data := #[] }), BB false, I64 0, I64 0, SS ({ data := #[] }), I64 0]) ze100 rfl rfl) <| RunL.sO (G2 := [(0, .obj (eyuccaref9_maker_r.cells s2.1)), (5, .obj (eAlt_0.cells a2)), (6, .obj [I64 (w64 (1 + x1)), oR eI s2.2.1, I64 (-1), SS s2.2.2.1, .nils, I64 s2.2.2.2.1]), (7, I64 s2.2.2.2.2), (8, .obj (ePart.cells x7))]) (cs2 := [SS x7.Sym.Name, BB x7.Sym.Lit, I64 x7.Sym.Num, I64 x7.Sym.At, SS x7.Code, I64 x7.At]) rfl (.obj rfl) (.aggF rfl rfl) rfl sz100 rfl rfl rfl rfl (.n rfl rfl (.n rfl rfl (.n rfl rfl (.n rfl rfl (.b rfl .nil))))) <| RunL.fin (.n rfl (.n rfl (.n rfl (.n rfl (.n rfl .nil)))))) ?_
        refine Px.sq ?_
        obtain ⟨j8, hj, h⟩ := bnd h
        refine W.jn [(0, .obj (eyuccaref9_maker_r.cells j8.1)), (5, .obj (eAlt_0.cells a2)), (6, .obj [I64 (w64 (1 + x1)), oR eI j8.2.1, I64 (-1), SS j8.2.2.1, .nils, I64 j8.2.2.2]), (7, I64 s2.2.2.2.2)] ?_ ?_
        · clear h; have h := hj; clear hj
          refine W.bk ?_
          refine W.sq' ?_
          refine W.rx [(0, _), (5, _), (6, _), (7, _), (8, _), (82, _)] (Rv (O.fO rfl (.obj rfl) fd100_1 rfl) <| Rv (O.ldO (y := SS x7.Code) rfl (.ptr rfl) ct9 rfl rfl) <| Rv (O.eqS (.lit rfl) (.k rfl)) <| Rv (O.as (.lit rfl)) <| RunL.fin (.n rfl (.n rfl (.n rfl (.n rfl (.n rfl (.n rfl .nil))))))) ?_
          refine Px.sq ?_
          obtain ⟨j9, hj, h⟩ := bnd h
          refine W.jn [(0, .obj (eyuccaref9_maker_r.cells j9.1)), (5, .obj (eAlt_0.cells a2)), (6, .obj [I64 (w64 (1 + x1)), oR eI j9.2.1, I64 (-1), SS j9.2.2.1, .nils, I64 j9.2.2.2]), (7, I64 s2.2.2.2.2)] ?_ ?_
          · clear h; have h := hj; clear hj
            refine W.cnd rfl (fun hb10 => ?_) (fun hb10 => ?_)
            · replace h := cndT hb10 h
              obtain ⟨x11, hx11, h⟩ := bnd h
              obtain ⟨x12, hx12, h⟩ := bnd h
              refine W.rd [[], [0], [], [], [3], [2, 3, 4], [2, 3, 4, 5], rn 0 7 [], rn 0 8 [], rn 0 9 []] [(0, _), (5, _), (6, _), (7, _)] mixo (by kernel_rfl) (Dv 0 (O.fO rfl (.obj rfl) fd109_1 rfl) <| Dv 1 (O.ldO (y := .brw eI.z ⟨6, [1]⟩ s2.2.1.length) rfl (.ptr rfl) ct27 rfl rfl) <| Dv 2 (O.mv (.obj rfl)) <| Dv 3 (O.fO rfl (.obj rfl) fd100_0 rfl) <| Dv 4 (O.ldON (cs' := [SS x7.Sym.Name, BB x7.Sym.Lit, I64 x7.Sym.Num, I64 x7.Sym.At]) rfl (.ptr rfl) at91 rfl rfl) <| DL.bu 5 (G2 := (6, .obj [I64 (w64 (1 + x1)), oR eI s2.2.1, I64 (-1), SS s2.2.2.1, .nils, I64 s2.2.2.2.1]) :: [(91, I64 x11.1), (0, .obj [oR eTok x11.2.f_g.Toks, oR eNon x11.2.f_g.Nons, oR eProd_0 x11.2.f_g.Prods, SS x11.2.f_g.Pro, SS x11.2.f_g.Tail, oR eB x11.2.f_given, oR eNon x11.2.f_types, oR eS x11.2.f_lefts, I64 x11.2.f_e, I64 x11.2.f_at, SS x11.2.f_name, I64 x11.2.f_level, I64 x11.2.f_inner]), (5, .obj (eAlt_0.cells a2)), (7, I64 s2.2.2.2.2)]) (U := [(1, 87, some (.brw eI.z ⟨6, [1]⟩ s2.2.1.length)), (0, 86, some (.ptr ⟨6, []⟩ 1))]) (EffV.box (r := 6) (G1 := [(0, .obj (eyuccaref9_maker_r.cells s2.1)), (5, .obj (eAlt_0.cells a2)), (7, I64 s2.2.2.2.2), (88, .ptr ⟨0, []⟩ 0), (90, .agg (eSym.cells x7.Sym))]) (G2 := [(91, I64 x11.1), (0, .obj [oR eTok x11.2.f_g.Toks, oR eNon x11.2.f_g.Nons, oR eProd_0 x11.2.f_g.Prods, SS x11.2.f_g.Pro, SS x11.2.f_g.Tail, oR eB x11.2.f_given, oR eNon x11.2.f_types, oR eS x11.2.f_lefts, I64 x11.2.f_e, I64 x11.2.f_at, SS x11.2.f_name, I64 x11.2.f_level, I64 x11.2.f_inner]), (5, .obj (eAlt_0.cells a2)), (7, I64 s2.2.2.2.2)]) (EO.call rfl rfl (CallOk.ln (G2 := [(5, .obj (eAlt_0.cells a2)), (7, I64 s2.2.2.2.2)]) (A := []) (ys := [.ptr ⟨0, []⟩ 0, .agg (eSym.cells x7.Sym)]) (args := [.obj (eyuccaref9_maker_r.cells s2.1), .agg (eSym.cells x7.Sym)]) (cs' := [oR eTok x11.2.f_g.Toks, oR eNon x11.2.f_g.Nons, oR eProd_0 x11.2.f_g.Prods, SS x11.2.f_g.Pro, SS x11.2.f_g.Tail, oR eB x11.2.f_given, oR eNon x11.2.f_types, oR eS x11.2.f_lefts, I64 x11.2.f_e, I64 x11.2.f_at, SS x11.2.f_name, I64 x11.2.f_level, I64 x11.2.f_inner]) (k0 := 0) rfl rfl rfl rfl (.b rfl (.n rfl .nil)) rfl (con83 s2.1 x7.Sym _ hx11) call83 (.n rfl (.n rfl .nil)) rfl rfl (.n rfl (.n rfl .nil)) .nil rfl)) rfl (.n rfl (.n rfl (.n rfl (.q rfl rfl rfl (.n rfl .nil))))) rfl rfl rfl) rfl rfl (by kernel_rfl) rfl rfl rfl (.c (.inl ⟨6, [1], _, _, _, _, rfl, by simp, rfl, rfl, Nat.le_refl _⟩) rfl rfl rfl rfl rfl (Gd.wanted .none) (O.ldO (y := .brw eI.z ⟨6, [1]⟩ s2.2.1.length) rfl (.ptr rfl) ct27 rfl rfl) (.c (.inr (.inr (.inr ⟨6, _, _, rfl, rfl, of_blt rfl, by simp⟩))) rfl rfl rfl rfl rfl (Gd.wanted .none) (O.fO rfl (.obj rfl) fd109_1 rfl) .nil)) (by kernel_rfl) <| DL.vi 6 (x := iR eI [x11.1]) (O.bs (ys := [I64 x11.1]) eI [x11.1] sl27 rfl rfl rfl rfl rfl rfl zt3 rfl rfl) rfl rfl rfl rfl .none <| Dv 7 (O.ap (en := eI) (r := x12) (.brw rfl) rfl (.imm rfl) .i ap27 rfl hx12) <| Dv 8 (O.fO rfl (.obj rfl) fd109_1 rfl) <| DL.bp 9 (G2 := [(0, .obj (eyuccaref9_maker_r.cells x11.2)), (5, .obj (eAlt_0.cells a2)), (6, .obj [I64 (w64 (1 + x1)), oR eI (s2.2.1 ++ [x11.1]), I64 (-1), SS s2.2.2.1, .nils, I64 s2.2.2.2.1]), (7, I64 s2.2.2.2.2)]) (EO.stP (g1 := _) (en := eI) (M := [x11.1]) (cs2 := [I64 (w64 (1 + x1)), oR eI (s2.2.1 ++ [x11.1]), I64 (-1), SS s2.2.2.1, .nils, I64 s2.2.2.2.1]) rfl rfl (.ptr rfl) (.pend rfl) rfl rfl rfl .ns .rf rfl rfl sz27 rfl rfl rfl rfl (.n rfl rfl (.n rfl rfl (.b rfl (.n rfl rfl .nil))))) rfl rfl rfl rfl (by kernel_rfl) (by kernel_rfl) <| DL.fin rfl rfl rfl (.n rfl (.n rfl (.n rfl (.n rfl .nil))))) ?_
              obtain rfl := sm h
              exact Px.jn (.n rfl (.n rfl (.n rfl (.n rfl .nil))))
            · replace h := cndF hb10 h
              refine W.sq' ?_
              refine W.rx [(0, _), (5, _), (6, _), (7, _), (8, _), (95, _)] (Rv (O.mv (.lit rfl)) <| Rv (O.add (.lit rfl) (.k rfl)) <| Rv (O.fO rfl (.obj rfl) fd98_0 rfl) <| Rv (O.ldO (y := iR ePart a2.Parts) rfl (.ptr rfl) ct96 rfl rfl) <| Rv (O.lenI (.imm rfl) sl96) <| Rv (O.eql (.lit rfl) (.lit rfl)) <| Rv (O.as (.lit rfl)) <| RunL.fin (.n rfl (.n rfl (.n rfl (.n rfl (.n rfl (.n rfl .nil))))))) ?_
              refine Px.sq ?_
              obtain ⟨j13, hj, h⟩ := bnd h
              refine W.jn [(0, .obj [oR eTok s2.1.f_g.Toks, oR eNon s2.1.f_g.Nons, oR eProd_0 j13.1, SS s2.1.f_g.Pro, SS s2.1.f_g.Tail, oR eB s2.1.f_given, oR eNon s2.1.f_types, oR eS s2.1.f_lefts, I64 s2.1.f_e, I64 s2.1.f_at, SS s2.1.f_name, I64 s2.1.f_level, I64 j13.2.1]), (5, .obj (eAlt_0.cells a2)), (6, .obj [I64 (w64 (1 + x1)), oR eI j13.2.2.1, I64 (-1), SS j13.2.2.2.1, .nils, I64 j13.2.2.2.2]), (7, I64 s2.2.2.2.2)] ?_ ?_
              · clear h; have h := hj; clear hj
                refine W.cnd rfl (fun hb14 => ?_) (fun hb14 => ?_)
                · replace h := cndT hb14 h
                  refine W.rd [[], [0], [], [2], [0, 1], [0, 1, 4], rn 0 6 [], rn 0 7 []] [(0, _), (5, _), (6, _), (7, _)] mixo (by kernel_rfl) (Dv 0 (O.fO rfl (.obj rfl) fd100_1 rfl) <| Dv 1 (O.ldO (y := SS x7.Code) rfl (.ptr rfl) ct9 rfl rfl) <| Dv 2 (O.fO rfl (.obj rfl) fd100_2 rfl) <| Dv 3 (O.ldO (y := I64 x7.At) rfl (.ptr rfl) ct3 rfl rfl) <| Dv 4 (O.fO rfl (.obj rfl) fd109_3 rfl) <| DL.bu 5 (G2 := [(0, .obj (eyuccaref9_maker_r.cells s2.1)), (5, .obj (eAlt_0.cells a2)), (6, .obj [I64 (w64 (1 + x1)), oR eI s2.2.1, I64 (-1), SS x7.Code, .nils, I64 s2.2.2.2.1]), (7, I64 s2.2.2.2.2), (8, .obj (ePart.cells x7))]) (U := [(3, 105, some (I64 x7.At)), (2, 104, some (.ptr ⟨8, []⟩ 5))]) (EffOk.v (EO.eff (EO.sO (G2 := [(0, .obj (eyuccaref9_maker_r.cells s2.1)), (5, .obj (eAlt_0.cells a2)), (6, .obj [I64 (w64 (1 + x1)), oR eI s2.2.1, I64 (-1), SS x7.Code, .nils, I64 s2.2.2.2.1]), (7, I64 s2.2.2.2.2), (8, .obj (ePart.cells x7))]) (cs2 := [I64 (w64 (1 + x1)), oR eI s2.2.1, I64 (-1), SS x7.Code, .nils, I64 s2.2.2.2.1]) rfl rfl rfl (.ptr rfl) (.lit rfl) rfl sz9 rfl rfl rfl rfl (.n rfl rfl (.n rfl rfl (.b rfl (.n rfl rfl (.n rfl rfl .nil)))))))) rfl rfl (by kernel_rfl) rfl rfl rfl (.c (.inr (.inl ⟨_, rfl⟩)) rfl rfl rfl rfl rfl (Gd.wanted .none) (O.ldO (y := I64 x7.At) rfl (.ptr rfl) ct3 rfl rfl) (.c (.inr (.inr (.inr ⟨8, _, _, rfl, rfl, of_blt rfl, by simp⟩))) rfl rfl rfl rfl rfl (Gd.wanted .none) (O.fO rfl (.obj rfl) fd100_2 rfl) .nil)) (by kernel_rfl) <| Dv 6 (O.fO rfl (.obj rfl) fd109_5 rfl) <| DL.sO 7 (G2 := [(0, .obj (eyuccaref9_maker_r.cells s2.1)), (5, .obj (eAlt_0.cells a2)), (6, .obj [I64 (w64 (1 + x1)), oR eI s2.2.1, I64 (-1), SS x7.Code, .nils, I64 x7.At]), (7, I64 s2.2.2.2.2)]) (cs2 := [I64 (w64 (1 + x1)), oR eI s2.2.1, I64 (-1), SS x7.Code, .nils, I64 x7.At]) rfl (by kernel_rfl) (by kernel_rfl) rfl rfl rfl (.ptr rfl) (.lit rfl) rfl sz3 rfl rfl rfl rfl (.n rfl rfl (.n rfl rfl (.b rfl (.n rfl rfl .nil)))) <| DL.fin rfl rfl rfl (.n rfl (.n rfl (.n rfl (.n rfl .nil))))) ?_
                  obtain rfl := sm h
                  exact Px.jn (.n rfl (.n rfl (.n rfl (.n rfl .nil))))
                · replace h := cndF hb14 h
                  refine W.sq' ?_
                  refine W.rx [(0, _), (5, _), (6, _), (7, _), (8, _)] (Rv (O.mv (.obj rfl)) <| Rv (O.nlP (.ptr rfl)) <| Rv (O.fO rfl (.ptr rfl) fd128_8 rfl) <| Rv (O.ldO (y := I64 s2.1.f_inner) rfl (.ptr rfl) ct3 rfl rfl) <| Rv (O.add (.lit rfl) (.k rfl)) <| Rv (O.nlP (.ptr rfl)) <| Rv (O.fO rfl (.ptr rfl) fd128_8 rfl) <| RunL.sO (G2 := [(0, .obj [oR eTok s2.1.f_g.Toks, oR eNon s2.1.f_g.Nons, oR eProd_0 s2.1.f_g.Prods, SS s2.1.f_g.Pro, SS s2.1.f_g.Tail, oR eB s2.1.f_given, oR eNon s2.1.f_types, oR eS s2.1.f_lefts, I64 s2.1.f_e, I64 s2.1.f_at, SS s2.1.f_name, I64 s2.1.f_level, I64 (w64 (s2.1.f_inner + 1))]), (5, .obj (eAlt_0.cells a2)), (6, .obj [I64 (w64 (1 + x1)), oR eI s2.2.1, I64 (-1), SS s2.2.2.1, .nils, I64 s2.2.2.2.1]), (7, I64 s2.2.2.2.2), (8, .obj (ePart.cells x7))]) (cs2 := [oR eTok s2.1.f_g.Toks, oR eNon s2.1.f_g.Nons, oR eProd_0 s2.1.f_g.Prods, SS s2.1.f_g.Pro, SS s2.1.f_g.Tail, oR eB s2.1.f_given, oR eNon s2.1.f_types, oR eS s2.1.f_lefts, I64 s2.1.f_e, I64 s2.1.f_at, SS s2.1.f_name, I64 s2.1.f_level, I64 (w64 (s2.1.f_inner + 1))]) rfl (.ptr rfl) (.lit rfl) rfl sz3 rfl rfl rfl rfl (.b rfl (.n rfl rfl (.n rfl rfl (.n rfl rfl (.n rfl rfl .nil))))) <| RunL.fin (.n rfl (.n rfl (.n rfl (.n rfl (.n rfl .nil)))))) ?_
                  refine Px.sq ?_
                  refine W.sq' ?_
                  obtain ⟨x15, hx15, h⟩ := bnd h
                  obtain ⟨x16, hx16, h⟩ := bnd h
                  refine W.rd [[], [], [1], [1, 2], [1, 2, 3], [1, 2, 3, 4], [], [6], [6, 7], [6, 7, 8], [6, 7, 8, 9], [], [11], [11, 12], [11, 12, 13], rn 6 9 [], [], [16], [], [], [19], [18, 19, 20], [], [22], rn 6 18 [], rn 6 19 [], rn 1 25 [], rn 0 27 [], rn 0 28 [], rn 0 29 [], rn 0 30 []] [(0, _), (5, _), (6, _), (7, _)] mixo (by kernel_rfl) (Dv 0 (O.mv (.obj rfl)) <| Dv 1 (O.mv (.obj rfl)) <| Dv 2 (O.nlP (.ptr rfl)) <| Dv 3 (O.fO rfl (.ptr rfl) fd128_0 rfl) <| Dv 4 (O.fO rfl (.ptr rfl) fd38_2 rfl) <| Dv 5 (O.ldO (y := .brw eProd_0.z ⟨0, [2]⟩ s2.1.f_g.Prods.length) rfl (.ptr rfl) ct36 rfl rfl) <| Dv 6 (O.mv (.obj rfl)) <| Dv 7 (O.nlP (.ptr rfl)) <| Dv 8 (O.fO rfl (.ptr rfl) fd128_3 rfl) <| Dv 9 (O.ldO (y := .brw eS.z ⟨0, [7]⟩ s2.1.f_lefts.length) rfl (.ptr rfl) ct61 rfl rfl) <| Dv 10 (O.lenO (.brw rfl) sl61) <| Dv 11 (O.mv (.obj rfl)) <| Dv 12 (O.nlP (.ptr rfl)) <| Dv 13 (O.fO rfl (.ptr rfl) fd128_8 rfl) <| Dv 14 (O.ldO (y := I64 (w64 (s2.1.f_inner + 1))) rfl (.ptr rfl) ct3 rfl rfl) <| Dv 15 (O.add (.lit rfl) (.lit rfl)) <| Dv 16 (O.fO rfl (.obj rfl) fd100_1 rfl) <| Dv 17 (O.ldO (y := SS x7.Code) rfl (.ptr rfl) ct9 rfl rfl) <| Dv 18 (O.bs (ys := []) eI ([] : List Int) sl27 rfl rfl rfl rfl rfl rfl zt3 rfl rfl) <| Dv 19 (O.fO rfl (.obj rfl) fd109_1 rfl) <| Dv 20 (O.ldO (y := .brw eI.z ⟨6, [1]⟩ s2.2.1.length) rfl (.ptr rfl) ct27 rfl rfl) <| Dv 21 (O.ap (en := eI) (r := x15) (.own rfl) rfl (.brw rfl) (.flat eI rfl) ap27 rfl hx15) <| Dv 22 (O.fO rfl (.obj rfl) fd100_2 rfl) <| Dv 23 (O.ldO (y := I64 x7.At) rfl (.ptr rfl) ct3 rfl rfl) <| Dv 24 (O.bu (cs := [I64 (w64 ((s2.1.f_lefts.length : Int) + (w64 (s2.1.f_inner + 1)))), .nils, I64 (-1), SS x7.Code, .brw eI.z ⟨57, []⟩ (([] : List Int).length + s2.2.1.length), I64 x7.At]) sc109 ze109 rfl rfl rfl) <| Dv 25 (O.bsL (ys := [.agg [I64 (w64 ((s2.1.f_lefts.length : Int) + (w64 (s2.1.f_inner + 1)))), .nils, I64 (-1), SS x7.Code, .brw eI.z ⟨57, []⟩ (([] : List Int).length + s2.2.1.length), I64 x7.At]]) (cs := [I64 (w64 ((s2.1.f_lefts.length : Int) + (w64 (s2.1.f_inner + 1)))), .nils, I64 (-1), SS x7.Code, .brw eI.z ⟨57, []⟩ (([] : List Int).length + s2.2.1.length), I64 x7.At]) sl36 rfl rfl rfl rfl rfl zt109 rfl rfl) <| Dv 26 (O.apL' (en := eProd_0) (M := [(⟨w64 ((s2.1.f_lefts.length : Int) + (w64 (s2.1.f_inner + 1))), ([] : List Int), (-1), x7.Code, ([] : List Int) ++ s2.2.1, x7.At⟩ : Prod)]) (r := x16) (.brw rfl) rfl (.own rfl) rfl rfl rfl rfl ap36 rfl hx16 (noP_spec (by kernel_rfl) (by kernel_rfl))) <| Dv 27 (O.nlP (.ptr rfl)) <| Dv 28 (O.fO rfl (.ptr rfl) fd128_0 rfl) <| Dv 29 (O.fO rfl (.ptr rfl) fd38_2 rfl) <| DL.bp 30 (G2 := [(0, .obj [oR eTok s2.1.f_g.Toks, oR eNon s2.1.f_g.Nons, oR eProd_0 (s2.1.f_g.Prods ++ [(⟨w64 ((s2.1.f_lefts.length : Int) + (w64 (s2.1.f_inner + 1))), ([] : List Int), (-1), x7.Code, ([] : List Int) ++ s2.2.1, x7.At⟩ : Prod)]), SS s2.1.f_g.Pro, SS s2.1.f_g.Tail, oR eB s2.1.f_given, oR eNon s2.1.f_types, oR eS s2.1.f_lefts, I64 s2.1.f_e, I64 s2.1.f_at, SS s2.1.f_name, I64 s2.1.f_level, I64 (w64 (s2.1.f_inner + 1))]), (5, .obj (eAlt_0.cells a2)), (6, .obj [I64 (w64 (1 + x1)), oR eI s2.2.1, I64 (-1), SS s2.2.2.1, .nils, I64 s2.2.2.2.1]), (7, I64 s2.2.2.2.2)]) (EO.stP (g1 := _) (en := eProd_0) (M := [(⟨w64 ((s2.1.f_lefts.length : Int) + (w64 (s2.1.f_inner + 1))), ([] : List Int), (-1), x7.Code, ([] : List Int) ++ s2.2.1, x7.At⟩ : Prod)]) (cs2 := [oR eTok s2.1.f_g.Toks, oR eNon s2.1.f_g.Nons, oR eProd_0 (s2.1.f_g.Prods ++ [(⟨w64 ((s2.1.f_lefts.length : Int) + (w64 (s2.1.f_inner + 1))), ([] : List Int), (-1), x7.Code, ([] : List Int) ++ s2.2.1, x7.At⟩ : Prod)]), SS s2.1.f_g.Pro, SS s2.1.f_g.Tail, oR eB s2.1.f_given, oR eNon s2.1.f_types, oR eS s2.1.f_lefts, I64 s2.1.f_e, I64 s2.1.f_at, SS s2.1.f_name, I64 s2.1.f_level, I64 (w64 (s2.1.f_inner + 1))]) rfl rfl (.ptr rfl) (.pend rfl) rfl rfl rfl (.f (.f (.f (.f (.pn rfl rfl rfl .ns (.f .nil)))))) (.f (.z (.f (.f (.z (hv := Vw.pn rfl rfl) (.f .nil)))))) rfl rfl sz36 rfl rfl rfl rfl (.b rfl (.n rfl rfl (.n rfl rfl (.n rfl rfl .nil))))) rfl rfl rfl rfl (by kernel_rfl) (by kernel_rfl) <| DL.fin rfl rfl rfl (.n rfl (.n rfl (.n rfl (.n rfl .nil))))) ?_
                  refine Px.sq ?_
                  obtain ⟨x17, hx17, h⟩ := bnd h
                  refine W.rd [[], [0], [], [2], [2, 3], [2, 3, 4], [2, 3, 4, 5], rn 2 5 [], [], [8], [8, 9], [8, 9, 10], rn 2 10 [], rn 2 11 [], rn 0 14 [], rn 0 15 [], rn 0 16 []] [(0, _), (5, _), (6, _), (7, _)] mixo (by kernel_rfl) (Dv 0 (O.fO rfl (.obj rfl) fd109_1 rfl) <| Dv 1 (O.ldO (y := .brw eI.z ⟨6, [1]⟩ s2.2.1.length) rfl (.ptr rfl) ct27 rfl rfl) <| Dv 2 (O.mv (.obj rfl)) <| Dv 3 (O.nlP (.ptr rfl)) <| Dv 4 (O.fO rfl (.ptr rfl) fd128_3 rfl) <| Dv 5 (O.ldO (y := .brw eS.z ⟨0, [7]⟩ s2.1.f_lefts.length) rfl (.ptr rfl) ct61 rfl rfl) <| Dv 6 (O.lenO (.brw rfl) sl61) <| Dv 7 (O.add (.k rfl) (.lit rfl)) <| Dv 8 (O.mv (.obj rfl)) <| Dv 9 (O.nlP (.ptr rfl)) <| Dv 10 (O.fO rfl (.ptr rfl) fd128_8 rfl) <| Dv 11 (O.ldO (y := I64 (w64 (s2.1.f_inner + 1))) rfl (.ptr rfl) ct3 rfl rfl) <| Dv 12 (O.add (.lit rfl) (.lit rfl)) <| DL.vi 13 (x := iR eI [w64 ((w64 (1000 + (s2.1.f_lefts.length : Int))) + (w64 (s2.1.f_inner + 1)))]) (O.bs (ys := [I64 (w64 ((w64 (1000 + (s2.1.f_lefts.length : Int))) + (w64 (s2.1.f_inner + 1))))]) eI [w64 ((w64 (1000 + (s2.1.f_lefts.length : Int))) + (w64 (s2.1.f_inner + 1)))] sl27 rfl rfl rfl rfl rfl rfl zt3 rfl rfl) rfl rfl rfl rfl .none <| Dv 14 (O.ap (en := eI) (r := x17) (.brw rfl) rfl (.imm rfl) .i ap27 rfl hx17) <| Dv 15 (O.fO rfl (.obj rfl) fd109_1 rfl) <| DL.bp 16 (G2 := [(0, .obj [oR eTok s2.1.f_g.Toks, oR eNon s2.1.f_g.Nons, oR eProd_0 (s2.1.f_g.Prods ++ [(⟨w64 ((s2.1.f_lefts.length : Int) + (w64 (s2.1.f_inner + 1))), ([] : List Int), (-1), x7.Code, ([] : List Int) ++ s2.2.1, x7.At⟩ : Prod)]), SS s2.1.f_g.Pro, SS s2.1.f_g.Tail, oR eB s2.1.f_given, oR eNon s2.1.f_types, oR eS s2.1.f_lefts, I64 s2.1.f_e, I64 s2.1.f_at, SS s2.1.f_name, I64 s2.1.f_level, I64 (w64 (s2.1.f_inner + 1))]), (5, .obj (eAlt_0.cells a2)), (6, .obj [I64 (w64 (1 + x1)), oR eI (s2.2.1 ++ [w64 ((w64 (1000 + (s2.1.f_lefts.length : Int))) + (w64 (s2.1.f_inner + 1)))]), I64 (-1), SS s2.2.2.1, .nils, I64 s2.2.2.2.1]), (7, I64 s2.2.2.2.2)]) (EO.stP (g1 := _) (en := eI) (M := [w64 ((w64 (1000 + (s2.1.f_lefts.length : Int))) + (w64 (s2.1.f_inner + 1)))]) (cs2 := [I64 (w64 (1 + x1)), oR eI (s2.2.1 ++ [w64 ((w64 (1000 + (s2.1.f_lefts.length : Int))) + (w64 (s2.1.f_inner + 1)))]), I64 (-1), SS s2.2.2.1, .nils, I64 s2.2.2.2.1]) rfl rfl (.ptr rfl) (.pend rfl) rfl rfl rfl .ns .rf rfl rfl sz27 rfl rfl rfl rfl (.n rfl rfl (.n rfl rfl (.b rfl (.n rfl rfl .nil))))) rfl rfl rfl rfl (by kernel_rfl) (by kernel_rfl) <| DL.fin rfl rfl rfl (.n rfl (.n rfl (.n rfl (.n rfl .nil))))) ?_
                  obtain rfl := sm h
                  exact Px.jn (.n rfl (.n rfl (.n rfl (.n rfl .nil))))
              obtain rfl := sm h
              exact Px.jn (.n rfl (.n rfl (.n rfl (.n rfl .nil))))
          refine Px.bk ?_
          obtain rfl := sm h
          exact Px.jn (.n rfl (.n rfl (.n rfl (.n rfl .nil))))
        refine Px.bk ?_
        obtain rfl := sm h
        exact Px.jn (.n rfl (.n rfl (.n rfl (.n rfl .nil))))
      refine Px.sq ?_
      refine W.rx [(0, _), (5, _), (6, _), (7, _)] (Rv (O.mv (.lit rfl)) <| Rv (O.add (.lit rfl) (.k rfl)) <| RunL.re (G1 := [(0, .obj (eyuccaref9_maker_r.cells j6.1)), (5, .obj (eAlt_0.cells a2)), (6, .obj [I64 (w64 (1 + x1)), oR eI j6.2.1, I64 (-1), SS j6.2.2.1, .nils, I64 j6.2.2.2]), (23, I64 (w64 (s2.2.2.2.2 + 1)))]) (.n rfl (.n rfl (.n rfl (.n rfl .nil)))) <| Rv (O.as (.lit rfl)) <| RunL.fin (.n rfl (.n rfl (.n rfl (.n rfl .nil))))) ?_
      obtain rfl := sm h
      exact Px.go (.n rfl (.n rfl (.n rfl (.n rfl .nil))))
    · replace h := cndF hb5 h
      refine W.xi ?_
      refine Px.sqE ?_
      obtain rfl := sm h
      exact Px.x1 (.n rfl (.n rfl (.n rfl .nil)))
  refine Px.bkH ?_
  refine Px.sq ?_
  refine W.sq' ?_
  refine W.sq' ?_
  refine W.rx [(0, _), (5, _), (6, _), (9, _)] (Rv (O.as (.k rfl)) <| RunL.fin (.n rfl (.n rfl (.n rfl (.n rfl .nil))))) ?_
  refine Px.sq ?_
  refine W.bk ?_
  obtain ⟨x19, hl, h⟩ := bnd h
  refine W.tr (G1 := [(0, .obj (eyuccaref9_maker_r.cells x3.1)), (5, .obj (eAlt_0.cells a2)), (6, .obj [I64 (w64 (1 + x1)), oR eI x3.2.1, I64 (-1), SS x3.2.2.1, .nils, I64 x3.2.2.2]), (9, I64 0)]) (.n rfl (.n rfl (.n rfl (.n rfl .nil)))) ?_
  refine W.lp1 (s := ((-1), 0)) (fun (s18 : Int × Int) => [(0, .obj (eyuccaref9_maker_r.cells x3.1)), (5, .obj (eAlt_0.cells a2)), (6, .obj [I64 (w64 (1 + x1)), oR eI x3.2.1, I64 s18.1, SS x3.2.2.1, .nils, I64 x3.2.2.2]), (9, I64 s18.2)]) 3 (fun (x19 : Int) => [(0, .obj (eyuccaref9_maker_r.cells x3.1)), (5, .obj (eAlt_0.cells a2)), (6, .obj [I64 (w64 (1 + x1)), oR eI x3.2.1, I64 x19, SS x3.2.2.1, .nils, I64 x3.2.2.2])]) hl (fun s18 o h => ?_) ?_
  · clear hl
    refine W.sq' ?_
    refine W.sq' ?_
    refine W.rx [(0, _), (5, _), (6, _), (9, _), (112, _)] (Rv (O.mv (.lit rfl)) <| Rv (O.fO rfl (.obj rfl) fd109_1 rfl) <| Rv (O.ldO (y := .brw eI.z ⟨6, [1]⟩ x3.2.1.length) rfl (.ptr rfl) ct27 rfl rfl) <| Rv (O.lenO (.brw rfl) sl27) <| Rv (O.lss (.lit rfl) (.lit rfl)) <| RunL.fin (.n rfl (.n rfl (.n rfl (.n rfl (.n rfl .nil)))))) ?_
    refine Px.sq ?_
    refine W.cnd rfl (fun hb21 => ?_) (fun hb21 => ?_)
    · replace h := cndT hb21 h
      refine W.sk ?_
      refine Px.sq ?_
      refine W.sq' ?_
      obtain ⟨j22, hj, h⟩ := bnd h
      refine W.jn [(0, .obj (eyuccaref9_maker_r.cells x3.1)), (5, .obj (eAlt_0.cells a2)), (6, .obj [I64 (w64 (1 + x1)), oR eI x3.2.1, I64 j22, SS x3.2.2.1, .nils, I64 x3.2.2.2]), (9, I64 s18.2)] ?_ ?_
      · clear h; have h := hj; clear hj
        refine W.bk ?_
        refine W.sq' ?_
        obtain ⟨x23, hx23, h⟩ := bnd h
        refine W.rx [(0, _), (5, _), (6, _), (9, _), (120, _)] (Rv (O.fO rfl (.obj rfl) fd109_1 rfl) <| Rv (O.ldO (y := .brw eI.z ⟨6, [1]⟩ x3.2.1.length) rfl (.ptr rfl) ct27 rfl rfl) <| Rv (O.mv (.lit rfl)) <| Rv (O.ixO (en := eI) rfl (.brw rfl) (.lit rfl) sl27 hx23 rfl) <| Rv (O.ldE (en := eI) (x' := I64 x23) rfl (.ptr rfl) ct3 hx23 rfl rfl) <| Rv (O.lss (.lit rfl) (.k rfl)) <| RunL.fin (.n rfl (.n rfl (.n rfl (.n rfl (.n rfl .nil)))))) ?_
        refine Px.sq ?_
        obtain ⟨j24, hj, h⟩ := bnd h
        refine W.jn [(0, .obj (eyuccaref9_maker_r.cells x3.1)), (5, .obj (eAlt_0.cells a2)), (6, .obj [I64 (w64 (1 + x1)), oR eI x3.2.1, I64 j24, SS x3.2.2.1, .nils, I64 x3.2.2.2]), (9, I64 s18.2)] ?_ ?_
        · clear h; have h := hj; clear hj
          refine W.cnd rfl (fun hb25 => ?_) (fun hb25 => ?_)
          · replace h := cndT hb25 h
            obtain ⟨x26, hx26, h⟩ := bnd h
            refine W.rx [(0, _), (5, _), (6, _), (9, _)] (Rv (O.fO rfl (.obj rfl) fd109_1 rfl) <| Rv (O.ldO (y := .brw eI.z ⟨6, [1]⟩ x3.2.1.length) rfl (.ptr rfl) ct27 rfl rfl) <| Rv (O.mv (.lit rfl)) <| Rv (O.ixO (en := eI) rfl (.brw rfl) (.lit rfl) sl27 hx26 rfl) <| Rv (O.ldE (en := eI) (x' := I64 x26) rfl (.ptr rfl) ct3 hx26 rfl rfl) <| Rv (O.fO rfl (.obj rfl) fd109_2 rfl) <| RunL.sO (G2 := [(0, .obj (eyuccaref9_maker_r.cells x3.1)), (5, .obj (eAlt_0.cells a2)), (6, .obj [I64 (w64 (1 + x1)), oR eI x3.2.1, I64 x26, SS x3.2.2.1, .nils, I64 x3.2.2.2]), (9, I64 s18.2)]) (cs2 := [I64 (w64 (1 + x1)), oR eI x3.2.1, I64 x26, SS x3.2.2.1, .nils, I64 x3.2.2.2]) rfl (.ptr rfl) (.lit rfl) rfl sz3 rfl rfl rfl rfl (.n rfl rfl (.n rfl rfl (.b rfl (.n rfl rfl .nil)))) <| RunL.fin (.n rfl (.n rfl (.n rfl (.n rfl .nil))))) ?_
            obtain rfl := sm h
            exact Px.jn (.n rfl (.n rfl (.n rfl (.n rfl .nil))))
          · replace h := cndF hb25 h
            refine W.sk ?_
            obtain rfl := sm h
            exact Px.jn (.n rfl (.n rfl (.n rfl (.n rfl .nil))))
        refine Px.bk ?_
        obtain rfl := sm h
        exact Px.jn (.n rfl (.n rfl (.n rfl (.n rfl .nil))))
      refine Px.sq ?_
      refine W.rx [(0, _), (5, _), (6, _), (9, _)] (Rv (O.mv (.lit rfl)) <| Rv (O.add (.lit rfl) (.k rfl)) <| RunL.re (G1 := [(0, .obj (eyuccaref9_maker_r.cells x3.1)), (5, .obj (eAlt_0.cells a2)), (6, .obj [I64 (w64 (1 + x1)), oR eI x3.2.1, I64 j22, SS x3.2.2.1, .nils, I64 x3.2.2.2]), (114, I64 (w64 (s18.2 + 1)))]) (.n rfl (.n rfl (.n rfl (.n rfl .nil)))) <| Rv (O.as (.lit rfl)) <| RunL.fin (.n rfl (.n rfl (.n rfl (.n rfl .nil))))) ?_
      obtain rfl := sm h
      exact Px.go (.n rfl (.n rfl (.n rfl (.n rfl .nil))))
    · replace h := cndF hb21 h
      refine W.xi ?_
      refine Px.sqE ?_
      obtain rfl := sm h
      exact Px.x1 (.n rfl (.n rfl (.n rfl .nil)))
  refine Px.bkH ?_
  refine Px.sq ?_
  refine W.sq' ?_
  refine W.sq' ?_
  refine W.rx [(0, _), (5, _), (6, _), (130, _)] (Rv (O.fO rfl (.obj rfl) fd98_1 rfl) <| Rv (O.fO rfl (.ptr rfl) fd91_0 rfl) <| Rv (O.ldO (y := SS a2.Prec.Name) rfl (.ptr rfl) ct9 rfl rfl) <| Rv (O.neS (.lit rfl) (.k rfl)) <| RunL.fin (.n rfl (.n rfl (.n rfl (.n rfl .nil))))) ?_
  refine Px.sq ?_
  obtain ⟨j27, hj, h⟩ := bnd h
  refine W.jn [(0, .obj (eyuccaref9_maker_r.cells j27.1)), (6, .obj [I64 (w64 (1 + x1)), oR eI x3.2.1, I64 j27.2, SS x3.2.2.1, .nils, I64 x3.2.2.2])] ?_ ?_
  · clear h; have h := hj; clear hj
    refine W.cnd rfl (fun hb28 => ?_) (fun hb28 => ?_)
    · replace h := cndT hb28 h
      refine W.sq' ?_
      refine W.rx [(0, _), (5, _), (6, _)] (Rv (O.fO rfl (.obj rfl) fd109_2 rfl) <| RunL.sO (G2 := [(0, .obj (eyuccaref9_maker_r.cells x3.1)), (5, .obj (eAlt_0.cells a2)), (6, .obj [I64 (w64 (1 + x1)), oR eI x3.2.1, I64 (-1), SS x3.2.2.1, .nils, I64 x3.2.2.2])]) (cs2 := [I64 (w64 (1 + x1)), oR eI x3.2.1, I64 (-1), SS x3.2.2.1, .nils, I64 x3.2.2.2]) rfl (.ptr rfl) (.k rfl) rfl sz3 rfl rfl rfl rfl (.n rfl rfl (.n rfl rfl (.b rfl .nil))) <| RunL.fin (.n rfl (.n rfl (.n rfl .nil)))) ?_
      refine Px.sq ?_
      refine W.sq' ?_
      obtain ⟨c31, hj, h⟩ := bnd h
      refine W.rx [(0, .obj (eyuccaref9_maker_r.cells x3.1)), (5, .obj (eAlt_0.cells a2)), (6, .obj [I64 (w64 (1 + x1)), oR eI x3.2.1, I64 (-1), SS x3.2.2.1, .nils, I64 x3.2.2.2]), (142, BB c31)] ?_ ?_
      · refine Rv (O.fO rfl (.obj rfl) fd98_1 rfl) <| Rv (O.fO rfl (.ptr rfl) fd91_1 rfl) <| Rv (O.ldO (y := BB a2.Prec.Lit) rfl (.ptr rfl) ct4 rfl rfl) <| Rv (O.mv (.lit rfl)) ?_
        rcases cnd hj with ⟨hb29, hj⟩ | ⟨hb29, hj⟩
        · obtain rfl := sm hj
          exact RunL.ps rfl rfl hb29 rfl rfl <| RunL.ps rfl rfl hb29 rfl rfl <| RunL.ps rfl rfl hb29 rfl rfl <| RunL.ps rfl rfl hb29 rfl rfl <| RunL.ps rfl rfl hb29 rfl rfl <| RunL.ps rfl rfl hb29 rfl rfl <| Rv (O.pkT (.lit rfl) hb29 (.k rfl)) <| RunL.fin (.n rfl (.n rfl (.n rfl (.n rfl .nil))))
        · refine RunL.v (O.mv (.obj rfl)) rfl rfl (.yb rfl rfl hb29) <| RunL.v (O.fO rfl (.obj rfl) fd98_1 rfl) rfl rfl (.yb rfl rfl hb29) <| RunL.v (O.fO rfl (.ptr rfl) fd91_0 rfl) rfl rfl (.yb rfl rfl hb29) <| RunL.v (O.ldO (y := SS a2.Prec.Name) rfl (.ptr rfl) ct9 rfl rfl) rfl rfl (.yb rfl rfl hb29) ?_
          obtain ⟨x30, hx30, hj⟩ := bnd hj
          obtain rfl := sm hj
          exact RunL.c (PC.vw (ys := [.ptr ⟨0, []⟩ 0, SS a2.Prec.Name]) rfl (.c (View.p0 rfl rfl) (.s .nil)) (con67 x3.1 a2.Prec.Name _ hx30) call67 rfl) rfl rfl (.yb rfl rfl hb29) <| RunL.v (O.lss (.lit rfl) (.k rfl)) rfl rfl (.yb rfl rfl hb29) <| Rv (O.pkF (.lit rfl) hb29 (.lit rfl)) <| RunL.fin (.n rfl (.n rfl (.n rfl (.n rfl .nil))))
      refine Px.sq ?_
      obtain ⟨j32, hj, h⟩ := bnd h
      refine W.jn [(0, .obj (eyuccaref9_maker_r.cells j32.1)), (6, .obj [I64 (w64 (1 + x1)), oR eI x3.2.1, I64 j32.2, SS x3.2.2.1, .nils, I64 x3.2.2.2])] ?_ ?_
      · clear h; have h := hj; clear hj
        refine W.cnd rfl (fun hb33 => ?_) (fun hb33 => ?_)
        · replace h := cndT hb33 h
          obtain ⟨x34, hx34, h⟩ := bnd h
          refine W.rx [(0, _), (6, _)] (Rv (O.mv (.obj rfl)) <| Rv (O.fO rfl (.obj rfl) fd98_1 rfl) <| Rv (O.ldON (cs' := [SS a2.Prec.Name, BB a2.Prec.Lit, I64 a2.Prec.Num, I64 a2.Prec.At]) rfl (.ptr rfl) at91 rfl rfl) <| RunL.ef (G2 := [(146, I64 x34.1), (0, .obj [oR eTok x34.2.f_g.Toks, oR eNon x34.2.f_g.Nons, oR eProd_0 x34.2.f_g.Prods, SS x34.2.f_g.Pro, SS x34.2.f_g.Tail, oR eB x34.2.f_given, oR eNon x34.2.f_types, oR eS x34.2.f_lefts, I64 x34.2.f_e, I64 x34.2.f_at, SS x34.2.f_name, I64 x34.2.f_level, I64 x34.2.f_inner]), (6, .obj [I64 (w64 (1 + x1)), oR eI x3.2.1, I64 (-1), SS x3.2.2.1, .nils, I64 x3.2.2.2])]) rfl (EO.call rfl rfl (CallOk.ln (G2 := [(6, .obj [I64 (w64 (1 + x1)), oR eI x3.2.1, I64 (-1), SS x3.2.2.1, .nils, I64 x3.2.2.2])]) (A := []) (ys := [.ptr ⟨0, []⟩ 0, .agg (eSym.cells a2.Prec)]) (args := [.obj (eyuccaref9_maker_r.cells x3.1), .agg (eSym.cells a2.Prec)]) (cs' := [oR eTok x34.2.f_g.Toks, oR eNon x34.2.f_g.Nons, oR eProd_0 x34.2.f_g.Prods, SS x34.2.f_g.Pro, SS x34.2.f_g.Tail, oR eB x34.2.f_given, oR eNon x34.2.f_types, oR eS x34.2.f_lefts, I64 x34.2.f_e, I64 x34.2.f_at, SS x34.2.f_name, I64 x34.2.f_level, I64 x34.2.f_inner]) (k0 := 0) rfl rfl rfl rfl (.b rfl (.n rfl .nil)) rfl (con83 x3.1 a2.Prec _ hx34) call83 (.n rfl .nil) rfl rfl (.n rfl .nil) .nil rfl)) <| Rv (O.fO rfl (.obj rfl) fd109_2 rfl) <| RunL.sO (G2 := [(0, .obj (eyuccaref9_maker_r.cells x34.2)), (6, .obj [I64 (w64 (1 + x1)), oR eI x3.2.1, I64 x34.1, SS x3.2.2.1, .nils, I64 x3.2.2.2])]) (cs2 := [I64 (w64 (1 + x1)), oR eI x3.2.1, I64 x34.1, SS x3.2.2.1, .nils, I64 x3.2.2.2]) rfl (.ptr rfl) (.lit rfl) rfl sz3 rfl rfl rfl rfl (.n rfl rfl (.b rfl .nil)) <| RunL.fin (.n rfl (.n rfl .nil))) ?_
          obtain rfl := sm h
          exact Px.jn (.n rfl (.n rfl .nil))
        · replace h := cndF hb33 h
          obtain ⟨x35, hx35, h⟩ := bnd h
          refine W.rx [(0, _), (6, _)] (Rv (O.mv (.obj rfl)) <| Rv (O.fO rfl (.obj rfl) fd98_1 rfl) <| Rv (O.fO rfl (.ptr rfl) fd91_3 rfl) <| Rv (O.ldO (y := I64 a2.Prec.At) rfl (.ptr rfl) ct3 rfl rfl) <| Rv (O.fO rfl (.obj rfl) fd98_1 rfl) <| Rv (O.fO rfl (.ptr rfl) fd91_0 rfl) <| Rv (O.ldO (y := SS a2.Prec.Name) rfl (.ptr rfl) ct9 rfl rfl) <| RunL.ef (G2 := [(155, .tup []), (0, .obj [oR eTok x35.f_g.Toks, oR eNon x35.f_g.Nons, oR eProd_0 x35.f_g.Prods, SS x35.f_g.Pro, SS x35.f_g.Tail, oR eB x35.f_given, oR eNon x35.f_types, oR eS x35.f_lefts, I64 x35.f_e, I64 x35.f_at, SS x35.f_name, I64 x35.f_level, I64 x35.f_inner]), (6, .obj [I64 (w64 (1 + x1)), oR eI x3.2.1, I64 (-1), SS x3.2.2.1, .nils, I64 x3.2.2.2])]) rfl (EO.call rfl rfl (CallOk.ln (G2 := [(6, .obj [I64 (w64 (1 + x1)), oR eI x3.2.1, I64 (-1), SS x3.2.2.1, .nils, I64 x3.2.2.2])]) (A := []) (ys := [.ptr ⟨0, []⟩ 0, I64 a2.Prec.At, SS a2.Prec.Name]) (args := [.obj (eyuccaref9_maker_r.cells x3.1), I64 a2.Prec.At, SS a2.Prec.Name]) (cs' := [oR eTok x35.f_g.Toks, oR eNon x35.f_g.Nons, oR eProd_0 x35.f_g.Prods, SS x35.f_g.Pro, SS x35.f_g.Tail, oR eB x35.f_given, oR eNon x35.f_types, oR eS x35.f_lefts, I64 x35.f_e, I64 x35.f_at, SS x35.f_name, I64 x35.f_level, I64 x35.f_inner]) (k0 := 0) rfl rfl rfl rfl (.b rfl (.n rfl (.n rfl .nil))) rfl (con65 x3.1 a2.Prec.At a2.Prec.Name _ hx35) call65 (.n rfl .nil) rfl rfl (.n rfl .nil) .nil rfl)) <| RunL.fin (.n rfl (.n rfl .nil))) ?_
          obtain rfl := sm h
          exact Px.jn (.n rfl (.n rfl .nil))
      obtain rfl := sm h
      exact Px.jn (.n rfl (.n rfl .nil))
    · replace h := cndF hb28 h
      refine W.sk ?_
      obtain rfl := sm h
      exact Px.jn (.n rfl (.n rfl .nil))
  refine Px.sq ?_
  refine W.sq' ?_
  obtain ⟨x36, hx36, h⟩ := bnd h
  refine W.rx [(0, _), (6, _)] (Rv (O.bs (ys := []) eI ([] : List Int) sl27 rfl rfl rfl rfl rfl rfl zt3 rfl rfl) <| Rv (O.fO rfl (.obj rfl) fd109_1 rfl) <| Rv (O.ldO (y := .brw eI.z ⟨6, [1]⟩ x3.2.1.length) rfl (.ptr rfl) ct27 rfl rfl) <| Rv (O.ap (en := eI) (r := x36) (.own rfl) rfl (.brw rfl) (.flat eI rfl) ap27 rfl hx36) <| Rv (O.fO rfl (.obj rfl) fd109_4 rfl) <| RunL.ef (G2 := [(0, .obj (eyuccaref9_maker_r.cells j27.1)), (6, .obj [I64 (w64 (1 + x1)), oR eI x3.2.1, I64 j27.2, SS x3.2.2.1, oR eI (([] : List Int) ++ x3.2.1), I64 x3.2.2.2])]) rfl (EO.stP (g1 := _) (en := eI) (M := x3.2.1) (cs2 := [I64 (w64 (1 + x1)), oR eI x3.2.1, I64 j27.2, SS x3.2.2.1, oR eI (([] : List Int) ++ x3.2.1), I64 x3.2.2.2]) rfl rfl (.ptr rfl) (.pend rfl) rfl rfl rfl .ns .rf rfl rfl sz27 rfl rfl rfl rfl (.n rfl rfl (.b rfl .nil))) <| RunL.fin (.n rfl (.n rfl .nil))) ?_
  refine Px.sq ?_
  refine W.fz (G1 := [(0, .obj (eyuccaref9_maker_r.cells j27.1)), (6, .obj [I64 (w64 (1 + x1)), iR eI x3.2.1, I64 j27.2, SS x3.2.2.1, oR eI (([] : List Int) ++ x3.2.1), I64 x3.2.2.2])]) [6] (.n rfl rfl (.z rfl rfl (FzL.obj (.f (.z (.f (.f (.f (.f .nil))))))) .nil)) ?_
  refine W.fz (G1 := [(0, .obj (eyuccaref9_maker_r.cells j27.1)), (6, .obj [I64 (w64 (1 + x1)), iR eI x3.2.1, I64 j27.2, SS x3.2.2.1, iR eI (([] : List Int) ++ x3.2.1), I64 x3.2.2.2])]) [6] (.n rfl rfl (.z rfl rfl (FzL.obj (.f (.f (.f (.f (.z (.f .nil))))))) .nil)) ?_
  obtain ⟨x37, hx37, h⟩ := bnd h
  refine W.rd [[], [], [1], [1, 2], [1, 2, 3], [1, 2, 3, 4], [], [6], rn 1 7 [], rn 0 9 [], rn 0 10 [], rn 0 11 [], rn 0 12 []] [(0, _)] mixo (by kernel_rfl) (Dv 0 (O.mv (.obj rfl)) <| Dv 1 (O.mv (.obj rfl)) <| Dv 2 (O.nlP (.ptr rfl)) <| Dv 3 (O.fO rfl (.ptr rfl) fd128_0 rfl) <| Dv 4 (O.fO rfl (.ptr rfl) fd38_2 rfl) <| Dv 5 (O.ldO (y := .brw eProd_0.z ⟨0, [2]⟩ j27.1.f_g.Prods.length) rfl (.ptr rfl) ct36 rfl rfl) <| Dv 6 (O.ldON (cs' := [I64 (w64 (1 + x1)), iR eI x3.2.1, I64 j27.2, SS x3.2.2.1, iR eI (([] : List Int) ++ x3.2.1), I64 x3.2.2.2]) rfl (.obj rfl) at109 rfl rfl) <| DL.vi 7 (x := iR eProd_0 [(⟨w64 (1 + x1), x3.2.1, j27.2, x3.2.2.1, ([] : List Int) ++ x3.2.1, x3.2.2.2⟩ : Prod)]) (O.bs (ys := [.agg [I64 (w64 (1 + x1)), iR eI x3.2.1, I64 j27.2, SS x3.2.2.1, iR eI (([] : List Int) ++ x3.2.1), I64 x3.2.2.2]]) eProd_0 [(⟨w64 (1 + x1), x3.2.1, j27.2, x3.2.2.1, ([] : List Int) ++ x3.2.1, x3.2.2.2⟩ : Prod)] sl36 rfl rfl rfl rfl rfl rfl zt109 rfl rfl) rfl rfl rfl rfl .none <| Dv 8 (O.ap (en := eProd_0) (r := x37) (.brw rfl) rfl (.imm rfl) .i ap36 rfl hx37) <| Dv 9 (O.nlP (.ptr rfl)) <| Dv 10 (O.fO rfl (.ptr rfl) fd128_0 rfl) <| Dv 11 (O.fO rfl (.ptr rfl) fd38_2 rfl) <| DL.bp 12 (G2 := [(0, .obj [oR eTok j27.1.f_g.Toks, oR eNon j27.1.f_g.Nons, oR eProd_0 (j27.1.f_g.Prods ++ [(⟨w64 (1 + x1), x3.2.1, j27.2, x3.2.2.1, ([] : List Int) ++ x3.2.1, x3.2.2.2⟩ : Prod)]), SS j27.1.f_g.Pro, SS j27.1.f_g.Tail, oR eB j27.1.f_given, oR eNon j27.1.f_types, oR eS j27.1.f_lefts, I64 j27.1.f_e, I64 j27.1.f_at, SS j27.1.f_name, I64 j27.1.f_level, I64 j27.1.f_inner])]) (EO.stP (g1 := _) (en := eProd_0) (M := [(⟨w64 (1 + x1), x3.2.1, j27.2, x3.2.2.1, ([] : List Int) ++ x3.2.1, x3.2.2.2⟩ : Prod)]) (cs2 := [oR eTok j27.1.f_g.Toks, oR eNon j27.1.f_g.Nons, oR eProd_0 (j27.1.f_g.Prods ++ [(⟨w64 (1 + x1), x3.2.1, j27.2, x3.2.2.1, ([] : List Int) ++ x3.2.1, x3.2.2.2⟩ : Prod)]), SS j27.1.f_g.Pro, SS j27.1.f_g.Tail, oR eB j27.1.f_given, oR eNon j27.1.f_types, oR eS j27.1.f_lefts, I64 j27.1.f_e, I64 j27.1.f_at, SS j27.1.f_name, I64 j27.1.f_level, I64 j27.1.f_inner]) rfl rfl (.ptr rfl) (.pend rfl) rfl rfl rfl .ns .rf rfl rfl sz36 rfl rfl rfl rfl (.b rfl .nil)) rfl rfl rfl rfl (by kernel_rfl) (by kernel_rfl) <| DL.fin rfl rfl rfl (.n rfl .nil)) ?_
  obtain rfl := sm h
  exact Px.fin (Fin.ro .nil rfl (of_decide_eq_true (by kernel_rfl)) (.so rfl rfl (.no (.no .nil))) rfl (.inl rfl))
def pf50 (a0 : Source) : Option (Grammar × Int × Int × ByteArray) :=
 (pf63 a0).bind fun x1 =>
 (bif !x1 then
 some ((⟨([] : List Tok), ([] : List Non), ([] : List Prod), { data := #[] }, { data := #[] }⟩ : Grammar), 1, 0, { data := #[] })
 else
 (mkO 3 false).bind fun x3 =>
 (loopM (R := yuccaref9_maker × ByteArray) (fun (s4 : yuccaref9_maker × ByteArray × Int) =>
 (bif decide (s4.2.2 < (a0.Decls.length : Int)) then
 (idx a0.Decls s4.2.2).bind fun x8 =>
 ((bif decide (2 ≤ x8.Kind) then some (decide (x8.Kind ≤ 4)) else some false)).bind fun c10 =>
 ((bif c10 then
 some (w64 (s4.1.f_level + 1))
 else
 some s4.1.f_level)).bind fun j11 =>
 (loopM (R := yuccaref9_maker × ByteArray) (fun (s13 : yuccaref9_maker × ByteArray × Int) =>
 (bif decide (s13.2.2 < (x8.Syms.length : Int)) then
 ((bif !decide (x8.Kind = 6) then
 (idx x8.Syms s13.2.2).bind fun x19 =>
 (pf64 s13.1 x8 x19).bind fun x20 =>
 some (x20, s13.2.1)
 else
 ((bif !decide (s13.2.1 = { data := #[] }) then
 (idx x8.Syms s13.2.2).bind fun x23 =>
 (idx x8.Syms s13.2.2).bind fun x24 =>
 (pf65 s13.1 x23.At x24.Name).bind fun x25 =>
 some x25
 else
 some s13.1)).bind fun j21 =>
 (idx x8.Syms s13.2.2).bind fun x26 =>
 some (j21, x26.Name))).bind fun j17 =>
 some (.inl (j17.1, j17.2, w64 (s13.2.2 + 1)))
 else
 some (.inr (s13.1, s13.2.1)))) ((⟨s4.1.f_g, s4.1.f_given, s4.1.f_types, s4.1.f_lefts, s4.1.f_e, s4.1.f_at, s4.1.f_name, j11, s4.1.f_inner⟩ : yuccaref9_maker), s4.2.1, 0)).bind fun x14 =>
 some (.inl (x14.1, x14.2, w64 (s4.2.2 + 1)))
 else
 some (.inr (s4.1, s4.2.1)))) ((⟨(⟨[(⟨{ data := #[36, 101, 110, 100] }, false, 0, 0, 0, { data := #[] }⟩ : Tok), (⟨{ data := #[101, 114, 114, 111, 114] }, false, (-1), 0, 0, { data := #[] }⟩ : Tok), (⟨{ data := #[36, 117, 110, 107] }, false, (-1), 0, 0, { data := #[] }⟩ : Tok)], [], [], { data := #[] }, { data := #[] }⟩ : Grammar), x3, [], [], 0, 0, { data := #[] }, 0, 0⟩ : yuccaref9_maker), { data := #[] }, 0)).bind fun x5 =>
 (loopM (R := yuccaref9_maker) (fun (s27 : yuccaref9_maker × Int) =>
 (bif decide (s27.2 < (a0.Rules.length : Int)) then
 ((idx a0.Rules s27.2).bind fun x32 =>
 (pf66 s27.1 (⟨x32.Left, false, 0, 0⟩ : Sym)).bind fun x33 =>
 ((bif decide (0 ≤ x33) then
 (pf65 s27.1 x32.At x32.Left).bind fun x36 =>
 some x36
 else
 some s27.1)).bind fun j34 =>
 (pf67 j34 x32.Left).bind fun x37 =>
 ((bif decide (x37 < 0) then
 (appO j34.f_lefts [x32.Left]).bind fun x40 =>
 some (j34.f_lefts ++ [x32.Left])
 else
 some j34.f_lefts)).bind fun j38 =>
 some (⟨j34.f_g, j34.f_given, j34.f_types, j38, j34.f_e, j34.f_at, j34.f_name, j34.f_level, j34.f_inner⟩ : yuccaref9_maker)).bind fun j31 =>
 some (.inl (j31, w64 (s27.2 + 1)))
 else
 some (.inr s27.1))) (x5.1, 0)).bind fun x28 =>
 (loopM (R := yuccaref9_maker) (fun (s41 : yuccaref9_maker × Int) =>
 (bif decide (s41.2 < (a0.Decls.length : Int)) then
 (loopM (R := yuccaref9_maker) (fun (s45 : yuccaref9_maker × Int) =>
 (idx a0.Decls s41.2).bind fun x48 =>
 (bif decide (s45.2 < (x48.Syms.length : Int)) then
 ((idx a0.Decls s41.2).bind fun x51 =>
 (idx x51.Syms s45.2).bind fun x52 =>
 (((idx a0.Decls s41.2).bind fun x53 => (bif decide (5 ≤ x53.Kind) then ((pf67 s45.1 x52.Name).bind fun x55 => some (decide (x55 < 0))) else some false))).bind fun c56 =>
 ((bif c56 then
 (pf65 s45.1 x52.At x52.Name).bind fun x59 =>
 some x59
 else
 some s45.1)).bind fun j57 =>
 some j57).bind fun j50 =>
 some (.inl (j50, w64 (s45.2 + 1)))
 else
 some (.inr s45.1))) (s41.1, 0)).bind fun x46 =>
 some (.inl (x46, w64 (s41.2 + 1)))
 else
 some (.inr s41.1))) (x28, 0)).bind fun x42 =>
 ((bif decide (x5.2 = { data := #[] }) then
 (idx a0.Rules 0).bind fun x62 =>
 some x62.Left
 else
 some x5.2)).bind fun j60 =>
 (pf67 x42 j60).bind fun x63 =>
 (loopM (R := yuccaref9_maker) (fun (s64 : yuccaref9_maker × Int) =>
 (bif decide (s64.2 < (a0.Rules.length : Int)) then
 (loopM (R := yuccaref9_maker) (fun (s68 : yuccaref9_maker × Int) =>
 (idx a0.Rules s64.2).bind fun x71 =>
 (bif decide (s68.2 < (x71.Alts.length : Int)) then
 (idx a0.Rules s64.2).bind fun x73 =>
 (idx a0.Rules s64.2).bind fun x74 =>
 (idx x74.Alts s68.2).bind fun x75 =>
 (pf68 s68.1 x73.Left x75).bind fun x76 =>
 some (.inl (x76, w64 (s68.2 + 1)))
 else
 some (.inr s68.1))) (s64.1, 0)).bind fun x69 =>
 some (.inl (x69, w64 (s64.2 + 1)))
 else
 some (.inr s64.1))) ((⟨(⟨x42.f_g.Toks, x42.f_g.Nons, [(⟨0, [w64 (1001 + x63)], (-1), { data := #[] }, ([] : List Int), 0⟩ : Prod)], x42.f_g.Pro, x42.f_g.Tail⟩ : Grammar), x42.f_given, x42.f_types, x42.f_lefts, x42.f_e, x42.f_at, x42.f_name, x42.f_level, x42.f_inner⟩ : yuccaref9_maker), 0)).bind fun x65 =>
 (bif !decide (x65.f_e = 0) then
 some ((⟨([] : List Tok), ([] : List Non), ([] : List Prod), { data := #[] }, { data := #[] }⟩ : Grammar), x65.f_e, x65.f_at, x65.f_name)
 else
 (loopM (R := List Non) (fun (s78 : List Non × Int) =>
 (bif decide (s78.2 < (x65.f_lefts.length : Int)) then
 (idx x65.f_lefts s78.2).bind fun x82 =>
 (pf69 (⟨(⟨x65.f_g.Toks, s78.1, x65.f_g.Prods, x65.f_g.Pro, x65.f_g.Tail⟩ : Grammar), x65.f_given, x65.f_types, x65.f_lefts, x65.f_e, x65.f_at, x65.f_name, x65.f_level, x65.f_inner⟩ : yuccaref9_maker) x82).bind fun x83 =>
 ((bif decide (0 ≤ x83) then
 (idx x65.f_types x83).bind fun x86 =>
 some x86.Tag
 else
 some ({ data := #[] }))).bind fun j84 =>
 (appO s78.1 [(⟨x82, j84⟩ : Non)]).bind fun x87 =>
 some (.inl (s78.1 ++ [(⟨x82, j84⟩ : Non)], w64 (s78.2 + 1)))
 else
 some (.inr s78.1))) ([(⟨{ data := #[36, 97, 99, 99, 101, 112, 116] }, { data := #[] }⟩ : Non)], 0)).bind fun x79 =>
 (loopM (R := List Non) (fun (s88 : List Non × Int) =>
 (bif decide (s88.2 ≤ x65.f_inner) then
 (pf52 s88.2).bind fun x92 =>
 (catO ({ data := #[64] }) x92).bind fun x93 =>
 (appO s88.1 [(⟨x93, { data := #[] }⟩ : Non)]).bind fun x94 =>
 some (.inl (s88.1 ++ [(⟨x93, { data := #[] }⟩ : Non)], w64 (s88.2 + 1)))
 else
 some (.inr s88.1))) (x79, 1)).bind fun x89 =>
 (loopM (R := List Tok) (fun (s95 : List Tok × Int × Int) =>
 (bif decide (s95.2.2 < (s95.1.length : Int)) then
 ((idx x65.f_given s95.2.2).bind fun x100 =>
 ((bif !x100 then
 (idx s95.1 s95.2.2).bind fun x103 =>
 some (s95.1.set s95.2.2.toNat (⟨x103.Name, x103.Lit, s95.2.1, x103.Level, x103.Assoc, x103.Tag⟩ : Tok), w64 (s95.2.1 + 1))
 else
 some (s95.1, s95.2.1))).bind fun j101 =>
 some (j101.1, j101.2)).bind fun j99 =>
 some (.inl (j99.1, j99.2, w64 (s95.2.2 + 1)))
 else
 some (.inr s95.1))) (x65.f_g.Toks, 57346, 3)).bind fun x96 =>
 ((bif decide (40 < (x96.length : Int)) then some true else (bif decide (24 < (x89.length : Int)) then some true else some (decide (60 < (x65.f_g.Prods.length : Int)))))).bind fun c106 =>
 (loopM (R := Bool) (fun (s107 : Bool × Int) =>
 (bif decide (s107.2 < (x65.f_g.Prods.length : Int)) then
 ((bif s107.1 then some true else ((idx x65.f_g.Prods s107.2).bind fun x112 => some (decide (8 < (x112.Right.length : Int)))))).bind fun c113 =>
 some (.inl (c113, w64 (s107.2 + 1)))
 else
 some (.inr s107.1))) (c106, 0)).bind fun x108 =>
 (bif x108 then
 some ((⟨([] : List Tok), ([] : List Non), ([] : List Prod), { data := #[] }, { data := #[] }⟩ : Grammar), 4, 0, { data := #[] })
 else
 some ((⟨x96, x89, x65.f_g.Prods, a0.Pro, a0.Tail⟩ : Grammar), 0, 0, { data := #[] }))))
theorem con50 (a0 : Source) (r : Grammar × Int × Int × ByteArray) (h : pf50 a0 = some r) : Con Try.prog 50 [.agg [SS a0.Pro, iR eDecl_0 a0.Decls, iR eRule_0 a0.Rules, SS a0.Tail]] [none] (.tup [.agg (eGrammar_0.cells r.1), I64 r.2.1, I64 r.2.2.1, SS r.2.2.2]) := by
  unfold pf50 at h
  refine Con.go (N := ⟨435, []⟩) Try.func50 rfl rfl rfl rfl (W.fin ?_)
  refine W.st [(0, .agg [SS a0.Pro, iR eDecl_0 a0.Decls, iR eRule_0 a0.Rules, SS a0.Tail])] ?_
  refine W.sq' ?_
  refine W.rx [(1, _), (2, _)] (Rv (O.box (.aggF rfl rfl) rfl) <| Rv (O.al (cs := [.nils, .nils, .nils, SS ({ data := #[] }), SS ({ data := #[] })]) ze38 rfl rfl) <| Rv (O.as (.k rfl)) <| Rv (O.as (.k rfl)) <| Rv (O.as (.k rfl)) <| RunL.fin (.n rfl (.n rfl .nil))) ?_
  refine Px.sq ?_
  refine W.sq' ?_
  refine W.sq' ?_
  obtain ⟨x1, hx1, h⟩ := bnd h
  refine W.rx [(1, _), (2, _), (28, _)] (Rv (O.ldON (cs' := [SS a0.Pro, iR eDecl_0 a0.Decls, iR eRule_0 a0.Rules, SS a0.Tail]) rfl (.obj rfl) at25 rfl rfl) <| Rc (PC.go (.cc (.aggF rfl rfl) .nil) (con63 a0 _ hx1) call63 rfl) <| Rv (O.not (.lit rfl)) <| RunL.fin (.n rfl (.n rfl (.n rfl .nil)))) ?_
  refine Px.sq ?_
  refine W.cnd rfl (fun hb2 => ?_) (fun hb2 => ?_)
  · replace h := cndT hb2 h
    refine W.sq' ?_
    refine W.rx [(2, _), (3, _), (4, _), (5, _)] (Rv (O.bu (cs := [.nils, .nils, .nils, SS ({ data := #[] }), SS ({ data := #[] })]) sc38 ze38 rfl rfl rfl) <| RunL.sO (G2 := [(2, .obj [.nils, .nils, .nils, SS ({ data := #[] }), SS ({ data := #[] })])]) (cs2 := [.nils, .nils, .nils, SS ({ data := #[] }), SS ({ data := #[] })]) rfl (.obj rfl) (.aggF rfl rfl) rfl sz38 rfl rfl rfl rfl (.b rfl .nil) <| Rv (O.as (.k rfl)) <| Rv (O.as (.k rfl)) <| Rv (O.as (.k rfl)) <| RunL.fin (.n rfl (.n rfl (.n rfl (.n rfl .nil))))) ?_
    refine Px.sq ?_
    refine W.fz (G1 := [(2, .obj [iR eTok ([] : List Tok), iR eNon ([] : List Non), iR eProd_0 ([] : List Prod), SS ({ data := #[] }), SS ({ data := #[] })]), (3, I64 1), (4, I64 0), (5, SS ({ data := #[] }))]) [2] (.z rfl rfl (FzL.obj (.z (.z (.z (.f (.f .nil)))))) (.n rfl rfl (.n rfl rfl (.n rfl rfl .nil)))) ?_
    refine W.rt ?_
    refine Px.sqR ?_
    obtain rfl := sm h
    exact Px.fin (Fin.ro (.c (ys0 := [iR eTok ([] : List Tok), iR eNon ([] : List Non), iR eProd_0 ([] : List Prod), SS ({ data := #[] }), SS ({ data := #[] })]) rfl at38 rfl rfl rfl (.f rfl (.f rfl (.f rfl (.f rfl (.f rfl .nil))))) (.f rfl rfl (.f rfl rfl (.f rfl rfl .nil)))) rfl (of_decide_eq_true (by kernel_rfl)) (.no .nil) rfl (.inr rfl))
  · replace h := cndF hb2 h
    refine W.sk ?_
    refine Px.sq ?_
    refine W.sq' ?_
    obtain ⟨x3, hx3, h⟩ := bnd h
    refine W.rx [(1, _), (2, _), (6, _)] (Rv (O.mk (en := eB) (z0 := false) sl102 (.k rfl) (.k rfl) ze4 rfl rfl hx3 bb4 rfl) <| Rv (O.bu (cs := [.nils, .nils, .nils, SS ({ data := #[] }), SS ({ data := #[] }), .brw eB.z ⟨30, []⟩ x3.length, .nils, .nils, I64 0, I64 0, SS ({ data := #[] }), I64 0, I64 0]) sc128 ze128 rfl rfl rfl) <| Rv (O.box (.aggF rfl rfl) rfl) <| RunL.ea (G2 := [(1, .obj [SS a0.Pro, iR eDecl_0 a0.Decls, iR eRule_0 a0.Rules, SS a0.Tail]), (2, .obj [.nils, .nils, .nils, SS ({ data := #[] }), SS ({ data := #[] })])]) rfl (EO.aG (y' := .obj [.nils, .nils, .nils, SS ({ data := #[] }), SS ({ data := #[] }), oR eB x3, .nils, .nils, I64 0, I64 0, SS ({ data := #[] }), I64 0, I64 0]) rfl rfl (.obj rfl) (.b rfl (.f (.f (.f (.f (.f (.r rfl (.f (.f (.f (.f (.f (.f (.f .nil))))))))))))) .nil) .refl (.n rfl (.n rfl .nil)) rfl rfl) <| RunL.fin (.n rfl (.n rfl (.n rfl .nil)))) ?_
    refine Px.sq ?_
    refine W.sq' ?_
    refine W.rx [(1, _), (2, _), (6, _)] (Rv (O.mv (.obj rfl)) <| Rv (O.bu (cs := [SS ({ data := #[36, 101, 110, 100] }), BB false, I64 0, I64 0, I64 0, SS ({ data := #[] })]) sc52 ze52 rfl rfl rfl) <| Rv (O.bu (cs := [SS ({ data := #[101, 114, 114, 111, 114] }), BB false, I64 (-1), I64 0, I64 0, SS ({ data := #[] })]) sc52 ze52 rfl rfl rfl) <| Rv (O.bu (cs := [SS ({ data := #[36, 117, 110, 107] }), BB false, I64 (-1), I64 0, I64 0, SS ({ data := #[] })]) sc52 ze52 rfl rfl rfl) <| Rv (O.bs (ys := [.agg [SS ({ data := #[36, 101, 110, 100] }), BB false, I64 0, I64 0, I64 0, SS ({ data := #[] })], .agg [SS ({ data := #[101, 114, 114, 111, 114] }), BB false, I64 (-1), I64 0, I64 0, SS ({ data := #[] })], .agg [SS ({ data := #[36, 117, 110, 107] }), BB false, I64 (-1), I64 0, I64 0, SS ({ data := #[] })]]) eTok [(⟨{ data := #[36, 101, 110, 100] }, false, 0, 0, 0, { data := #[] }⟩ : Tok), (⟨{ data := #[101, 114, 114, 111, 114] }, false, (-1), 0, 0, { data := #[] }⟩ : Tok), (⟨{ data := #[36, 117, 110, 107] }, false, (-1), 0, 0, { data := #[] }⟩ : Tok)] sl34 rfl rfl rfl rfl rfl rfl zt52 rfl rfl) <| Rv (O.nlP (.ptr rfl)) <| Rv (O.fO rfl (.ptr rfl) fd128_0 rfl) <| Rv (O.fO rfl (.ptr rfl) fd38_0 rfl) <| RunL.ef (G2 := [(1, .obj [SS a0.Pro, iR eDecl_0 a0.Decls, iR eRule_0 a0.Rules, SS a0.Tail]), (2, .obj [.nils, .nils, .nils, SS ({ data := #[] }), SS ({ data := #[] })]), (6, .obj [oR eTok [(⟨{ data := #[36, 101, 110, 100] }, false, 0, 0, 0, { data := #[] }⟩ : Tok), (⟨{ data := #[101, 114, 114, 111, 114] }, false, (-1), 0, 0, { data := #[] }⟩ : Tok), (⟨{ data := #[36, 117, 110, 107] }, false, (-1), 0, 0, { data := #[] }⟩ : Tok)], .nils, .nils, SS ({ data := #[] }), SS ({ data := #[] }), oR eB x3, .nils, .nils, I64 0, I64 0, SS ({ data := #[] }), I64 0, I64 0])]) rfl (EO.stB (y' := oR eTok [(⟨{ data := #[36, 101, 110, 100] }, false, 0, 0, 0, { data := #[] }⟩ : Tok), (⟨{ data := #[101, 114, 114, 111, 114] }, false, (-1), 0, 0, { data := #[] }⟩ : Tok), (⟨{ data := #[36, 117, 110, 107] }, false, (-1), 0, 0, { data := #[] }⟩ : Tok)]) (cs2 := [oR eTok [(⟨{ data := #[36, 101, 110, 100] }, false, 0, 0, 0, { data := #[] }⟩ : Tok), (⟨{ data := #[101, 114, 114, 111, 114] }, false, (-1), 0, 0, { data := #[] }⟩ : Tok), (⟨{ data := #[36, 117, 110, 107] }, false, (-1), 0, 0, { data := #[] }⟩ : Tok)], .nils, .nils, SS ({ data := #[] }), SS ({ data := #[] }), oR eB x3, .nils, .nils, I64 0, I64 0, SS ({ data := #[] }), I64 0, I64 0]) rfl rfl (.ptr rfl) (.own rfl) (.r rfl .nil) .refl rfl sz34 rfl rfl rfl rfl rfl (.n rfl rfl (.n rfl rfl (.b rfl .nil)))) <| RunL.fin (.n rfl (.n rfl (.n rfl .nil)))) ?_
    refine Px.sq ?_
    refine W.sq' ?_
    refine W.rx [(1, _), (2, _), (6, _), (7, _)] (Rv (O.as (.k rfl)) <| RunL.fin (.n rfl (.n rfl (.n rfl (.n rfl .nil))))) ?_
    refine Px.sq ?_
    refine W.sq' ?_
    refine W.sq' ?_
    refine W.rx [(1, _), (2, _), (6, _), (7, _), (8, _)] (Rv (O.as (.k rfl)) <| RunL.fin (.n rfl (.n rfl (.n rfl (.n rfl (.n rfl .nil)))))) ?_
    refine Px.sq ?_
    refine W.bk ?_
    obtain ⟨x5, hl, h⟩ := bnd h
    refine W.tr (G1 := [(1, .obj [SS a0.Pro, iR eDecl_0 a0.Decls, iR eRule_0 a0.Rules, SS a0.Tail]), (2, .obj [.nils, .nils, .nils, SS ({ data := #[] }), SS ({ data := #[] })]), (6, .obj [oR eTok (((⟨(⟨[(⟨{ data := #[36, 101, 110, 100] }, false, 0, 0, 0, { data := #[] }⟩ : Tok), (⟨{ data := #[101, 114, 114, 111, 114] }, false, (-1), 0, 0, { data := #[] }⟩ : Tok), (⟨{ data := #[36, 117, 110, 107] }, false, (-1), 0, 0, { data := #[] }⟩ : Tok)], [], [], { data := #[] }, { data := #[] }⟩ : Grammar), x3, [], [], 0, 0, { data := #[] }, 0, 0⟩ : yuccaref9_maker).f_g).Toks), oR eNon (((⟨(⟨[(⟨{ data := #[36, 101, 110, 100] }, false, 0, 0, 0, { data := #[] }⟩ : Tok), (⟨{ data := #[101, 114, 114, 111, 114] }, false, (-1), 0, 0, { data := #[] }⟩ : Tok), (⟨{ data := #[36, 117, 110, 107] }, false, (-1), 0, 0, { data := #[] }⟩ : Tok)], [], [], { data := #[] }, { data := #[] }⟩ : Grammar), x3, [], [], 0, 0, { data := #[] }, 0, 0⟩ : yuccaref9_maker).f_g).Nons), oR eProd_0 (((⟨(⟨[(⟨{ data := #[36, 101, 110, 100] }, false, 0, 0, 0, { data := #[] }⟩ : Tok), (⟨{ data := #[101, 114, 114, 111, 114] }, false, (-1), 0, 0, { data := #[] }⟩ : Tok), (⟨{ data := #[36, 117, 110, 107] }, false, (-1), 0, 0, { data := #[] }⟩ : Tok)], [], [], { data := #[] }, { data := #[] }⟩ : Grammar), x3, [], [], 0, 0, { data := #[] }, 0, 0⟩ : yuccaref9_maker).f_g).Prods), SS (((⟨(⟨[(⟨{ data := #[36, 101, 110, 100] }, false, 0, 0, 0, { data := #[] }⟩ : Tok), (⟨{ data := #[101, 114, 114, 111, 114] }, false, (-1), 0, 0, { data := #[] }⟩ : Tok), (⟨{ data := #[36, 117, 110, 107] }, false, (-1), 0, 0, { data := #[] }⟩ : Tok)], [], [], { data := #[] }, { data := #[] }⟩ : Grammar), x3, [], [], 0, 0, { data := #[] }, 0, 0⟩ : yuccaref9_maker).f_g).Pro), SS (((⟨(⟨[(⟨{ data := #[36, 101, 110, 100] }, false, 0, 0, 0, { data := #[] }⟩ : Tok), (⟨{ data := #[101, 114, 114, 111, 114] }, false, (-1), 0, 0, { data := #[] }⟩ : Tok), (⟨{ data := #[36, 117, 110, 107] }, false, (-1), 0, 0, { data := #[] }⟩ : Tok)], [], [], { data := #[] }, { data := #[] }⟩ : Grammar), x3, [], [], 0, 0, { data := #[] }, 0, 0⟩ : yuccaref9_maker).f_g).Tail), oR eB ((⟨(⟨[(⟨{ data := #[36, 101, 110, 100] }, false, 0, 0, 0, { data := #[] }⟩ : Tok), (⟨{ data := #[101, 114, 114, 111, 114] }, false, (-1), 0, 0, { data := #[] }⟩ : Tok), (⟨{ data := #[36, 117, 110, 107] }, false, (-1), 0, 0, { data := #[] }⟩ : Tok)], [], [], { data := #[] }, { data := #[] }⟩ : Grammar), x3, [], [], 0, 0, { data := #[] }, 0, 0⟩ : yuccaref9_maker).f_given), oR eNon ((⟨(⟨[(⟨{ data := #[36, 101, 110, 100] }, false, 0, 0, 0, { data := #[] }⟩ : Tok), (⟨{ data := #[101, 114, 114, 111, 114] }, false, (-1), 0, 0, { data := #[] }⟩ : Tok), (⟨{ data := #[36, 117, 110, 107] }, false, (-1), 0, 0, { data := #[] }⟩ : Tok)], [], [], { data := #[] }, { data := #[] }⟩ : Grammar), x3, [], [], 0, 0, { data := #[] }, 0, 0⟩ : yuccaref9_maker).f_types), oR eS ((⟨(⟨[(⟨{ data := #[36, 101, 110, 100] }, false, 0, 0, 0, { data := #[] }⟩ : Tok), (⟨{ data := #[101, 114, 114, 111, 114] }, false, (-1), 0, 0, { data := #[] }⟩ : Tok), (⟨{ data := #[36, 117, 110, 107] }, false, (-1), 0, 0, { data := #[] }⟩ : Tok)], [], [], { data := #[] }, { data := #[] }⟩ : Grammar), x3, [], [], 0, 0, { data := #[] }, 0, 0⟩ : yuccaref9_maker).f_lefts), I64 ((⟨(⟨[(⟨{ data := #[36, 101, 110, 100] }, false, 0, 0, 0, { data := #[] }⟩ : Tok), (⟨{ data := #[101, 114, 114, 111, 114] }, false, (-1), 0, 0, { data := #[] }⟩ : Tok), (⟨{ data := #[36, 117, 110, 107] }, false, (-1), 0, 0, { data := #[] }⟩ : Tok)], [], [], { data := #[] }, { data := #[] }⟩ : Grammar), x3, [], [], 0, 0, { data := #[] }, 0, 0⟩ : yuccaref9_maker).f_e), I64 ((⟨(⟨[(⟨{ data := #[36, 101, 110, 100] }, false, 0, 0, 0, { data := #[] }⟩ : Tok), (⟨{ data := #[101, 114, 114, 111, 114] }, false, (-1), 0, 0, { data := #[] }⟩ : Tok), (⟨{ data := #[36, 117, 110, 107] }, false, (-1), 0, 0, { data := #[] }⟩ : Tok)], [], [], { data := #[] }, { data := #[] }⟩ : Grammar), x3, [], [], 0, 0, { data := #[] }, 0, 0⟩ : yuccaref9_maker).f_at), SS ((⟨(⟨[(⟨{ data := #[36, 101, 110, 100] }, false, 0, 0, 0, { data := #[] }⟩ : Tok), (⟨{ data := #[101, 114, 114, 111, 114] }, false, (-1), 0, 0, { data := #[] }⟩ : Tok), (⟨{ data := #[36, 117, 110, 107] }, false, (-1), 0, 0, { data := #[] }⟩ : Tok)], [], [], { data := #[] }, { data := #[] }⟩ : Grammar), x3, [], [], 0, 0, { data := #[] }, 0, 0⟩ : yuccaref9_maker).f_name), I64 ((⟨(⟨[(⟨{ data := #[36, 101, 110, 100] }, false, 0, 0, 0, { data := #[] }⟩ : Tok), (⟨{ data := #[101, 114, 114, 111, 114] }, false, (-1), 0, 0, { data := #[] }⟩ : Tok), (⟨{ data := #[36, 117, 110, 107] }, false, (-1), 0, 0, { data := #[] }⟩ : Tok)], [], [], { data := #[] }, { data := #[] }⟩ : Grammar), x3, [], [], 0, 0, { data := #[] }, 0, 0⟩ : yuccaref9_maker).f_level), I64 ((⟨(⟨[(⟨{ data := #[36, 101, 110, 100] }, false, 0, 0, 0, { data := #[] }⟩ : Tok), (⟨{ data := #[101, 114, 114, 111, 114] }, false, (-1), 0, 0, { data := #[] }⟩ : Tok), (⟨{ data := #[36, 117, 110, 107] }, false, (-1), 0, 0, { data := #[] }⟩ : Tok)], [], [], { data := #[] }, { data := #[] }⟩ : Grammar), x3, [], [], 0, 0, { data := #[] }, 0, 0⟩ : yuccaref9_maker).f_inner)]), (7, SS ({ data := #[] })), (8, I64 0)]) (.n rfl (.n rfl (.w rfl rfl (WkL.obj (.f (.o (.o (.f (.f (.f (.o (.o (.f (.f (.f (.f (.f .nil)))))))))))))) (.n rfl (.n rfl .nil))))) ?_
    refine W.lp1 (s := ((⟨(⟨[(⟨{ data := #[36, 101, 110, 100] }, false, 0, 0, 0, { data := #[] }⟩ : Tok), (⟨{ data := #[101, 114, 114, 111, 114] }, false, (-1), 0, 0, { data := #[] }⟩ : Tok), (⟨{ data := #[36, 117, 110, 107] }, false, (-1), 0, 0, { data := #[] }⟩ : Tok)], [], [], { data := #[] }, { data := #[] }⟩ : Grammar), x3, [], [], 0, 0, { data := #[] }, 0, 0⟩ : yuccaref9_maker), { data := #[] }, 0)) (fun (s4 : yuccaref9_maker × ByteArray × Int) => [(1, .obj [SS a0.Pro, iR eDecl_0 a0.Decls, iR eRule_0 a0.Rules, SS a0.Tail]), (2, .obj [.nils, .nils, .nils, SS ({ data := #[] }), SS ({ data := #[] })]), (6, .obj (eyuccaref9_maker_r.cells s4.1)), (7, SS s4.2.1), (8, I64 s4.2.2)]) 0 (fun (x5 : yuccaref9_maker × ByteArray) => [(1, .obj [SS a0.Pro, iR eDecl_0 a0.Decls, iR eRule_0 a0.Rules, SS a0.Tail]), (2, .obj [.nils, .nils, .nils, SS ({ data := #[] }), SS ({ data := #[] })]), (6, .obj (eyuccaref9_maker_r.cells x5.1)), (7, SS x5.2)]) hl (fun s4 o h => ?_) ?_
    · clear hl
      refine W.sq' ?_
      refine W.sq' ?_
      refine W.rx [(1, _), (2, _), (6, _), (7, _), (8, _), (45, _)] (Rv (O.mv (.lit rfl)) <| Rv (O.fO rfl (.obj rfl) fd25_1 rfl) <| Rv (O.ldO (y := iR eDecl_0 a0.Decls) rfl (.ptr rfl) ct22 rfl rfl) <| Rv (O.lenI (.imm rfl) sl22) <| Rv (O.lss (.lit rfl) (.lit rfl)) <| RunL.fin (.n rfl (.n rfl (.n rfl (.n rfl (.n rfl (.n rfl .nil))))))) ?_
      refine Px.sq ?_
      refine W.cnd rfl (fun hb7 => ?_) (fun hb7 => ?_)
      · replace h := cndT hb7 h
        refine W.sk ?_
        refine Px.sq ?_
        refine W.sq' ?_
        refine W.bk ?_
        refine W.sq' ?_
        obtain ⟨x8, hx8, h⟩ := bnd h
        refine W.rx [(1, _), (2, _), (6, _), (7, _), (8, _), (9, _)] (Rv (O.fO rfl (.obj rfl) fd25_1 rfl) <| Rv (O.ldO (y := iR eDecl_0 a0.Decls) rfl (.ptr rfl) ct22 rfl rfl) <| Rv (O.mv (.lit rfl)) <| Rv (O.ixI (.imm rfl) (.lit rfl) sl22 hx8) <| Rv (O.ldIN (cs' := [I64 x8.Kind, SS x8.Tag, iR eSym x8.Syms, I64 x8.At]) (.iptr rfl) at89 rfl rfl) <| Rv (O.al (cs := [I64 0, SS ({ data := #[] }), .nils, I64 0]) ze89 rfl rfl) <| RunL.sO (G2 := [(1, .obj [SS a0.Pro, iR eDecl_0 a0.Decls, iR eRule_0 a0.Rules, SS a0.Tail]), (2, .obj [.nils, .nils, .nils, SS ({ data := #[] }), SS ({ data := #[] })]), (6, .obj (eyuccaref9_maker_r.cells s4.1)), (7, SS s4.2.1), (8, I64 s4.2.2), (9, .obj (eDecl_0.cells x8))]) (cs2 := [I64 x8.Kind, SS x8.Tag, iR eSym x8.Syms, I64 x8.At]) rfl (.obj rfl) (.aggF rfl rfl) rfl sz89 rfl rfl rfl rfl (.n rfl rfl (.n rfl rfl (.n rfl rfl (.n rfl rfl (.n rfl rfl (.b rfl .nil)))))) <| RunL.fin (.n rfl (.n rfl (.n rfl (.n rfl (.n rfl (.n rfl .nil))))))) ?_
        refine Px.sq ?_
        refine W.sq' ?_
        refine W.sq' ?_
        obtain ⟨c10, hj, h⟩ := bnd h
        refine W.rx [(1, .obj [SS a0.Pro, iR eDecl_0 a0.Decls, iR eRule_0 a0.Rules, SS a0.Tail]), (2, .obj [.nils, .nils, .nils, SS ({ data := #[] }), SS ({ data := #[] })]), (6, .obj (eyuccaref9_maker_r.cells s4.1)), (7, SS s4.2.1), (8, I64 s4.2.2), (9, .obj (eDecl_0.cells x8)), (60, BB c10)] ?_ ?_
        · refine Rv (O.fO rfl (.obj rfl) fd89_0 rfl) <| Rv (O.ldO (y := I64 x8.Kind) rfl (.ptr rfl) ct3 rfl rfl) <| Rv (O.geq (.lit rfl) (.k rfl)) <| Rv (O.mv (.lit rfl)) ?_
          rcases cnd hj with ⟨hb9, hj⟩ | ⟨hb9, hj⟩
          · obtain rfl := sm hj
            exact RunL.v (O.fO rfl (.obj rfl) fd89_0 rfl) rfl rfl (.yb rfl rfl hb9) <| RunL.v (O.ldO (y := I64 x8.Kind) rfl (.ptr rfl) ct3 rfl rfl) rfl rfl (.yb rfl rfl hb9) <| RunL.v (O.leq (.lit rfl) (.k rfl)) rfl rfl (.yb rfl rfl hb9) <| Rv (O.pkT (.lit rfl) hb9 (.lit rfl)) <| RunL.fin (.n rfl (.n rfl (.n rfl (.n rfl (.n rfl (.n rfl (.n rfl .nil)))))))
          · obtain rfl := sm hj
            exact RunL.ps rfl rfl hb9 rfl rfl <| RunL.ps rfl rfl hb9 rfl rfl <| RunL.ps rfl rfl hb9 rfl rfl <| Rv (O.pkF (.lit rfl) hb9 (.k rfl)) <| RunL.fin (.n rfl (.n rfl (.n rfl (.n rfl (.n rfl (.n rfl (.n rfl .nil)))))))
        refine Px.sq ?_
        obtain ⟨j11, hj, h⟩ := bnd h
        refine W.jn [(1, .obj [SS a0.Pro, iR eDecl_0 a0.Decls, iR eRule_0 a0.Rules, SS a0.Tail]), (2, .obj [.nils, .nils, .nils, SS ({ data := #[] }), SS ({ data := #[] })]), (6, .obj [oR eTok s4.1.f_g.Toks, oR eNon s4.1.f_g.Nons, oR eProd_0 s4.1.f_g.Prods, SS s4.1.f_g.Pro, SS s4.1.f_g.Tail, oR eB s4.1.f_given, oR eNon s4.1.f_types, oR eS s4.1.f_lefts, I64 s4.1.f_e, I64 s4.1.f_at, SS s4.1.f_name, I64 j11, I64 s4.1.f_inner]), (7, SS s4.2.1), (8, I64 s4.2.2), (9, .obj (eDecl_0.cells x8))] ?_ ?_
        · clear h; have h := hj; clear hj
          refine W.cnd rfl (fun hb12 => ?_) (fun hb12 => ?_)
          · replace h := cndT hb12 h
            refine W.rx [(1, _), (2, _), (6, _), (7, _), (8, _), (9, _)] (Rv (O.mv (.obj rfl)) <| Rv (O.nlP (.ptr rfl)) <| Rv (O.fO rfl (.ptr rfl) fd128_7 rfl) <| Rv (O.ldO (y := I64 s4.1.f_level) rfl (.ptr rfl) ct3 rfl rfl) <| Rv (O.add (.lit rfl) (.k rfl)) <| Rv (O.nlP (.ptr rfl)) <| Rv (O.fO rfl (.ptr rfl) fd128_7 rfl) <| RunL.sO (G2 := [(1, .obj [SS a0.Pro, iR eDecl_0 a0.Decls, iR eRule_0 a0.Rules, SS a0.Tail]), (2, .obj [.nils, .nils, .nils, SS ({ data := #[] }), SS ({ data := #[] })]), (6, .obj [oR eTok s4.1.f_g.Toks, oR eNon s4.1.f_g.Nons, oR eProd_0 s4.1.f_g.Prods, SS s4.1.f_g.Pro, SS s4.1.f_g.Tail, oR eB s4.1.f_given, oR eNon s4.1.f_types, oR eS s4.1.f_lefts, I64 s4.1.f_e, I64 s4.1.f_at, SS s4.1.f_name, I64 (w64 (s4.1.f_level + 1)), I64 s4.1.f_inner]), (7, SS s4.2.1), (8, I64 s4.2.2), (9, .obj (eDecl_0.cells x8))]) (cs2 := [oR eTok s4.1.f_g.Toks, oR eNon s4.1.f_g.Nons, oR eProd_0 s4.1.f_g.Prods, SS s4.1.f_g.Pro, SS s4.1.f_g.Tail, oR eB s4.1.f_given, oR eNon s4.1.f_types, oR eS s4.1.f_lefts, I64 s4.1.f_e, I64 s4.1.f_at, SS s4.1.f_name, I64 (w64 (s4.1.f_level + 1)), I64 s4.1.f_inner]) rfl (.ptr rfl) (.lit rfl) rfl sz3 rfl rfl rfl rfl (.n rfl rfl (.n rfl rfl (.b rfl (.n rfl rfl (.n rfl rfl (.n rfl rfl .nil)))))) <| RunL.fin (.n rfl (.n rfl (.n rfl (.n rfl (.n rfl (.n rfl .nil))))))) ?_
            obtain rfl := sm h
            exact Px.jn (.n rfl (.n rfl (.n rfl (.n rfl (.n rfl (.n rfl .nil))))))
          · replace h := cndF hb12 h
            refine W.sk ?_
            obtain rfl := sm h
            exact Px.jn (.n rfl (.n rfl (.n rfl (.n rfl (.n rfl (.n rfl .nil))))))
        refine Px.sq ?_
        refine W.sq' ?_
        refine W.rx [(1, _), (2, _), (6, _), (7, _), (8, _), (9, _), (10, _)] (Rv (O.as (.k rfl)) <| RunL.fin (.n rfl (.n rfl (.n rfl (.n rfl (.n rfl (.n rfl (.n rfl .nil)))))))) ?_
        refine Px.sq ?_
        refine W.bk ?_
        obtain ⟨x14, hl, h⟩ := bnd h
        refine W.tr (G1 := [(1, .obj [SS a0.Pro, iR eDecl_0 a0.Decls, iR eRule_0 a0.Rules, SS a0.Tail]), (2, .obj [.nils, .nils, .nils, SS ({ data := #[] }), SS ({ data := #[] })]), (6, .obj [oR eTok (((⟨s4.1.f_g, s4.1.f_given, s4.1.f_types, s4.1.f_lefts, s4.1.f_e, s4.1.f_at, s4.1.f_name, j11, s4.1.f_inner⟩ : yuccaref9_maker).f_g).Toks), oR eNon (((⟨s4.1.f_g, s4.1.f_given, s4.1.f_types, s4.1.f_lefts, s4.1.f_e, s4.1.f_at, s4.1.f_name, j11, s4.1.f_inner⟩ : yuccaref9_maker).f_g).Nons), oR eProd_0 (((⟨s4.1.f_g, s4.1.f_given, s4.1.f_types, s4.1.f_lefts, s4.1.f_e, s4.1.f_at, s4.1.f_name, j11, s4.1.f_inner⟩ : yuccaref9_maker).f_g).Prods), SS (((⟨s4.1.f_g, s4.1.f_given, s4.1.f_types, s4.1.f_lefts, s4.1.f_e, s4.1.f_at, s4.1.f_name, j11, s4.1.f_inner⟩ : yuccaref9_maker).f_g).Pro), SS (((⟨s4.1.f_g, s4.1.f_given, s4.1.f_types, s4.1.f_lefts, s4.1.f_e, s4.1.f_at, s4.1.f_name, j11, s4.1.f_inner⟩ : yuccaref9_maker).f_g).Tail), oR eB ((⟨s4.1.f_g, s4.1.f_given, s4.1.f_types, s4.1.f_lefts, s4.1.f_e, s4.1.f_at, s4.1.f_name, j11, s4.1.f_inner⟩ : yuccaref9_maker).f_given), oR eNon ((⟨s4.1.f_g, s4.1.f_given, s4.1.f_types, s4.1.f_lefts, s4.1.f_e, s4.1.f_at, s4.1.f_name, j11, s4.1.f_inner⟩ : yuccaref9_maker).f_types), oR eS ((⟨s4.1.f_g, s4.1.f_given, s4.1.f_types, s4.1.f_lefts, s4.1.f_e, s4.1.f_at, s4.1.f_name, j11, s4.1.f_inner⟩ : yuccaref9_maker).f_lefts), I64 ((⟨s4.1.f_g, s4.1.f_given, s4.1.f_types, s4.1.f_lefts, s4.1.f_e, s4.1.f_at, s4.1.f_name, j11, s4.1.f_inner⟩ : yuccaref9_maker).f_e), I64 ((⟨s4.1.f_g, s4.1.f_given, s4.1.f_types, s4.1.f_lefts, s4.1.f_e, s4.1.f_at, s4.1.f_name, j11, s4.1.f_inner⟩ : yuccaref9_maker).f_at), SS ((⟨s4.1.f_g, s4.1.f_given, s4.1.f_types, s4.1.f_lefts, s4.1.f_e, s4.1.f_at, s4.1.f_name, j11, s4.1.f_inner⟩ : yuccaref9_maker).f_name), I64 ((⟨s4.1.f_g, s4.1.f_given, s4.1.f_types, s4.1.f_lefts, s4.1.f_e, s4.1.f_at, s4.1.f_name, j11, s4.1.f_inner⟩ : yuccaref9_maker).f_level), I64 ((⟨s4.1.f_g, s4.1.f_given, s4.1.f_types, s4.1.f_lefts, s4.1.f_e, s4.1.f_at, s4.1.f_name, j11, s4.1.f_inner⟩ : yuccaref9_maker).f_inner)]), (7, SS s4.2.1), (8, I64 s4.2.2), (9, .obj (eDecl_0.cells x8)), (10, I64 0)]) (.n rfl (.n rfl (.n rfl (.n rfl (.n rfl (.n rfl (.n rfl .nil))))))) ?_
        refine W.lp1 (s := ((⟨s4.1.f_g, s4.1.f_given, s4.1.f_types, s4.1.f_lefts, s4.1.f_e, s4.1.f_at, s4.1.f_name, j11, s4.1.f_inner⟩ : yuccaref9_maker), s4.2.1, 0)) (fun (s13 : yuccaref9_maker × ByteArray × Int) => [(1, .obj [SS a0.Pro, iR eDecl_0 a0.Decls, iR eRule_0 a0.Rules, SS a0.Tail]), (2, .obj [.nils, .nils, .nils, SS ({ data := #[] }), SS ({ data := #[] })]), (6, .obj (eyuccaref9_maker_r.cells s13.1)), (7, SS s13.2.1), (8, I64 s4.2.2), (9, .obj (eDecl_0.cells x8)), (10, I64 s13.2.2)]) 2 (fun (x14 : yuccaref9_maker × ByteArray) => [(1, .obj [SS a0.Pro, iR eDecl_0 a0.Decls, iR eRule_0 a0.Rules, SS a0.Tail]), (2, .obj [.nils, .nils, .nils, SS ({ data := #[] }), SS ({ data := #[] })]), (6, .obj (eyuccaref9_maker_r.cells x14.1)), (7, SS x14.2), (8, I64 s4.2.2)]) hl (fun s13 o h => ?_) ?_
        · clear hl
          refine W.sq' ?_
          refine W.sq' ?_
          refine W.rx [(1, _), (2, _), (6, _), (7, _), (8, _), (9, _), (10, _), (72, _)] (Rv (O.mv (.lit rfl)) <| Rv (O.fO rfl (.obj rfl) fd89_2 rfl) <| Rv (O.ldO (y := iR eSym x8.Syms) rfl (.ptr rfl) ct87 rfl rfl) <| Rv (O.lenI (.imm rfl) sl87) <| Rv (O.lss (.lit rfl) (.lit rfl)) <| RunL.fin (.n rfl (.n rfl (.n rfl (.n rfl (.n rfl (.n rfl (.n rfl (.n rfl .nil))))))))) ?_
          refine Px.sq ?_
          refine W.cnd rfl (fun hb16 => ?_) (fun hb16 => ?_)
          · replace h := cndT hb16 h
            refine W.sk ?_
            refine Px.sq ?_
            refine W.sq' ?_
            obtain ⟨j17, hj, h⟩ := bnd h
            refine W.jn [(1, .obj [SS a0.Pro, iR eDecl_0 a0.Decls, iR eRule_0 a0.Rules, SS a0.Tail]), (2, .obj [.nils, .nils, .nils, SS ({ data := #[] }), SS ({ data := #[] })]), (6, .obj (eyuccaref9_maker_r.cells j17.1)), (7, SS j17.2), (8, I64 s4.2.2), (9, .obj (eDecl_0.cells x8)), (10, I64 s13.2.2)] ?_ ?_
            · clear h; have h := hj; clear hj
              refine W.bk ?_
              refine W.sq' ?_
              refine W.sq' ?_
              refine W.rx [(1, _), (2, _), (6, _), (7, _), (8, _), (9, _), (10, _), (77, _)] (Rv (O.fO rfl (.obj rfl) fd89_0 rfl) <| Rv (O.ldO (y := I64 x8.Kind) rfl (.ptr rfl) ct3 rfl rfl) <| Rv (O.neq (.lit rfl) (.k rfl)) <| RunL.fin (.n rfl (.n rfl (.n rfl (.n rfl (.n rfl (.n rfl (.n rfl (.n rfl .nil))))))))) ?_
              refine Px.sq ?_
              refine W.cnd rfl (fun hb18 => ?_) (fun hb18 => ?_)
              · replace h := cndT hb18 h
                refine W.sq' ?_
                obtain ⟨x19, hx19, h⟩ := bnd h
                obtain ⟨x20, hx20, h⟩ := bnd h
                refine W.rd [[], [], [], [2], [], [2, 3, 4], [2, 3, 4, 5], rn 0 7 []] [(1, _), (2, _), (6, _), (7, _), (8, _), (9, _), (10, _)] mixo (by kernel_rfl) (Dv 0 (O.mv (.obj rfl)) <| Dv 1 (O.ldON (cs' := [I64 x8.Kind, SS x8.Tag, iR eSym x8.Syms, I64 x8.At]) rfl (.obj rfl) at89 rfl rfl) <| Dv 2 (O.fO rfl (.obj rfl) fd89_2 rfl) <| Dv 3 (O.ldO (y := iR eSym x8.Syms) rfl (.ptr rfl) ct87 rfl rfl) <| Dv 4 (O.mv (.lit rfl)) <| Dv 5 (O.ixI (.imm rfl) (.lit rfl) sl87 hx19) <| Dv 6 (O.ldIN (cs' := [SS x19.Name, BB x19.Lit, I64 x19.Num, I64 x19.At]) (.iptr rfl) at91 rfl rfl) <| DL.bp 7 (G2 := [(85, .tup []), (6, .obj [oR eTok x20.f_g.Toks, oR eNon x20.f_g.Nons, oR eProd_0 x20.f_g.Prods, SS x20.f_g.Pro, SS x20.f_g.Tail, oR eB x20.f_given, oR eNon x20.f_types, oR eS x20.f_lefts, I64 x20.f_e, I64 x20.f_at, SS x20.f_name, I64 x20.f_level, I64 x20.f_inner]), (1, .obj [SS a0.Pro, iR eDecl_0 a0.Decls, iR eRule_0 a0.Rules, SS a0.Tail]), (2, .obj [.nils, .nils, .nils, SS ({ data := #[] }), SS ({ data := #[] })]), (7, SS s13.2.1), (8, I64 s4.2.2), (9, .obj (eDecl_0.cells x8)), (10, I64 s13.2.2)]) (EO.call rfl rfl (CallOk.ln (G2 := [(1, .obj [SS a0.Pro, iR eDecl_0 a0.Decls, iR eRule_0 a0.Rules, SS a0.Tail]), (2, .obj [.nils, .nils, .nils, SS ({ data := #[] }), SS ({ data := #[] })]), (7, SS s13.2.1), (8, I64 s4.2.2), (9, .obj (eDecl_0.cells x8)), (10, I64 s13.2.2)]) (A := []) (ys := [.ptr ⟨6, []⟩ 0, .agg (eDecl_0.cells x8), .agg (eSym.cells x19)]) (args := [.obj (eyuccaref9_maker_r.cells s13.1), .agg (eDecl_0.cells x8), .agg (eSym.cells x19)]) (cs' := [oR eTok x20.f_g.Toks, oR eNon x20.f_g.Nons, oR eProd_0 x20.f_g.Prods, SS x20.f_g.Pro, SS x20.f_g.Tail, oR eB x20.f_given, oR eNon x20.f_types, oR eS x20.f_lefts, I64 x20.f_e, I64 x20.f_at, SS x20.f_name, I64 x20.f_level, I64 x20.f_inner]) (k0 := 0) rfl rfl rfl rfl (.b rfl (.n rfl (.n rfl .nil))) rfl (con64 s13.1 x8 x19 _ hx20) call64 (.n rfl (.n rfl (.n rfl (.n rfl (.n rfl (.n rfl .nil)))))) rfl rfl (.n rfl (.n rfl (.n rfl (.n rfl (.n rfl (.n rfl .nil)))))) .nil rfl)) rfl rfl rfl rfl (by kernel_rfl) (by kernel_rfl) <| DL.fin rfl rfl rfl (.n rfl (.n rfl (.n rfl (.n rfl (.n rfl (.n rfl (.n rfl .nil)))))))) ?_
                refine Px.sq ?_
                refine W.xi ?_
                refine Px.sqE ?_
                refine Px.bkH ?_
                obtain rfl := sm h
                exact Px.jn (.n rfl (.n rfl (.n rfl (.n rfl (.n rfl (.n rfl (.n rfl .nil)))))))
              · replace h := cndF hb18 h
                refine W.sk ?_
                refine Px.sq ?_
                refine W.sq' ?_
                refine W.sq' ?_
                refine W.rx [(1, _), (2, _), (6, _), (8, _), (9, _), (10, _), (87, _)] (Rv (O.mv (.lit rfl)) <| Rv (O.neS (.lit rfl) (.k rfl)) <| RunL.fin (.n rfl (.n rfl (.n rfl (.n rfl (.n rfl (.n rfl (.n rfl .nil)))))))) ?_
                refine Px.sq ?_
                obtain ⟨j21, hj, h⟩ := bnd h
                refine W.jn [(1, .obj [SS a0.Pro, iR eDecl_0 a0.Decls, iR eRule_0 a0.Rules, SS a0.Tail]), (2, .obj [.nils, .nils, .nils, SS ({ data := #[] }), SS ({ data := #[] })]), (6, .obj (eyuccaref9_maker_r.cells j21)), (8, I64 s4.2.2), (9, .obj (eDecl_0.cells x8)), (10, I64 s13.2.2)] ?_ ?_
                · clear h; have h := hj; clear hj
                  refine W.cnd rfl (fun hb22 => ?_) (fun hb22 => ?_)
                  · replace h := cndT hb22 h
                    obtain ⟨x23, hx23, h⟩ := bnd h
                    obtain ⟨x24, hx24, h⟩ := bnd h
                    obtain ⟨x25, hx25, h⟩ := bnd h
                    refine W.rd [[], [], [1], [], [1, 2, 3], [1, 2, 3, 4], rn 1 5 [], [], [7], [], [7, 8, 9], [7, 8, 9, 10], rn 7 5 [], rn 0 13 []] [(1, _), (2, _), (6, _), (8, _), (9, _), (10, _)] mixo (by kernel_rfl) (Dv 0 (O.mv (.obj rfl)) <| Dv 1 (O.fO rfl (.obj rfl) fd89_2 rfl) <| Dv 2 (O.ldO (y := iR eSym x8.Syms) rfl (.ptr rfl) ct87 rfl rfl) <| Dv 3 (O.mv (.lit rfl)) <| Dv 4 (O.ixI (.imm rfl) (.lit rfl) sl87 hx23) <| Dv 5 (O.fI (.iptr rfl) fd91_3) <| Dv 6 (O.ldI (x := I64 x23.At) (.iptr rfl) ct3 rfl) <| Dv 7 (O.fO rfl (.obj rfl) fd89_2 rfl) <| Dv 8 (O.ldO (y := iR eSym x8.Syms) rfl (.ptr rfl) ct87 rfl rfl) <| Dv 9 (O.mv (.lit rfl)) <| Dv 10 (O.ixI (.imm rfl) (.lit rfl) sl87 hx24) <| Dv 11 (O.fI (.iptr rfl) fd91_0) <| Dv 12 (O.ldI (x := SS x24.Name) (.iptr rfl) ct9 rfl) <| DL.bp 13 (G2 := [(101, .tup []), (6, .obj [oR eTok x25.f_g.Toks, oR eNon x25.f_g.Nons, oR eProd_0 x25.f_g.Prods, SS x25.f_g.Pro, SS x25.f_g.Tail, oR eB x25.f_given, oR eNon x25.f_types, oR eS x25.f_lefts, I64 x25.f_e, I64 x25.f_at, SS x25.f_name, I64 x25.f_level, I64 x25.f_inner]), (1, .obj [SS a0.Pro, iR eDecl_0 a0.Decls, iR eRule_0 a0.Rules, SS a0.Tail]), (2, .obj [.nils, .nils, .nils, SS ({ data := #[] }), SS ({ data := #[] })]), (8, I64 s4.2.2), (9, .obj (eDecl_0.cells x8)), (10, I64 s13.2.2)]) (EO.call rfl rfl (CallOk.ln (G2 := [(1, .obj [SS a0.Pro, iR eDecl_0 a0.Decls, iR eRule_0 a0.Rules, SS a0.Tail]), (2, .obj [.nils, .nils, .nils, SS ({ data := #[] }), SS ({ data := #[] })]), (8, I64 s4.2.2), (9, .obj (eDecl_0.cells x8)), (10, I64 s13.2.2)]) (A := []) (ys := [.ptr ⟨6, []⟩ 0, I64 x23.At, SS x24.Name]) (args := [.obj (eyuccaref9_maker_r.cells s13.1), I64 x23.At, SS x24.Name]) (cs' := [oR eTok x25.f_g.Toks, oR eNon x25.f_g.Nons, oR eProd_0 x25.f_g.Prods, SS x25.f_g.Pro, SS x25.f_g.Tail, oR eB x25.f_given, oR eNon x25.f_types, oR eS x25.f_lefts, I64 x25.f_e, I64 x25.f_at, SS x25.f_name, I64 x25.f_level, I64 x25.f_inner]) (k0 := 0) rfl rfl rfl rfl (.b rfl (.n rfl (.n rfl .nil))) rfl (con65 s13.1 x23.At x24.Name _ hx25) call65 (.n rfl (.n rfl (.n rfl (.n rfl (.n rfl .nil))))) rfl rfl (.n rfl (.n rfl (.n rfl (.n rfl (.n rfl .nil))))) .nil rfl)) rfl rfl rfl rfl (by kernel_rfl) (by kernel_rfl) <| DL.fin rfl rfl rfl (.n rfl (.n rfl (.n rfl (.n rfl (.n rfl (.n rfl .nil))))))) ?_
                    obtain rfl := sm h
                    exact Px.jn (.n rfl (.n rfl (.n rfl (.n rfl (.n rfl (.n rfl .nil))))))
                  · replace h := cndF hb22 h
                    refine W.sk ?_
                    obtain rfl := sm h
                    exact Px.jn (.n rfl (.n rfl (.n rfl (.n rfl (.n rfl (.n rfl .nil))))))
                refine Px.sq ?_
                obtain ⟨x26, hx26, h⟩ := bnd h
                refine W.rx [(1, _), (2, _), (6, _), (7, _), (8, _), (9, _), (10, _)] (Rv (O.fO rfl (.obj rfl) fd89_2 rfl) <| Rv (O.ldO (y := iR eSym x8.Syms) rfl (.ptr rfl) ct87 rfl rfl) <| Rv (O.mv (.lit rfl)) <| Rv (O.ixI (.imm rfl) (.lit rfl) sl87 hx26) <| Rv (O.fI (.iptr rfl) fd91_0) <| Rv (O.ldI (x := SS x26.Name) (.iptr rfl) ct9 rfl) <| Rv (O.as (.lit rfl)) <| RunL.fin (.n rfl (.n rfl (.n rfl (.n rfl (.n rfl (.n rfl (.n rfl .nil)))))))) ?_
                refine Px.bk ?_
                obtain rfl := sm h
                exact Px.jn (.n rfl (.n rfl (.n rfl (.n rfl (.n rfl (.n rfl (.n rfl .nil)))))))
            refine Px.sq ?_
            refine W.rx [(1, _), (2, _), (6, _), (7, _), (8, _), (9, _), (10, _)] (Rv (O.mv (.lit rfl)) <| Rv (O.add (.lit rfl) (.k rfl)) <| RunL.re (G1 := [(1, .obj [SS a0.Pro, iR eDecl_0 a0.Decls, iR eRule_0 a0.Rules, SS a0.Tail]), (2, .obj [.nils, .nils, .nils, SS ({ data := #[] }), SS ({ data := #[] })]), (6, .obj (eyuccaref9_maker_r.cells j17.1)), (7, SS j17.2), (8, I64 s4.2.2), (9, .obj (eDecl_0.cells x8)), (74, I64 (w64 (s13.2.2 + 1)))]) (.n rfl (.n rfl (.n rfl (.n rfl (.n rfl (.n rfl (.n rfl .nil))))))) <| Rv (O.as (.lit rfl)) <| RunL.fin (.n rfl (.n rfl (.n rfl (.n rfl (.n rfl (.n rfl (.n rfl .nil)))))))) ?_
            obtain rfl := sm h
            exact Px.go (.n rfl (.n rfl (.n rfl (.n rfl (.n rfl (.n rfl (.n rfl .nil)))))))
          · replace h := cndF hb16 h
            refine W.xi ?_
            refine Px.sqE ?_
            obtain rfl := sm h
            exact Px.x1 (.n rfl (.n rfl (.n rfl (.n rfl (.n rfl .nil)))))
        refine Px.bkH ?_
        refine Px.bk ?_
        refine Px.sq ?_
        refine W.rx [(1, _), (2, _), (6, _), (7, _), (8, _)] (Rv (O.mv (.lit rfl)) <| Rv (O.add (.lit rfl) (.k rfl)) <| RunL.re (G1 := [(1, .obj [SS a0.Pro, iR eDecl_0 a0.Decls, iR eRule_0 a0.Rules, SS a0.Tail]), (2, .obj [.nils, .nils, .nils, SS ({ data := #[] }), SS ({ data := #[] })]), (6, .obj (eyuccaref9_maker_r.cells x14.1)), (7, SS x14.2), (47, I64 (w64 (s4.2.2 + 1)))]) (.n rfl (.n rfl (.n rfl (.n rfl (.n rfl .nil))))) <| Rv (O.as (.lit rfl)) <| RunL.fin (.n rfl (.n rfl (.n rfl (.n rfl (.n rfl .nil)))))) ?_
        obtain rfl := sm h
        exact Px.go (.n rfl (.n rfl (.n rfl (.n rfl (.n rfl .nil)))))
      · replace h := cndF hb7 h
        refine W.xi ?_
        refine Px.sqE ?_
        obtain rfl := sm h
        exact Px.x1 (.n rfl (.n rfl (.n rfl (.n rfl .nil))))
    refine Px.bkH ?_
    refine Px.sq ?_
    refine W.sq' ?_
    refine W.sq' ?_
    refine W.rx [(1, _), (2, _), (6, _), (7, _), (11, _)] (Rv (O.as (.k rfl)) <| RunL.fin (.n rfl (.n rfl (.n rfl (.n rfl (.n rfl .nil)))))) ?_
    refine Px.sq ?_
    refine W.bk ?_
    obtain ⟨x28, hl, h⟩ := bnd h
    refine W.tr (G1 := [(1, .obj [SS a0.Pro, iR eDecl_0 a0.Decls, iR eRule_0 a0.Rules, SS a0.Tail]), (2, .obj [.nils, .nils, .nils, SS ({ data := #[] }), SS ({ data := #[] })]), (6, .obj (eyuccaref9_maker_r.cells x5.1)), (7, SS x5.2), (11, I64 0)]) (.n rfl (.n rfl (.n rfl (.n rfl (.n rfl .nil))))) ?_
    refine W.lp1 (s := (x5.1, 0)) (fun (s27 : yuccaref9_maker × Int) => [(1, .obj [SS a0.Pro, iR eDecl_0 a0.Decls, iR eRule_0 a0.Rules, SS a0.Tail]), (2, .obj [.nils, .nils, .nils, SS ({ data := #[] }), SS ({ data := #[] })]), (6, .obj (eyuccaref9_maker_r.cells s27.1)), (7, SS x5.2), (11, I64 s27.2)]) 4 (fun (x28 : yuccaref9_maker) => [(1, .obj [SS a0.Pro, iR eDecl_0 a0.Decls, iR eRule_0 a0.Rules, SS a0.Tail]), (2, .obj [.nils, .nils, .nils, SS ({ data := #[] }), SS ({ data := #[] })]), (6, .obj (eyuccaref9_maker_r.cells x28)), (7, SS x5.2)]) hl (fun s27 o h => ?_) ?_
    · clear hl
      refine W.sq' ?_
      refine W.sq' ?_
      refine W.rx [(1, _), (2, _), (6, _), (7, _), (11, _), (112, _)] (Rv (O.mv (.lit rfl)) <| Rv (O.fO rfl (.obj rfl) fd25_2 rfl) <| Rv (O.ldO (y := iR eRule_0 a0.Rules) rfl (.ptr rfl) ct23 rfl rfl) <| Rv (O.lenI (.imm rfl) sl23) <| Rv (O.lss (.lit rfl) (.lit rfl)) <| RunL.fin (.n rfl (.n rfl (.n rfl (.n rfl (.n rfl (.n rfl .nil))))))) ?_
      refine Px.sq ?_
      refine W.cnd rfl (fun hb30 => ?_) (fun hb30 => ?_)
      · replace h := cndT hb30 h
        refine W.sk ?_
        refine Px.sq ?_
        refine W.sq' ?_
        obtain ⟨j31, hj, h⟩ := bnd h
        refine W.jn [(1, .obj [SS a0.Pro, iR eDecl_0 a0.Decls, iR eRule_0 a0.Rules, SS a0.Tail]), (2, .obj [.nils, .nils, .nils, SS ({ data := #[] }), SS ({ data := #[] })]), (6, .obj (eyuccaref9_maker_r.cells j31)), (7, SS x5.2), (11, I64 s27.2)] ?_ ?_
        · clear h; have h := hj; clear hj
          refine W.bk ?_
          refine W.sq' ?_
          obtain ⟨x32, hx32, h⟩ := bnd h
          refine W.rx [(1, _), (2, _), (6, _), (7, _), (11, _), (12, _)] (Rv (O.fO rfl (.obj rfl) fd25_2 rfl) <| Rv (O.ldO (y := iR eRule_0 a0.Rules) rfl (.ptr rfl) ct23 rfl rfl) <| Rv (O.mv (.lit rfl)) <| Rv (O.ixI (.imm rfl) (.lit rfl) sl23 hx32) <| Rv (O.ldIN (cs' := [SS x32.Left, iR eAlt_0 x32.Alts, I64 x32.At]) (.iptr rfl) at95 rfl rfl) <| Rv (O.al (cs := [SS ({ data := #[] }), .nils, I64 0]) ze95 rfl rfl) <| RunL.sO (G2 := [(1, .obj [SS a0.Pro, iR eDecl_0 a0.Decls, iR eRule_0 a0.Rules, SS a0.Tail]), (2, .obj [.nils, .nils, .nils, SS ({ data := #[] }), SS ({ data := #[] })]), (6, .obj (eyuccaref9_maker_r.cells s27.1)), (7, SS x5.2), (11, I64 s27.2), (12, .obj (eRule_0.cells x32))]) (cs2 := [SS x32.Left, iR eAlt_0 x32.Alts, I64 x32.At]) rfl (.obj rfl) (.aggF rfl rfl) rfl sz95 rfl rfl rfl rfl (.n rfl rfl (.n rfl rfl (.n rfl rfl (.n rfl rfl (.n rfl rfl (.b rfl .nil)))))) <| RunL.fin (.n rfl (.n rfl (.n rfl (.n rfl (.n rfl (.n rfl .nil))))))) ?_
          refine Px.sq ?_
          refine W.sq' ?_
          refine W.sq' ?_
          obtain ⟨x33, hx33, h⟩ := bnd h
          refine W.rx [(1, _), (2, _), (6, _), (7, _), (11, _), (12, _), (125, _)] (Rv (O.mv (.obj rfl)) <| Rv (O.fO rfl (.obj rfl) fd95_0 rfl) <| Rv (O.ldO (y := SS x32.Left) rfl (.ptr rfl) ct9 rfl rfl) <| Rv (O.bu (cs := [SS x32.Left, BB false, I64 0, I64 0]) sc91 ze91 rfl rfl rfl) <| Rc (PC.vw (ys := [.ptr ⟨6, []⟩ 0, .agg [SS x32.Left, BB false, I64 0, I64 0]]) rfl (.c (View.p0 rfl rfl) (.c (.ag (.s (.s (.s (.s .nil))))) .nil)) (con66 s27.1 (⟨x32.Left, false, 0, 0⟩ : Sym) _ hx33) call66 rfl) <| Rv (O.geq (.lit rfl) (.k rfl)) <| RunL.fin (.n rfl (.n rfl (.n rfl (.n rfl (.n rfl (.n rfl (.n rfl .nil)))))))) ?_
          refine Px.sq ?_
          obtain ⟨j34, hj, h⟩ := bnd h
          refine W.jn [(1, .obj [SS a0.Pro, iR eDecl_0 a0.Decls, iR eRule_0 a0.Rules, SS a0.Tail]), (2, .obj [.nils, .nils, .nils, SS ({ data := #[] }), SS ({ data := #[] })]), (6, .obj (eyuccaref9_maker_r.cells j34)), (7, SS x5.2), (11, I64 s27.2), (12, .obj (eRule_0.cells x32))] ?_ ?_
          · clear h; have h := hj; clear hj
            refine W.cnd rfl (fun hb35 => ?_) (fun hb35 => ?_)
            · replace h := cndT hb35 h
              obtain ⟨x36, hx36, h⟩ := bnd h
              refine W.rx [(1, _), (2, _), (6, _), (7, _), (11, _), (12, _)] (Rv (O.mv (.obj rfl)) <| Rv (O.fO rfl (.obj rfl) fd95_2 rfl) <| Rv (O.ldO (y := I64 x32.At) rfl (.ptr rfl) ct3 rfl rfl) <| Rv (O.fO rfl (.obj rfl) fd95_0 rfl) <| Rv (O.ldO (y := SS x32.Left) rfl (.ptr rfl) ct9 rfl rfl) <| RunL.ef (G2 := [(131, .tup []), (6, .obj [oR eTok x36.f_g.Toks, oR eNon x36.f_g.Nons, oR eProd_0 x36.f_g.Prods, SS x36.f_g.Pro, SS x36.f_g.Tail, oR eB x36.f_given, oR eNon x36.f_types, oR eS x36.f_lefts, I64 x36.f_e, I64 x36.f_at, SS x36.f_name, I64 x36.f_level, I64 x36.f_inner]), (1, .obj [SS a0.Pro, iR eDecl_0 a0.Decls, iR eRule_0 a0.Rules, SS a0.Tail]), (2, .obj [.nils, .nils, .nils, SS ({ data := #[] }), SS ({ data := #[] })]), (7, SS x5.2), (11, I64 s27.2), (12, .obj (eRule_0.cells x32))]) rfl (EO.call rfl rfl (CallOk.ln (G2 := [(1, .obj [SS a0.Pro, iR eDecl_0 a0.Decls, iR eRule_0 a0.Rules, SS a0.Tail]), (2, .obj [.nils, .nils, .nils, SS ({ data := #[] }), SS ({ data := #[] })]), (7, SS x5.2), (11, I64 s27.2), (12, .obj (eRule_0.cells x32))]) (A := []) (ys := [.ptr ⟨6, []⟩ 0, I64 x32.At, SS x32.Left]) (args := [.obj (eyuccaref9_maker_r.cells s27.1), I64 x32.At, SS x32.Left]) (cs' := [oR eTok x36.f_g.Toks, oR eNon x36.f_g.Nons, oR eProd_0 x36.f_g.Prods, SS x36.f_g.Pro, SS x36.f_g.Tail, oR eB x36.f_given, oR eNon x36.f_types, oR eS x36.f_lefts, I64 x36.f_e, I64 x36.f_at, SS x36.f_name, I64 x36.f_level, I64 x36.f_inner]) (k0 := 0) rfl rfl rfl rfl (.b rfl (.n rfl (.n rfl .nil))) rfl (con65 s27.1 x32.At x32.Left _ hx36) call65 (.n rfl (.n rfl (.n rfl (.n rfl (.n rfl .nil))))) rfl rfl (.n rfl (.n rfl (.n rfl (.n rfl (.n rfl .nil))))) .nil rfl)) <| RunL.fin (.n rfl (.n rfl (.n rfl (.n rfl (.n rfl (.n rfl .nil))))))) ?_
              obtain rfl := sm h
              exact Px.jn (.n rfl (.n rfl (.n rfl (.n rfl (.n rfl (.n rfl .nil))))))
            · replace h := cndF hb35 h
              refine W.sk ?_
              obtain rfl := sm h
              exact Px.jn (.n rfl (.n rfl (.n rfl (.n rfl (.n rfl (.n rfl .nil))))))
          refine Px.sq ?_
          refine W.sq' ?_
          obtain ⟨x37, hx37, h⟩ := bnd h
          refine W.rx [(1, _), (2, _), (6, _), (7, _), (11, _), (12, _), (136, _)] (Rv (O.mv (.obj rfl)) <| Rv (O.fO rfl (.obj rfl) fd95_0 rfl) <| Rv (O.ldO (y := SS x32.Left) rfl (.ptr rfl) ct9 rfl rfl) <| Rc (PC.vw (ys := [.ptr ⟨6, []⟩ 0, SS x32.Left]) rfl (.c (View.p0 rfl rfl) (.s .nil)) (con67 j34 x32.Left _ hx37) call67 rfl) <| Rv (O.lss (.lit rfl) (.k rfl)) <| RunL.fin (.n rfl (.n rfl (.n rfl (.n rfl (.n rfl (.n rfl (.n rfl .nil)))))))) ?_
          refine Px.sq ?_
          obtain ⟨j38, hj, h⟩ := bnd h
          refine W.jn [(1, .obj [SS a0.Pro, iR eDecl_0 a0.Decls, iR eRule_0 a0.Rules, SS a0.Tail]), (2, .obj [.nils, .nils, .nils, SS ({ data := #[] }), SS ({ data := #[] })]), (6, .obj [oR eTok j34.f_g.Toks, oR eNon j34.f_g.Nons, oR eProd_0 j34.f_g.Prods, SS j34.f_g.Pro, SS j34.f_g.Tail, oR eB j34.f_given, oR eNon j34.f_types, oR eS j38, I64 j34.f_e, I64 j34.f_at, SS j34.f_name, I64 j34.f_level, I64 j34.f_inner]), (7, SS x5.2), (11, I64 s27.2)] ?_ ?_
          · clear h; have h := hj; clear hj
            refine W.cnd rfl (fun hb39 => ?_) (fun hb39 => ?_)
            · replace h := cndT hb39 h
              obtain ⟨x40, hx40, h⟩ := bnd h
              refine W.rd [[], [], [1], [1, 2], [1, 2, 3], [], [5], [5, 6], rn 1 7 [], rn 0 9 [], rn 0 10 [], rn 0 11 []] [(1, _), (2, _), (6, _), (7, _), (11, _)] mixo (by kernel_rfl) (Dv 0 (O.mv (.obj rfl)) <| Dv 1 (O.mv (.obj rfl)) <| Dv 2 (O.nlP (.ptr rfl)) <| Dv 3 (O.fO rfl (.ptr rfl) fd128_3 rfl) <| Dv 4 (O.ldO (y := .brw eS.z ⟨6, [7]⟩ j34.f_lefts.length) rfl (.ptr rfl) ct61 rfl rfl) <| Dv 5 (O.fO rfl (.obj rfl) fd95_0 rfl) <| Dv 6 (O.ldO (y := SS x32.Left) rfl (.ptr rfl) ct9 rfl rfl) <| DL.vi 7 (x := iR eS [x32.Left]) (O.bs (ys := [SS x32.Left]) eS [x32.Left] sl61 rfl rfl rfl rfl rfl rfl zt9 rfl rfl) rfl rfl rfl rfl .none <| Dv 8 (O.ap (en := eS) (r := x40) (.brw rfl) rfl (.imm rfl) .i ap61 rfl hx40) <| Dv 9 (O.nlP (.ptr rfl)) <| Dv 10 (O.fO rfl (.ptr rfl) fd128_3 rfl) <| DL.bp 11 (G2 := [(1, .obj [SS a0.Pro, iR eDecl_0 a0.Decls, iR eRule_0 a0.Rules, SS a0.Tail]), (2, .obj [.nils, .nils, .nils, SS ({ data := #[] }), SS ({ data := #[] })]), (6, .obj [oR eTok j34.f_g.Toks, oR eNon j34.f_g.Nons, oR eProd_0 j34.f_g.Prods, SS j34.f_g.Pro, SS j34.f_g.Tail, oR eB j34.f_given, oR eNon j34.f_types, oR eS (j34.f_lefts ++ [x32.Left]), I64 j34.f_e, I64 j34.f_at, SS j34.f_name, I64 j34.f_level, I64 j34.f_inner]), (7, SS x5.2), (11, I64 s27.2)]) (EO.stP (g1 := _) (en := eS) (M := [x32.Left]) (cs2 := [oR eTok j34.f_g.Toks, oR eNon j34.f_g.Nons, oR eProd_0 j34.f_g.Prods, SS j34.f_g.Pro, SS j34.f_g.Tail, oR eB j34.f_given, oR eNon j34.f_types, oR eS (j34.f_lefts ++ [x32.Left]), I64 j34.f_e, I64 j34.f_at, SS j34.f_name, I64 j34.f_level, I64 j34.f_inner]) rfl rfl (.ptr rfl) (.pend rfl) rfl rfl rfl .ns .rf rfl rfl sz61 rfl rfl rfl rfl (.n rfl rfl (.n rfl rfl (.b rfl (.n rfl rfl (.n rfl rfl .nil)))))) rfl rfl rfl rfl (by kernel_rfl) (by kernel_rfl) <| DL.fin rfl rfl rfl (.n rfl (.n rfl (.n rfl (.n rfl (.n rfl .nil)))))) ?_
              obtain rfl := sm h
              exact Px.jn (.n rfl (.n rfl (.n rfl (.n rfl (.n rfl .nil)))))
            · replace h := cndF hb39 h
              refine W.sk ?_
              obtain rfl := sm h
              exact Px.jn (.n rfl (.n rfl (.n rfl (.n rfl (.n rfl .nil)))))
          refine Px.bk ?_
          obtain rfl := sm h
          exact Px.jn (.n rfl (.n rfl (.n rfl (.n rfl (.n rfl .nil)))))
        refine Px.sq ?_
        refine W.rx [(1, _), (2, _), (6, _), (7, _), (11, _)] (Rv (O.mv (.lit rfl)) <| Rv (O.add (.lit rfl) (.k rfl)) <| RunL.re (G1 := [(1, .obj [SS a0.Pro, iR eDecl_0 a0.Decls, iR eRule_0 a0.Rules, SS a0.Tail]), (2, .obj [.nils, .nils, .nils, SS ({ data := #[] }), SS ({ data := #[] })]), (6, .obj (eyuccaref9_maker_r.cells j31)), (7, SS x5.2), (114, I64 (w64 (s27.2 + 1)))]) (.n rfl (.n rfl (.n rfl (.n rfl (.n rfl .nil))))) <| Rv (O.as (.lit rfl)) <| RunL.fin (.n rfl (.n rfl (.n rfl (.n rfl (.n rfl .nil)))))) ?_
        obtain rfl := sm h
        exact Px.go (.n rfl (.n rfl (.n rfl (.n rfl (.n rfl .nil)))))
      · replace h := cndF hb30 h
        refine W.xi ?_
        refine Px.sqE ?_
        obtain rfl := sm h
        exact Px.x1 (.n rfl (.n rfl (.n rfl (.n rfl .nil))))
    refine Px.bkH ?_
    refine Px.sq ?_
    refine W.sq' ?_
    refine W.sq' ?_
    refine W.rx [(1, _), (2, _), (6, _), (7, _), (13, _)] (Rv (O.as (.k rfl)) <| RunL.fin (.n rfl (.n rfl (.n rfl (.n rfl (.n rfl .nil)))))) ?_
    refine Px.sq ?_
    refine W.bk ?_
    obtain ⟨x42, hl, h⟩ := bnd h
    refine W.tr (G1 := [(1, .obj [SS a0.Pro, iR eDecl_0 a0.Decls, iR eRule_0 a0.Rules, SS a0.Tail]), (2, .obj [.nils, .nils, .nils, SS ({ data := #[] }), SS ({ data := #[] })]), (6, .obj (eyuccaref9_maker_r.cells x28)), (7, SS x5.2), (13, I64 0)]) (.n rfl (.n rfl (.n rfl (.n rfl (.n rfl .nil))))) ?_
    refine W.lp1 (s := (x28, 0)) (fun (s41 : yuccaref9_maker × Int) => [(1, .obj [SS a0.Pro, iR eDecl_0 a0.Decls, iR eRule_0 a0.Rules, SS a0.Tail]), (2, .obj [.nils, .nils, .nils, SS ({ data := #[] }), SS ({ data := #[] })]), (6, .obj (eyuccaref9_maker_r.cells s41.1)), (7, SS x5.2), (13, I64 s41.2)]) 6 (fun (x42 : yuccaref9_maker) => [(1, .obj [SS a0.Pro, iR eDecl_0 a0.Decls, iR eRule_0 a0.Rules, SS a0.Tail]), (2, .obj [.nils, .nils, .nils, SS ({ data := #[] }), SS ({ data := #[] })]), (6, .obj (eyuccaref9_maker_r.cells x42)), (7, SS x5.2)]) hl (fun s41 o h => ?_) ?_
    · clear hl
      refine W.sq' ?_
      refine W.sq' ?_
      refine W.rx [(1, _), (2, _), (6, _), (7, _), (13, _), (152, _)] (Rv (O.mv (.lit rfl)) <| Rv (O.fO rfl (.obj rfl) fd25_1 rfl) <| Rv (O.ldO (y := iR eDecl_0 a0.Decls) rfl (.ptr rfl) ct22 rfl rfl) <| Rv (O.lenI (.imm rfl) sl22) <| Rv (O.lss (.lit rfl) (.lit rfl)) <| RunL.fin (.n rfl (.n rfl (.n rfl (.n rfl (.n rfl (.n rfl .nil))))))) ?_
      refine Px.sq ?_
      refine W.cnd rfl (fun hb44 => ?_) (fun hb44 => ?_)
      · replace h := cndT hb44 h
        refine W.sk ?_
        refine Px.sq ?_
        refine W.sq' ?_
        refine W.bk ?_
        refine W.sq' ?_
        refine W.rx [(1, _), (2, _), (6, _), (7, _), (13, _), (14, _)] (Rv (O.as (.k rfl)) <| RunL.fin (.n rfl (.n rfl (.n rfl (.n rfl (.n rfl (.n rfl .nil))))))) ?_
        refine Px.sq ?_
        refine W.bk ?_
        obtain ⟨x46, hl, h⟩ := bnd h
        refine W.tr (G1 := [(1, .obj [SS a0.Pro, iR eDecl_0 a0.Decls, iR eRule_0 a0.Rules, SS a0.Tail]), (2, .obj [.nils, .nils, .nils, SS ({ data := #[] }), SS ({ data := #[] })]), (6, .obj (eyuccaref9_maker_r.cells s41.1)), (7, SS x5.2), (13, I64 s41.2), (14, I64 0)]) (.n rfl (.n rfl (.n rfl (.n rfl (.n rfl (.n rfl .nil)))))) ?_
        refine W.lp1 (s := (s41.1, 0)) (fun (s45 : yuccaref9_maker × Int) => [(1, .obj [SS a0.Pro, iR eDecl_0 a0.Decls, iR eRule_0 a0.Rules, SS a0.Tail]), (2, .obj [.nils, .nils, .nils, SS ({ data := #[] }), SS ({ data := #[] })]), (6, .obj (eyuccaref9_maker_r.cells s45.1)), (7, SS x5.2), (13, I64 s41.2), (14, I64 s45.2)]) 8 (fun (x46 : yuccaref9_maker) => [(1, .obj [SS a0.Pro, iR eDecl_0 a0.Decls, iR eRule_0 a0.Rules, SS a0.Tail]), (2, .obj [.nils, .nils, .nils, SS ({ data := #[] }), SS ({ data := #[] })]), (6, .obj (eyuccaref9_maker_r.cells x46)), (7, SS x5.2), (13, I64 s41.2)]) hl (fun s45 o h => ?_) ?_
        · clear hl
          refine W.sq' ?_
          refine W.sq' ?_
          obtain ⟨x48, hx48, h⟩ := bnd h
          refine W.rx [(1, _), (2, _), (6, _), (7, _), (13, _), (14, _), (163, _)] (Rv (O.mv (.lit rfl)) <| Rv (O.fO rfl (.obj rfl) fd25_1 rfl) <| Rv (O.ldO (y := iR eDecl_0 a0.Decls) rfl (.ptr rfl) ct22 rfl rfl) <| Rv (O.mv (.lit rfl)) <| Rv (O.ixI (.imm rfl) (.lit rfl) sl22 hx48) <| Rv (O.fI (.iptr rfl) fd89_2) <| Rv (O.ldI (x := iR eSym x48.Syms) (.iptr rfl) ct87 rfl) <| Rv (O.lenI (.imm rfl) sl87) <| Rv (O.lss (.lit rfl) (.lit rfl)) <| RunL.fin (.n rfl (.n rfl (.n rfl (.n rfl (.n rfl (.n rfl (.n rfl .nil)))))))) ?_
          refine Px.sq ?_
          refine W.cnd rfl (fun hb49 => ?_) (fun hb49 => ?_)
          · replace h := cndT hb49 h
            refine W.sk ?_
            refine Px.sq ?_
            refine W.sq' ?_
            obtain ⟨j50, hj, h⟩ := bnd h
            refine W.jn [(1, .obj [SS a0.Pro, iR eDecl_0 a0.Decls, iR eRule_0 a0.Rules, SS a0.Tail]), (2, .obj [.nils, .nils, .nils, SS ({ data := #[] }), SS ({ data := #[] })]), (6, .obj (eyuccaref9_maker_r.cells j50)), (7, SS x5.2), (13, I64 s41.2), (14, I64 s45.2)] ?_ ?_
            · clear h; have h := hj; clear hj
              refine W.bk ?_
              refine W.sq' ?_
              obtain ⟨x51, hx51, h⟩ := bnd h
              obtain ⟨x52, hx52, h⟩ := bnd h
              refine W.rx [(1, _), (2, _), (6, _), (7, _), (13, _), (14, _), (15, _)] (Rv (O.fO rfl (.obj rfl) fd25_1 rfl) <| Rv (O.ldO (y := iR eDecl_0 a0.Decls) rfl (.ptr rfl) ct22 rfl rfl) <| Rv (O.mv (.lit rfl)) <| Rv (O.ixI (.imm rfl) (.lit rfl) sl22 hx51) <| Rv (O.fI (.iptr rfl) fd89_2) <| Rv (O.ldI (x := iR eSym x51.Syms) (.iptr rfl) ct87 rfl) <| Rv (O.mv (.lit rfl)) <| Rv (O.ixI (.imm rfl) (.lit rfl) sl87 hx52) <| Rv (O.ldIN (cs' := [SS x52.Name, BB x52.Lit, I64 x52.Num, I64 x52.At]) (.iptr rfl) at91 rfl rfl) <| Rv (O.al (cs := [SS ({ data := #[] }), BB false, I64 0, I64 0]) ze91 rfl rfl) <| RunL.sO (G2 := [(1, .obj [SS a0.Pro, iR eDecl_0 a0.Decls, iR eRule_0 a0.Rules, SS a0.Tail]), (2, .obj [.nils, .nils, .nils, SS ({ data := #[] }), SS ({ data := #[] })]), (6, .obj (eyuccaref9_maker_r.cells s45.1)), (7, SS x5.2), (13, I64 s41.2), (14, I64 s45.2), (15, .obj (eSym.cells x52))]) (cs2 := [SS x52.Name, BB x52.Lit, I64 x52.Num, I64 x52.At]) rfl (.obj rfl) (.aggF rfl rfl) rfl sz91 rfl rfl rfl rfl (.n rfl rfl (.n rfl rfl (.n rfl rfl (.n rfl rfl (.n rfl rfl (.n rfl rfl (.b rfl .nil))))))) <| RunL.fin (.n rfl (.n rfl (.n rfl (.n rfl (.n rfl (.n rfl (.n rfl .nil)))))))) ?_
              refine Px.sq ?_
              refine W.sq' ?_
              obtain ⟨c56, hj, h⟩ := bnd h
              refine W.rx [(1, .obj [SS a0.Pro, iR eDecl_0 a0.Decls, iR eRule_0 a0.Rules, SS a0.Tail]), (2, .obj [.nils, .nils, .nils, SS ({ data := #[] }), SS ({ data := #[] })]), (6, .obj (eyuccaref9_maker_r.cells s45.1)), (7, SS x5.2), (13, I64 s41.2), (14, I64 s45.2), (15, .obj (eSym.cells x52)), (188, BB c56)] ?_ ?_
              · refine Rv (O.fO rfl (.obj rfl) fd25_1 rfl) <| Rv (O.ldO (y := iR eDecl_0 a0.Decls) rfl (.ptr rfl) ct22 rfl rfl) <| Rv (O.mv (.lit rfl)) ?_
                obtain ⟨x53, hx53, hj⟩ := bnd hj
                refine Rv (O.ixI (.imm rfl) (.lit rfl) sl22 hx53) <| Rv (O.fI (.iptr rfl) fd89_0) <| Rv (O.ldI (x := I64 x53.Kind) (.iptr rfl) ct3 rfl) <| Rv (O.geq (.lit rfl) (.k rfl)) <| Rv (O.mv (.lit rfl)) ?_
                rcases cnd hj with ⟨hb54, hj⟩ | ⟨hb54, hj⟩
                · refine RunL.v (O.mv (.obj rfl)) rfl rfl (.yb rfl rfl hb54) <| RunL.v (O.fO rfl (.obj rfl) fd91_0 rfl) rfl rfl (.yb rfl rfl hb54) <| RunL.v (O.ldO (y := SS x52.Name) rfl (.ptr rfl) ct9 rfl rfl) rfl rfl (.yb rfl rfl hb54) ?_
                  obtain ⟨x55, hx55, hj⟩ := bnd hj
                  obtain rfl := sm hj
                  exact RunL.c (PC.vw (ys := [.ptr ⟨6, []⟩ 0, SS x52.Name]) rfl (.c (View.p0 rfl rfl) (.s .nil)) (con67 s45.1 x52.Name _ hx55) call67 rfl) rfl rfl (.yb rfl rfl hb54) <| RunL.v (O.lss (.lit rfl) (.k rfl)) rfl rfl (.yb rfl rfl hb54) <| Rv (O.pkT (.lit rfl) hb54 (.lit rfl)) <| RunL.fin (.n rfl (.n rfl (.n rfl (.n rfl (.n rfl (.n rfl (.n rfl (.n rfl .nil))))))))
                · obtain rfl := sm hj
                  exact RunL.ps rfl rfl hb54 rfl rfl <| RunL.ps rfl rfl hb54 rfl rfl <| RunL.ps rfl rfl hb54 rfl rfl <| RunL.ps rfl rfl hb54 rfl rfl <| RunL.ps rfl rfl hb54 rfl rfl <| Rv (O.pkF (.lit rfl) hb54 (.k rfl)) <| RunL.fin (.n rfl (.n rfl (.n rfl (.n rfl (.n rfl (.n rfl (.n rfl (.n rfl .nil))))))))
              refine Px.sq ?_
              obtain ⟨j57, hj, h⟩ := bnd h
              refine W.jn [(1, .obj [SS a0.Pro, iR eDecl_0 a0.Decls, iR eRule_0 a0.Rules, SS a0.Tail]), (2, .obj [.nils, .nils, .nils, SS ({ data := #[] }), SS ({ data := #[] })]), (6, .obj (eyuccaref9_maker_r.cells j57)), (7, SS x5.2), (13, I64 s41.2), (14, I64 s45.2)] ?_ ?_
              · clear h; have h := hj; clear hj
                refine W.cnd rfl (fun hb58 => ?_) (fun hb58 => ?_)
                · replace h := cndT hb58 h
                  obtain ⟨x59, hx59, h⟩ := bnd h
                  refine W.rx [(1, _), (2, _), (6, _), (7, _), (13, _), (14, _)] (Rv (O.mv (.obj rfl)) <| Rv (O.fO rfl (.obj rfl) fd91_3 rfl) <| Rv (O.ldO (y := I64 x52.At) rfl (.ptr rfl) ct3 rfl rfl) <| Rv (O.fO rfl (.obj rfl) fd91_0 rfl) <| Rv (O.ldO (y := SS x52.Name) rfl (.ptr rfl) ct9 rfl rfl) <| RunL.ef (G2 := [(194, .tup []), (6, .obj [oR eTok x59.f_g.Toks, oR eNon x59.f_g.Nons, oR eProd_0 x59.f_g.Prods, SS x59.f_g.Pro, SS x59.f_g.Tail, oR eB x59.f_given, oR eNon x59.f_types, oR eS x59.f_lefts, I64 x59.f_e, I64 x59.f_at, SS x59.f_name, I64 x59.f_level, I64 x59.f_inner]), (1, .obj [SS a0.Pro, iR eDecl_0 a0.Decls, iR eRule_0 a0.Rules, SS a0.Tail]), (2, .obj [.nils, .nils, .nils, SS ({ data := #[] }), SS ({ data := #[] })]), (7, SS x5.2), (13, I64 s41.2), (14, I64 s45.2)]) rfl (EO.call rfl rfl (CallOk.ln (G2 := [(1, .obj [SS a0.Pro, iR eDecl_0 a0.Decls, iR eRule_0 a0.Rules, SS a0.Tail]), (2, .obj [.nils, .nils, .nils, SS ({ data := #[] }), SS ({ data := #[] })]), (7, SS x5.2), (13, I64 s41.2), (14, I64 s45.2)]) (A := []) (ys := [.ptr ⟨6, []⟩ 0, I64 x52.At, SS x52.Name]) (args := [.obj (eyuccaref9_maker_r.cells s45.1), I64 x52.At, SS x52.Name]) (cs' := [oR eTok x59.f_g.Toks, oR eNon x59.f_g.Nons, oR eProd_0 x59.f_g.Prods, SS x59.f_g.Pro, SS x59.f_g.Tail, oR eB x59.f_given, oR eNon x59.f_types, oR eS x59.f_lefts, I64 x59.f_e, I64 x59.f_at, SS x59.f_name, I64 x59.f_level, I64 x59.f_inner]) (k0 := 0) rfl rfl rfl rfl (.b rfl (.n rfl (.n rfl .nil))) rfl (con65 s45.1 x52.At x52.Name _ hx59) call65 (.n rfl (.n rfl (.n rfl (.n rfl (.n rfl .nil))))) rfl rfl (.n rfl (.n rfl (.n rfl (.n rfl (.n rfl .nil))))) .nil rfl)) <| RunL.fin (.n rfl (.n rfl (.n rfl (.n rfl (.n rfl (.n rfl .nil))))))) ?_
                  obtain rfl := sm h
                  exact Px.jn (.n rfl (.n rfl (.n rfl (.n rfl (.n rfl (.n rfl .nil))))))
                · replace h := cndF hb58 h
                  refine W.sk ?_
                  obtain rfl := sm h
                  exact Px.jn (.n rfl (.n rfl (.n rfl (.n rfl (.n rfl (.n rfl .nil))))))
              refine Px.bk ?_
              obtain rfl := sm h
              exact Px.jn (.n rfl (.n rfl (.n rfl (.n rfl (.n rfl (.n rfl .nil))))))
            refine Px.sq ?_
            refine W.rx [(1, _), (2, _), (6, _), (7, _), (13, _), (14, _)] (Rv (O.mv (.lit rfl)) <| Rv (O.add (.lit rfl) (.k rfl)) <| RunL.re (G1 := [(1, .obj [SS a0.Pro, iR eDecl_0 a0.Decls, iR eRule_0 a0.Rules, SS a0.Tail]), (2, .obj [.nils, .nils, .nils, SS ({ data := #[] }), SS ({ data := #[] })]), (6, .obj (eyuccaref9_maker_r.cells j50)), (7, SS x5.2), (13, I64 s41.2), (165, I64 (w64 (s45.2 + 1)))]) (.n rfl (.n rfl (.n rfl (.n rfl (.n rfl (.n rfl .nil)))))) <| Rv (O.as (.lit rfl)) <| RunL.fin (.n rfl (.n rfl (.n rfl (.n rfl (.n rfl (.n rfl .nil))))))) ?_
            obtain rfl := sm h
            exact Px.go (.n rfl (.n rfl (.n rfl (.n rfl (.n rfl (.n rfl .nil))))))
          · replace h := cndF hb49 h
            refine W.xi ?_
            refine Px.sqE ?_
            obtain rfl := sm h
            exact Px.x1 (.n rfl (.n rfl (.n rfl (.n rfl (.n rfl .nil)))))
        refine Px.bkH ?_
        refine Px.bk ?_
        refine Px.sq ?_
        refine W.rx [(1, _), (2, _), (6, _), (7, _), (13, _)] (Rv (O.mv (.lit rfl)) <| Rv (O.add (.lit rfl) (.k rfl)) <| RunL.re (G1 := [(1, .obj [SS a0.Pro, iR eDecl_0 a0.Decls, iR eRule_0 a0.Rules, SS a0.Tail]), (2, .obj [.nils, .nils, .nils, SS ({ data := #[] }), SS ({ data := #[] })]), (6, .obj (eyuccaref9_maker_r.cells x46)), (7, SS x5.2), (154, I64 (w64 (s41.2 + 1)))]) (.n rfl (.n rfl (.n rfl (.n rfl (.n rfl .nil))))) <| Rv (O.as (.lit rfl)) <| RunL.fin (.n rfl (.n rfl (.n rfl (.n rfl (.n rfl .nil)))))) ?_
        obtain rfl := sm h
        exact Px.go (.n rfl (.n rfl (.n rfl (.n rfl (.n rfl .nil)))))
      · replace h := cndF hb44 h
        refine W.xi ?_
        refine Px.sqE ?_
        obtain rfl := sm h
        exact Px.x1 (.n rfl (.n rfl (.n rfl (.n rfl .nil))))
    refine Px.bkH ?_
    refine Px.sq ?_
    refine W.sq' ?_
    refine W.sq' ?_
    refine W.rx [(1, _), (2, _), (6, _), (7, _), (196, _)] (Rv (O.mv (.lit rfl)) <| Rv (O.eqS (.lit rfl) (.k rfl)) <| RunL.fin (.n rfl (.n rfl (.n rfl (.n rfl (.n rfl .nil)))))) ?_
    refine Px.sq ?_
    obtain ⟨j60, hj, h⟩ := bnd h
    refine W.jn [(1, .obj [SS a0.Pro, iR eDecl_0 a0.Decls, iR eRule_0 a0.Rules, SS a0.Tail]), (2, .obj [.nils, .nils, .nils, SS ({ data := #[] }), SS ({ data := #[] })]), (6, .obj (eyuccaref9_maker_r.cells x42)), (7, SS j60)] ?_ ?_
    · clear h; have h := hj; clear hj
      refine W.cnd rfl (fun hb61 => ?_) (fun hb61 => ?_)
      · replace h := cndT hb61 h
        obtain ⟨x62, hx62, h⟩ := bnd h
        refine W.rx [(1, _), (2, _), (6, _), (7, _)] (Rv (O.fO rfl (.obj rfl) fd25_2 rfl) <| Rv (O.ldO (y := iR eRule_0 a0.Rules) rfl (.ptr rfl) ct23 rfl rfl) <| Rv (O.ixI (.imm rfl) (.k rfl) sl23 hx62) <| Rv (O.fI (.iptr rfl) fd95_0) <| Rv (O.ldI (x := SS x62.Left) (.iptr rfl) ct9 rfl) <| RunL.re (G1 := [(1, .obj [SS a0.Pro, iR eDecl_0 a0.Decls, iR eRule_0 a0.Rules, SS a0.Tail]), (2, .obj [.nils, .nils, .nils, SS ({ data := #[] }), SS ({ data := #[] })]), (6, .obj (eyuccaref9_maker_r.cells x42)), (201, SS x62.Left)]) (.n rfl (.n rfl (.n rfl (.n rfl .nil)))) <| Rv (O.as (.lit rfl)) <| RunL.fin (.n rfl (.n rfl (.n rfl (.n rfl .nil))))) ?_
        obtain rfl := sm h
        exact Px.jn (.n rfl (.n rfl (.n rfl (.n rfl .nil))))
      · replace h := cndF hb61 h
        refine W.sk ?_
        obtain rfl := sm h
        exact Px.jn (.n rfl (.n rfl (.n rfl (.n rfl .nil))))
    refine Px.sq ?_
    refine W.sq' ?_
    obtain ⟨x63, hx63, h⟩ := bnd h
    refine W.rx [(1, _), (2, _), (6, _)] (Rv (O.mv (.obj rfl)) <| Rv (O.mv (.obj rfl)) <| Rv (O.mv (.lit rfl)) <| Rc (PC.vw (ys := [.ptr ⟨6, []⟩ 0, SS j60]) rfl (.c (View.p0 rfl rfl) (.s .nil)) (con67 x42 j60 _ hx63) call67 rfl) <| Rv (O.add (.k rfl) (.lit rfl)) <| RunL.vi (x := iR eI [w64 (1001 + x63)]) (O.bs (ys := [I64 (w64 (1001 + x63))]) eI [w64 (1001 + x63)] sl27 rfl rfl rfl rfl rfl rfl zt3 rfl rfl) rfl rfl .none <| RunL.vi (x := .agg [I64 0, iR eI [w64 (1001 + x63)], I64 (-1), SS ({ data := #[] }), iR eI ([] : List Int), I64 0]) (O.bu (cs := [I64 0, iR eI [w64 (1001 + x63)], I64 (-1), SS ({ data := #[] }), .nils, I64 0]) sc109 ze109 rfl rfl rfl) rfl rfl .none <| Rv (O.bs (ys := [.agg [I64 0, iR eI [w64 (1001 + x63)], I64 (-1), SS ({ data := #[] }), iR eI ([] : List Int), I64 0]]) eProd_0 [(⟨0, [w64 (1001 + x63)], (-1), { data := #[] }, ([] : List Int), 0⟩ : Prod)] sl36 rfl rfl rfl rfl rfl rfl zt109 rfl rfl) <| Rv (O.nlP (.ptr rfl)) <| Rv (O.fO rfl (.ptr rfl) fd128_0 rfl) <| Rv (O.fO rfl (.ptr rfl) fd38_2 rfl) <| RunL.ef (G2 := [(1, .obj [SS a0.Pro, iR eDecl_0 a0.Decls, iR eRule_0 a0.Rules, SS a0.Tail]), (2, .obj [.nils, .nils, .nils, SS ({ data := #[] }), SS ({ data := #[] })]), (6, .obj [oR eTok x42.f_g.Toks, oR eNon x42.f_g.Nons, oR eProd_0 [(⟨0, [w64 (1001 + x63)], (-1), { data := #[] }, ([] : List Int), 0⟩ : Prod)], SS x42.f_g.Pro, SS x42.f_g.Tail, oR eB x42.f_given, oR eNon x42.f_types, oR eS x42.f_lefts, I64 x42.f_e, I64 x42.f_at, SS x42.f_name, I64 x42.f_level, I64 x42.f_inner])]) rfl (EO.stB (y' := oR eProd_0 [(⟨0, [w64 (1001 + x63)], (-1), { data := #[] }, ([] : List Int), 0⟩ : Prod)]) (cs2 := [oR eTok x42.f_g.Toks, oR eNon x42.f_g.Nons, oR eProd_0 [(⟨0, [w64 (1001 + x63)], (-1), { data := #[] }, ([] : List Int), 0⟩ : Prod)], SS x42.f_g.Pro, SS x42.f_g.Tail, oR eB x42.f_given, oR eNon x42.f_types, oR eS x42.f_lefts, I64 x42.f_e, I64 x42.f_at, SS x42.f_name, I64 x42.f_level, I64 x42.f_inner]) rfl rfl (.ptr rfl) (.own rfl) (.r rfl .nil) .refl rfl sz36 rfl rfl rfl rfl rfl (.n rfl rfl (.n rfl rfl (.b rfl .nil)))) <| RunL.fin (.n rfl (.n rfl (.n rfl .nil)))) ?_
    refine Px.sq ?_
    refine W.sq' ?_
    refine W.sq' ?_
    refine W.rx [(1, _), (2, _), (6, _), (16, _)] (Rv (O.as (.k rfl)) <| RunL.fin (.n rfl (.n rfl (.n rfl (.n rfl .nil))))) ?_
    refine Px.sq ?_
    refine W.bk ?_
    obtain ⟨x65, hl, h⟩ := bnd h
    refine W.tr (G1 := [(1, .obj [SS a0.Pro, iR eDecl_0 a0.Decls, iR eRule_0 a0.Rules, SS a0.Tail]), (2, .obj [.nils, .nils, .nils, SS ({ data := #[] }), SS ({ data := #[] })]), (6, .obj [oR eTok (((⟨(⟨x42.f_g.Toks, x42.f_g.Nons, [(⟨0, [w64 (1001 + x63)], (-1), { data := #[] }, ([] : List Int), 0⟩ : Prod)], x42.f_g.Pro, x42.f_g.Tail⟩ : Grammar), x42.f_given, x42.f_types, x42.f_lefts, x42.f_e, x42.f_at, x42.f_name, x42.f_level, x42.f_inner⟩ : yuccaref9_maker).f_g).Toks), oR eNon (((⟨(⟨x42.f_g.Toks, x42.f_g.Nons, [(⟨0, [w64 (1001 + x63)], (-1), { data := #[] }, ([] : List Int), 0⟩ : Prod)], x42.f_g.Pro, x42.f_g.Tail⟩ : Grammar), x42.f_given, x42.f_types, x42.f_lefts, x42.f_e, x42.f_at, x42.f_name, x42.f_level, x42.f_inner⟩ : yuccaref9_maker).f_g).Nons), oR eProd_0 (((⟨(⟨x42.f_g.Toks, x42.f_g.Nons, [(⟨0, [w64 (1001 + x63)], (-1), { data := #[] }, ([] : List Int), 0⟩ : Prod)], x42.f_g.Pro, x42.f_g.Tail⟩ : Grammar), x42.f_given, x42.f_types, x42.f_lefts, x42.f_e, x42.f_at, x42.f_name, x42.f_level, x42.f_inner⟩ : yuccaref9_maker).f_g).Prods), SS (((⟨(⟨x42.f_g.Toks, x42.f_g.Nons, [(⟨0, [w64 (1001 + x63)], (-1), { data := #[] }, ([] : List Int), 0⟩ : Prod)], x42.f_g.Pro, x42.f_g.Tail⟩ : Grammar), x42.f_given, x42.f_types, x42.f_lefts, x42.f_e, x42.f_at, x42.f_name, x42.f_level, x42.f_inner⟩ : yuccaref9_maker).f_g).Pro), SS (((⟨(⟨x42.f_g.Toks, x42.f_g.Nons, [(⟨0, [w64 (1001 + x63)], (-1), { data := #[] }, ([] : List Int), 0⟩ : Prod)], x42.f_g.Pro, x42.f_g.Tail⟩ : Grammar), x42.f_given, x42.f_types, x42.f_lefts, x42.f_e, x42.f_at, x42.f_name, x42.f_level, x42.f_inner⟩ : yuccaref9_maker).f_g).Tail), oR eB ((⟨(⟨x42.f_g.Toks, x42.f_g.Nons, [(⟨0, [w64 (1001 + x63)], (-1), { data := #[] }, ([] : List Int), 0⟩ : Prod)], x42.f_g.Pro, x42.f_g.Tail⟩ : Grammar), x42.f_given, x42.f_types, x42.f_lefts, x42.f_e, x42.f_at, x42.f_name, x42.f_level, x42.f_inner⟩ : yuccaref9_maker).f_given), oR eNon ((⟨(⟨x42.f_g.Toks, x42.f_g.Nons, [(⟨0, [w64 (1001 + x63)], (-1), { data := #[] }, ([] : List Int), 0⟩ : Prod)], x42.f_g.Pro, x42.f_g.Tail⟩ : Grammar), x42.f_given, x42.f_types, x42.f_lefts, x42.f_e, x42.f_at, x42.f_name, x42.f_level, x42.f_inner⟩ : yuccaref9_maker).f_types), oR eS ((⟨(⟨x42.f_g.Toks, x42.f_g.Nons, [(⟨0, [w64 (1001 + x63)], (-1), { data := #[] }, ([] : List Int), 0⟩ : Prod)], x42.f_g.Pro, x42.f_g.Tail⟩ : Grammar), x42.f_given, x42.f_types, x42.f_lefts, x42.f_e, x42.f_at, x42.f_name, x42.f_level, x42.f_inner⟩ : yuccaref9_maker).f_lefts), I64 ((⟨(⟨x42.f_g.Toks, x42.f_g.Nons, [(⟨0, [w64 (1001 + x63)], (-1), { data := #[] }, ([] : List Int), 0⟩ : Prod)], x42.f_g.Pro, x42.f_g.Tail⟩ : Grammar), x42.f_given, x42.f_types, x42.f_lefts, x42.f_e, x42.f_at, x42.f_name, x42.f_level, x42.f_inner⟩ : yuccaref9_maker).f_e), I64 ((⟨(⟨x42.f_g.Toks, x42.f_g.Nons, [(⟨0, [w64 (1001 + x63)], (-1), { data := #[] }, ([] : List Int), 0⟩ : Prod)], x42.f_g.Pro, x42.f_g.Tail⟩ : Grammar), x42.f_given, x42.f_types, x42.f_lefts, x42.f_e, x42.f_at, x42.f_name, x42.f_level, x42.f_inner⟩ : yuccaref9_maker).f_at), SS ((⟨(⟨x42.f_g.Toks, x42.f_g.Nons, [(⟨0, [w64 (1001 + x63)], (-1), { data := #[] }, ([] : List Int), 0⟩ : Prod)], x42.f_g.Pro, x42.f_g.Tail⟩ : Grammar), x42.f_given, x42.f_types, x42.f_lefts, x42.f_e, x42.f_at, x42.f_name, x42.f_level, x42.f_inner⟩ : yuccaref9_maker).f_name), I64 ((⟨(⟨x42.f_g.Toks, x42.f_g.Nons, [(⟨0, [w64 (1001 + x63)], (-1), { data := #[] }, ([] : List Int), 0⟩ : Prod)], x42.f_g.Pro, x42.f_g.Tail⟩ : Grammar), x42.f_given, x42.f_types, x42.f_lefts, x42.f_e, x42.f_at, x42.f_name, x42.f_level, x42.f_inner⟩ : yuccaref9_maker).f_level), I64 ((⟨(⟨x42.f_g.Toks, x42.f_g.Nons, [(⟨0, [w64 (1001 + x63)], (-1), { data := #[] }, ([] : List Int), 0⟩ : Prod)], x42.f_g.Pro, x42.f_g.Tail⟩ : Grammar), x42.f_given, x42.f_types, x42.f_lefts, x42.f_e, x42.f_at, x42.f_name, x42.f_level, x42.f_inner⟩ : yuccaref9_maker).f_inner)]), (16, I64 0)]) (.n rfl (.n rfl (.n rfl (.n rfl .nil)))) ?_
    refine W.lp1 (s := ((⟨(⟨x42.f_g.Toks, x42.f_g.Nons, [(⟨0, [w64 (1001 + x63)], (-1), { data := #[] }, ([] : List Int), 0⟩ : Prod)], x42.f_g.Pro, x42.f_g.Tail⟩ : Grammar), x42.f_given, x42.f_types, x42.f_lefts, x42.f_e, x42.f_at, x42.f_name, x42.f_level, x42.f_inner⟩ : yuccaref9_maker), 0)) (fun (s64 : yuccaref9_maker × Int) => [(1, .obj [SS a0.Pro, iR eDecl_0 a0.Decls, iR eRule_0 a0.Rules, SS a0.Tail]), (2, .obj [.nils, .nils, .nils, SS ({ data := #[] }), SS ({ data := #[] })]), (6, .obj (eyuccaref9_maker_r.cells s64.1)), (16, I64 s64.2)]) 10 (fun (x65 : yuccaref9_maker) => [(1, .obj [SS a0.Pro, iR eDecl_0 a0.Decls, iR eRule_0 a0.Rules, SS a0.Tail]), (2, .obj [.nils, .nils, .nils, SS ({ data := #[] }), SS ({ data := #[] })]), (6, .obj (eyuccaref9_maker_r.cells x65))]) hl (fun s64 o h => ?_) ?_
    · clear hl
      refine W.sq' ?_
      refine W.sq' ?_
      refine W.rx [(1, _), (2, _), (6, _), (16, _), (217, _)] (Rv (O.mv (.lit rfl)) <| Rv (O.fO rfl (.obj rfl) fd25_2 rfl) <| Rv (O.ldO (y := iR eRule_0 a0.Rules) rfl (.ptr rfl) ct23 rfl rfl) <| Rv (O.lenI (.imm rfl) sl23) <| Rv (O.lss (.lit rfl) (.lit rfl)) <| RunL.fin (.n rfl (.n rfl (.n rfl (.n rfl (.n rfl .nil)))))) ?_
      refine Px.sq ?_
      refine W.cnd rfl (fun hb67 => ?_) (fun hb67 => ?_)
      · replace h := cndT hb67 h
        refine W.sk ?_
        refine Px.sq ?_
        refine W.sq' ?_
        refine W.bk ?_
        refine W.sq' ?_
        refine W.rx [(1, _), (2, _), (6, _), (16, _), (17, _)] (Rv (O.as (.k rfl)) <| RunL.fin (.n rfl (.n rfl (.n rfl (.n rfl (.n rfl .nil)))))) ?_
        refine Px.sq ?_
        refine W.bk ?_
        obtain ⟨x69, hl, h⟩ := bnd h
        refine W.tr (G1 := [(1, .obj [SS a0.Pro, iR eDecl_0 a0.Decls, iR eRule_0 a0.Rules, SS a0.Tail]), (2, .obj [.nils, .nils, .nils, SS ({ data := #[] }), SS ({ data := #[] })]), (6, .obj (eyuccaref9_maker_r.cells s64.1)), (16, I64 s64.2), (17, I64 0)]) (.n rfl (.n rfl (.n rfl (.n rfl (.n rfl .nil))))) ?_
        refine W.lp1 (s := (s64.1, 0)) (fun (s68 : yuccaref9_maker × Int) => [(1, .obj [SS a0.Pro, iR eDecl_0 a0.Decls, iR eRule_0 a0.Rules, SS a0.Tail]), (2, .obj [.nils, .nils, .nils, SS ({ data := #[] }), SS ({ data := #[] })]), (6, .obj (eyuccaref9_maker_r.cells s68.1)), (16, I64 s64.2), (17, I64 s68.2)]) 12 (fun (x69 : yuccaref9_maker) => [(1, .obj [SS a0.Pro, iR eDecl_0 a0.Decls, iR eRule_0 a0.Rules, SS a0.Tail]), (2, .obj [.nils, .nils, .nils, SS ({ data := #[] }), SS ({ data := #[] })]), (6, .obj (eyuccaref9_maker_r.cells x69)), (16, I64 s64.2)]) hl (fun s68 o h => ?_) ?_
        · clear hl
          refine W.sq' ?_
          refine W.sq' ?_
          obtain ⟨x71, hx71, h⟩ := bnd h
          refine W.rx [(1, _), (2, _), (6, _), (16, _), (17, _), (228, _)] (Rv (O.mv (.lit rfl)) <| Rv (O.fO rfl (.obj rfl) fd25_2 rfl) <| Rv (O.ldO (y := iR eRule_0 a0.Rules) rfl (.ptr rfl) ct23 rfl rfl) <| Rv (O.mv (.lit rfl)) <| Rv (O.ixI (.imm rfl) (.lit rfl) sl23 hx71) <| Rv (O.fI (.iptr rfl) fd95_1) <| Rv (O.ldI (x := iR eAlt_0 x71.Alts) (.iptr rfl) ct93 rfl) <| Rv (O.lenI (.imm rfl) sl93) <| Rv (O.lss (.lit rfl) (.lit rfl)) <| RunL.fin (.n rfl (.n rfl (.n rfl (.n rfl (.n rfl (.n rfl .nil))))))) ?_
          refine Px.sq ?_
          refine W.cnd rfl (fun hb72 => ?_) (fun hb72 => ?_)
          · replace h := cndT hb72 h
            refine W.sk ?_
            refine Px.sq ?_
            refine W.sq' ?_
            refine W.bk ?_
            obtain ⟨x73, hx73, h⟩ := bnd h
            obtain ⟨x74, hx74, h⟩ := bnd h
            obtain ⟨x75, hx75, h⟩ := bnd h
            obtain ⟨x76, hx76, h⟩ := bnd h
            refine W.rd [[], [], [1], [], [1, 2, 3], [1, 2, 3, 4], rn 1 5 [], [], [7], [], [7, 8, 9], [7, 8, 9, 10], rn 7 5 [], [], rn 7 7 [], rn 7 8 [], rn 0 16 []] [(1, _), (2, _), (6, _), (16, _), (17, _)] mixo (by kernel_rfl) (Dv 0 (O.mv (.obj rfl)) <| Dv 1 (O.fO rfl (.obj rfl) fd25_2 rfl) <| Dv 2 (O.ldO (y := iR eRule_0 a0.Rules) rfl (.ptr rfl) ct23 rfl rfl) <| Dv 3 (O.mv (.lit rfl)) <| Dv 4 (O.ixI (.imm rfl) (.lit rfl) sl23 hx73) <| Dv 5 (O.fI (.iptr rfl) fd95_0) <| Dv 6 (O.ldI (x := SS x73.Left) (.iptr rfl) ct9 rfl) <| Dv 7 (O.fO rfl (.obj rfl) fd25_2 rfl) <| Dv 8 (O.ldO (y := iR eRule_0 a0.Rules) rfl (.ptr rfl) ct23 rfl rfl) <| Dv 9 (O.mv (.lit rfl)) <| Dv 10 (O.ixI (.imm rfl) (.lit rfl) sl23 hx74) <| Dv 11 (O.fI (.iptr rfl) fd95_1) <| Dv 12 (O.ldI (x := iR eAlt_0 x74.Alts) (.iptr rfl) ct93 rfl) <| Dv 13 (O.mv (.lit rfl)) <| Dv 14 (O.ixI (.imm rfl) (.lit rfl) sl93 hx75) <| Dv 15 (O.ldIN (cs' := [iR ePart x75.Parts, SS x75.Prec.Name, BB x75.Prec.Lit, I64 x75.Prec.Num, I64 x75.Prec.At, I64 x75.At]) (.iptr rfl) at98 rfl rfl) <| DL.bp 16 (G2 := [(247, .tup []), (6, .obj [oR eTok x76.f_g.Toks, oR eNon x76.f_g.Nons, oR eProd_0 x76.f_g.Prods, SS x76.f_g.Pro, SS x76.f_g.Tail, oR eB x76.f_given, oR eNon x76.f_types, oR eS x76.f_lefts, I64 x76.f_e, I64 x76.f_at, SS x76.f_name, I64 x76.f_level, I64 x76.f_inner]), (1, .obj [SS a0.Pro, iR eDecl_0 a0.Decls, iR eRule_0 a0.Rules, SS a0.Tail]), (2, .obj [.nils, .nils, .nils, SS ({ data := #[] }), SS ({ data := #[] })]), (16, I64 s64.2), (17, I64 s68.2)]) (EO.call rfl rfl (CallOk.ln (G2 := [(1, .obj [SS a0.Pro, iR eDecl_0 a0.Decls, iR eRule_0 a0.Rules, SS a0.Tail]), (2, .obj [.nils, .nils, .nils, SS ({ data := #[] }), SS ({ data := #[] })]), (16, I64 s64.2), (17, I64 s68.2)]) (A := []) (ys := [.ptr ⟨6, []⟩ 0, SS x73.Left, .agg (eAlt_0.cells x75)]) (args := [.obj (eyuccaref9_maker_r.cells s68.1), SS x73.Left, .agg (eAlt_0.cells x75)]) (cs' := [oR eTok x76.f_g.Toks, oR eNon x76.f_g.Nons, oR eProd_0 x76.f_g.Prods, SS x76.f_g.Pro, SS x76.f_g.Tail, oR eB x76.f_given, oR eNon x76.f_types, oR eS x76.f_lefts, I64 x76.f_e, I64 x76.f_at, SS x76.f_name, I64 x76.f_level, I64 x76.f_inner]) (k0 := 0) rfl rfl rfl rfl (.b rfl (.n rfl (.n rfl .nil))) rfl (con68 s68.1 x73.Left x75 _ hx76) call68 (.n rfl (.n rfl (.n rfl (.n rfl .nil)))) rfl rfl (.n rfl (.n rfl (.n rfl (.n rfl .nil)))) .nil rfl)) rfl rfl rfl rfl (by kernel_rfl) (by kernel_rfl) <| DL.fin rfl rfl rfl (.n rfl (.n rfl (.n rfl (.n rfl (.n rfl .nil)))))) ?_
            refine Px.bk ?_
            refine Px.sq ?_
            refine W.rx [(1, _), (2, _), (6, _), (16, _), (17, _)] (Rv (O.mv (.lit rfl)) <| Rv (O.add (.lit rfl) (.k rfl)) <| RunL.re (G1 := [(1, .obj [SS a0.Pro, iR eDecl_0 a0.Decls, iR eRule_0 a0.Rules, SS a0.Tail]), (2, .obj [.nils, .nils, .nils, SS ({ data := #[] }), SS ({ data := #[] })]), (6, .obj (eyuccaref9_maker_r.cells x76)), (16, I64 s64.2), (230, I64 (w64 (s68.2 + 1)))]) (.n rfl (.n rfl (.n rfl (.n rfl (.n rfl .nil))))) <| Rv (O.as (.lit rfl)) <| RunL.fin (.n rfl (.n rfl (.n rfl (.n rfl (.n rfl .nil)))))) ?_
            obtain rfl := sm h
            exact Px.go (.n rfl (.n rfl (.n rfl (.n rfl (.n rfl .nil)))))
          · replace h := cndF hb72 h
            refine W.xi ?_
            refine Px.sqE ?_
            obtain rfl := sm h
            exact Px.x1 (.n rfl (.n rfl (.n rfl (.n rfl .nil))))
        refine Px.bkH ?_
        refine Px.bk ?_
        refine Px.sq ?_
        refine W.rx [(1, _), (2, _), (6, _), (16, _)] (Rv (O.mv (.lit rfl)) <| Rv (O.add (.lit rfl) (.k rfl)) <| RunL.re (G1 := [(1, .obj [SS a0.Pro, iR eDecl_0 a0.Decls, iR eRule_0 a0.Rules, SS a0.Tail]), (2, .obj [.nils, .nils, .nils, SS ({ data := #[] }), SS ({ data := #[] })]), (6, .obj (eyuccaref9_maker_r.cells x69)), (219, I64 (w64 (s64.2 + 1)))]) (.n rfl (.n rfl (.n rfl (.n rfl .nil)))) <| Rv (O.as (.lit rfl)) <| RunL.fin (.n rfl (.n rfl (.n rfl (.n rfl .nil))))) ?_
        obtain rfl := sm h
        exact Px.go (.n rfl (.n rfl (.n rfl (.n rfl .nil))))
      · replace h := cndF hb67 h
        refine W.xi ?_
        refine Px.sqE ?_
        obtain rfl := sm h
        exact Px.x1 (.n rfl (.n rfl (.n rfl .nil)))
    refine Px.bkH ?_
    refine Px.sq ?_
    refine W.sq' ?_
    refine W.sq' ?_
    refine W.rx [(1, _), (2, _), (6, _), (252, _)] (Rv (O.mv (.obj rfl)) <| Rv (O.nlP (.ptr rfl)) <| Rv (O.fO rfl (.ptr rfl) fd128_4 rfl) <| Rv (O.ldO (y := I64 x65.f_e) rfl (.ptr rfl) ct3 rfl rfl) <| Rv (O.neq (.lit rfl) (.k rfl)) <| RunL.fin (.n rfl (.n rfl (.n rfl (.n rfl .nil))))) ?_
    refine Px.sq ?_
    refine W.cnd rfl (fun hb77 => ?_) (fun hb77 => ?_)
    · replace h := cndT hb77 h
      refine W.sq' ?_
      refine W.rd [[], [], [1], [1, 2], [1, 2, 3], [], [5], [5, 6], [5, 6, 7], [], [9], [9, 10], [9, 10, 11], [0], rn 0 5 [13], rn 0 9 [13, 14], rn 0 16 []] [(2, _), (3, _), (4, _), (5, _)] mixo (by kernel_rfl) (Dv 0 (O.bu (cs := [.nils, .nils, .nils, SS ({ data := #[] }), SS ({ data := #[] })]) sc38 ze38 rfl rfl rfl) <| Dv 1 (O.mv (.obj rfl)) <| Dv 2 (O.nlP (.ptr rfl)) <| Dv 3 (O.fO rfl (.ptr rfl) fd128_4 rfl) <| Dv 4 (O.ldO (y := I64 x65.f_e) rfl (.ptr rfl) ct3 rfl rfl) <| Dv 5 (O.mv (.obj rfl)) <| Dv 6 (O.nlP (.ptr rfl)) <| Dv 7 (O.fO rfl (.ptr rfl) fd128_5 rfl) <| Dv 8 (O.ldO (y := I64 x65.f_at) rfl (.ptr rfl) ct3 rfl rfl) <| Dv 9 (O.mv (.obj rfl)) <| Dv 10 (O.nlP (.ptr rfl)) <| Dv 11 (O.fO rfl (.ptr rfl) fd128_6 rfl) <| Dv 12 (O.ldO (y := SS x65.f_name) rfl (.ptr rfl) ct9 rfl rfl) <| DL.bu 13 (G2 := [(2, .obj [.nils, .nils, .nils, SS ({ data := #[] }), SS ({ data := #[] })]), (6, .obj (eyuccaref9_maker_r.cells x65))]) (U := [(12, 265, some (SS x65.f_name)), (11, 264, some (.ptr ⟨6, []⟩ 10)), (10, 263, some (.ptr ⟨6, []⟩ 0)), (9, 262, some (.ptr ⟨6, []⟩ 0)), (8, 261, some (I64 x65.f_at)), (7, 260, some (.ptr ⟨6, []⟩ 9)), (6, 259, some (.ptr ⟨6, []⟩ 0)), (5, 258, some (.ptr ⟨6, []⟩ 0)), (4, 257, some (I64 x65.f_e)), (3, 256, some (.ptr ⟨6, []⟩ 8)), (2, 255, some (.ptr ⟨6, []⟩ 0)), (1, 254, some (.ptr ⟨6, []⟩ 0))]) (EffOk.v (EO.eff (EO.sO (G2 := [(2, .obj [.nils, .nils, .nils, SS ({ data := #[] }), SS ({ data := #[] })]), (6, .obj (eyuccaref9_maker_r.cells x65))]) (cs2 := [.nils, .nils, .nils, SS ({ data := #[] }), SS ({ data := #[] })]) rfl rfl rfl (.obj rfl) (.aggF rfl rfl) rfl sz38 rfl rfl rfl rfl (.b rfl (.n rfl rfl .nil))))) rfl rfl (by kernel_rfl) rfl rfl rfl (.c (.inr (.inl ⟨_, rfl⟩)) rfl rfl rfl rfl rfl (Gd.wanted .none) (O.ldO (y := SS x65.f_name) rfl (.ptr rfl) ct9 rfl rfl) (.c (.inr (.inr (.inr ⟨6, _, _, rfl, rfl, of_blt rfl, by simp⟩))) rfl rfl rfl rfl rfl (Gd.wanted .none) (O.fO rfl (.ptr rfl) fd128_6 rfl) (.c (.inr (.inr (.inr ⟨6, _, _, rfl, rfl, of_blt rfl, by simp⟩))) rfl rfl rfl rfl rfl (Gd.wanted .none) (O.nlP (.ptr rfl)) (.c (.inr (.inr (.inr ⟨6, _, _, rfl, rfl, of_blt rfl, by simp⟩))) rfl rfl rfl rfl rfl (Gd.wanted .none) (O.mv (.obj rfl)) (.c (.inr (.inl ⟨_, rfl⟩)) rfl rfl rfl rfl rfl (Gd.wanted .none) (O.ldO (y := I64 x65.f_at) rfl (.ptr rfl) ct3 rfl rfl) (.c (.inr (.inr (.inr ⟨6, _, _, rfl, rfl, of_blt rfl, by simp⟩))) rfl rfl rfl rfl rfl (Gd.wanted .none) (O.fO rfl (.ptr rfl) fd128_5 rfl) (.c (.inr (.inr (.inr ⟨6, _, _, rfl, rfl, of_blt rfl, by simp⟩))) rfl rfl rfl rfl rfl (Gd.wanted .none) (O.nlP (.ptr rfl)) (.c (.inr (.inr (.inr ⟨6, _, _, rfl, rfl, of_blt rfl, by simp⟩))) rfl rfl rfl rfl rfl (Gd.wanted .none) (O.mv (.obj rfl)) (.c (.inr (.inl ⟨_, rfl⟩)) rfl rfl rfl rfl rfl (Gd.wanted .none) (O.ldO (y := I64 x65.f_e) rfl (.ptr rfl) ct3 rfl rfl) (.c (.inr (.inr (.inr ⟨6, _, _, rfl, rfl, of_blt rfl, by simp⟩))) rfl rfl rfl rfl rfl (Gd.wanted .none) (O.fO rfl (.ptr rfl) fd128_4 rfl) (.c (.inr (.inr (.inr ⟨6, _, _, rfl, rfl, of_blt rfl, by simp⟩))) rfl rfl rfl rfl rfl (Gd.wanted .none) (O.nlP (.ptr rfl)) (.c (.inr (.inr (.inr ⟨6, _, _, rfl, rfl, of_blt rfl, by simp⟩))) rfl rfl rfl rfl rfl (Gd.wanted .none) (O.mv (.obj rfl)) .nil)))))))))))) (by kernel_rfl) <| Dv 14 (O.as (.lit rfl)) <| Dv 15 (O.as (.lit rfl)) <| Dv 16 (O.as (.lit rfl)) <| DL.fin rfl rfl rfl (.n rfl (.n rfl (.n rfl (.n rfl .nil))))) ?_
      refine Px.sq ?_
      refine W.fz (G1 := [(2, .obj [iR eTok ([] : List Tok), iR eNon ([] : List Non), iR eProd_0 ([] : List Prod), SS ({ data := #[] }), SS ({ data := #[] })]), (3, I64 x65.f_e), (4, I64 x65.f_at), (5, SS x65.f_name)]) [2] (.z rfl rfl (FzL.obj (.z (.z (.z (.f (.f .nil)))))) (.n rfl rfl (.n rfl rfl (.n rfl rfl .nil)))) ?_
      refine W.rt ?_
      refine Px.sqR ?_
      obtain rfl := sm h
      exact Px.fin (Fin.ro (.c (ys0 := [iR eTok ([] : List Tok), iR eNon ([] : List Non), iR eProd_0 ([] : List Prod), SS ({ data := #[] }), SS ({ data := #[] })]) rfl at38 rfl rfl rfl (.f rfl (.f rfl (.f rfl (.f rfl (.f rfl .nil))))) (.f rfl rfl (.f rfl rfl (.f rfl rfl .nil)))) rfl (of_decide_eq_true (by kernel_rfl)) (.no .nil) rfl (.inr rfl))
    · replace h := cndF hb77 h
      refine W.sk ?_
      refine Px.sq ?_
      refine W.sq' ?_
      refine W.rx [(1, _), (2, _), (6, _)] (Rv (O.mv (.obj rfl)) <| Rv (O.bu (cs := [SS ({ data := #[36, 97, 99, 99, 101, 112, 116] }), SS ({ data := #[] })]) sc135 ze135 rfl rfl rfl) <| Rv (O.bs (ys := [.agg [SS ({ data := #[36, 97, 99, 99, 101, 112, 116] }), SS ({ data := #[] })]]) eNon [(⟨{ data := #[36, 97, 99, 99, 101, 112, 116] }, { data := #[] }⟩ : Non)] sl35 rfl rfl rfl rfl rfl rfl zt135 rfl rfl) <| Rv (O.nlP (.ptr rfl)) <| Rv (O.fO rfl (.ptr rfl) fd128_0 rfl) <| Rv (O.fO rfl (.ptr rfl) fd38_1 rfl) <| RunL.ef (G2 := [(1, .obj [SS a0.Pro, iR eDecl_0 a0.Decls, iR eRule_0 a0.Rules, SS a0.Tail]), (2, .obj [.nils, .nils, .nils, SS ({ data := #[] }), SS ({ data := #[] })]), (6, .obj [oR eTok x65.f_g.Toks, oR eNon [(⟨{ data := #[36, 97, 99, 99, 101, 112, 116] }, { data := #[] }⟩ : Non)], oR eProd_0 x65.f_g.Prods, SS x65.f_g.Pro, SS x65.f_g.Tail, oR eB x65.f_given, oR eNon x65.f_types, oR eS x65.f_lefts, I64 x65.f_e, I64 x65.f_at, SS x65.f_name, I64 x65.f_level, I64 x65.f_inner])]) rfl (EO.stB (y' := oR eNon [(⟨{ data := #[36, 97, 99, 99, 101, 112, 116] }, { data := #[] }⟩ : Non)]) (cs2 := [oR eTok x65.f_g.Toks, oR eNon [(⟨{ data := #[36, 97, 99, 99, 101, 112, 116] }, { data := #[] }⟩ : Non)], oR eProd_0 x65.f_g.Prods, SS x65.f_g.Pro, SS x65.f_g.Tail, oR eB x65.f_given, oR eNon x65.f_types, oR eS x65.f_lefts, I64 x65.f_e, I64 x65.f_at, SS x65.f_name, I64 x65.f_level, I64 x65.f_inner]) rfl rfl (.ptr rfl) (.own rfl) (.r rfl .nil) .refl rfl sz35 rfl rfl rfl rfl rfl (.n rfl rfl (.n rfl rfl (.b rfl .nil)))) <| RunL.fin (.n rfl (.n rfl (.n rfl .nil)))) ?_
      refine Px.sq ?_
      refine W.sq' ?_
      refine W.sq' ?_
      refine W.rx [(1, _), (2, _), (6, _), (18, _)] (Rv (O.as (.k rfl)) <| RunL.fin (.n rfl (.n rfl (.n rfl (.n rfl .nil))))) ?_
      refine Px.sq ?_
      refine W.bk ?_
      obtain ⟨x79, hl, h⟩ := bnd h
      refine W.tr (G1 := [(1, .obj [SS a0.Pro, iR eDecl_0 a0.Decls, iR eRule_0 a0.Rules, SS a0.Tail]), (2, .obj [.nils, .nils, .nils, SS ({ data := #[] }), SS ({ data := #[] })]), (6, .obj [oR eTok x65.f_g.Toks, oR eNon [(⟨{ data := #[36, 97, 99, 99, 101, 112, 116] }, { data := #[] }⟩ : Non)], oR eProd_0 x65.f_g.Prods, SS x65.f_g.Pro, SS x65.f_g.Tail, oR eB x65.f_given, oR eNon x65.f_types, oR eS x65.f_lefts, I64 x65.f_e, I64 x65.f_at, SS x65.f_name, I64 x65.f_level, I64 x65.f_inner]), (18, I64 0)]) (.n rfl (.n rfl (.n rfl (.n rfl .nil)))) ?_
      refine W.lp1 (s := ([(⟨{ data := #[36, 97, 99, 99, 101, 112, 116] }, { data := #[] }⟩ : Non)], 0)) (fun (s78 : List Non × Int) => [(1, .obj [SS a0.Pro, iR eDecl_0 a0.Decls, iR eRule_0 a0.Rules, SS a0.Tail]), (2, .obj [.nils, .nils, .nils, SS ({ data := #[] }), SS ({ data := #[] })]), (6, .obj [oR eTok x65.f_g.Toks, oR eNon s78.1, oR eProd_0 x65.f_g.Prods, SS x65.f_g.Pro, SS x65.f_g.Tail, oR eB x65.f_given, oR eNon x65.f_types, oR eS x65.f_lefts, I64 x65.f_e, I64 x65.f_at, SS x65.f_name, I64 x65.f_level, I64 x65.f_inner]), (18, I64 s78.2)]) 14 (fun (x79 : List Non) => [(1, .obj [SS a0.Pro, iR eDecl_0 a0.Decls, iR eRule_0 a0.Rules, SS a0.Tail]), (2, .obj [.nils, .nils, .nils, SS ({ data := #[] }), SS ({ data := #[] })]), (6, .obj [oR eTok x65.f_g.Toks, oR eNon x79, oR eProd_0 x65.f_g.Prods, SS x65.f_g.Pro, SS x65.f_g.Tail, oR eB x65.f_given, oR eNon x65.f_types, oR eS x65.f_lefts, I64 x65.f_e, I64 x65.f_at, SS x65.f_name, I64 x65.f_level, I64 x65.f_inner])]) hl (fun s78 o h => ?_) ?_
      · clear hl
        refine W.sq' ?_
        refine W.sq' ?_
        refine W.rx [(1, _), (2, _), (6, _), (18, _), (278, _)] (Rv (O.mv (.lit rfl)) <| Rv (O.mv (.obj rfl)) <| Rv (O.nlP (.ptr rfl)) <| Rv (O.fO rfl (.ptr rfl) fd128_3 rfl) <| Rv (O.ldO (y := .brw eS.z ⟨6, [7]⟩ x65.f_lefts.length) rfl (.ptr rfl) ct61 rfl rfl) <| Rv (O.lenO (.brw rfl) sl61) <| Rv (O.lss (.lit rfl) (.lit rfl)) <| RunL.fin (.n rfl (.n rfl (.n rfl (.n rfl (.n rfl .nil)))))) ?_
        refine Px.sq ?_
        refine W.cnd rfl (fun hb81 => ?_) (fun hb81 => ?_)
        · replace h := cndT hb81 h
          refine W.sk ?_
          refine Px.sq ?_
          refine W.sq' ?_
          refine W.bk ?_
          refine W.sq' ?_
          obtain ⟨x82, hx82, h⟩ := bnd h
          refine W.rx [(1, _), (2, _), (6, _), (18, _), (19, _)] (Rv (O.mv (.obj rfl)) <| Rv (O.nlP (.ptr rfl)) <| Rv (O.fO rfl (.ptr rfl) fd128_3 rfl) <| Rv (O.ldO (y := .brw eS.z ⟨6, [7]⟩ x65.f_lefts.length) rfl (.ptr rfl) ct61 rfl rfl) <| Rv (O.mv (.lit rfl)) <| Rv (O.ixO (en := eS) rfl (.brw rfl) (.lit rfl) sl61 hx82 rfl) <| Rv (O.ldE (en := eS) (x' := SS x82) rfl (.ptr rfl) ct9 hx82 rfl rfl) <| Rv (O.bu (cs := [SS x82, SS ({ data := #[] })]) sc135 ze135 rfl rfl rfl) <| Rv (O.al (cs := [SS ({ data := #[] }), SS ({ data := #[] })]) ze135 rfl rfl) <| RunL.sO (G2 := [(1, .obj [SS a0.Pro, iR eDecl_0 a0.Decls, iR eRule_0 a0.Rules, SS a0.Tail]), (2, .obj [.nils, .nils, .nils, SS ({ data := #[] }), SS ({ data := #[] })]), (6, .obj [oR eTok x65.f_g.Toks, oR eNon s78.1, oR eProd_0 x65.f_g.Prods, SS x65.f_g.Pro, SS x65.f_g.Tail, oR eB x65.f_given, oR eNon x65.f_types, oR eS x65.f_lefts, I64 x65.f_e, I64 x65.f_at, SS x65.f_name, I64 x65.f_level, I64 x65.f_inner]), (18, I64 s78.2), (19, .obj [SS x82, SS ({ data := #[] })])]) (cs2 := [SS x82, SS ({ data := #[] })]) rfl (.obj rfl) (.aggF rfl rfl) rfl sz135 rfl rfl rfl rfl (.n rfl rfl (.n rfl rfl (.n rfl rfl (.n rfl rfl (.b rfl .nil))))) <| RunL.fin (.n rfl (.n rfl (.n rfl (.n rfl (.n rfl .nil)))))) ?_
          refine Px.sq ?_
          refine W.sq' ?_
          refine W.sq' ?_
          obtain ⟨x83, hx83, h⟩ := bnd h
          refine W.rx [(1, _), (2, _), (6, _), (18, _), (19, _), (20, _)] (Rv (O.mv (.obj rfl)) <| Rv (O.fO rfl (.obj rfl) fd135_0 rfl) <| Rv (O.ldO (y := SS x82) rfl (.ptr rfl) ct9 rfl rfl) <| Rc (PC.vw (ys := [.ptr ⟨6, []⟩ 0, SS x82]) rfl (.c (View.p0 rfl rfl) (.s .nil)) (con69 (⟨(⟨x65.f_g.Toks, s78.1, x65.f_g.Prods, x65.f_g.Pro, x65.f_g.Tail⟩ : Grammar), x65.f_given, x65.f_types, x65.f_lefts, x65.f_e, x65.f_at, x65.f_name, x65.f_level, x65.f_inner⟩ : yuccaref9_maker) x82 _ hx83) call69 rfl) <| Rv (O.as (.lit rfl)) <| RunL.fin (.n rfl (.n rfl (.n rfl (.n rfl (.n rfl (.n rfl .nil))))))) ?_
          refine Px.sq ?_
          refine W.sq' ?_
          refine W.rx [(1, _), (2, _), (6, _), (18, _), (19, _), (20, _), (294, _)] (Rv (O.mv (.lit rfl)) <| Rv (O.geq (.lit rfl) (.k rfl)) <| RunL.fin (.n rfl (.n rfl (.n rfl (.n rfl (.n rfl (.n rfl (.n rfl .nil)))))))) ?_
          refine Px.sq ?_
          obtain ⟨j84, hj, h⟩ := bnd h
          refine W.jn [(1, .obj [SS a0.Pro, iR eDecl_0 a0.Decls, iR eRule_0 a0.Rules, SS a0.Tail]), (2, .obj [.nils, .nils, .nils, SS ({ data := #[] }), SS ({ data := #[] })]), (6, .obj [oR eTok x65.f_g.Toks, oR eNon s78.1, oR eProd_0 x65.f_g.Prods, SS x65.f_g.Pro, SS x65.f_g.Tail, oR eB x65.f_given, oR eNon x65.f_types, oR eS x65.f_lefts, I64 x65.f_e, I64 x65.f_at, SS x65.f_name, I64 x65.f_level, I64 x65.f_inner]), (18, I64 s78.2), (19, .obj [SS x82, SS j84])] ?_ ?_
          · clear h; have h := hj; clear hj
            refine W.cnd rfl (fun hb85 => ?_) (fun hb85 => ?_)
            · replace h := cndT hb85 h
              obtain ⟨x86, hx86, h⟩ := bnd h
              refine W.rx [(1, _), (2, _), (6, _), (18, _), (19, _)] (Rv (O.mv (.obj rfl)) <| Rv (O.nlP (.ptr rfl)) <| Rv (O.fO rfl (.ptr rfl) fd128_2 rfl) <| Rv (O.ldO (y := .brw eNon.z ⟨6, [6]⟩ x65.f_types.length) rfl (.ptr rfl) ct35 rfl rfl) <| Rv (O.mv (.lit rfl)) <| Rv (O.ixO (en := eNon) rfl (.brw rfl) (.lit rfl) sl35 hx86 rfl) <| Rv (O.fE (en := eNon) rfl (.ptr rfl) fd135_1 hx86 rfl rfl) <| Rv (O.ldE (en := eNon) (x' := SS x86.Tag) rfl (.ptr rfl) ct9 hx86 rfl rfl) <| Rv (O.fO rfl (.obj rfl) fd135_1 rfl) <| RunL.sO (G2 := [(1, .obj [SS a0.Pro, iR eDecl_0 a0.Decls, iR eRule_0 a0.Rules, SS a0.Tail]), (2, .obj [.nils, .nils, .nils, SS ({ data := #[] }), SS ({ data := #[] })]), (6, .obj [oR eTok x65.f_g.Toks, oR eNon s78.1, oR eProd_0 x65.f_g.Prods, SS x65.f_g.Pro, SS x65.f_g.Tail, oR eB x65.f_given, oR eNon x65.f_types, oR eS x65.f_lefts, I64 x65.f_e, I64 x65.f_at, SS x65.f_name, I64 x65.f_level, I64 x65.f_inner]), (18, I64 s78.2), (19, .obj [SS x82, SS x86.Tag])]) (cs2 := [SS x82, SS x86.Tag]) rfl (.ptr rfl) (.lit rfl) rfl sz9 rfl rfl rfl rfl (.n rfl rfl (.n rfl rfl (.n rfl rfl (.n rfl rfl (.b rfl .nil))))) <| RunL.fin (.n rfl (.n rfl (.n rfl (.n rfl (.n rfl .nil)))))) ?_
              obtain rfl := sm h
              exact Px.jn (.n rfl (.n rfl (.n rfl (.n rfl (.n rfl .nil)))))
            · replace h := cndF hb85 h
              refine W.sk ?_
              obtain rfl := sm h
              exact Px.jn (.n rfl (.n rfl (.n rfl (.n rfl (.n rfl .nil)))))
          refine Px.sq ?_
          obtain ⟨x87, hx87, h⟩ := bnd h
          refine W.rd [[], [], [1], [1, 2], [1, 2, 3], [1, 2, 3, 4], [], [6], rn 1 7 [], rn 0 9 [], rn 0 10 [], rn 0 11 [], rn 0 12 []] [(1, _), (2, _), (6, _), (18, _)] mixo (by kernel_rfl) (Dv 0 (O.mv (.obj rfl)) <| Dv 1 (O.mv (.obj rfl)) <| Dv 2 (O.nlP (.ptr rfl)) <| Dv 3 (O.fO rfl (.ptr rfl) fd128_0 rfl) <| Dv 4 (O.fO rfl (.ptr rfl) fd38_1 rfl) <| Dv 5 (O.ldO (y := .brw eNon.z ⟨6, [1]⟩ s78.1.length) rfl (.ptr rfl) ct35 rfl rfl) <| Dv 6 (O.ldON (cs' := [SS x82, SS j84]) rfl (.obj rfl) at135 rfl rfl) <| DL.vi 7 (x := iR eNon [(⟨x82, j84⟩ : Non)]) (O.bs (ys := [.agg [SS x82, SS j84]]) eNon [(⟨x82, j84⟩ : Non)] sl35 rfl rfl rfl rfl rfl rfl zt135 rfl rfl) rfl rfl rfl rfl .none <| Dv 8 (O.ap (en := eNon) (r := x87) (.brw rfl) rfl (.imm rfl) .i ap35 rfl hx87) <| Dv 9 (O.nlP (.ptr rfl)) <| Dv 10 (O.fO rfl (.ptr rfl) fd128_0 rfl) <| Dv 11 (O.fO rfl (.ptr rfl) fd38_1 rfl) <| DL.bp 12 (G2 := [(1, .obj [SS a0.Pro, iR eDecl_0 a0.Decls, iR eRule_0 a0.Rules, SS a0.Tail]), (2, .obj [.nils, .nils, .nils, SS ({ data := #[] }), SS ({ data := #[] })]), (6, .obj [oR eTok x65.f_g.Toks, oR eNon (s78.1 ++ [(⟨x82, j84⟩ : Non)]), oR eProd_0 x65.f_g.Prods, SS x65.f_g.Pro, SS x65.f_g.Tail, oR eB x65.f_given, oR eNon x65.f_types, oR eS x65.f_lefts, I64 x65.f_e, I64 x65.f_at, SS x65.f_name, I64 x65.f_level, I64 x65.f_inner]), (18, I64 s78.2)]) (EO.stP (g1 := _) (en := eNon) (M := [(⟨x82, j84⟩ : Non)]) (cs2 := [oR eTok x65.f_g.Toks, oR eNon (s78.1 ++ [(⟨x82, j84⟩ : Non)]), oR eProd_0 x65.f_g.Prods, SS x65.f_g.Pro, SS x65.f_g.Tail, oR eB x65.f_given, oR eNon x65.f_types, oR eS x65.f_lefts, I64 x65.f_e, I64 x65.f_at, SS x65.f_name, I64 x65.f_level, I64 x65.f_inner]) rfl rfl (.ptr rfl) (.pend rfl) rfl rfl rfl .ns .rf rfl rfl sz35 rfl rfl rfl rfl (.n rfl rfl (.n rfl rfl (.b rfl (.n rfl rfl .nil))))) rfl rfl rfl rfl (by kernel_rfl) (by kernel_rfl) <| DL.fin rfl rfl rfl (.n rfl (.n rfl (.n rfl (.n rfl .nil))))) ?_
          refine Px.bk ?_
          refine Px.sq ?_
          refine W.rx [(1, _), (2, _), (6, _), (18, _)] (Rv (O.mv (.lit rfl)) <| Rv (O.add (.lit rfl) (.k rfl)) <| RunL.re (G1 := [(1, .obj [SS a0.Pro, iR eDecl_0 a0.Decls, iR eRule_0 a0.Rules, SS a0.Tail]), (2, .obj [.nils, .nils, .nils, SS ({ data := #[] }), SS ({ data := #[] })]), (6, .obj [oR eTok x65.f_g.Toks, oR eNon (s78.1 ++ [(⟨x82, j84⟩ : Non)]), oR eProd_0 x65.f_g.Prods, SS x65.f_g.Pro, SS x65.f_g.Tail, oR eB x65.f_given, oR eNon x65.f_types, oR eS x65.f_lefts, I64 x65.f_e, I64 x65.f_at, SS x65.f_name, I64 x65.f_level, I64 x65.f_inner]), (280, I64 (w64 (s78.2 + 1)))]) (.n rfl (.n rfl (.n rfl (.n rfl .nil)))) <| Rv (O.as (.lit rfl)) <| RunL.fin (.n rfl (.n rfl (.n rfl (.n rfl .nil))))) ?_
          obtain rfl := sm h
          exact Px.go (.n rfl (.n rfl (.n rfl (.n rfl .nil))))
        · replace h := cndF hb81 h
          refine W.xi ?_
          refine Px.sqE ?_
          obtain rfl := sm h
          exact Px.x1 (.n rfl (.n rfl (.n rfl .nil)))
      refine Px.bkH ?_
      refine Px.sq ?_
      refine W.sq' ?_
      refine W.sq' ?_
      refine W.rx [(1, _), (2, _), (6, _), (21, _)] (Rv (O.as (.k rfl)) <| RunL.fin (.n rfl (.n rfl (.n rfl (.n rfl .nil))))) ?_
      refine Px.sq ?_
      refine W.bk ?_
      obtain ⟨x89, hl, h⟩ := bnd h
      refine W.tr (G1 := [(1, .obj [SS a0.Pro, iR eDecl_0 a0.Decls, iR eRule_0 a0.Rules, SS a0.Tail]), (2, .obj [.nils, .nils, .nils, SS ({ data := #[] }), SS ({ data := #[] })]), (6, .obj [oR eTok x65.f_g.Toks, oR eNon x79, oR eProd_0 x65.f_g.Prods, SS x65.f_g.Pro, SS x65.f_g.Tail, oR eB x65.f_given, oR eNon x65.f_types, oR eS x65.f_lefts, I64 x65.f_e, I64 x65.f_at, SS x65.f_name, I64 x65.f_level, I64 x65.f_inner]), (21, I64 1)]) (.n rfl (.n rfl (.n rfl (.n rfl .nil)))) ?_
      refine W.lp1 (s := (x79, 1)) (fun (s88 : List Non × Int) => [(1, .obj [SS a0.Pro, iR eDecl_0 a0.Decls, iR eRule_0 a0.Rules, SS a0.Tail]), (2, .obj [.nils, .nils, .nils, SS ({ data := #[] }), SS ({ data := #[] })]), (6, .obj [oR eTok x65.f_g.Toks, oR eNon s88.1, oR eProd_0 x65.f_g.Prods, SS x65.f_g.Pro, SS x65.f_g.Tail, oR eB x65.f_given, oR eNon x65.f_types, oR eS x65.f_lefts, I64 x65.f_e, I64 x65.f_at, SS x65.f_name, I64 x65.f_level, I64 x65.f_inner]), (21, I64 s88.2)]) 16 (fun (x89 : List Non) => [(1, .obj [SS a0.Pro, iR eDecl_0 a0.Decls, iR eRule_0 a0.Rules, SS a0.Tail]), (2, .obj [.nils, .nils, .nils, SS ({ data := #[] }), SS ({ data := #[] })]), (6, .obj [oR eTok x65.f_g.Toks, oR eNon x89, oR eProd_0 x65.f_g.Prods, SS x65.f_g.Pro, SS x65.f_g.Tail, oR eB x65.f_given, oR eNon x65.f_types, oR eS x65.f_lefts, I64 x65.f_e, I64 x65.f_at, SS x65.f_name, I64 x65.f_level, I64 x65.f_inner])]) hl (fun s88 o h => ?_) ?_
      · clear hl
        refine W.sq' ?_
        refine W.sq' ?_
        refine W.rx [(1, _), (2, _), (6, _), (21, _), (321, _)] (Rv (O.mv (.lit rfl)) <| Rv (O.mv (.obj rfl)) <| Rv (O.nlP (.ptr rfl)) <| Rv (O.fO rfl (.ptr rfl) fd128_8 rfl) <| Rv (O.ldO (y := I64 x65.f_inner) rfl (.ptr rfl) ct3 rfl rfl) <| Rv (O.leq (.lit rfl) (.lit rfl)) <| RunL.fin (.n rfl (.n rfl (.n rfl (.n rfl (.n rfl .nil)))))) ?_
        refine Px.sq ?_
        refine W.cnd rfl (fun hb91 => ?_) (fun hb91 => ?_)
        · replace h := cndT hb91 h
          refine W.sk ?_
          refine Px.sq ?_
          refine W.sq' ?_
          refine W.bk ?_
          obtain ⟨x92, hx92, h⟩ := bnd h
          obtain ⟨x93, hx93, h⟩ := bnd h
          obtain ⟨x94, hx94, h⟩ := bnd h
          refine W.rd [[], [], [1], [1, 2], [1, 2, 3], [1, 2, 3, 4], [], [6], [6, 7], [6, 7, 8], [6, 7, 8, 9], rn 1 10 [], rn 0 12 [], rn 0 13 [], rn 0 14 [], rn 0 15 []] [(1, _), (2, _), (6, _), (21, _)] mixo (by kernel_rfl) (Dv 0 (O.mv (.obj rfl)) <| Dv 1 (O.mv (.obj rfl)) <| Dv 2 (O.nlP (.ptr rfl)) <| Dv 3 (O.fO rfl (.ptr rfl) fd128_0 rfl) <| Dv 4 (O.fO rfl (.ptr rfl) fd38_1 rfl) <| Dv 5 (O.ldO (y := .brw eNon.z ⟨6, [1]⟩ s88.1.length) rfl (.ptr rfl) ct35 rfl rfl) <| Dv 6 (O.mv (.lit rfl)) <| Dc 7 (PC.go (.cc (.lit rfl) .nil) (con52 s88.2 _ hx92) call52 rfl) <| Dv 8 (O.cat (.k rfl) (.lit rfl) hx93) <| Dv 9 (O.bu (cs := [SS x93, SS ({ data := #[] })]) sc135 ze135 rfl rfl rfl) <| DL.vi 10 (x := iR eNon [(⟨x93, { data := #[] }⟩ : Non)]) (O.bs (ys := [.agg [SS x93, SS ({ data := #[] })]]) eNon [(⟨x93, { data := #[] }⟩ : Non)] sl35 rfl rfl rfl rfl rfl rfl zt135 rfl rfl) rfl rfl rfl rfl .none <| Dv 11 (O.ap (en := eNon) (r := x94) (.brw rfl) rfl (.imm rfl) .i ap35 rfl hx94) <| Dv 12 (O.nlP (.ptr rfl)) <| Dv 13 (O.fO rfl (.ptr rfl) fd128_0 rfl) <| Dv 14 (O.fO rfl (.ptr rfl) fd38_1 rfl) <| DL.bp 15 (G2 := [(1, .obj [SS a0.Pro, iR eDecl_0 a0.Decls, iR eRule_0 a0.Rules, SS a0.Tail]), (2, .obj [.nils, .nils, .nils, SS ({ data := #[] }), SS ({ data := #[] })]), (6, .obj [oR eTok x65.f_g.Toks, oR eNon (s88.1 ++ [(⟨x93, { data := #[] }⟩ : Non)]), oR eProd_0 x65.f_g.Prods, SS x65.f_g.Pro, SS x65.f_g.Tail, oR eB x65.f_given, oR eNon x65.f_types, oR eS x65.f_lefts, I64 x65.f_e, I64 x65.f_at, SS x65.f_name, I64 x65.f_level, I64 x65.f_inner]), (21, I64 s88.2)]) (EO.stP (g1 := _) (en := eNon) (M := [(⟨x93, { data := #[] }⟩ : Non)]) (cs2 := [oR eTok x65.f_g.Toks, oR eNon (s88.1 ++ [(⟨x93, { data := #[] }⟩ : Non)]), oR eProd_0 x65.f_g.Prods, SS x65.f_g.Pro, SS x65.f_g.Tail, oR eB x65.f_given, oR eNon x65.f_types, oR eS x65.f_lefts, I64 x65.f_e, I64 x65.f_at, SS x65.f_name, I64 x65.f_level, I64 x65.f_inner]) rfl rfl (.ptr rfl) (.pend rfl) rfl rfl rfl .ns .rf rfl rfl sz35 rfl rfl rfl rfl (.n rfl rfl (.n rfl rfl (.b rfl (.n rfl rfl .nil))))) rfl rfl rfl rfl (by kernel_rfl) (by kernel_rfl) <| DL.fin rfl rfl rfl (.n rfl (.n rfl (.n rfl (.n rfl .nil))))) ?_
          refine Px.bk ?_
          refine Px.sq ?_
          refine W.rx [(1, _), (2, _), (6, _), (21, _)] (Rv (O.mv (.lit rfl)) <| Rv (O.add (.lit rfl) (.k rfl)) <| RunL.re (G1 := [(1, .obj [SS a0.Pro, iR eDecl_0 a0.Decls, iR eRule_0 a0.Rules, SS a0.Tail]), (2, .obj [.nils, .nils, .nils, SS ({ data := #[] }), SS ({ data := #[] })]), (6, .obj [oR eTok x65.f_g.Toks, oR eNon (s88.1 ++ [(⟨x93, { data := #[] }⟩ : Non)]), oR eProd_0 x65.f_g.Prods, SS x65.f_g.Pro, SS x65.f_g.Tail, oR eB x65.f_given, oR eNon x65.f_types, oR eS x65.f_lefts, I64 x65.f_e, I64 x65.f_at, SS x65.f_name, I64 x65.f_level, I64 x65.f_inner]), (323, I64 (w64 (s88.2 + 1)))]) (.n rfl (.n rfl (.n rfl (.n rfl .nil)))) <| Rv (O.as (.lit rfl)) <| RunL.fin (.n rfl (.n rfl (.n rfl (.n rfl .nil))))) ?_
          obtain rfl := sm h
          exact Px.go (.n rfl (.n rfl (.n rfl (.n rfl .nil))))
        · replace h := cndF hb91 h
          refine W.xi ?_
          refine Px.sqE ?_
          obtain rfl := sm h
          exact Px.x1 (.n rfl (.n rfl (.n rfl .nil)))
      refine Px.bkH ?_
      refine Px.sq ?_
      refine W.sq' ?_
      refine W.rx [(1, _), (2, _), (6, _), (22, _)] (Rv (O.as (.k rfl)) <| RunL.fin (.n rfl (.n rfl (.n rfl (.n rfl .nil))))) ?_
      refine Px.sq ?_
      refine W.sq' ?_
      refine W.sq' ?_
      refine W.rx [(1, _), (2, _), (6, _), (22, _), (23, _)] (Rv (O.as (.k rfl)) <| RunL.fin (.n rfl (.n rfl (.n rfl (.n rfl (.n rfl .nil)))))) ?_
      refine Px.sq ?_
      refine W.bk ?_
      obtain ⟨x96, hl, h⟩ := bnd h
      refine W.tr (G1 := [(1, .obj [SS a0.Pro, iR eDecl_0 a0.Decls, iR eRule_0 a0.Rules, SS a0.Tail]), (2, .obj [.nils, .nils, .nils, SS ({ data := #[] }), SS ({ data := #[] })]), (6, .obj [oR eTok x65.f_g.Toks, oR eNon x89, oR eProd_0 x65.f_g.Prods, SS x65.f_g.Pro, SS x65.f_g.Tail, oR eB x65.f_given, oR eNon x65.f_types, oR eS x65.f_lefts, I64 x65.f_e, I64 x65.f_at, SS x65.f_name, I64 x65.f_level, I64 x65.f_inner]), (22, I64 57346), (23, I64 3)]) (.n rfl (.n rfl (.n rfl (.n rfl (.n rfl .nil))))) ?_
      refine W.lp1 (s := (x65.f_g.Toks, 57346, 3)) (fun (s95 : List Tok × Int × Int) => [(1, .obj [SS a0.Pro, iR eDecl_0 a0.Decls, iR eRule_0 a0.Rules, SS a0.Tail]), (2, .obj [.nils, .nils, .nils, SS ({ data := #[] }), SS ({ data := #[] })]), (6, .obj [oR eTok s95.1, oR eNon x89, oR eProd_0 x65.f_g.Prods, SS x65.f_g.Pro, SS x65.f_g.Tail, oR eB x65.f_given, oR eNon x65.f_types, oR eS x65.f_lefts, I64 x65.f_e, I64 x65.f_at, SS x65.f_name, I64 x65.f_level, I64 x65.f_inner]), (22, I64 s95.2.1), (23, I64 s95.2.2)]) 18 (fun (x96 : List Tok) => [(1, .obj [SS a0.Pro, iR eDecl_0 a0.Decls, iR eRule_0 a0.Rules, SS a0.Tail]), (2, .obj [.nils, .nils, .nils, SS ({ data := #[] }), SS ({ data := #[] })]), (6, .obj [oR eTok x96, oR eNon x89, oR eProd_0 x65.f_g.Prods, SS x65.f_g.Pro, SS x65.f_g.Tail, oR eB x65.f_given, oR eNon x65.f_types, oR eS x65.f_lefts, I64 x65.f_e, I64 x65.f_at, SS x65.f_name, I64 x65.f_level, I64 x65.f_inner])]) hl (fun s95 o h => ?_) ?_
      · clear hl
        refine W.sq' ?_
        refine W.sq' ?_
        refine W.rx [(1, _), (2, _), (6, _), (22, _), (23, _), (346, _)] (Rv (O.mv (.lit rfl)) <| Rv (O.mv (.obj rfl)) <| Rv (O.nlP (.ptr rfl)) <| Rv (O.fO rfl (.ptr rfl) fd128_0 rfl) <| Rv (O.fO rfl (.ptr rfl) fd38_0 rfl) <| Rv (O.ldO (y := .brw eTok.z ⟨6, [0]⟩ s95.1.length) rfl (.ptr rfl) ct34 rfl rfl) <| Rv (O.lenO (.brw rfl) sl34) <| Rv (O.lss (.lit rfl) (.lit rfl)) <| RunL.fin (.n rfl (.n rfl (.n rfl (.n rfl (.n rfl (.n rfl .nil))))))) ?_
        refine Px.sq ?_
        refine W.cnd rfl (fun hb98 => ?_) (fun hb98 => ?_)
        · replace h := cndT hb98 h
          refine W.sk ?_
          refine Px.sq ?_
          refine W.sq' ?_
          obtain ⟨j99, hj, h⟩ := bnd h
          refine W.jn [(1, .obj [SS a0.Pro, iR eDecl_0 a0.Decls, iR eRule_0 a0.Rules, SS a0.Tail]), (2, .obj [.nils, .nils, .nils, SS ({ data := #[] }), SS ({ data := #[] })]), (6, .obj [oR eTok j99.1, oR eNon x89, oR eProd_0 x65.f_g.Prods, SS x65.f_g.Pro, SS x65.f_g.Tail, oR eB x65.f_given, oR eNon x65.f_types, oR eS x65.f_lefts, I64 x65.f_e, I64 x65.f_at, SS x65.f_name, I64 x65.f_level, I64 x65.f_inner]), (22, I64 j99.2), (23, I64 s95.2.2)] ?_ ?_
          · clear h; have h := hj; clear hj
            refine W.bk ?_
            refine W.sq' ?_
            obtain ⟨x100, hx100, h⟩ := bnd h
            refine W.rx [(1, _), (2, _), (6, _), (22, _), (23, _), (356, _)] (Rv (O.mv (.obj rfl)) <| Rv (O.nlP (.ptr rfl)) <| Rv (O.fO rfl (.ptr rfl) fd128_1 rfl) <| Rv (O.ldO (y := .brw eB.z ⟨6, [5]⟩ x65.f_given.length) rfl (.ptr rfl) ct102 rfl rfl) <| Rv (O.mv (.lit rfl)) <| Rv (O.ixO (en := eB) rfl (.brw rfl) (.lit rfl) sl102 hx100 rfl) <| Rv (O.ldE (en := eB) (x' := BB x100) rfl (.ptr rfl) ct4 hx100 rfl rfl) <| Rv (O.not (.lit rfl)) <| RunL.fin (.n rfl (.n rfl (.n rfl (.n rfl (.n rfl (.n rfl .nil))))))) ?_
            refine Px.sq ?_
            obtain ⟨j101, hj, h⟩ := bnd h
            refine W.jn [(1, .obj [SS a0.Pro, iR eDecl_0 a0.Decls, iR eRule_0 a0.Rules, SS a0.Tail]), (2, .obj [.nils, .nils, .nils, SS ({ data := #[] }), SS ({ data := #[] })]), (6, .obj [oR eTok j101.1, oR eNon x89, oR eProd_0 x65.f_g.Prods, SS x65.f_g.Pro, SS x65.f_g.Tail, oR eB x65.f_given, oR eNon x65.f_types, oR eS x65.f_lefts, I64 x65.f_e, I64 x65.f_at, SS x65.f_name, I64 x65.f_level, I64 x65.f_inner]), (22, I64 j101.2), (23, I64 s95.2.2)] ?_ ?_
            · clear h; have h := hj; clear hj
              refine W.cnd rfl (fun hb102 => ?_) (fun hb102 => ?_)
              · replace h := cndT hb102 h
                refine W.sq' ?_
                obtain ⟨x103, hx103, h⟩ := bnd h
                refine W.rx [(1, _), (2, _), (6, _), (22, _), (23, _)] (Rv (O.mv (.obj rfl)) <| Rv (O.nlP (.ptr rfl)) <| Rv (O.fO rfl (.ptr rfl) fd128_0 rfl) <| Rv (O.fO rfl (.ptr rfl) fd38_0 rfl) <| Rv (O.ldO (y := .brw eTok.z ⟨6, [0]⟩ s95.1.length) rfl (.ptr rfl) ct34 rfl rfl) <| Rv (O.mv (.lit rfl)) <| Rv (O.mv (.lit rfl)) <| Rv (O.ixO (en := eTok) rfl (.brw rfl) (.lit rfl) sl34 hx103 rfl) <| Rv (O.fE (en := eTok) rfl (.ptr rfl) fd52_2 hx103 rfl rfl) <| RunL.ef (G2 := [(1, .obj [SS a0.Pro, iR eDecl_0 a0.Decls, iR eRule_0 a0.Rules, SS a0.Tail]), (2, .obj [.nils, .nils, .nils, SS ({ data := #[] }), SS ({ data := #[] })]), (6, .obj [oR eTok (s95.1.set s95.2.2.toNat (⟨x103.Name, x103.Lit, s95.2.1, x103.Level, x103.Assoc, x103.Tag⟩ : Tok)), oR eNon x89, oR eProd_0 x65.f_g.Prods, SS x65.f_g.Pro, SS x65.f_g.Tail, oR eB x65.f_given, oR eNon x65.f_types, oR eS x65.f_lefts, I64 x65.f_e, I64 x65.f_at, SS x65.f_name, I64 x65.f_level, I64 x65.f_inner]), (22, I64 s95.2.1), (23, I64 s95.2.2)]) rfl (EO.stE (en := eTok) (y2 := (⟨x103.Name, x103.Lit, s95.2.1, x103.Level, x103.Assoc, x103.Tag⟩ : Tok)) (cs' := [I64 s95.2.1]) (x2 := .obj [oR eTok (s95.1.set s95.2.2.toNat (⟨x103.Name, x103.Lit, s95.2.1, x103.Level, x103.Assoc, x103.Tag⟩ : Tok)), oR eNon x89, oR eProd_0 x65.f_g.Prods, SS x65.f_g.Pro, SS x65.f_g.Tail, oR eB x65.f_given, oR eNon x65.f_types, oR eS x65.f_lefts, I64 x65.f_e, I64 x65.f_at, SS x65.f_name, I64 x65.f_level, I64 x65.f_inner]) rfl rfl (.ptr rfl) (.lit rfl) rfl hx103 sz3 rfl rfl rfl rfl rfl rfl rfl (.n rfl rfl (.n rfl rfl (.b rfl (.n rfl rfl (.n rfl rfl .nil)))))) <| RunL.fin (.n rfl (.n rfl (.n rfl (.n rfl (.n rfl .nil)))))) ?_
                refine Px.sq ?_
                refine W.rx [(1, _), (2, _), (6, _), (22, _), (23, _)] (Rv (O.mv (.lit rfl)) <| Rv (O.add (.lit rfl) (.k rfl)) <| RunL.re (G1 := [(1, .obj [SS a0.Pro, iR eDecl_0 a0.Decls, iR eRule_0 a0.Rules, SS a0.Tail]), (2, .obj [.nils, .nils, .nils, SS ({ data := #[] }), SS ({ data := #[] })]), (6, .obj [oR eTok (s95.1.set s95.2.2.toNat (⟨x103.Name, x103.Lit, s95.2.1, x103.Level, x103.Assoc, x103.Tag⟩ : Tok)), oR eNon x89, oR eProd_0 x65.f_g.Prods, SS x65.f_g.Pro, SS x65.f_g.Tail, oR eB x65.f_given, oR eNon x65.f_types, oR eS x65.f_lefts, I64 x65.f_e, I64 x65.f_at, SS x65.f_name, I64 x65.f_level, I64 x65.f_inner]), (23, I64 s95.2.2), (367, I64 (w64 (s95.2.1 + 1)))]) (.n rfl (.n rfl (.n rfl (.n rfl (.n rfl .nil))))) <| Rv (O.as (.lit rfl)) <| RunL.fin (.n rfl (.n rfl (.n rfl (.n rfl (.n rfl .nil)))))) ?_
                obtain rfl := sm h
                exact Px.jn (.n rfl (.n rfl (.n rfl (.n rfl (.n rfl .nil)))))
              · replace h := cndF hb102 h
                refine W.sk ?_
                obtain rfl := sm h
                exact Px.jn (.n rfl (.n rfl (.n rfl (.n rfl (.n rfl .nil)))))
            refine Px.bk ?_
            obtain rfl := sm h
            exact Px.jn (.n rfl (.n rfl (.n rfl (.n rfl (.n rfl .nil)))))
          refine Px.sq ?_
          refine W.rx [(1, _), (2, _), (6, _), (22, _), (23, _)] (Rv (O.mv (.lit rfl)) <| Rv (O.add (.lit rfl) (.k rfl)) <| RunL.re (G1 := [(1, .obj [SS a0.Pro, iR eDecl_0 a0.Decls, iR eRule_0 a0.Rules, SS a0.Tail]), (2, .obj [.nils, .nils, .nils, SS ({ data := #[] }), SS ({ data := #[] })]), (6, .obj [oR eTok j99.1, oR eNon x89, oR eProd_0 x65.f_g.Prods, SS x65.f_g.Pro, SS x65.f_g.Tail, oR eB x65.f_given, oR eNon x65.f_types, oR eS x65.f_lefts, I64 x65.f_e, I64 x65.f_at, SS x65.f_name, I64 x65.f_level, I64 x65.f_inner]), (22, I64 j99.2), (348, I64 (w64 (s95.2.2 + 1)))]) (.n rfl (.n rfl (.n rfl (.n rfl (.n rfl .nil))))) <| Rv (O.as (.lit rfl)) <| RunL.fin (.n rfl (.n rfl (.n rfl (.n rfl (.n rfl .nil)))))) ?_
          obtain rfl := sm h
          exact Px.go (.n rfl (.n rfl (.n rfl (.n rfl (.n rfl .nil)))))
        · replace h := cndF hb98 h
          refine W.xi ?_
          refine Px.sqE ?_
          obtain rfl := sm h
          exact Px.x1 (.n rfl (.n rfl (.n rfl .nil)))
      refine Px.bkH ?_
      refine Px.sq ?_
      refine W.sq' ?_
      obtain ⟨c106, hj, h⟩ := bnd h
      refine W.rx [(1, .obj [SS a0.Pro, iR eDecl_0 a0.Decls, iR eRule_0 a0.Rules, SS a0.Tail]), (2, .obj [.nils, .nils, .nils, SS ({ data := #[] }), SS ({ data := #[] })]), (6, .obj [oR eTok x96, oR eNon x89, oR eProd_0 x65.f_g.Prods, SS x65.f_g.Pro, SS x65.f_g.Tail, oR eB x65.f_given, oR eNon x65.f_types, oR eS x65.f_lefts, I64 x65.f_e, I64 x65.f_at, SS x65.f_name, I64 x65.f_level, I64 x65.f_inner]), (24, BB c106)] ?_ ?_
      · refine Rv (O.mv (.obj rfl)) <| Rv (O.nlP (.ptr rfl)) <| Rv (O.fO rfl (.ptr rfl) fd128_0 rfl) <| Rv (O.fO rfl (.ptr rfl) fd38_0 rfl) <| Rv (O.ldO (y := .brw eTok.z ⟨6, [0]⟩ x96.length) rfl (.ptr rfl) ct34 rfl rfl) <| Rv (O.lenO (.brw rfl) sl34) <| Rv (O.gtr (.lit rfl) (.k rfl)) <| Rv (O.mv (.lit rfl)) ?_
        rcases cnd hj with ⟨hb104, hj⟩ | ⟨hb104, hj⟩
        · obtain rfl := sm hj
          exact RunL.ps rfl rfl hb104 rfl rfl <| RunL.ps rfl rfl hb104 rfl rfl <| RunL.ps rfl rfl hb104 rfl rfl <| RunL.ps rfl rfl hb104 rfl rfl <| RunL.ps rfl rfl hb104 rfl rfl <| RunL.ps rfl rfl hb104 rfl rfl <| RunL.ps rfl rfl hb104 rfl rfl <| Rv (O.pkT (.lit rfl) hb104 (.k rfl)) <| Rv (O.mv (.lit rfl)) <| RunL.ps rfl rfl rfl rfl rfl <| RunL.ps rfl rfl rfl rfl rfl <| RunL.ps rfl rfl rfl rfl rfl <| RunL.ps rfl rfl rfl rfl rfl <| RunL.ps rfl rfl rfl rfl rfl <| RunL.ps rfl rfl rfl rfl rfl <| RunL.ps rfl rfl rfl rfl rfl <| Rv (O.pkT (.lit rfl) rfl (.k rfl)) <| Rv (O.as (.lit rfl)) <| RunL.fin (.n rfl (.n rfl (.n rfl (.n rfl .nil))))
        · refine RunL.v (O.mv (.obj rfl)) rfl rfl (.yb rfl rfl hb104) <| RunL.v (O.nlP (.ptr rfl)) rfl rfl (.yb rfl rfl hb104) <| RunL.v (O.fO rfl (.ptr rfl) fd128_0 rfl) rfl rfl (.yb rfl rfl hb104) <| RunL.v (O.fO rfl (.ptr rfl) fd38_1 rfl) rfl rfl (.yb rfl rfl hb104) <| RunL.v (O.ldO (y := .brw eNon.z ⟨6, [1]⟩ x89.length) rfl (.ptr rfl) ct35 rfl rfl) rfl rfl (.yb rfl rfl hb104) <| RunL.v (O.lenO (.brw rfl) sl35) rfl rfl (.yb rfl rfl hb104) <| RunL.v (O.gtr (.lit rfl) (.k rfl)) rfl rfl (.yb rfl rfl hb104) <| Rv (O.pkF (.lit rfl) hb104 (.lit rfl)) <| Rv (O.mv (.lit rfl)) ?_
          rcases cnd hj with ⟨hb105, hj⟩ | ⟨hb105, hj⟩
          · obtain rfl := sm hj
            exact RunL.ps rfl rfl hb105 rfl rfl <| RunL.ps rfl rfl hb105 rfl rfl <| RunL.ps rfl rfl hb105 rfl rfl <| RunL.ps rfl rfl hb105 rfl rfl <| RunL.ps rfl rfl hb105 rfl rfl <| RunL.ps rfl rfl hb105 rfl rfl <| RunL.ps rfl rfl hb105 rfl rfl <| Rv (O.pkT (.lit rfl) hb105 (.k rfl)) <| Rv (O.as (.lit rfl)) <| RunL.fin (.n rfl (.n rfl (.n rfl (.n rfl .nil))))
          · obtain rfl := sm hj
            exact RunL.v (O.mv (.obj rfl)) rfl rfl (.yb rfl rfl hb105) <| RunL.v (O.nlP (.ptr rfl)) rfl rfl (.yb rfl rfl hb105) <| RunL.v (O.fO rfl (.ptr rfl) fd128_0 rfl) rfl rfl (.yb rfl rfl hb105) <| RunL.v (O.fO rfl (.ptr rfl) fd38_2 rfl) rfl rfl (.yb rfl rfl hb105) <| RunL.v (O.ldO (y := .brw eProd_0.z ⟨6, [2]⟩ x65.f_g.Prods.length) rfl (.ptr rfl) ct36 rfl rfl) rfl rfl (.yb rfl rfl hb105) <| RunL.v (O.lenO (.brw rfl) sl36) rfl rfl (.yb rfl rfl hb105) <| RunL.v (O.gtr (.lit rfl) (.k rfl)) rfl rfl (.yb rfl rfl hb105) <| Rv (O.pkF (.lit rfl) hb105 (.lit rfl)) <| Rv (O.as (.lit rfl)) <| RunL.fin (.n rfl (.n rfl (.n rfl (.n rfl .nil))))
      refine Px.sq ?_
      refine W.sq' ?_
      refine W.sq' ?_
      refine W.rx [(1, _), (2, _), (6, _), (24, _), (25, _)] (Rv (O.as (.k rfl)) <| RunL.fin (.n rfl (.n rfl (.n rfl (.n rfl (.n rfl .nil)))))) ?_
      refine Px.sq ?_
      refine W.bk ?_
      obtain ⟨x108, hl, h⟩ := bnd h
      refine W.tr (G1 := [(1, .obj [SS a0.Pro, iR eDecl_0 a0.Decls, iR eRule_0 a0.Rules, SS a0.Tail]), (2, .obj [.nils, .nils, .nils, SS ({ data := #[] }), SS ({ data := #[] })]), (6, .obj [oR eTok x96, oR eNon x89, oR eProd_0 x65.f_g.Prods, SS x65.f_g.Pro, SS x65.f_g.Tail, oR eB x65.f_given, oR eNon x65.f_types, oR eS x65.f_lefts, I64 x65.f_e, I64 x65.f_at, SS x65.f_name, I64 x65.f_level, I64 x65.f_inner]), (24, BB c106), (25, I64 0)]) (.n rfl (.n rfl (.n rfl (.n rfl (.n rfl .nil))))) ?_
      refine W.lp1 (s := (c106, 0)) (fun (s107 : Bool × Int) => [(1, .obj [SS a0.Pro, iR eDecl_0 a0.Decls, iR eRule_0 a0.Rules, SS a0.Tail]), (2, .obj [.nils, .nils, .nils, SS ({ data := #[] }), SS ({ data := #[] })]), (6, .obj [oR eTok x96, oR eNon x89, oR eProd_0 x65.f_g.Prods, SS x65.f_g.Pro, SS x65.f_g.Tail, oR eB x65.f_given, oR eNon x65.f_types, oR eS x65.f_lefts, I64 x65.f_e, I64 x65.f_at, SS x65.f_name, I64 x65.f_level, I64 x65.f_inner]), (24, BB s107.1), (25, I64 s107.2)]) 20 (fun (x108 : Bool) => [(1, .obj [SS a0.Pro, iR eDecl_0 a0.Decls, iR eRule_0 a0.Rules, SS a0.Tail]), (2, .obj [.nils, .nils, .nils, SS ({ data := #[] }), SS ({ data := #[] })]), (6, .obj [oR eTok x96, oR eNon x89, oR eProd_0 x65.f_g.Prods, SS x65.f_g.Pro, SS x65.f_g.Tail, oR eB x65.f_given, oR eNon x65.f_types, oR eS x65.f_lefts, I64 x65.f_e, I64 x65.f_at, SS x65.f_name, I64 x65.f_level, I64 x65.f_inner]), (24, BB x108)]) hl (fun s107 o h => ?_) ?_
      · clear hl
        refine W.sq' ?_
        refine W.sq' ?_
        refine W.rx [(1, _), (2, _), (6, _), (24, _), (25, _), (400, _)] (Rv (O.mv (.lit rfl)) <| Rv (O.mv (.obj rfl)) <| Rv (O.nlP (.ptr rfl)) <| Rv (O.fO rfl (.ptr rfl) fd128_0 rfl) <| Rv (O.fO rfl (.ptr rfl) fd38_2 rfl) <| Rv (O.ldO (y := .brw eProd_0.z ⟨6, [2]⟩ x65.f_g.Prods.length) rfl (.ptr rfl) ct36 rfl rfl) <| Rv (O.lenO (.brw rfl) sl36) <| Rv (O.lss (.lit rfl) (.lit rfl)) <| RunL.fin (.n rfl (.n rfl (.n rfl (.n rfl (.n rfl (.n rfl .nil))))))) ?_
        refine Px.sq ?_
        refine W.cnd rfl (fun hb110 => ?_) (fun hb110 => ?_)
        · replace h := cndT hb110 h
          refine W.sk ?_
          refine Px.sq ?_
          refine W.sq' ?_
          refine W.bk ?_
          obtain ⟨c113, hj, h⟩ := bnd h
          refine W.rx [(1, .obj [SS a0.Pro, iR eDecl_0 a0.Decls, iR eRule_0 a0.Rules, SS a0.Tail]), (2, .obj [.nils, .nils, .nils, SS ({ data := #[] }), SS ({ data := #[] })]), (6, .obj [oR eTok x96, oR eNon x89, oR eProd_0 x65.f_g.Prods, SS x65.f_g.Pro, SS x65.f_g.Tail, oR eB x65.f_given, oR eNon x65.f_types, oR eS x65.f_lefts, I64 x65.f_e, I64 x65.f_at, SS x65.f_name, I64 x65.f_level, I64 x65.f_inner]), (24, BB c113), (25, I64 s107.2)] ?_ ?_
          · refine Rv (O.mv (.lit rfl)) <| Rv (O.mv (.lit rfl)) ?_
            rcases cnd hj with ⟨hb111, hj⟩ | ⟨hb111, hj⟩
            · obtain rfl := sm hj
              exact RunL.ps rfl rfl hb111 rfl rfl <| RunL.ps rfl rfl hb111 rfl rfl <| RunL.ps rfl rfl hb111 rfl rfl <| RunL.ps rfl rfl hb111 rfl rfl <| RunL.ps rfl rfl hb111 rfl rfl <| RunL.ps rfl rfl hb111 rfl rfl <| RunL.ps rfl rfl hb111 rfl rfl <| RunL.ps rfl rfl hb111 rfl rfl <| RunL.ps rfl rfl hb111 rfl rfl <| RunL.ps rfl rfl hb111 rfl rfl <| RunL.ps rfl rfl hb111 rfl rfl <| Rv (O.pkT (.lit rfl) hb111 (.k rfl)) <| RunL.re (G1 := [(1, .obj [SS a0.Pro, iR eDecl_0 a0.Decls, iR eRule_0 a0.Rules, SS a0.Tail]), (2, .obj [.nils, .nils, .nils, SS ({ data := #[] }), SS ({ data := #[] })]), (6, .obj [oR eTok x96, oR eNon x89, oR eProd_0 x65.f_g.Prods, SS x65.f_g.Pro, SS x65.f_g.Tail, oR eB x65.f_given, oR eNon x65.f_types, oR eS x65.f_lefts, I64 x65.f_e, I64 x65.f_at, SS x65.f_name, I64 x65.f_level, I64 x65.f_inner]), (25, I64 s107.2), (416, BB true)]) (.n rfl (.n rfl (.n rfl (.n rfl (.n rfl .nil))))) <| Rv (O.as (.lit rfl)) <| RunL.fin (.n rfl (.n rfl (.n rfl (.n rfl (.n rfl .nil)))))
            · refine RunL.v (O.mv (.obj rfl)) rfl rfl (.yb rfl rfl hb111) <| RunL.v (O.nlP (.ptr rfl)) rfl rfl (.yb rfl rfl hb111) <| RunL.v (O.fO rfl (.ptr rfl) fd128_0 rfl) rfl rfl (.yb rfl rfl hb111) <| RunL.v (O.fO rfl (.ptr rfl) fd38_2 rfl) rfl rfl (.yb rfl rfl hb111) <| RunL.v (O.ldO (y := .brw eProd_0.z ⟨6, [2]⟩ x65.f_g.Prods.length) rfl (.ptr rfl) ct36 rfl rfl) rfl rfl (.yb rfl rfl hb111) <| RunL.v (O.mv (.lit rfl)) rfl rfl (.yb rfl rfl hb111) ?_
              obtain ⟨x112, hx112, hj⟩ := bnd hj
              obtain rfl := sm hj
              exact RunL.v (O.ixO (en := eProd_0) rfl (.brw rfl) (.lit rfl) sl36 hx112 rfl) rfl rfl (.yb rfl rfl hb111) <| RunL.v (O.fE (en := eProd_0) rfl (.ptr rfl) fd109_1 hx112 rfl rfl) rfl rfl (.yb rfl rfl hb111) <| RunL.v (O.ldE (en := eProd_0) (x' := iR eI x112.Right) rfl (.ptr rfl) ct27 hx112 rfl rfl) rfl rfl (.yb rfl rfl hb111) <| RunL.v (O.lenI (.imm rfl) sl27) rfl rfl (.yb rfl rfl hb111) <| RunL.v (O.gtr (.lit rfl) (.k rfl)) rfl rfl (.yb rfl rfl hb111) <| Rv (O.pkF (.lit rfl) hb111 (.lit rfl)) <| RunL.re (G1 := [(1, .obj [SS a0.Pro, iR eDecl_0 a0.Decls, iR eRule_0 a0.Rules, SS a0.Tail]), (2, .obj [.nils, .nils, .nils, SS ({ data := #[] }), SS ({ data := #[] })]), (6, .obj [oR eTok x96, oR eNon x89, oR eProd_0 x65.f_g.Prods, SS x65.f_g.Pro, SS x65.f_g.Tail, oR eB x65.f_given, oR eNon x65.f_types, oR eS x65.f_lefts, I64 x65.f_e, I64 x65.f_at, SS x65.f_name, I64 x65.f_level, I64 x65.f_inner]), (25, I64 s107.2), (416, BB (decide (8 < (x112.Right.length : Int))))]) (.n rfl (.n rfl (.n rfl (.n rfl (.n rfl .nil))))) <| Rv (O.as (.lit rfl)) <| RunL.fin (.n rfl (.n rfl (.n rfl (.n rfl (.n rfl .nil)))))
          refine Px.bk ?_
          refine Px.sq ?_
          refine W.rx [(1, _), (2, _), (6, _), (24, _), (25, _)] (Rv (O.mv (.lit rfl)) <| Rv (O.add (.lit rfl) (.k rfl)) <| RunL.re (G1 := [(1, .obj [SS a0.Pro, iR eDecl_0 a0.Decls, iR eRule_0 a0.Rules, SS a0.Tail]), (2, .obj [.nils, .nils, .nils, SS ({ data := #[] }), SS ({ data := #[] })]), (6, .obj [oR eTok x96, oR eNon x89, oR eProd_0 x65.f_g.Prods, SS x65.f_g.Pro, SS x65.f_g.Tail, oR eB x65.f_given, oR eNon x65.f_types, oR eS x65.f_lefts, I64 x65.f_e, I64 x65.f_at, SS x65.f_name, I64 x65.f_level, I64 x65.f_inner]), (24, BB c113), (402, I64 (w64 (s107.2 + 1)))]) (.n rfl (.n rfl (.n rfl (.n rfl (.n rfl .nil))))) <| Rv (O.as (.lit rfl)) <| RunL.fin (.n rfl (.n rfl (.n rfl (.n rfl (.n rfl .nil)))))) ?_
          obtain rfl := sm h
          exact Px.go (.n rfl (.n rfl (.n rfl (.n rfl (.n rfl .nil)))))
        · replace h := cndF hb110 h
          refine W.xi ?_
          refine Px.sqE ?_
          obtain rfl := sm h
          exact Px.x1 (.n rfl (.n rfl (.n rfl (.n rfl .nil))))
      refine Px.bkH ?_
      refine Px.sq ?_
      refine W.sq' ?_
      refine W.sq' ?_
      refine W.rx [(1, _), (2, _), (6, _), (417, _)] (Rv (O.mv (.lit rfl)) <| RunL.fin (.n rfl (.n rfl (.n rfl (.n rfl .nil))))) ?_
      refine Px.sq ?_
      refine W.cnd rfl (fun hb114 => ?_) (fun hb114 => ?_)
      · replace h := cndT hb114 h
        refine W.sq' ?_
        refine W.rx [(2, _), (3, _), (4, _), (5, _)] (Rv (O.bu (cs := [.nils, .nils, .nils, SS ({ data := #[] }), SS ({ data := #[] })]) sc38 ze38 rfl rfl rfl) <| RunL.sO (G2 := [(2, .obj [.nils, .nils, .nils, SS ({ data := #[] }), SS ({ data := #[] })])]) (cs2 := [.nils, .nils, .nils, SS ({ data := #[] }), SS ({ data := #[] })]) rfl (.obj rfl) (.aggF rfl rfl) rfl sz38 rfl rfl rfl rfl (.b rfl .nil) <| Rv (O.as (.k rfl)) <| Rv (O.as (.k rfl)) <| Rv (O.as (.k rfl)) <| RunL.fin (.n rfl (.n rfl (.n rfl (.n rfl .nil))))) ?_
        refine Px.sq ?_
        refine W.fz (G1 := [(2, .obj [iR eTok ([] : List Tok), iR eNon ([] : List Non), iR eProd_0 ([] : List Prod), SS ({ data := #[] }), SS ({ data := #[] })]), (3, I64 4), (4, I64 0), (5, SS ({ data := #[] }))]) [2] (.z rfl rfl (FzL.obj (.z (.z (.z (.f (.f .nil)))))) (.n rfl rfl (.n rfl rfl (.n rfl rfl .nil)))) ?_
        refine W.rt ?_
        refine Px.sqR ?_
        obtain rfl := sm h
        exact Px.fin (Fin.ro (.c (ys0 := [iR eTok ([] : List Tok), iR eNon ([] : List Non), iR eProd_0 ([] : List Prod), SS ({ data := #[] }), SS ({ data := #[] })]) rfl at38 rfl rfl rfl (.f rfl (.f rfl (.f rfl (.f rfl (.f rfl .nil))))) (.f rfl rfl (.f rfl rfl (.f rfl rfl .nil)))) rfl (of_decide_eq_true (by kernel_rfl)) (.no .nil) rfl (.inr rfl))
      · replace h := cndF hb114 h
        refine W.sk ?_
        refine Px.sq ?_
        refine W.sq' ?_
        refine W.rd [[], [], [], [2], [], [4], [0, 2, 3], [0, 2, 3, 6], [0, 2, 3, 6, 7], [0, 2, 3, 6, 7, 8], rn 0 10 [], rn 0 11 [], rn 0 12 [], rn 0 13 []] [(2, _), (6, _)] mixo (by kernel_rfl) (Dv 0 (O.mv (.obj rfl)) <| Dv 1 (O.mv (.obj rfl)) <| Dv 2 (O.fO rfl (.obj rfl) fd25_0 rfl) <| Dv 3 (O.ldO (y := SS a0.Pro) rfl (.ptr rfl) ct9 rfl rfl) <| Dv 4 (O.fO rfl (.obj rfl) fd25_3 rfl) <| Dv 5 (O.ldO (y := SS a0.Tail) rfl (.ptr rfl) ct9 rfl rfl) <| Dv 6 (O.nlP (.ptr rfl)) <| Dv 7 (O.fO rfl (.ptr rfl) fd128_0 rfl) <| Dv 8 (O.fO rfl (.ptr rfl) fd38_3 rfl) <| DL.bu 9 (G2 := [(1, .obj [SS a0.Pro, iR eDecl_0 a0.Decls, iR eRule_0 a0.Rules, SS a0.Tail]), (2, .obj [.nils, .nils, .nils, SS ({ data := #[] }), SS ({ data := #[] })]), (6, .obj [oR eTok x96, oR eNon x89, oR eProd_0 x65.f_g.Prods, SS a0.Pro, SS x65.f_g.Tail, oR eB x65.f_given, oR eNon x65.f_types, oR eS x65.f_lefts, I64 x65.f_e, I64 x65.f_at, SS x65.f_name, I64 x65.f_level, I64 x65.f_inner])]) (U := [(5, 424, some (SS a0.Tail)), (4, 423, some (.ptr ⟨1, []⟩ 3)), (1, 420, some (.ptr ⟨6, []⟩ 0))]) (EffOk.v (EO.eff (EO.sO (G2 := [(1, .obj [SS a0.Pro, iR eDecl_0 a0.Decls, iR eRule_0 a0.Rules, SS a0.Tail]), (2, .obj [.nils, .nils, .nils, SS ({ data := #[] }), SS ({ data := #[] })]), (6, .obj [oR eTok x96, oR eNon x89, oR eProd_0 x65.f_g.Prods, SS a0.Pro, SS x65.f_g.Tail, oR eB x65.f_given, oR eNon x65.f_types, oR eS x65.f_lefts, I64 x65.f_e, I64 x65.f_at, SS x65.f_name, I64 x65.f_level, I64 x65.f_inner])]) (cs2 := [oR eTok x96, oR eNon x89, oR eProd_0 x65.f_g.Prods, SS a0.Pro, SS x65.f_g.Tail, oR eB x65.f_given, oR eNon x65.f_types, oR eS x65.f_lefts, I64 x65.f_e, I64 x65.f_at, SS x65.f_name, I64 x65.f_level, I64 x65.f_inner]) rfl rfl rfl (.ptr rfl) (.lit rfl) rfl sz9 rfl rfl rfl rfl (.n rfl rfl (.n rfl rfl (.b rfl .nil)))))) rfl rfl (by kernel_rfl) rfl rfl rfl (.c (.inr (.inl ⟨_, rfl⟩)) rfl rfl rfl rfl rfl (Gd.wanted .none) (O.ldO (y := SS a0.Tail) rfl (.ptr rfl) ct9 rfl rfl) (.c (.inr (.inr (.inr ⟨1, _, _, rfl, rfl, of_blt rfl, by simp⟩))) rfl rfl rfl rfl rfl (Gd.wanted .none) (O.fO rfl (.obj rfl) fd25_3 rfl) (.c (.inr (.inr (.inr ⟨6, _, _, rfl, rfl, of_blt rfl, by simp⟩))) rfl rfl rfl rfl rfl (Gd.wanted .none) (O.mv (.obj rfl)) .nil))) (by kernel_rfl) <| Dv 10 (O.nlP (.ptr rfl)) <| Dv 11 (O.fO rfl (.ptr rfl) fd128_0 rfl) <| Dv 12 (O.fO rfl (.ptr rfl) fd38_4 rfl) <| DL.sO 13 (G2 := [(2, .obj [.nils, .nils, .nils, SS ({ data := #[] }), SS ({ data := #[] })]), (6, .obj [oR eTok x96, oR eNon x89, oR eProd_0 x65.f_g.Prods, SS a0.Pro, SS a0.Tail, oR eB x65.f_given, oR eNon x65.f_types, oR eS x65.f_lefts, I64 x65.f_e, I64 x65.f_at, SS x65.f_name, I64 x65.f_level, I64 x65.f_inner])]) (cs2 := [oR eTok x96, oR eNon x89, oR eProd_0 x65.f_g.Prods, SS a0.Pro, SS a0.Tail, oR eB x65.f_given, oR eNon x65.f_types, oR eS x65.f_lefts, I64 x65.f_e, I64 x65.f_at, SS x65.f_name, I64 x65.f_level, I64 x65.f_inner]) rfl (by kernel_rfl) (by kernel_rfl) rfl rfl rfl (.ptr rfl) (.lit rfl) rfl sz9 rfl rfl rfl rfl (.n rfl rfl (.b rfl .nil)) <| DL.fin rfl rfl rfl (.n rfl (.n rfl .nil))) ?_
        refine Px.sq ?_
        refine W.sq' ?_
        refine W.fz (G1 := [(2, .obj [.nils, .nils, .nils, SS ({ data := #[] }), SS ({ data := #[] })]), (6, .obj [iR eTok x96, iR eNon x89, iR eProd_0 x65.f_g.Prods, SS a0.Pro, SS a0.Tail, oR eB x65.f_given, oR eNon x65.f_types, oR eS x65.f_lefts, I64 x65.f_e, I64 x65.f_at, SS x65.f_name, I64 x65.f_level, I64 x65.f_inner])]) [6] (.n rfl rfl (.z rfl rfl (FzL.obj (.z (.z (.z (.f (.f (.f (.f (.f (.f (.f (.f (.f (.f .nil)))))))))))))) .nil)) ?_
        refine W.rx [(2, _), (3, _), (4, _), (5, _)] (Rv (O.mv (.obj rfl)) <| Rv (O.nlP (.ptr rfl)) <| Rv (O.fO rfl (.ptr rfl) fd128_0 rfl) <| Rv (O.ldON (cs' := [iR eTok x96, iR eNon x89, iR eProd_0 x65.f_g.Prods, SS a0.Pro, SS a0.Tail]) rfl (.ptr rfl) at38 rfl rfl) <| RunL.sO (G2 := [(2, .obj [iR eTok x96, iR eNon x89, iR eProd_0 x65.f_g.Prods, SS a0.Pro, SS a0.Tail])]) (cs2 := [iR eTok x96, iR eNon x89, iR eProd_0 x65.f_g.Prods, SS a0.Pro, SS a0.Tail]) rfl (.obj rfl) (.aggF rfl rfl) rfl sz38 rfl rfl rfl rfl (.b rfl .nil) <| Rv (O.as (.k rfl)) <| Rv (O.as (.k rfl)) <| Rv (O.as (.k rfl)) <| RunL.fin (.n rfl (.n rfl (.n rfl (.n rfl .nil))))) ?_
        refine Px.sq ?_
        refine W.rt ?_
        obtain rfl := sm h
        exact Px.fin (Fin.ro (.c (ys0 := [iR eTok x96, iR eNon x89, iR eProd_0 x65.f_g.Prods, SS a0.Pro, SS a0.Tail]) rfl at38 rfl rfl rfl (.f rfl (.f rfl (.f rfl (.f rfl (.f rfl .nil))))) (.f rfl rfl (.f rfl rfl (.f rfl rfl .nil)))) rfl (of_decide_eq_true (by kernel_rfl)) (.no .nil) rfl (.inr rfl))
def pf18 (a0 : Source) : Option (Grammar × Bool) :=
 (pf50 a0).bind fun x1 =>
 some (x1.1, decide (x1.2.1 = 0))
theorem con18 (a0 : Source) (r : Grammar × Bool) (h : pf18 a0 = some r) : Con Try.prog 18 [.agg [SS a0.Pro, iR eDecl_0 a0.Decls, iR eRule_0 a0.Rules, SS a0.Tail]] [none] (.tup [.agg (eGrammar_0.cells r.1), BB r.2]) := by
  unfold pf18 at h
  refine Con.go (N := ⟨18, []⟩) Try.func18 rfl rfl rfl rfl (W.fin ?_)
  refine W.st [(0, .agg [SS a0.Pro, iR eDecl_0 a0.Decls, iR eRule_0 a0.Rules, SS a0.Tail])] ?_
  refine W.sq' ?_
  refine W.rx [(1, _), (2, _)] (Rv (O.box (.aggF rfl rfl) rfl) <| Rv (O.al (cs := [.nils, .nils, .nils, SS ({ data := #[] }), SS ({ data := #[] })]) ze38 rfl rfl) <| Rv (O.as (.k rfl)) <| RunL.fin (.n rfl (.n rfl .nil))) ?_
  refine Px.sq ?_
  refine W.sq' ?_
  obtain ⟨x1, hx1, h⟩ := bnd h
  refine W.rx [(2, _), (4, _), (5, _)] (Rv (O.ldON (cs' := [SS a0.Pro, iR eDecl_0 a0.Decls, iR eRule_0 a0.Rules, SS a0.Tail]) rfl (.obj rfl) at25 rfl rfl) <| Rc (PC.go (.cc (.aggF rfl rfl) .nil) (con50 a0 _ hx1) call50 rfl) <| Rv (O.mv (.tup rfl rfl)) <| Rv (O.ex (y := .agg (eGrammar_0.cells x1.1)) rfl rfl rfl) <| Rv (O.ex (y := I64 x1.2.1) rfl rfl rfl) <| Rv (O.ex (y := I64 x1.2.2.1) rfl rfl rfl) <| Rv (O.ex (y := SS x1.2.2.2) rfl rfl rfl) <| Rv (O.al (cs := [.nils, .nils, .nils, SS ({ data := #[] }), SS ({ data := #[] })]) ze38 rfl rfl) <| RunL.sO (G2 := [(2, .obj [.nils, .nils, .nils, SS ({ data := #[] }), SS ({ data := #[] })]), (4, .obj (eGrammar_0.cells x1.1)), (12, I64 x1.2.1), (13, I64 x1.2.2.1), (14, SS x1.2.2.2)]) (cs2 := [iR eTok x1.1.Toks, iR eNon x1.1.Nons, iR eProd_0 x1.1.Prods, SS x1.1.Pro, SS x1.1.Tail]) rfl (.obj rfl) (.aggF rfl rfl) rfl sz38 rfl rfl rfl rfl (.n rfl rfl (.b rfl (.n rfl rfl (.n rfl rfl (.n rfl rfl .nil))))) <| Rv (O.as (.lit rfl)) <| Rv (O.as (.lit rfl)) <| Rv (O.as (.lit rfl)) <| RunL.fin (.n rfl (.n rfl (.n rfl .nil)))) ?_
  refine Px.sq ?_
  refine W.sq' ?_
  refine W.rx [(2, _), (3, _)] (Rv (O.ldON (cs' := [iR eTok x1.1.Toks, iR eNon x1.1.Nons, iR eProd_0 x1.1.Prods, SS x1.1.Pro, SS x1.1.Tail]) rfl (.obj rfl) at38 rfl rfl) <| Rv (O.mv (.lit rfl)) <| Rv (O.eql (.lit rfl) (.k rfl)) <| RunL.sO (G2 := [(2, .obj (eGrammar_0.cells x1.1)), (17, BB (decide (x1.2.1 = 0)))]) (cs2 := [iR eTok x1.1.Toks, iR eNon x1.1.Nons, iR eProd_0 x1.1.Prods, SS x1.1.Pro, SS x1.1.Tail]) rfl (.obj rfl) (.aggF rfl rfl) rfl sz38 rfl rfl rfl rfl (.b rfl (.n rfl rfl .nil)) <| Rv (O.as (.lit rfl)) <| RunL.fin (.n rfl (.n rfl .nil))) ?_
  refine Px.sq ?_
  refine W.rt ?_
  obtain rfl := sm h
  exact Px.fin (Fin.ro (.c (ys0 := [iR eTok x1.1.Toks, iR eNon x1.1.Nons, iR eProd_0 x1.1.Prods, SS x1.1.Pro, SS x1.1.Tail]) rfl at38 rfl rfl rfl (.f rfl (.f rfl (.f rfl (.f rfl (.f rfl .nil))))) (.f rfl rfl .nil)) rfl (of_decide_eq_true (by kernel_rfl)) (.no .nil) rfl (.inr rfl))
def pf25 (a0 : Int) (a1 : Int) : Option (Int) :=
 (remO a0 a1).bind fun x1 =>
 ((bif decide (x1 < 0) then
 some (w64 (x1 + a1))
 else
 some x1)).bind fun j2 =>
 some j2
theorem con25 (a0 : Int) (a1 : Int) (r : Int) (h : pf25 a0 a1 = some r) : Con Try.prog 25 [I64 a0, I64 a1] [none, none] (I64 r) := by
  unfold pf25 at h
  refine Con.go (N := ⟨15, []⟩) Try.func25 rfl rfl rfl rfl (W.fin ?_)
  refine W.st [(0, I64 a0), (1, I64 a1)] ?_
  refine W.sq' ?_
  refine W.rx [(0, _), (1, _)] (Rv (O.as (.k rfl)) <| RunL.fin (.n rfl (.n rfl .nil))) ?_
  refine Px.sq ?_
  refine W.sq' ?_
  obtain ⟨x1, hx1, h⟩ := bnd h
  refine W.rx [(1, _), (5, _)] (Rv (O.mv (.lit rfl)) <| Rv (O.mv (.lit rfl)) <| Rv (O.rem (.lit rfl) (.lit rfl) hx1) <| Rv (O.as (.lit rfl)) <| RunL.fin (.n rfl (.n rfl .nil))) ?_
  refine Px.sq ?_
  refine W.sq' ?_
  refine W.sq' ?_
  refine W.rx [(1, _), (5, _), (10, _)] (Rv (O.mv (.lit rfl)) <| Rv (O.lss (.lit rfl) (.k rfl)) <| RunL.fin (.n rfl (.n rfl (.n rfl .nil)))) ?_
  refine Px.sq ?_
  obtain ⟨j2, hj, h⟩ := bnd h
  refine W.jn [(5, I64 j2)] ?_ ?_
  · clear h; have h := hj; clear hj
    refine W.cnd rfl (fun hb3 => ?_) (fun hb3 => ?_)
    · replace h := cndT hb3 h
      refine W.rx [(5, _)] (Rv (O.mv (.lit rfl)) <| Rv (O.mv (.lit rfl)) <| Rv (O.add (.lit rfl) (.lit rfl)) <| RunL.re (G1 := [(13, I64 (w64 (x1 + a1)))]) (.n rfl .nil) <| Rv (O.as (.lit rfl)) <| RunL.fin (.n rfl .nil)) ?_
      obtain rfl := sm h
      exact Px.jn (.n rfl .nil)
    · replace h := cndF hb3 h
      refine W.sk ?_
      obtain rfl := sm h
      exact Px.jn (.n rfl .nil)
  refine Px.sq ?_
  refine W.sq' ?_
  refine W.rx [(4, _)] (Rv (O.mv (.lit rfl)) <| Rv (O.as (.lit rfl)) <| RunL.fin (.n rfl .nil)) ?_
  refine Px.sq ?_
  refine W.rt ?_
  obtain rfl := sm h
  exact Px.fin (Fin.ro (.f rfl rfl .nil) rfl (of_decide_eq_true (by kernel_rfl)) (.no (.no .nil)) rfl (.inr rfl))
def pf23 (a0 : (List Int)) (a1 : Int) (a2 : Int) : Option (Grammar × Int × Bool) :=
 (loopM (R := List Decl × List Alt) (fun (s1 : List Decl × List Alt × Int) =>
 (bif decide (s1.2.2 < min (a0.length : Int) 9) then
 (pf52 s1.2.2).bind fun x5 =>
 (catO ({ data := #[116] }) x5).bind fun x6 =>
 (idx a0 s1.2.2).bind fun x7 =>
 (pf25 x7 3).bind fun x8 =>
 (appO s1.1 [(⟨w64 (2 + x8), { data := #[] }, [(⟨x6, false, 0, 0⟩ : Sym)], 0⟩ : Decl)]).bind fun x9 =>
 (appO s1.2.1 [(⟨[(⟨(⟨{ data := #[101] }, false, 0, 0⟩ : Sym), { data := #[] }, 0⟩ : Part), (⟨(⟨x6, false, 0, 0⟩ : Sym), { data := #[] }, 0⟩ : Part), (⟨(⟨{ data := #[101] }, false, 0, 0⟩ : Sym), { data := #[] }, 0⟩ : Part)], (⟨{ data := #[] }, false, 0, 0⟩ : Sym), 0⟩ : Alt)]).bind fun x10 =>
 some (.inl (s1.1 ++ [(⟨w64 (2 + x8), { data := #[] }, [(⟨x6, false, 0, 0⟩ : Sym)], 0⟩ : Decl)], s1.2.1 ++ [(⟨[(⟨(⟨{ data := #[101] }, false, 0, 0⟩ : Sym), { data := #[] }, 0⟩ : Part), (⟨(⟨x6, false, 0, 0⟩ : Sym), { data := #[] }, 0⟩ : Part), (⟨(⟨{ data := #[101] }, false, 0, 0⟩ : Sym), { data := #[] }, 0⟩ : Part)], (⟨{ data := #[] }, false, 0, 0⟩ : Sym), 0⟩ : Alt)], w64 (s1.2.2 + 1)))
 else
 some (.inr (s1.1, s1.2.1)))) (([] : List Decl), ([] : List Alt), 0)).bind fun x2 =>
 (appO x2.2 [(⟨[(⟨(⟨{ data := #[120] }, true, 0, 0⟩ : Sym), { data := #[] }, 0⟩ : Part)], (⟨{ data := #[] }, false, 0, 0⟩ : Sym), 0⟩ : Alt)]).bind fun x11 =>
 ((bif decide (0 < min (a0.length : Int) 9) then
 (pf52 a1).bind fun x14 =>
 (catO ({ data := #[116] }) x14).bind fun x15 =>
 (pf52 a2).bind fun x16 =>
 (catO ({ data := #[116] }) x16).bind fun x17 =>
 (appO (x2.2 ++ [(⟨[(⟨(⟨{ data := #[120] }, true, 0, 0⟩ : Sym), { data := #[] }, 0⟩ : Part)], (⟨{ data := #[] }, false, 0, 0⟩ : Sym), 0⟩ : Alt)]) [(⟨[(⟨(⟨x15, false, 0, 0⟩ : Sym), { data := #[] }, 0⟩ : Part), (⟨(⟨{ data := #[101] }, false, 0, 0⟩ : Sym), { data := #[] }, 0⟩ : Part)], (⟨x17, false, 0, 0⟩ : Sym), 0⟩ : Alt)]).bind fun x18 =>
 some ((x2.2 ++ [(⟨[(⟨(⟨{ data := #[120] }, true, 0, 0⟩ : Sym), { data := #[] }, 0⟩ : Part)], (⟨{ data := #[] }, false, 0, 0⟩ : Sym), 0⟩ : Alt)]) ++ [(⟨[(⟨(⟨x15, false, 0, 0⟩ : Sym), { data := #[] }, 0⟩ : Part), (⟨(⟨{ data := #[101] }, false, 0, 0⟩ : Sym), { data := #[] }, 0⟩ : Part)], (⟨x17, false, 0, 0⟩ : Sym), 0⟩ : Alt)])
 else
 some (x2.2 ++ [(⟨[(⟨(⟨{ data := #[120] }, true, 0, 0⟩ : Sym), { data := #[] }, 0⟩ : Part)], (⟨{ data := #[] }, false, 0, 0⟩ : Sym), 0⟩ : Alt)]))).bind fun j12 =>
 (pf18 (⟨{ data := #[] }, x2.1, [(⟨{ data := #[101] }, j12, 0⟩ : Rule)], { data := #[] }⟩ : Source)).bind fun x19 =>
 some (x19.1, min (a0.length : Int) 9, x19.2)
theorem con23 (a0 : (List Int)) (a1 : Int) (a2 : Int) (r : Grammar × Int × Bool) (h : pf23 a0 a1 a2 = some r) : Con Try.prog 23 [iR eI a0, I64 a1, I64 a2] [none, none, none] (.tup [.agg (eGrammar_0.cells r.1), I64 r.2.1, BB r.2.2]) := by
  unfold pf23 at h
  refine Con.go (N := ⟨96, []⟩) Try.func23 rfl rfl rfl rfl (W.fin ?_)
  refine W.st [(0, iR eI a0), (1, I64 a1), (2, I64 a2)] ?_
  refine W.sq' ?_
  refine W.rx [(0, _), (1, _), (2, _), (6, _)] (Rv (O.al (cs := [.nils, .nils, .nils, SS ({ data := #[] }), SS ({ data := #[] })]) ze38 rfl rfl) <| Rv (O.as (.k rfl)) <| Rv (O.as (.k rfl)) <| RunL.fin (.n rfl (.n rfl (.n rfl (.n rfl .nil))))) ?_
  refine Px.sq ?_
  refine W.sq' ?_
  refine W.rx [(0, _), (1, _), (2, _), (6, _), (9, _)] (Rv (O.al (cs := [SS ({ data := #[] }), .nils, .nils, SS ({ data := #[] })]) ze25 rfl rfl) <| RunL.fin (.n rfl (.n rfl (.n rfl (.n rfl (.n rfl .nil)))))) ?_
  refine Px.sq ?_
  refine W.sq' ?_
  refine W.rx [(0, _), (1, _), (2, _), (6, _), (9, _), (10, _)] (Rv (O.mv (.imm rfl)) <| Rv (O.lenI (.imm rfl) sl27) <| Rv (O.min' (.lit rfl) (.k rfl)) <| Rv (O.as (.lit rfl)) <| RunL.fin (.n rfl (.n rfl (.n rfl (.n rfl (.n rfl (.n rfl .nil))))))) ?_
  refine Px.sq ?_
  refine W.sq' ?_
  refine W.rx [(0, _), (1, _), (2, _), (6, _), (9, _), (10, _), (11, _)] (Rv (O.bu (cs := [SS ({ data := #[101] }), BB false, I64 0, I64 0]) sc91 ze91 rfl rfl rfl) <| Rv (O.bu (cs := [SS ({ data := #[101] }), BB false, I64 0, I64 0, SS ({ data := #[] }), I64 0]) sc100 ze100 rfl rfl rfl) <| Rv (O.al (cs := [SS ({ data := #[] }), BB false, I64 0, I64 0, SS ({ data := #[] }), I64 0]) ze100 rfl rfl) <| RunL.sO (G2 := [(0, iR eI a0), (1, I64 a1), (2, I64 a2), (6, .obj [.nils, .nils, .nils, SS ({ data := #[] }), SS ({ data := #[] })]), (9, .obj [SS ({ data := #[] }), .nils, .nils, SS ({ data := #[] })]), (10, I64 (min (a0.length : Int) 9)), (11, .obj [SS ({ data := #[101] }), BB false, I64 0, I64 0, SS ({ data := #[] }), I64 0])]) (cs2 := [SS ({ data := #[101] }), BB false, I64 0, I64 0, SS ({ data := #[] }), I64 0]) rfl (.obj rfl) (.aggF rfl rfl) rfl sz100 rfl rfl rfl rfl (.n rfl rfl (.n rfl rfl (.n rfl rfl (.n rfl rfl (.n rfl rfl (.n rfl rfl (.b rfl .nil))))))) <| RunL.fin (.n rfl (.n rfl (.n rfl (.n rfl (.n rfl (.n rfl (.n rfl .nil)))))))) ?_
  refine Px.sq ?_
  refine W.sq' ?_
  refine W.rx [(0, _), (1, _), (2, _), (6, _), (9, _), (10, _), (11, _), (12, _)] (Rv (O.bu (cs := [SS ({ data := #[101] }), .nils, I64 0]) sc95 ze95 rfl rfl rfl) <| Rv (O.al (cs := [SS ({ data := #[] }), .nils, I64 0]) ze95 rfl rfl) <| RunL.sO (G2 := [(0, iR eI a0), (1, I64 a1), (2, I64 a2), (6, .obj [.nils, .nils, .nils, SS ({ data := #[] }), SS ({ data := #[] })]), (9, .obj [SS ({ data := #[] }), .nils, .nils, SS ({ data := #[] })]), (10, I64 (min (a0.length : Int) 9)), (11, .obj [SS ({ data := #[101] }), BB false, I64 0, I64 0, SS ({ data := #[] }), I64 0]), (12, .obj [SS ({ data := #[101] }), .nils, I64 0])]) (cs2 := [SS ({ data := #[101] }), .nils, I64 0]) rfl (.obj rfl) (.aggF rfl rfl) rfl sz95 rfl rfl rfl rfl (.n rfl rfl (.n rfl rfl (.n rfl rfl (.n rfl rfl (.n rfl rfl (.n rfl rfl (.n rfl rfl (.b rfl .nil)))))))) <| RunL.fin (.n rfl (.n rfl (.n rfl (.n rfl (.n rfl (.n rfl (.n rfl (.n rfl .nil))))))))) ?_
  refine Px.sq ?_
  refine W.sq' ?_
  refine W.sq' ?_
  refine W.rx [(0, _), (1, _), (2, _), (6, _), (9, _), (10, _), (11, _), (12, _), (13, _)] (Rv (O.as (.k rfl)) <| RunL.fin (.n rfl (.n rfl (.n rfl (.n rfl (.n rfl (.n rfl (.n rfl (.n rfl (.n rfl .nil)))))))))) ?_
  refine Px.sq ?_
  refine W.bk ?_
  obtain ⟨x2, hl, h⟩ := bnd h
  refine W.tr (G1 := [(0, iR eI a0), (1, I64 a1), (2, I64 a2), (6, .obj [.nils, .nils, .nils, SS ({ data := #[] }), SS ({ data := #[] })]), (9, .obj [SS ({ data := #[] }), oR eDecl_0 ([] : List Decl), .nils, SS ({ data := #[] })]), (10, I64 (min (a0.length : Int) 9)), (11, .obj [SS ({ data := #[101] }), BB false, I64 0, I64 0, SS ({ data := #[] }), I64 0]), (12, .obj [SS ({ data := #[101] }), oR eAlt_0 ([] : List Alt), I64 0]), (13, I64 0)]) (.n rfl (.n rfl (.n rfl (.n rfl (.w rfl rfl (WkL.obj (.f (.o (.f (.f .nil))))) (.n rfl (.n rfl (.w rfl rfl (WkL.obj (.f (.o (.f .nil)))) (.n rfl .nil))))))))) ?_
  refine W.lp1 (s := (([] : List Decl), ([] : List Alt), 0)) (fun (s1 : List Decl × List Alt × Int) => [(0, iR eI a0), (1, I64 a1), (2, I64 a2), (6, .obj [.nils, .nils, .nils, SS ({ data := #[] }), SS ({ data := #[] })]), (9, .obj [SS ({ data := #[] }), oR eDecl_0 s1.1, .nils, SS ({ data := #[] })]), (10, I64 (min (a0.length : Int) 9)), (11, .obj [SS ({ data := #[101] }), BB false, I64 0, I64 0, SS ({ data := #[] }), I64 0]), (12, .obj [SS ({ data := #[101] }), oR eAlt_0 s1.2.1, I64 0]), (13, I64 s1.2.2)]) 0 (fun (x2 : List Decl × List Alt) => [(1, I64 a1), (2, I64 a2), (6, .obj [.nils, .nils, .nils, SS ({ data := #[] }), SS ({ data := #[] })]), (9, .obj [SS ({ data := #[] }), oR eDecl_0 x2.1, .nils, SS ({ data := #[] })]), (10, I64 (min (a0.length : Int) 9)), (11, .obj [SS ({ data := #[101] }), BB false, I64 0, I64 0, SS ({ data := #[] }), I64 0]), (12, .obj [SS ({ data := #[101] }), oR eAlt_0 x2.2, I64 0])]) hl (fun s1 o h => ?_) ?_
  · clear hl
    refine W.sq' ?_
    refine W.sq' ?_
    refine W.rx [(0, _), (1, _), (2, _), (6, _), (9, _), (10, _), (11, _), (12, _), (13, _), (25, _)] (Rv (O.mv (.lit rfl)) <| Rv (O.mv (.lit rfl)) <| Rv (O.lss (.lit rfl) (.lit rfl)) <| RunL.fin (.n rfl (.n rfl (.n rfl (.n rfl (.n rfl (.n rfl (.n rfl (.n rfl (.n rfl (.n rfl .nil))))))))))) ?_
    refine Px.sq ?_
    refine W.cnd rfl (fun hb4 => ?_) (fun hb4 => ?_)
    · replace h := cndT hb4 h
      refine W.sk ?_
      refine Px.sq ?_
      refine W.sq' ?_
      refine W.bk ?_
      refine W.sq' ?_
      obtain ⟨x5, hx5, h⟩ := bnd h
      obtain ⟨x6, hx6, h⟩ := bnd h
      refine W.rx [(0, _), (1, _), (2, _), (6, _), (9, _), (10, _), (11, _), (12, _), (13, _), (14, _)] (Rv (O.mv (.lit rfl)) <| Rc (PC.go (.cc (.lit rfl) .nil) (con52 s1.2.2 _ hx5) call52 rfl) <| Rv (O.cat (.k rfl) (.lit rfl) hx6) <| Rv (O.bu (cs := [SS x6, BB false, I64 0, I64 0]) sc91 ze91 rfl rfl rfl) <| Rv (O.al (cs := [SS ({ data := #[] }), BB false, I64 0, I64 0]) ze91 rfl rfl) <| RunL.sO (G2 := [(0, iR eI a0), (1, I64 a1), (2, I64 a2), (6, .obj [.nils, .nils, .nils, SS ({ data := #[] }), SS ({ data := #[] })]), (9, .obj [SS ({ data := #[] }), oR eDecl_0 s1.1, .nils, SS ({ data := #[] })]), (10, I64 (min (a0.length : Int) 9)), (11, .obj [SS ({ data := #[101] }), BB false, I64 0, I64 0, SS ({ data := #[] }), I64 0]), (12, .obj [SS ({ data := #[101] }), oR eAlt_0 s1.2.1, I64 0]), (13, I64 s1.2.2), (14, .obj [SS x6, BB false, I64 0, I64 0])]) (cs2 := [SS x6, BB false, I64 0, I64 0]) rfl (.obj rfl) (.aggF rfl rfl) rfl sz91 rfl rfl rfl rfl (.n rfl rfl (.n rfl rfl (.n rfl rfl (.n rfl rfl (.n rfl rfl (.n rfl rfl (.n rfl rfl (.n rfl rfl (.n rfl rfl (.b rfl .nil)))))))))) <| RunL.fin (.n rfl (.n rfl (.n rfl (.n rfl (.n rfl (.n rfl (.n rfl (.n rfl (.n rfl (.n rfl .nil))))))))))) ?_
      refine Px.sq ?_
      refine W.sq' ?_
      obtain ⟨x7, hx7, h⟩ := bnd h
      obtain ⟨x8, hx8, h⟩ := bnd h
      obtain ⟨x9, hx9, h⟩ := bnd h
      refine W.rd [[], [0], [], [], [2, 3], [2, 3, 4], [2, 3, 4, 5], rn 2 5 [], [], [8], rn 2 8 [], rn 2 9 [], rn 0 12 [], rn 0 13 [], rn 0 14 []] [(0, _), (1, _), (2, _), (6, _), (9, _), (10, _), (11, _), (12, _), (13, _), (14, _)] mixo (by kernel_rfl) (Dv 0 (O.fO rfl (.obj rfl) fd25_1 rfl) <| Dv 1 (O.ldO (y := .brw eDecl_0.z ⟨9, [1]⟩ s1.1.length) rfl (.ptr rfl) ct22 rfl rfl) <| Dv 2 (O.mv (.imm rfl)) <| Dv 3 (O.mv (.lit rfl)) <| Dv 4 (O.ixI (.imm rfl) (.lit rfl) sl27 hx7) <| Dv 5 (O.ldI (x := I64 x7) (.iptr rfl) ct3 rfl) <| Dc 6 (PC.go (.cc (.lit rfl) (.cc (.k rfl) .nil)) (con25 x7 3 _ hx8) call25 rfl) <| Dv 7 (O.add (.k rfl) (.lit rfl)) <| Dv 8 (O.ldON (cs' := [SS x6, BB false, I64 0, I64 0]) rfl (.obj rfl) at91 rfl rfl) <| DL.vi 9 (x := iR eSym [(⟨x6, false, 0, 0⟩ : Sym)]) (O.bs (ys := [.agg [SS x6, BB false, I64 0, I64 0]]) eSym [(⟨x6, false, 0, 0⟩ : Sym)] sl87 rfl rfl rfl rfl rfl rfl zt91 rfl rfl) rfl rfl rfl rfl .none <| Dv 10 (O.bu (cs := [I64 (w64 (2 + x8)), SS ({ data := #[] }), iR eSym [(⟨x6, false, 0, 0⟩ : Sym)], I64 0]) sc89 ze89 rfl rfl rfl) <| DL.vi 11 (x := iR eDecl_0 [(⟨w64 (2 + x8), { data := #[] }, [(⟨x6, false, 0, 0⟩ : Sym)], 0⟩ : Decl)]) (O.bs (ys := [.agg [I64 (w64 (2 + x8)), SS ({ data := #[] }), iR eSym [(⟨x6, false, 0, 0⟩ : Sym)], I64 0]]) eDecl_0 [(⟨w64 (2 + x8), { data := #[] }, [(⟨x6, false, 0, 0⟩ : Sym)], 0⟩ : Decl)] sl22 rfl rfl rfl rfl rfl rfl zt89 rfl rfl) rfl rfl rfl rfl .none <| Dv 12 (O.ap (en := eDecl_0) (r := x9) (.brw rfl) rfl (.imm rfl) .i ap22 rfl hx9) <| Dv 13 (O.fO rfl (.obj rfl) fd25_1 rfl) <| DL.bp 14 (G2 := [(0, iR eI a0), (1, I64 a1), (2, I64 a2), (6, .obj [.nils, .nils, .nils, SS ({ data := #[] }), SS ({ data := #[] })]), (9, .obj [SS ({ data := #[] }), oR eDecl_0 (s1.1 ++ [(⟨w64 (2 + x8), { data := #[] }, [(⟨x6, false, 0, 0⟩ : Sym)], 0⟩ : Decl)]), .nils, SS ({ data := #[] })]), (10, I64 (min (a0.length : Int) 9)), (11, .obj [SS ({ data := #[101] }), BB false, I64 0, I64 0, SS ({ data := #[] }), I64 0]), (12, .obj [SS ({ data := #[101] }), oR eAlt_0 s1.2.1, I64 0]), (13, I64 s1.2.2), (14, .obj [SS x6, BB false, I64 0, I64 0])]) (EO.stP (g1 := _) (en := eDecl_0) (M := [(⟨w64 (2 + x8), { data := #[] }, [(⟨x6, false, 0, 0⟩ : Sym)], 0⟩ : Decl)]) (cs2 := [SS ({ data := #[] }), oR eDecl_0 (s1.1 ++ [(⟨w64 (2 + x8), { data := #[] }, [(⟨x6, false, 0, 0⟩ : Sym)], 0⟩ : Decl)]), .nils, SS ({ data := #[] })]) rfl rfl (.ptr rfl) (.pend rfl) rfl rfl rfl .ns .rf rfl rfl sz22 rfl rfl rfl rfl (.n rfl rfl (.n rfl rfl (.n rfl rfl (.n rfl rfl (.b rfl (.n rfl rfl (.n rfl rfl (.n rfl rfl (.n rfl rfl (.n rfl rfl .nil))))))))))) rfl rfl rfl rfl (by kernel_rfl) (by kernel_rfl) <| DL.fin rfl rfl rfl (.n rfl (.n rfl (.n rfl (.n rfl (.n rfl (.n rfl (.n rfl (.n rfl (.n rfl (.n rfl .nil))))))))))) ?_
      refine Px.sq ?_
      obtain ⟨x10, hx10, h⟩ := bnd h
      refine W.rx [(0, _), (1, _), (2, _), (6, _), (9, _), (10, _), (11, _), (12, _), (13, _)] (Rv (O.fO rfl (.obj rfl) fd95_1 rfl) <| Rv (O.ldO (y := .brw eAlt_0.z ⟨12, [1]⟩ s1.2.1.length) rfl (.ptr rfl) ct93 rfl rfl) <| Rv (O.ldON (cs' := [SS ({ data := #[101] }), BB false, I64 0, I64 0, SS ({ data := #[] }), I64 0]) rfl (.obj rfl) at100 rfl rfl) <| Rv (O.ldON (cs' := [SS x6, BB false, I64 0, I64 0]) rfl (.obj rfl) at91 rfl rfl) <| Rv (O.bu (cs := [SS x6, BB false, I64 0, I64 0, SS ({ data := #[] }), I64 0]) sc100 ze100 rfl rfl rfl) <| Rv (O.ldON (cs' := [SS ({ data := #[101] }), BB false, I64 0, I64 0, SS ({ data := #[] }), I64 0]) rfl (.obj rfl) at100 rfl rfl) <| RunL.vi (x := iR ePart [(⟨(⟨{ data := #[101] }, false, 0, 0⟩ : Sym), { data := #[] }, 0⟩ : Part), (⟨(⟨x6, false, 0, 0⟩ : Sym), { data := #[] }, 0⟩ : Part), (⟨(⟨{ data := #[101] }, false, 0, 0⟩ : Sym), { data := #[] }, 0⟩ : Part)]) (O.bs (ys := [.agg [SS ({ data := #[101] }), BB false, I64 0, I64 0, SS ({ data := #[] }), I64 0], .agg [SS x6, BB false, I64 0, I64 0, SS ({ data := #[] }), I64 0], .agg [SS ({ data := #[101] }), BB false, I64 0, I64 0, SS ({ data := #[] }), I64 0]]) ePart [(⟨(⟨{ data := #[101] }, false, 0, 0⟩ : Sym), { data := #[] }, 0⟩ : Part), (⟨(⟨x6, false, 0, 0⟩ : Sym), { data := #[] }, 0⟩ : Part), (⟨(⟨{ data := #[101] }, false, 0, 0⟩ : Sym), { data := #[] }, 0⟩ : Part)] sl96 rfl rfl rfl rfl rfl rfl zt100 rfl rfl) rfl rfl .none <| Rv (O.bu (cs := [iR ePart [(⟨(⟨{ data := #[101] }, false, 0, 0⟩ : Sym), { data := #[] }, 0⟩ : Part), (⟨(⟨x6, false, 0, 0⟩ : Sym), { data := #[] }, 0⟩ : Part), (⟨(⟨{ data := #[101] }, false, 0, 0⟩ : Sym), { data := #[] }, 0⟩ : Part)], SS ({ data := #[] }), BB false, I64 0, I64 0, I64 0]) sc98 ze98 rfl rfl rfl) <| RunL.vi (x := iR eAlt_0 [(⟨[(⟨(⟨{ data := #[101] }, false, 0, 0⟩ : Sym), { data := #[] }, 0⟩ : Part), (⟨(⟨x6, false, 0, 0⟩ : Sym), { data := #[] }, 0⟩ : Part), (⟨(⟨{ data := #[101] }, false, 0, 0⟩ : Sym), { data := #[] }, 0⟩ : Part)], (⟨{ data := #[] }, false, 0, 0⟩ : Sym), 0⟩ : Alt)]) (O.bs (ys := [.agg [iR ePart [(⟨(⟨{ data := #[101] }, false, 0, 0⟩ : Sym), { data := #[] }, 0⟩ : Part), (⟨(⟨x6, false, 0, 0⟩ : Sym), { data := #[] }, 0⟩ : Part), (⟨(⟨{ data := #[101] }, false, 0, 0⟩ : Sym), { data := #[] }, 0⟩ : Part)], SS ({ data := #[] }), BB false, I64 0, I64 0, I64 0]]) eAlt_0 [(⟨[(⟨(⟨{ data := #[101] }, false, 0, 0⟩ : Sym), { data := #[] }, 0⟩ : Part), (⟨(⟨x6, false, 0, 0⟩ : Sym), { data := #[] }, 0⟩ : Part), (⟨(⟨{ data := #[101] }, false, 0, 0⟩ : Sym), { data := #[] }, 0⟩ : Part)], (⟨{ data := #[] }, false, 0, 0⟩ : Sym), 0⟩ : Alt)] sl93 rfl rfl rfl rfl rfl rfl zt98 rfl rfl) rfl rfl .none <| Rv (O.ap (en := eAlt_0) (r := x10) (.brw rfl) rfl (.imm rfl) .i ap93 rfl hx10) <| Rv (O.fO rfl (.obj rfl) fd95_1 rfl) <| RunL.ef (G2 := [(0, iR eI a0), (1, I64 a1), (2, I64 a2), (6, .obj [.nils, .nils, .nils, SS ({ data := #[] }), SS ({ data := #[] })]), (9, .obj [SS ({ data := #[] }), oR eDecl_0 (s1.1 ++ [(⟨w64 (2 + x8), { data := #[] }, [(⟨x6, false, 0, 0⟩ : Sym)], 0⟩ : Decl)]), .nils, SS ({ data := #[] })]), (10, I64 (min (a0.length : Int) 9)), (11, .obj [SS ({ data := #[101] }), BB false, I64 0, I64 0, SS ({ data := #[] }), I64 0]), (12, .obj [SS ({ data := #[101] }), oR eAlt_0 (s1.2.1 ++ [(⟨[(⟨(⟨{ data := #[101] }, false, 0, 0⟩ : Sym), { data := #[] }, 0⟩ : Part), (⟨(⟨x6, false, 0, 0⟩ : Sym), { data := #[] }, 0⟩ : Part), (⟨(⟨{ data := #[101] }, false, 0, 0⟩ : Sym), { data := #[] }, 0⟩ : Part)], (⟨{ data := #[] }, false, 0, 0⟩ : Sym), 0⟩ : Alt)]), I64 0]), (13, I64 s1.2.2)]) rfl (EO.stP (g1 := _) (en := eAlt_0) (M := [(⟨[(⟨(⟨{ data := #[101] }, false, 0, 0⟩ : Sym), { data := #[] }, 0⟩ : Part), (⟨(⟨x6, false, 0, 0⟩ : Sym), { data := #[] }, 0⟩ : Part), (⟨(⟨{ data := #[101] }, false, 0, 0⟩ : Sym), { data := #[] }, 0⟩ : Part)], (⟨{ data := #[] }, false, 0, 0⟩ : Sym), 0⟩ : Alt)]) (cs2 := [SS ({ data := #[101] }), oR eAlt_0 (s1.2.1 ++ [(⟨[(⟨(⟨{ data := #[101] }, false, 0, 0⟩ : Sym), { data := #[] }, 0⟩ : Part), (⟨(⟨x6, false, 0, 0⟩ : Sym), { data := #[] }, 0⟩ : Part), (⟨(⟨{ data := #[101] }, false, 0, 0⟩ : Sym), { data := #[] }, 0⟩ : Part)], (⟨{ data := #[] }, false, 0, 0⟩ : Sym), 0⟩ : Alt)]), I64 0]) rfl rfl (.ptr rfl) (.pend rfl) rfl rfl rfl .ns .rf rfl rfl sz93 rfl rfl rfl rfl (.n rfl rfl (.n rfl rfl (.n rfl rfl (.n rfl rfl (.n rfl rfl (.n rfl rfl (.n rfl rfl (.b rfl (.n rfl rfl .nil)))))))))) <| RunL.fin (.n rfl (.n rfl (.n rfl (.n rfl (.n rfl (.n rfl (.n rfl (.n rfl (.n rfl .nil)))))))))) ?_
      refine Px.bk ?_
      refine Px.sq ?_
      refine W.rx [(0, _), (1, _), (2, _), (6, _), (9, _), (10, _), (11, _), (12, _), (13, _)] (Rv (O.mv (.lit rfl)) <| Rv (O.add (.lit rfl) (.k rfl)) <| RunL.re (G1 := [(0, iR eI a0), (1, I64 a1), (2, I64 a2), (6, .obj [.nils, .nils, .nils, SS ({ data := #[] }), SS ({ data := #[] })]), (9, .obj [SS ({ data := #[] }), oR eDecl_0 (s1.1 ++ [(⟨w64 (2 + x8), { data := #[] }, [(⟨x6, false, 0, 0⟩ : Sym)], 0⟩ : Decl)]), .nils, SS ({ data := #[] })]), (10, I64 (min (a0.length : Int) 9)), (11, .obj [SS ({ data := #[101] }), BB false, I64 0, I64 0, SS ({ data := #[] }), I64 0]), (12, .obj [SS ({ data := #[101] }), oR eAlt_0 (s1.2.1 ++ [(⟨[(⟨(⟨{ data := #[101] }, false, 0, 0⟩ : Sym), { data := #[] }, 0⟩ : Part), (⟨(⟨x6, false, 0, 0⟩ : Sym), { data := #[] }, 0⟩ : Part), (⟨(⟨{ data := #[101] }, false, 0, 0⟩ : Sym), { data := #[] }, 0⟩ : Part)], (⟨{ data := #[] }, false, 0, 0⟩ : Sym), 0⟩ : Alt)]), I64 0]), (27, I64 (w64 (s1.2.2 + 1)))]) (.n rfl (.n rfl (.n rfl (.n rfl (.n rfl (.n rfl (.n rfl (.n rfl (.n rfl .nil))))))))) <| Rv (O.as (.lit rfl)) <| RunL.fin (.n rfl (.n rfl (.n rfl (.n rfl (.n rfl (.n rfl (.n rfl (.n rfl (.n rfl .nil)))))))))) ?_
      obtain rfl := sm h
      exact Px.go (.n rfl (.n rfl (.n rfl (.n rfl (.n rfl (.n rfl (.n rfl (.n rfl (.n rfl .nil)))))))))
    · replace h := cndF hb4 h
      refine W.xi ?_
      refine Px.sqE ?_
      obtain rfl := sm h
      exact Px.x1 (.n rfl (.n rfl (.n rfl (.n rfl (.n rfl (.n rfl (.n rfl .nil)))))))
  refine Px.bkH ?_
  refine Px.sq ?_
  refine W.sq' ?_
  obtain ⟨x11, hx11, h⟩ := bnd h
  refine W.rx [(1, _), (2, _), (6, _), (9, _), (10, _), (11, _), (12, _)] (Rv (O.fO rfl (.obj rfl) fd95_1 rfl) <| Rv (O.ldO (y := .brw eAlt_0.z ⟨12, [1]⟩ x2.2.length) rfl (.ptr rfl) ct93 rfl rfl) <| Rv (O.bu (cs := [SS ({ data := #[120] }), BB true, I64 0, I64 0]) sc91 ze91 rfl rfl rfl) <| Rv (O.bu (cs := [SS ({ data := #[120] }), BB true, I64 0, I64 0, SS ({ data := #[] }), I64 0]) sc100 ze100 rfl rfl rfl) <| RunL.vi (x := iR ePart [(⟨(⟨{ data := #[120] }, true, 0, 0⟩ : Sym), { data := #[] }, 0⟩ : Part)]) (O.bs (ys := [.agg [SS ({ data := #[120] }), BB true, I64 0, I64 0, SS ({ data := #[] }), I64 0]]) ePart [(⟨(⟨{ data := #[120] }, true, 0, 0⟩ : Sym), { data := #[] }, 0⟩ : Part)] sl96 rfl rfl rfl rfl rfl rfl zt100 rfl rfl) rfl rfl .none <| Rv (O.bu (cs := [iR ePart [(⟨(⟨{ data := #[120] }, true, 0, 0⟩ : Sym), { data := #[] }, 0⟩ : Part)], SS ({ data := #[] }), BB false, I64 0, I64 0, I64 0]) sc98 ze98 rfl rfl rfl) <| RunL.vi (x := iR eAlt_0 [(⟨[(⟨(⟨{ data := #[120] }, true, 0, 0⟩ : Sym), { data := #[] }, 0⟩ : Part)], (⟨{ data := #[] }, false, 0, 0⟩ : Sym), 0⟩ : Alt)]) (O.bs (ys := [.agg [iR ePart [(⟨(⟨{ data := #[120] }, true, 0, 0⟩ : Sym), { data := #[] }, 0⟩ : Part)], SS ({ data := #[] }), BB false, I64 0, I64 0, I64 0]]) eAlt_0 [(⟨[(⟨(⟨{ data := #[120] }, true, 0, 0⟩ : Sym), { data := #[] }, 0⟩ : Part)], (⟨{ data := #[] }, false, 0, 0⟩ : Sym), 0⟩ : Alt)] sl93 rfl rfl rfl rfl rfl rfl zt98 rfl rfl) rfl rfl .none <| Rv (O.ap (en := eAlt_0) (r := x11) (.brw rfl) rfl (.imm rfl) .i ap93 rfl hx11) <| Rv (O.fO rfl (.obj rfl) fd95_1 rfl) <| RunL.ef (G2 := [(1, I64 a1), (2, I64 a2), (6, .obj [.nils, .nils, .nils, SS ({ data := #[] }), SS ({ data := #[] })]), (9, .obj [SS ({ data := #[] }), oR eDecl_0 x2.1, .nils, SS ({ data := #[] })]), (10, I64 (min (a0.length : Int) 9)), (11, .obj [SS ({ data := #[101] }), BB false, I64 0, I64 0, SS ({ data := #[] }), I64 0]), (12, .obj [SS ({ data := #[101] }), oR eAlt_0 (x2.2 ++ [(⟨[(⟨(⟨{ data := #[120] }, true, 0, 0⟩ : Sym), { data := #[] }, 0⟩ : Part)], (⟨{ data := #[] }, false, 0, 0⟩ : Sym), 0⟩ : Alt)]), I64 0])]) rfl (EO.stP (g1 := _) (en := eAlt_0) (M := [(⟨[(⟨(⟨{ data := #[120] }, true, 0, 0⟩ : Sym), { data := #[] }, 0⟩ : Part)], (⟨{ data := #[] }, false, 0, 0⟩ : Sym), 0⟩ : Alt)]) (cs2 := [SS ({ data := #[101] }), oR eAlt_0 (x2.2 ++ [(⟨[(⟨(⟨{ data := #[120] }, true, 0, 0⟩ : Sym), { data := #[] }, 0⟩ : Part)], (⟨{ data := #[] }, false, 0, 0⟩ : Sym), 0⟩ : Alt)]), I64 0]) rfl rfl (.ptr rfl) (.pend rfl) rfl rfl rfl .ns .rf rfl rfl sz93 rfl rfl rfl rfl (.n rfl rfl (.n rfl rfl (.n rfl rfl (.n rfl rfl (.n rfl rfl (.n rfl rfl (.b rfl .nil)))))))) <| RunL.fin (.n rfl (.n rfl (.n rfl (.n rfl (.n rfl (.n rfl (.n rfl .nil)))))))) ?_
  refine Px.sq ?_
  refine W.sq' ?_
  refine W.sq' ?_
  refine W.rx [(1, _), (2, _), (6, _), (9, _), (10, _), (11, _), (12, _), (67, _)] (Rv (O.mv (.lit rfl)) <| Rv (O.gtr (.lit rfl) (.k rfl)) <| RunL.fin (.n rfl (.n rfl (.n rfl (.n rfl (.n rfl (.n rfl (.n rfl (.n rfl .nil))))))))) ?_
  refine Px.sq ?_
  obtain ⟨j12, hj, h⟩ := bnd h
  refine W.jn [(6, .obj [.nils, .nils, .nils, SS ({ data := #[] }), SS ({ data := #[] })]), (9, .obj [SS ({ data := #[] }), oR eDecl_0 x2.1, .nils, SS ({ data := #[] })]), (10, I64 (min (a0.length : Int) 9)), (12, .obj [SS ({ data := #[101] }), oR eAlt_0 j12, I64 0])] ?_ ?_
  · clear h; have h := hj; clear hj
    refine W.cnd rfl (fun hb13 => ?_) (fun hb13 => ?_)
    · replace h := cndT hb13 h
      obtain ⟨x14, hx14, h⟩ := bnd h
      obtain ⟨x15, hx15, h⟩ := bnd h
      obtain ⟨x16, hx16, h⟩ := bnd h
      obtain ⟨x17, hx17, h⟩ := bnd h
      obtain ⟨x18, hx18, h⟩ := bnd h
      refine W.rd [[], [0], [], [2], [2, 3], [2, 3, 4], [2, 3, 4, 5], [], rn 2 6 [], [], [2, 3, 9], [2, 3, 9, 10], [2, 3, 9, 10, 11], rn 2 11 [], rn 2 12 [], rn 0 15 [], rn 0 16 [], rn 0 17 []] [(6, _), (9, _), (10, _), (12, _)] mixo (by kernel_rfl) (Dv 0 (O.fO rfl (.obj rfl) fd95_1 rfl) <| Dv 1 (O.ldO (y := .brw eAlt_0.z ⟨12, [1]⟩ (x2.2 ++ [(⟨[(⟨(⟨{ data := #[120] }, true, 0, 0⟩ : Sym), { data := #[] }, 0⟩ : Part)], (⟨{ data := #[] }, false, 0, 0⟩ : Sym), 0⟩ : Alt)]).length) rfl (.ptr rfl) ct93 rfl rfl) <| Dv 2 (O.mv (.lit rfl)) <| Dc 3 (PC.go (.cc (.lit rfl) .nil) (con52 a1 _ hx14) call52 rfl) <| Dv 4 (O.cat (.k rfl) (.lit rfl) hx15) <| Dv 5 (O.bu (cs := [SS x15, BB false, I64 0, I64 0]) sc91 ze91 rfl rfl rfl) <| Dv 6 (O.bu (cs := [SS x15, BB false, I64 0, I64 0, SS ({ data := #[] }), I64 0]) sc100 ze100 rfl rfl rfl) <| Dv 7 (O.ldON (cs' := [SS ({ data := #[101] }), BB false, I64 0, I64 0, SS ({ data := #[] }), I64 0]) rfl (.obj rfl) at100 rfl rfl) <| DL.vi 8 (x := iR ePart [(⟨(⟨x15, false, 0, 0⟩ : Sym), { data := #[] }, 0⟩ : Part), (⟨(⟨{ data := #[101] }, false, 0, 0⟩ : Sym), { data := #[] }, 0⟩ : Part)]) (O.bs (ys := [.agg [SS x15, BB false, I64 0, I64 0, SS ({ data := #[] }), I64 0], .agg [SS ({ data := #[101] }), BB false, I64 0, I64 0, SS ({ data := #[] }), I64 0]]) ePart [(⟨(⟨x15, false, 0, 0⟩ : Sym), { data := #[] }, 0⟩ : Part), (⟨(⟨{ data := #[101] }, false, 0, 0⟩ : Sym), { data := #[] }, 0⟩ : Part)] sl96 rfl rfl rfl rfl rfl rfl zt100 rfl rfl) rfl rfl rfl rfl .none <| Dv 9 (O.mv (.lit rfl)) <| Dc 10 (PC.go (.cc (.lit rfl) .nil) (con52 a2 _ hx16) call52 rfl) <| Dv 11 (O.cat (.k rfl) (.lit rfl) hx17) <| Dv 12 (O.bu (cs := [SS x17, BB false, I64 0, I64 0]) sc91 ze91 rfl rfl rfl) <| Dv 13 (O.bu (cs := [iR ePart [(⟨(⟨x15, false, 0, 0⟩ : Sym), { data := #[] }, 0⟩ : Part), (⟨(⟨{ data := #[101] }, false, 0, 0⟩ : Sym), { data := #[] }, 0⟩ : Part)], SS x17, BB false, I64 0, I64 0, I64 0]) sc98 ze98 rfl rfl rfl) <| DL.vi 14 (x := iR eAlt_0 [(⟨[(⟨(⟨x15, false, 0, 0⟩ : Sym), { data := #[] }, 0⟩ : Part), (⟨(⟨{ data := #[101] }, false, 0, 0⟩ : Sym), { data := #[] }, 0⟩ : Part)], (⟨x17, false, 0, 0⟩ : Sym), 0⟩ : Alt)]) (O.bs (ys := [.agg [iR ePart [(⟨(⟨x15, false, 0, 0⟩ : Sym), { data := #[] }, 0⟩ : Part), (⟨(⟨{ data := #[101] }, false, 0, 0⟩ : Sym), { data := #[] }, 0⟩ : Part)], SS x17, BB false, I64 0, I64 0, I64 0]]) eAlt_0 [(⟨[(⟨(⟨x15, false, 0, 0⟩ : Sym), { data := #[] }, 0⟩ : Part), (⟨(⟨{ data := #[101] }, false, 0, 0⟩ : Sym), { data := #[] }, 0⟩ : Part)], (⟨x17, false, 0, 0⟩ : Sym), 0⟩ : Alt)] sl93 rfl rfl rfl rfl rfl rfl zt98 rfl rfl) rfl rfl rfl rfl .none <| Dv 15 (O.ap (en := eAlt_0) (r := x18) (.brw rfl) rfl (.imm rfl) .i ap93 rfl hx18) <| Dv 16 (O.fO rfl (.obj rfl) fd95_1 rfl) <| DL.bp 17 (G2 := [(6, .obj [.nils, .nils, .nils, SS ({ data := #[] }), SS ({ data := #[] })]), (9, .obj [SS ({ data := #[] }), oR eDecl_0 x2.1, .nils, SS ({ data := #[] })]), (10, I64 (min (a0.length : Int) 9)), (12, .obj [SS ({ data := #[101] }), oR eAlt_0 ((x2.2 ++ [(⟨[(⟨(⟨{ data := #[120] }, true, 0, 0⟩ : Sym), { data := #[] }, 0⟩ : Part)], (⟨{ data := #[] }, false, 0, 0⟩ : Sym), 0⟩ : Alt)]) ++ [(⟨[(⟨(⟨x15, false, 0, 0⟩ : Sym), { data := #[] }, 0⟩ : Part), (⟨(⟨{ data := #[101] }, false, 0, 0⟩ : Sym), { data := #[] }, 0⟩ : Part)], (⟨x17, false, 0, 0⟩ : Sym), 0⟩ : Alt)]), I64 0])]) (EO.stP (g1 := _) (en := eAlt_0) (M := [(⟨[(⟨(⟨x15, false, 0, 0⟩ : Sym), { data := #[] }, 0⟩ : Part), (⟨(⟨{ data := #[101] }, false, 0, 0⟩ : Sym), { data := #[] }, 0⟩ : Part)], (⟨x17, false, 0, 0⟩ : Sym), 0⟩ : Alt)]) (cs2 := [SS ({ data := #[101] }), oR eAlt_0 ((x2.2 ++ [(⟨[(⟨(⟨{ data := #[120] }, true, 0, 0⟩ : Sym), { data := #[] }, 0⟩ : Part)], (⟨{ data := #[] }, false, 0, 0⟩ : Sym), 0⟩ : Alt)]) ++ [(⟨[(⟨(⟨x15, false, 0, 0⟩ : Sym), { data := #[] }, 0⟩ : Part), (⟨(⟨{ data := #[101] }, false, 0, 0⟩ : Sym), { data := #[] }, 0⟩ : Part)], (⟨x17, false, 0, 0⟩ : Sym), 0⟩ : Alt)]), I64 0]) rfl rfl (.ptr rfl) (.pend rfl) rfl rfl rfl .ns .rf rfl rfl sz93 rfl rfl rfl rfl (.n rfl rfl (.n rfl rfl (.n rfl rfl (.b rfl .nil))))) rfl rfl rfl rfl (by kernel_rfl) (by kernel_rfl) <| DL.fin rfl rfl rfl (.n rfl (.n rfl (.n rfl (.n rfl .nil))))) ?_
      obtain rfl := sm h
      exact Px.jn (.n rfl (.n rfl (.n rfl (.n rfl .nil))))
    · replace h := cndF hb13 h
      refine W.sk ?_
      obtain rfl := sm h
      exact Px.jn (.n rfl (.n rfl (.n rfl (.n rfl .nil))))
  refine Px.sq ?_
  refine W.sq' ?_
  refine W.fz (G1 := [(6, .obj [.nils, .nils, .nils, SS ({ data := #[] }), SS ({ data := #[] })]), (9, .obj [SS ({ data := #[] }), oR eDecl_0 x2.1, .nils, SS ({ data := #[] })]), (10, I64 (min (a0.length : Int) 9)), (12, .obj [SS ({ data := #[101] }), iR eAlt_0 j12, I64 0])]) [12] (.n rfl rfl (.n rfl rfl (.n rfl rfl (.z rfl rfl (FzL.obj (.f (.z (.f .nil)))) .nil)))) ?_
  refine W.rx [(6, _), (9, _), (10, _)] (Rv (O.ldON (cs' := [SS ({ data := #[101] }), iR eAlt_0 j12, I64 0]) rfl (.obj rfl) at95 rfl rfl) <| Rv (O.bs (ys := [.agg [SS ({ data := #[101] }), iR eAlt_0 j12, I64 0]]) eRule_0 [(⟨{ data := #[101] }, j12, 0⟩ : Rule)] sl23 rfl rfl rfl rfl rfl rfl zt95 rfl rfl) <| Rv (O.fO rfl (.obj rfl) fd25_2 rfl) <| RunL.ef (G2 := [(6, .obj [.nils, .nils, .nils, SS ({ data := #[] }), SS ({ data := #[] })]), (9, .obj [SS ({ data := #[] }), oR eDecl_0 x2.1, oR eRule_0 [(⟨{ data := #[101] }, j12, 0⟩ : Rule)], SS ({ data := #[] })]), (10, I64 (min (a0.length : Int) 9))]) rfl (EO.stB (y' := oR eRule_0 [(⟨{ data := #[101] }, j12, 0⟩ : Rule)]) (cs2 := [SS ({ data := #[] }), oR eDecl_0 x2.1, oR eRule_0 [(⟨{ data := #[101] }, j12, 0⟩ : Rule)], SS ({ data := #[] })]) rfl rfl (.ptr rfl) (.own rfl) (.r rfl .nil) .refl rfl sz23 rfl rfl rfl rfl rfl (.n rfl rfl (.b rfl (.n rfl rfl .nil)))) <| RunL.fin (.n rfl (.n rfl (.n rfl .nil)))) ?_
  refine Px.sq ?_
  refine W.sq' ?_
  refine W.fz (G1 := [(6, .obj [.nils, .nils, .nils, SS ({ data := #[] }), SS ({ data := #[] })]), (9, .obj [SS ({ data := #[] }), iR eDecl_0 x2.1, iR eRule_0 [(⟨{ data := #[101] }, j12, 0⟩ : Rule)], SS ({ data := #[] })]), (10, I64 (min (a0.length : Int) 9))]) [9] (.n rfl rfl (.z rfl rfl (FzL.obj (.f (.z (.z (.f .nil))))) (.n rfl rfl .nil))) ?_
  obtain ⟨x19, hx19, h⟩ := bnd h
  refine W.rx [(6, _), (10, _), (15, _), (16, _)] (Rv (O.ldON (cs' := [SS ({ data := #[] }), iR eDecl_0 x2.1, iR eRule_0 [(⟨{ data := #[101] }, j12, 0⟩ : Rule)], SS ({ data := #[] })]) rfl (.obj rfl) at25 rfl rfl) <| Rc (PC.go (.cc (.aggF rfl rfl) .nil) (con18 (⟨{ data := #[] }, x2.1, [(⟨{ data := #[101] }, j12, 0⟩ : Rule)], { data := #[] }⟩ : Source) _ hx19) call18 rfl) <| Rv (O.mv (.tup rfl rfl)) <| Rv (O.ex (y := .agg (eGrammar_0.cells x19.1)) rfl rfl rfl) <| Rv (O.ex (y := BB x19.2) rfl rfl rfl) <| Rv (O.al (cs := [.nils, .nils, .nils, SS ({ data := #[] }), SS ({ data := #[] })]) ze38 rfl rfl) <| RunL.sO (G2 := [(6, .obj [.nils, .nils, .nils, SS ({ data := #[] }), SS ({ data := #[] })]), (10, I64 (min (a0.length : Int) 9)), (15, .obj (eGrammar_0.cells x19.1)), (92, BB x19.2)]) (cs2 := [iR eTok x19.1.Toks, iR eNon x19.1.Nons, iR eProd_0 x19.1.Prods, SS x19.1.Pro, SS x19.1.Tail]) rfl (.obj rfl) (.aggF rfl rfl) rfl sz38 rfl rfl rfl rfl (.n rfl rfl (.n rfl rfl (.b rfl (.n rfl rfl .nil)))) <| Rv (O.as (.lit rfl)) <| RunL.fin (.n rfl (.n rfl (.n rfl (.n rfl .nil))))) ?_
  refine Px.sq ?_
  refine W.sq' ?_
  refine W.rx [(6, _), (7, _), (8, _)] (Rv (O.ldON (cs' := [iR eTok x19.1.Toks, iR eNon x19.1.Nons, iR eProd_0 x19.1.Prods, SS x19.1.Pro, SS x19.1.Tail]) rfl (.obj rfl) at38 rfl rfl) <| Rv (O.mv (.lit rfl)) <| Rv (O.mv (.lit rfl)) <| RunL.sO (G2 := [(6, .obj (eGrammar_0.cells x19.1)), (94, I64 (min (a0.length : Int) 9)), (95, BB x19.2)]) (cs2 := [iR eTok x19.1.Toks, iR eNon x19.1.Nons, iR eProd_0 x19.1.Prods, SS x19.1.Pro, SS x19.1.Tail]) rfl (.obj rfl) (.aggF rfl rfl) rfl sz38 rfl rfl rfl rfl (.b rfl (.n rfl rfl (.n rfl rfl .nil))) <| Rv (O.as (.lit rfl)) <| Rv (O.as (.lit rfl)) <| RunL.fin (.n rfl (.n rfl (.n rfl .nil)))) ?_
  refine Px.sq ?_
  refine W.rt ?_
  obtain rfl := sm h
  exact Px.fin (Fin.ro (.c (ys0 := [iR eTok x19.1.Toks, iR eNon x19.1.Nons, iR eProd_0 x19.1.Prods, SS x19.1.Pro, SS x19.1.Tail]) rfl at38 rfl rfl rfl (.f rfl (.f rfl (.f rfl (.f rfl (.f rfl .nil))))) (.f rfl rfl (.f rfl rfl .nil))) rfl (of_decide_eq_true (by kernel_rfl)) (.no (.no (.no .nil))) rfl (.inr rfl))
def pf24 (a0 : (List Int)) (a1 : Int) (a2 : Int) : Option (Int) :=
 (bif decide (a1 < a2) then
 some 1
 else
 (bif decide (a2 < a1) then
 some 2
 else
 (idx a0 a1).bind fun x3 =>
 (pf25 x3 3).bind fun x4 =>
 (idx [2, 1, 3] x4).bind fun x5 =>
 some x5))
theorem con24 (a0 : (List Int)) (a1 : Int) (a2 : Int) (r : Int) (h : pf24 a0 a1 a2 = some r) : Con Try.prog 24 [iR eI a0, I64 a1, I64 a2] [none, none, none] (I64 r) := by
  unfold pf24 at h
  refine Con.go (N := ⟨23, []⟩) Try.func24 rfl rfl rfl rfl (W.fin ?_)
  refine W.st [(0, iR eI a0), (1, I64 a1), (2, I64 a2)] ?_
  refine W.sq' ?_
  refine W.rx [(0, _), (1, _), (2, _)] (Rv (O.as (.k rfl)) <| RunL.fin (.n rfl (.n rfl (.n rfl .nil)))) ?_
  refine Px.sq ?_
  refine W.sq' ?_
  refine W.bk ?_
  refine W.sq' ?_
  refine W.rx [(0, _), (1, _), (2, _), (7, _)] (Rv (O.mv (.lit rfl)) <| Rv (O.mv (.lit rfl)) <| Rv (O.lss (.lit rfl) (.lit rfl)) <| Rv (O.as (.lit rfl)) <| RunL.fin (.n rfl (.n rfl (.n rfl (.n rfl .nil))))) ?_
  refine Px.sq ?_
  refine W.cnd rfl (fun hb1 => ?_) (fun hb1 => ?_)
  · replace h := cndT hb1 h
    refine W.sq' ?_
    refine W.rx [(6, _)] (Rv (O.as (.k rfl)) <| RunL.fin (.n rfl .nil)) ?_
    refine Px.sq ?_
    refine W.rt ?_
    refine Px.bkR ?_
    refine Px.sqR ?_
    obtain rfl := sm h
    exact Px.fin (Fin.ro (.f rfl rfl .nil) rfl (of_decide_eq_true (by kernel_rfl)) (.no (.no (.no .nil))) rfl (.inr rfl))
  · replace h := cndF hb1 h
    refine W.sq' ?_
    refine W.rx [(0, _), (1, _), (11, _)] (Rv (O.mv (.lit rfl)) <| Rv (O.mv (.lit rfl)) <| Rv (O.gtr (.lit rfl) (.lit rfl)) <| Rv (O.as (.lit rfl)) <| RunL.fin (.n rfl (.n rfl (.n rfl .nil)))) ?_
    refine Px.sq ?_
    refine W.cnd rfl (fun hb2 => ?_) (fun hb2 => ?_)
    · replace h := cndT hb2 h
      refine W.sq' ?_
      refine W.rx [(6, _)] (Rv (O.as (.k rfl)) <| RunL.fin (.n rfl .nil)) ?_
      refine Px.sq ?_
      refine W.rt ?_
      refine Px.bkR ?_
      refine Px.sqR ?_
      obtain rfl := sm h
      exact Px.fin (Fin.ro (.f rfl rfl .nil) rfl (of_decide_eq_true (by kernel_rfl)) (.no (.no (.no .nil))) rfl (.inr rfl))
    · replace h := cndF hb2 h
      refine W.sk ?_
      refine Px.bk ?_
      refine Px.sq ?_
      refine W.sq' ?_
      obtain ⟨x3, hx3, h⟩ := bnd h
      obtain ⟨x4, hx4, h⟩ := bnd h
      obtain ⟨x5, hx5, h⟩ := bnd h
      refine W.rx [(6, _)] (RunL.vi (x := iR eI [2, 1, 3]) (O.bs (ys := [I64 2, I64 1, I64 3]) eI [2, 1, 3] sl27 rfl rfl rfl rfl rfl rfl zt3 rfl rfl) rfl rfl .none <| Rv (O.mv (.imm rfl)) <| Rv (O.mv (.lit rfl)) <| Rv (O.ixI (.imm rfl) (.lit rfl) sl27 hx3) <| Rv (O.ldI (x := I64 x3) (.iptr rfl) ct3 rfl) <| Rc (PC.go (.cc (.lit rfl) (.cc (.k rfl) .nil)) (con25 x3 3 _ hx4) call25 rfl) <| Rv (O.ixI (.imm rfl) (.lit rfl) sl27 hx5) <| Rv (O.ldI (x := I64 x5) (.iptr rfl) ct3 rfl) <| Rv (O.as (.lit rfl)) <| RunL.fin (.n rfl .nil)) ?_
      refine Px.sq ?_
      refine W.rt ?_
      obtain rfl := sm h
      exact Px.fin (Fin.ro (.f rfl rfl .nil) rfl (of_decide_eq_true (by kernel_rfl)) (.no (.no (.no .nil))) rfl (.inr rfl))
def pf15  : Option (Bool) :=
 (pf23 [0, 0] 0 1).bind fun x1 =>
 (pf19 x1.1 2).bind fun x2 =>
 (pf19 x1.1 9).bind fun x3 =>
 ((bif x1.2.2 then (bif decide (x2.1 = 2) then (bif decide (x2.2 = 1) then (bif decide (x3.1 = 0) then (bif decide (x3.2 = 0) then ((pf21 x1.1 2 3).bind fun x9 => (bif decide (x9 = 2) then ((pf21 x1.1 1 4).bind fun x11 => (bif decide (x11 = 1) then ((pf21 x1.1 3 3).bind fun x13 => some (decide (x13 = 0))) else some false)) else some false)) else some false) else some false) else some false) else some false) else some false)).bind fun c14 =>
 some c14
theorem con15  (r : Bool) (h : pf15  = some r) : Con Try.prog 15 [] [] (BB r) := by
  unfold pf15 at h
  refine Con.go (N := ⟨56, []⟩) Try.func15 rfl rfl rfl rfl (W.fin ?_)
  refine W.st [] ?_
  refine W.sq' ?_
  refine W.rx [] (Rv (O.as (.k rfl)) <| RunL.fin .nil) ?_
  refine Px.sq ?_
  refine W.sq' ?_
  obtain ⟨x1, hx1, h⟩ := bnd h
  refine W.rx [(1, _), (3, _)] (RunL.vi (x := iR eI [0, 0]) (O.bs (ys := [I64 0, I64 0]) eI [0, 0] sl27 rfl rfl rfl rfl rfl rfl zt3 rfl rfl) rfl rfl .none <| Rc (PC.go (.cc (.imm rfl) (.cc (.k rfl) (.cc (.k rfl) .nil))) (con23 [0, 0] 0 1 _ hx1) call23 rfl) <| Rv (O.mv (.tup rfl rfl)) <| Rv (O.ex (y := .agg (eGrammar_0.cells x1.1)) rfl rfl rfl) <| Rv (O.ex (y := I64 x1.2.1) rfl rfl rfl) <| Rv (O.ex (y := BB x1.2.2) rfl rfl rfl) <| Rv (O.al (cs := [.nils, .nils, .nils, SS ({ data := #[] }), SS ({ data := #[] })]) ze38 rfl rfl) <| RunL.sO (G2 := [(1, .obj (eGrammar_0.cells x1.1)), (12, I64 x1.2.1), (13, BB x1.2.2)]) (cs2 := [iR eTok x1.1.Toks, iR eNon x1.1.Nons, iR eProd_0 x1.1.Prods, SS x1.1.Pro, SS x1.1.Tail]) rfl (.obj rfl) (.aggF rfl rfl) rfl sz38 rfl rfl rfl rfl (.b rfl (.n rfl rfl (.n rfl rfl .nil))) <| Rv (O.as (.lit rfl)) <| Rv (O.as (.lit rfl)) <| RunL.fin (.n rfl (.n rfl .nil))) ?_
  refine Px.sq ?_
  refine W.sq' ?_
  obtain ⟨x2, hx2, h⟩ := bnd h
  refine W.rx [(1, _), (3, _), (4, _), (5, _)] (Rv (O.ldON (cs' := [iR eTok x1.1.Toks, iR eNon x1.1.Nons, iR eProd_0 x1.1.Prods, SS x1.1.Pro, SS x1.1.Tail]) rfl (.obj rfl) at38 rfl rfl) <| Rc (PC.go (.cc (.aggF rfl rfl) (.cc (.k rfl) .nil)) (con19 x1.1 2 _ hx2) call19 rfl) <| Rv (O.mv (.tupF rfl rfl)) <| Rv (O.ex (y := I64 x2.1) rfl rfl rfl) <| Rv (O.ex (y := I64 x2.2) rfl rfl rfl) <| Rv (O.as (.lit rfl)) <| Rv (O.as (.lit rfl)) <| RunL.fin (.n rfl (.n rfl (.n rfl (.n rfl .nil))))) ?_
  refine Px.sq ?_
  refine W.sq' ?_
  obtain ⟨x3, hx3, h⟩ := bnd h
  refine W.rx [(1, _), (3, _), (4, _), (5, _), (6, _), (7, _)] (Rv (O.ldON (cs' := [iR eTok x1.1.Toks, iR eNon x1.1.Nons, iR eProd_0 x1.1.Prods, SS x1.1.Pro, SS x1.1.Tail]) rfl (.obj rfl) at38 rfl rfl) <| Rc (PC.go (.cc (.aggF rfl rfl) (.cc (.k rfl) .nil)) (con19 x1.1 9 _ hx3) call19 rfl) <| Rv (O.mv (.tupF rfl rfl)) <| Rv (O.ex (y := I64 x3.1) rfl rfl rfl) <| Rv (O.ex (y := I64 x3.2) rfl rfl rfl) <| Rv (O.as (.lit rfl)) <| Rv (O.as (.lit rfl)) <| RunL.fin (.n rfl (.n rfl (.n rfl (.n rfl (.n rfl (.n rfl .nil))))))) ?_
  refine Px.sq ?_
  refine W.sq' ?_
  obtain ⟨c14, hj, h⟩ := bnd h
  refine W.rx [(0, BB c14)] ?_ ?_
  · refine Rv (O.mv (.lit rfl)) <| Rv (O.mv (.lit rfl)) ?_
    rcases cnd hj with ⟨hb4, hj⟩ | ⟨hb4, hj⟩
    · refine RunL.v (O.mv (.lit rfl)) rfl rfl (.yb rfl rfl hb4) <| RunL.v (O.eql (.lit rfl) (.k rfl)) rfl rfl (.yb rfl rfl hb4) <| Rv (O.pkT (.lit rfl) hb4 (.lit rfl)) <| Rv (O.mv (.lit rfl)) ?_
      rcases cnd hj with ⟨hb5, hj⟩ | ⟨hb5, hj⟩
      · refine RunL.v (O.mv (.lit rfl)) rfl rfl (.yb rfl rfl hb5) <| RunL.v (O.eql (.lit rfl) (.k rfl)) rfl rfl (.yb rfl rfl hb5) <| Rv (O.pkT (.lit rfl) hb5 (.lit rfl)) <| Rv (O.mv (.lit rfl)) ?_
        rcases cnd hj with ⟨hb6, hj⟩ | ⟨hb6, hj⟩
        · refine RunL.v (O.mv (.lit rfl)) rfl rfl (.yb rfl rfl hb6) <| RunL.v (O.eql (.lit rfl) (.k rfl)) rfl rfl (.yb rfl rfl hb6) <| Rv (O.pkT (.lit rfl) hb6 (.lit rfl)) <| Rv (O.mv (.lit rfl)) ?_
          rcases cnd hj with ⟨hb7, hj⟩ | ⟨hb7, hj⟩
          · refine RunL.v (O.mv (.lit rfl)) rfl rfl (.yb rfl rfl hb7) <| RunL.v (O.eql (.lit rfl) (.k rfl)) rfl rfl (.yb rfl rfl hb7) <| Rv (O.pkT (.lit rfl) hb7 (.lit rfl)) <| Rv (O.mv (.lit rfl)) ?_
            rcases cnd hj with ⟨hb8, hj⟩ | ⟨hb8, hj⟩
            · refine RunL.v (O.ldON (cs' := [iR eTok x1.1.Toks, iR eNon x1.1.Nons, iR eProd_0 x1.1.Prods, SS x1.1.Pro, SS x1.1.Tail]) rfl (.obj rfl) at38 rfl rfl) rfl rfl (.yb rfl rfl hb8) ?_
              obtain ⟨x9, hx9, hj⟩ := bnd hj
              refine RunL.c (PC.go (.cc (.aggF rfl rfl) (.cc (.k rfl) (.cc (.k rfl) .nil))) (con21 x1.1 2 3 _ hx9) call21 rfl) rfl rfl (.yb rfl rfl hb8) <| RunL.v (O.eql (.lit rfl) (.k rfl)) rfl rfl (.yb rfl rfl hb8) <| Rv (O.pkT (.lit rfl) hb8 (.lit rfl)) <| Rv (O.mv (.lit rfl)) ?_
              rcases cnd hj with ⟨hb10, hj⟩ | ⟨hb10, hj⟩
              · refine RunL.v (O.ldON (cs' := [iR eTok x1.1.Toks, iR eNon x1.1.Nons, iR eProd_0 x1.1.Prods, SS x1.1.Pro, SS x1.1.Tail]) rfl (.obj rfl) at38 rfl rfl) rfl rfl (.yb rfl rfl hb10) ?_
                obtain ⟨x11, hx11, hj⟩ := bnd hj
                refine RunL.c (PC.go (.cc (.aggF rfl rfl) (.cc (.k rfl) (.cc (.k rfl) .nil))) (con21 x1.1 1 4 _ hx11) call21 rfl) rfl rfl (.yb rfl rfl hb10) <| RunL.v (O.eql (.lit rfl) (.k rfl)) rfl rfl (.yb rfl rfl hb10) <| Rv (O.pkT (.lit rfl) hb10 (.lit rfl)) <| Rv (O.mv (.lit rfl)) ?_
                rcases cnd hj with ⟨hb12, hj⟩ | ⟨hb12, hj⟩
                · refine RunL.v (O.ldON (cs' := [iR eTok x1.1.Toks, iR eNon x1.1.Nons, iR eProd_0 x1.1.Prods, SS x1.1.Pro, SS x1.1.Tail]) rfl (.obj rfl) at38 rfl rfl) rfl rfl (.yb rfl rfl hb12) ?_
                  obtain ⟨x13, hx13, hj⟩ := bnd hj
                  obtain rfl := sm hj
                  exact RunL.c (PC.go (.cc (.aggF rfl rfl) (.cc (.k rfl) (.cc (.k rfl) .nil))) (con21 x1.1 3 3 _ hx13) call21 rfl) rfl rfl (.yb rfl rfl hb12) <| RunL.v (O.eql (.lit rfl) (.k rfl)) rfl rfl (.yb rfl rfl hb12) <| Rv (O.pkT (.lit rfl) hb12 (.lit rfl)) <| Rv (O.as (.lit rfl)) <| RunL.fin (.n rfl .nil)
                · obtain rfl := sm hj
                  exact RunL.ps rfl rfl hb12 rfl rfl <| RunL.ps rfl rfl hb12 rfl rfl <| RunL.ps rfl rfl hb12 rfl rfl <| Rv (O.pkF (.lit rfl) hb12 (.k rfl)) <| Rv (O.as (.lit rfl)) <| RunL.fin (.n rfl .nil)
              · obtain rfl := sm hj
                exact RunL.ps rfl rfl hb10 rfl rfl <| RunL.ps rfl rfl hb10 rfl rfl <| RunL.ps rfl rfl hb10 rfl rfl <| Rv (O.pkF (.lit rfl) hb10 (.k rfl)) <| Rv (O.mv (.lit rfl)) <| RunL.ps rfl rfl rfl rfl rfl <| RunL.ps rfl rfl rfl rfl rfl <| RunL.ps rfl rfl rfl rfl rfl <| Rv (O.pkF (.lit rfl) rfl (.k rfl)) <| Rv (O.as (.lit rfl)) <| RunL.fin (.n rfl .nil)
            · obtain rfl := sm hj
              exact RunL.ps rfl rfl hb8 rfl rfl <| RunL.ps rfl rfl hb8 rfl rfl <| RunL.ps rfl rfl hb8 rfl rfl <| Rv (O.pkF (.lit rfl) hb8 (.k rfl)) <| Rv (O.mv (.lit rfl)) <| RunL.ps rfl rfl rfl rfl rfl <| RunL.ps rfl rfl rfl rfl rfl <| RunL.ps rfl rfl rfl rfl rfl <| Rv (O.pkF (.lit rfl) rfl (.k rfl)) <| Rv (O.mv (.lit rfl)) <| RunL.ps rfl rfl rfl rfl rfl <| RunL.ps rfl rfl rfl rfl rfl <| RunL.ps rfl rfl rfl rfl rfl <| Rv (O.pkF (.lit rfl) rfl (.k rfl)) <| Rv (O.as (.lit rfl)) <| RunL.fin (.n rfl .nil)
          · obtain rfl := sm hj
            exact RunL.ps rfl rfl hb7 rfl rfl <| RunL.ps rfl rfl hb7 rfl rfl <| Rv (O.pkF (.lit rfl) hb7 (.k rfl)) <| Rv (O.mv (.lit rfl)) <| RunL.ps rfl rfl rfl rfl rfl <| RunL.ps rfl rfl rfl rfl rfl <| RunL.ps rfl rfl rfl rfl rfl <| Rv (O.pkF (.lit rfl) rfl (.k rfl)) <| Rv (O.mv (.lit rfl)) <| RunL.ps rfl rfl rfl rfl rfl <| RunL.ps rfl rfl rfl rfl rfl <| RunL.ps rfl rfl rfl rfl rfl <| Rv (O.pkF (.lit rfl) rfl (.k rfl)) <| Rv (O.mv (.lit rfl)) <| RunL.ps rfl rfl rfl rfl rfl <| RunL.ps rfl rfl rfl rfl rfl <| RunL.ps rfl rfl rfl rfl rfl <| Rv (O.pkF (.lit rfl) rfl (.k rfl)) <| Rv (O.as (.lit rfl)) <| RunL.fin (.n rfl .nil)
        · obtain rfl := sm hj
          exact RunL.ps rfl rfl hb6 rfl rfl <| RunL.ps rfl rfl hb6 rfl rfl <| Rv (O.pkF (.lit rfl) hb6 (.k rfl)) <| Rv (O.mv (.lit rfl)) <| RunL.ps rfl rfl rfl rfl rfl <| RunL.ps rfl rfl rfl rfl rfl <| Rv (O.pkF (.lit rfl) rfl (.k rfl)) <| Rv (O.mv (.lit rfl)) <| RunL.ps rfl rfl rfl rfl rfl <| RunL.ps rfl rfl rfl rfl rfl <| RunL.ps rfl rfl rfl rfl rfl <| Rv (O.pkF (.lit rfl) rfl (.k rfl)) <| Rv (O.mv (.lit rfl)) <| RunL.ps rfl rfl rfl rfl rfl <| RunL.ps rfl rfl rfl rfl rfl <| RunL.ps rfl rfl rfl rfl rfl <| Rv (O.pkF (.lit rfl) rfl (.k rfl)) <| Rv (O.mv (.lit rfl)) <| RunL.ps rfl rfl rfl rfl rfl <| RunL.ps rfl rfl rfl rfl rfl <| RunL.ps rfl rfl rfl rfl rfl <| Rv (O.pkF (.lit rfl) rfl (.k rfl)) <| Rv (O.as (.lit rfl)) <| RunL.fin (.n rfl .nil)
      · obtain rfl := sm hj
        exact RunL.ps rfl rfl hb5 rfl rfl <| RunL.ps rfl rfl hb5 rfl rfl <| Rv (O.pkF (.lit rfl) hb5 (.k rfl)) <| Rv (O.mv (.lit rfl)) <| RunL.ps rfl rfl rfl rfl rfl <| RunL.ps rfl rfl rfl rfl rfl <| Rv (O.pkF (.lit rfl) rfl (.k rfl)) <| Rv (O.mv (.lit rfl)) <| RunL.ps rfl rfl rfl rfl rfl <| RunL.ps rfl rfl rfl rfl rfl <| Rv (O.pkF (.lit rfl) rfl (.k rfl)) <| Rv (O.mv (.lit rfl)) <| RunL.ps rfl rfl rfl rfl rfl <| RunL.ps rfl rfl rfl rfl rfl <| RunL.ps rfl rfl rfl rfl rfl <| Rv (O.pkF (.lit rfl) rfl (.k rfl)) <| Rv (O.mv (.lit rfl)) <| RunL.ps rfl rfl rfl rfl rfl <| RunL.ps rfl rfl rfl rfl rfl <| RunL.ps rfl rfl rfl rfl rfl <| Rv (O.pkF (.lit rfl) rfl (.k rfl)) <| Rv (O.mv (.lit rfl)) <| RunL.ps rfl rfl rfl rfl rfl <| RunL.ps rfl rfl rfl rfl rfl <| RunL.ps rfl rfl rfl rfl rfl <| Rv (O.pkF (.lit rfl) rfl (.k rfl)) <| Rv (O.as (.lit rfl)) <| RunL.fin (.n rfl .nil)
    · obtain rfl := sm hj
      exact RunL.ps rfl rfl hb4 rfl rfl <| RunL.ps rfl rfl hb4 rfl rfl <| Rv (O.pkF (.lit rfl) hb4 (.k rfl)) <| Rv (O.mv (.lit rfl)) <| RunL.ps rfl rfl rfl rfl rfl <| RunL.ps rfl rfl rfl rfl rfl <| Rv (O.pkF (.lit rfl) rfl (.k rfl)) <| Rv (O.mv (.lit rfl)) <| RunL.ps rfl rfl rfl rfl rfl <| RunL.ps rfl rfl rfl rfl rfl <| Rv (O.pkF (.lit rfl) rfl (.k rfl)) <| Rv (O.mv (.lit rfl)) <| RunL.ps rfl rfl rfl rfl rfl <| RunL.ps rfl rfl rfl rfl rfl <| Rv (O.pkF (.lit rfl) rfl (.k rfl)) <| Rv (O.mv (.lit rfl)) <| RunL.ps rfl rfl rfl rfl rfl <| RunL.ps rfl rfl rfl rfl rfl <| RunL.ps rfl rfl rfl rfl rfl <| Rv (O.pkF (.lit rfl) rfl (.k rfl)) <| Rv (O.mv (.lit rfl)) <| RunL.ps rfl rfl rfl rfl rfl <| RunL.ps rfl rfl rfl rfl rfl <| RunL.ps rfl rfl rfl rfl rfl <| Rv (O.pkF (.lit rfl) rfl (.k rfl)) <| Rv (O.mv (.lit rfl)) <| RunL.ps rfl rfl rfl rfl rfl <| RunL.ps rfl rfl rfl rfl rfl <| RunL.ps rfl rfl rfl rfl rfl <| Rv (O.pkF (.lit rfl) rfl (.k rfl)) <| Rv (O.as (.lit rfl)) <| RunL.fin (.n rfl .nil)
  refine Px.sq ?_
  refine W.rt ?_
  obtain rfl := sm h
  exact Px.fin (Fin.ro (.f rfl rfl .nil) rfl (of_decide_eq_true (by kernel_rfl)) .nil rfl (.inr rfl))
def eDecl_1 : En Decl := ⟨4, fun x => [I64 x.Kind, SS x.Tag, oR eSym x.Syms, I64 x.At], fun _ => rfl, fun _ => NRl.nr⟩
instance : Tw eDecl_1 eDecl_0 := ⟨rfl, fun x => (inferInstance : Vws [I64 x.Kind, SS x.Tag, oR eSym x.Syms, I64 x.At] [I64 x.Kind, SS x.Tag, iR eSym x.Syms, I64 x.At])⟩
instance {x : Decl} : Vws (eDecl_1.cells x) [I64 x.Kind, SS x.Tag, iR eSym x.Syms, I64 x.At] := (inferInstance : Vws [I64 x.Kind, SS x.Tag, oR eSym x.Syms, I64 x.At] [I64 x.Kind, SS x.Tag, iR eSym x.Syms, I64 x.At])
structure yuccalaw0_Gr where
  Nons : Int
  Rules : (List (List Int))
  Levels : (List Int)
  Inner : (List Int)
  Bare : Bool
  deriving DecidableEq, Inhabited
def eRule_1 : En Rule := ⟨3, fun x => [SS x.Left, oR eAlt_0 x.Alts, I64 x.At], fun _ => rfl, fun _ => NRl.nr⟩
instance : Tw eRule_1 eRule_0 := ⟨rfl, fun x => (inferInstance : Vws [SS x.Left, oR eAlt_0 x.Alts, I64 x.At] [SS x.Left, iR eAlt_0 x.Alts, I64 x.At])⟩
instance {x : Rule} : Vws (eRule_1.cells x) [SS x.Left, iR eAlt_0 x.Alts, I64 x.At] := (inferInstance : Vws [SS x.Left, oR eAlt_0 x.Alts, I64 x.At] [SS x.Left, iR eAlt_0 x.Alts, I64 x.At])
def eSource_0 : En Source := ⟨4, fun x => [SS x.Pro, iR eDecl_0 x.Decls, iR eRule_0 x.Rules, SS x.Tail], fun _ => rfl, fun _ => NRl.nr⟩
instance : Flat eSource_0 := ⟨fun _ => rfl⟩
instance : Tw eSource_0 eSource_0 := ⟨rfl, fun x => (inferInstance : Vws [SS x.Pro, iR eDecl_0 x.Decls, iR eRule_0 x.Rules, SS x.Tail] [SS x.Pro, iR eDecl_0 x.Decls, iR eRule_0 x.Rules, SS x.Tail])⟩
instance {x : Source} : Vws (eSource_0.cells x) [SS x.Pro, iR eDecl_0 x.Decls, iR eRule_0 x.Rules, SS x.Tail] := (inferInstance : Vws [SS x.Pro, iR eDecl_0 x.Decls, iR eRule_0 x.Rules, SS x.Tail] [SS x.Pro, iR eDecl_0 x.Decls, iR eRule_0 x.Rules, SS x.Tail])
def pf5 (a0 : (List Int)) (a1 : Int) (a2 : Int) (a3 : Int) : Option (Bool) :=
 (pf15 ).bind fun x1 =>
 (bif !x1 then
 some false
 else
 (bif decide ((a0.length : Int) = 0) then
 some true
 else
 (pf25 a1 (min (a0.length : Int) 9)).bind fun x4 =>
 (pf25 a2 (min (a0.length : Int) 9)).bind fun x5 =>
 (pf25 a3 (min (a0.length : Int) 9)).bind fun x6 =>
 (pf23 a0 x4 x5).bind fun x7 =>
 (pf19 x7.1 (w64 ((min (a0.length : Int) 9) + 2))).bind fun x8 =>
 ((bif x7.2.2 then (bif decide (x8.1 = w64 (x5 + 1)) then ((idx a0 x5).bind fun x11 => ((pf25 x11 3).bind fun x12 => (bif decide (x8.2 = w64 (1 + x12)) then ((pf21 x7.1 (w64 ((min (a0.length : Int) 9) + 2)) (w64 (x6 + 3))).bind fun x14 => ((pf24 a0 x5 x6).bind fun x15 => some (decide (x14 = x15)))) else some false))) else some false) else some false)).bind fun c16 =>
 some c16))
theorem con5 (a0 : (List Int)) (a1 : Int) (a2 : Int) (a3 : Int) (r : Bool) (h : pf5 a0 a1 a2 a3 = some r) : Con Try.prog 5 [iR eI a0, I64 a1, I64 a2, I64 a3] [none, none, none, none] (BB r) := by
  unfold pf5 at h
  refine Con.go (N := ⟨77, []⟩) Try.func5 rfl rfl rfl rfl (W.fin ?_)
  refine W.st [(0, iR eI a0), (1, I64 a1), (2, I64 a2), (3, I64 a3)] ?_
  refine W.sq' ?_
  refine W.rx [(0, _), (1, _), (2, _), (3, _)] (Rv (O.as (.k rfl)) <| RunL.fin (.n rfl (.n rfl (.n rfl (.n rfl .nil))))) ?_
  refine Px.sq ?_
  refine W.sq' ?_
  refine W.sq' ?_
  obtain ⟨x1, hx1, h⟩ := bnd h
  refine W.rx [(0, _), (1, _), (2, _), (3, _), (16, _)] (Rc (PC.go .nil (con15  _ hx1) call15 rfl) <| Rv (O.not (.lit rfl)) <| RunL.fin (.n rfl (.n rfl (.n rfl (.n rfl (.n rfl .nil)))))) ?_
  refine Px.sq ?_
  refine W.cnd rfl (fun hb2 => ?_) (fun hb2 => ?_)
  · replace h := cndT hb2 h
    refine W.sq' ?_
    refine W.rx [(8, _)] (Rv (O.as (.k rfl)) <| RunL.fin (.n rfl .nil)) ?_
    refine Px.sq ?_
    refine W.rt ?_
    refine Px.sqR ?_
    obtain rfl := sm h
    exact Px.fin (Fin.ro (.f rfl rfl .nil) rfl (of_decide_eq_true (by kernel_rfl)) (.no (.no (.no (.no .nil)))) rfl (.inr rfl))
  · replace h := cndF hb2 h
    refine W.sk ?_
    refine Px.sq ?_
    refine W.sq' ?_
    refine W.sq' ?_
    refine W.rx [(0, _), (1, _), (2, _), (3, _), (19, _)] (Rv (O.mv (.imm rfl)) <| Rv (O.lenI (.imm rfl) sl27) <| Rv (O.eql (.lit rfl) (.k rfl)) <| RunL.fin (.n rfl (.n rfl (.n rfl (.n rfl (.n rfl .nil)))))) ?_
    refine Px.sq ?_
    refine W.cnd rfl (fun hb3 => ?_) (fun hb3 => ?_)
    · replace h := cndT hb3 h
      refine W.sq' ?_
      refine W.rx [(8, _)] (Rv (O.as (.k rfl)) <| RunL.fin (.n rfl .nil)) ?_
      refine Px.sq ?_
      refine W.rt ?_
      refine Px.sqR ?_
      obtain rfl := sm h
      exact Px.fin (Fin.ro (.f rfl rfl .nil) rfl (of_decide_eq_true (by kernel_rfl)) (.no (.no (.no (.no .nil)))) rfl (.inr rfl))
    · replace h := cndF hb3 h
      refine W.sk ?_
      refine Px.sq ?_
      refine W.sq' ?_
      refine W.rx [(0, _), (1, _), (2, _), (3, _), (9, _)] (Rv (O.mv (.imm rfl)) <| Rv (O.lenI (.imm rfl) sl27) <| Rv (O.min' (.lit rfl) (.k rfl)) <| Rv (O.as (.lit rfl)) <| RunL.fin (.n rfl (.n rfl (.n rfl (.n rfl (.n rfl .nil)))))) ?_
      refine Px.sq ?_
      refine W.sq' ?_
      obtain ⟨x4, hx4, h⟩ := bnd h
      obtain ⟨x5, hx5, h⟩ := bnd h
      obtain ⟨x6, hx6, h⟩ := bnd h
      refine W.rx [(0, _), (1, _), (2, _), (3, _), (9, _)] (Rv (O.mv (.lit rfl)) <| Rv (O.mv (.lit rfl)) <| Rc (PC.go (.cc (.lit rfl) (.cc (.lit rfl) .nil)) (con25 a1 (min (a0.length : Int) 9) _ hx4) call25 rfl) <| Rv (O.mv (.lit rfl)) <| Rv (O.mv (.lit rfl)) <| Rc (PC.go (.cc (.lit rfl) (.cc (.lit rfl) .nil)) (con25 a2 (min (a0.length : Int) 9) _ hx5) call25 rfl) <| Rv (O.mv (.lit rfl)) <| Rv (O.mv (.lit rfl)) <| Rc (PC.go (.cc (.lit rfl) (.cc (.lit rfl) .nil)) (con25 a3 (min (a0.length : Int) 9) _ hx6) call25 rfl) <| RunL.re (G1 := [(0, iR eI a0), (9, I64 (min (a0.length : Int) 9)), (25, I64 x4), (28, I64 x5), (31, I64 x6)]) (.n rfl (.n rfl (.n rfl (.n rfl (.n rfl .nil))))) <| Rv (O.as (.lit rfl)) <| Rv (O.as (.lit rfl)) <| Rv (O.as (.lit rfl)) <| RunL.fin (.n rfl (.n rfl (.n rfl (.n rfl (.n rfl .nil)))))) ?_
      refine Px.sq ?_
      refine W.sq' ?_
      obtain ⟨x7, hx7, h⟩ := bnd h
      refine W.rx [(0, _), (2, _), (3, _), (9, _), (10, _), (12, _)] (Rv (O.mv (.imm rfl)) <| Rv (O.mv (.lit rfl)) <| Rv (O.mv (.lit rfl)) <| Rc (PC.go (.cc (.imm rfl) (.cc (.lit rfl) (.cc (.lit rfl) .nil))) (con23 a0 x4 x5 _ hx7) call23 rfl) <| Rv (O.mv (.tup rfl rfl)) <| Rv (O.ex (y := .agg (eGrammar_0.cells x7.1)) rfl rfl rfl) <| Rv (O.ex (y := I64 x7.2.1) rfl rfl rfl) <| Rv (O.ex (y := BB x7.2.2) rfl rfl rfl) <| Rv (O.al (cs := [.nils, .nils, .nils, SS ({ data := #[] }), SS ({ data := #[] })]) ze38 rfl rfl) <| RunL.sO (G2 := [(0, iR eI a0), (2, I64 x5), (3, I64 x6), (9, I64 (min (a0.length : Int) 9)), (10, .obj (eGrammar_0.cells x7.1)), (38, I64 x7.2.1), (39, BB x7.2.2)]) (cs2 := [iR eTok x7.1.Toks, iR eNon x7.1.Nons, iR eProd_0 x7.1.Prods, SS x7.1.Pro, SS x7.1.Tail]) rfl (.obj rfl) (.aggF rfl rfl) rfl sz38 rfl rfl rfl rfl (.n rfl rfl (.n rfl rfl (.n rfl rfl (.n rfl rfl (.b rfl (.n rfl rfl (.n rfl rfl .nil))))))) <| Rv (O.as (.lit rfl)) <| Rv (O.as (.lit rfl)) <| RunL.fin (.n rfl (.n rfl (.n rfl (.n rfl (.n rfl (.n rfl .nil))))))) ?_
      refine Px.sq ?_
      refine W.sq' ?_
      obtain ⟨x8, hx8, h⟩ := bnd h
      refine W.rx [(0, _), (2, _), (3, _), (9, _), (10, _), (12, _), (13, _), (14, _)] (Rv (O.ldON (cs' := [iR eTok x7.1.Toks, iR eNon x7.1.Nons, iR eProd_0 x7.1.Prods, SS x7.1.Pro, SS x7.1.Tail]) rfl (.obj rfl) at38 rfl rfl) <| Rv (O.mv (.lit rfl)) <| Rv (O.add (.lit rfl) (.k rfl)) <| Rc (PC.go (.cc (.aggF rfl rfl) (.cc (.lit rfl) .nil)) (con19 x7.1 (w64 ((min (a0.length : Int) 9) + 2)) _ hx8) call19 rfl) <| Rv (O.mv (.tupF rfl rfl)) <| Rv (O.ex (y := I64 x8.1) rfl rfl rfl) <| Rv (O.ex (y := I64 x8.2) rfl rfl rfl) <| Rv (O.as (.lit rfl)) <| Rv (O.as (.lit rfl)) <| RunL.fin (.n rfl (.n rfl (.n rfl (.n rfl (.n rfl (.n rfl (.n rfl (.n rfl .nil))))))))) ?_
      refine Px.sq ?_
      refine W.sq' ?_
      obtain ⟨c16, hj, h⟩ := bnd h
      refine W.rx [(8, BB c16)] ?_ ?_
      · refine Rv (O.mv (.lit rfl)) <| Rv (O.mv (.lit rfl)) ?_
        rcases cnd hj with ⟨hb9, hj⟩ | ⟨hb9, hj⟩
        · refine RunL.v (O.mv (.lit rfl)) rfl rfl (.yb rfl rfl hb9) <| RunL.v (O.mv (.lit rfl)) rfl rfl (.yb rfl rfl hb9) <| RunL.v (O.add (.lit rfl) (.k rfl)) rfl rfl (.yb rfl rfl hb9) <| RunL.v (O.eql (.lit rfl) (.lit rfl)) rfl rfl (.yb rfl rfl hb9) <| Rv (O.pkT (.lit rfl) hb9 (.lit rfl)) <| Rv (O.mv (.lit rfl)) ?_
          rcases cnd hj with ⟨hb10, hj⟩ | ⟨hb10, hj⟩
          · refine RunL.v (O.mv (.lit rfl)) rfl rfl (.yb rfl rfl hb10) <| RunL.v (O.mv (.imm rfl)) rfl rfl (.yb rfl rfl hb10) <| RunL.v (O.mv (.lit rfl)) rfl rfl (.yb rfl rfl hb10) ?_
            obtain ⟨x11, hx11, hj⟩ := bnd hj
            refine RunL.v (O.ixI (.imm rfl) (.lit rfl) sl27 hx11) rfl rfl (.yb rfl rfl hb10) <| RunL.v (O.ldI (x := I64 x11) (.iptr rfl) ct3 rfl) rfl rfl (.yb rfl rfl hb10) ?_
            obtain ⟨x12, hx12, hj⟩ := bnd hj
            refine RunL.c (PC.go (.cc (.lit rfl) (.cc (.k rfl) .nil)) (con25 x11 3 _ hx12) call25 rfl) rfl rfl (.yb rfl rfl hb10) <| RunL.v (O.add (.k rfl) (.lit rfl)) rfl rfl (.yb rfl rfl hb10) <| RunL.v (O.eql (.lit rfl) (.lit rfl)) rfl rfl (.yb rfl rfl hb10) <| Rv (O.pkT (.lit rfl) hb10 (.lit rfl)) <| Rv (O.mv (.lit rfl)) ?_
            rcases cnd hj with ⟨hb13, hj⟩ | ⟨hb13, hj⟩
            · refine RunL.v (O.ldON (cs' := [iR eTok x7.1.Toks, iR eNon x7.1.Nons, iR eProd_0 x7.1.Prods, SS x7.1.Pro, SS x7.1.Tail]) rfl (.obj rfl) at38 rfl rfl) rfl rfl (.yb rfl rfl hb13) <| RunL.v (O.mv (.lit rfl)) rfl rfl (.yb rfl rfl hb13) <| RunL.v (O.add (.lit rfl) (.k rfl)) rfl rfl (.yb rfl rfl hb13) <| RunL.v (O.mv (.lit rfl)) rfl rfl (.yb rfl rfl hb13) <| RunL.v (O.add (.lit rfl) (.k rfl)) rfl rfl (.yb rfl rfl hb13) ?_
              obtain ⟨x14, hx14, hj⟩ := bnd hj
              refine RunL.c (PC.go (.cc (.aggF rfl rfl) (.cc (.lit rfl) (.cc (.lit rfl) .nil))) (con21 x7.1 (w64 ((min (a0.length : Int) 9) + 2)) (w64 (x6 + 3)) _ hx14) call21 rfl) rfl rfl (.yb rfl rfl hb13) <| RunL.v (O.mv (.imm rfl)) rfl rfl (.yb rfl rfl hb13) <| RunL.v (O.mv (.lit rfl)) rfl rfl (.yb rfl rfl hb13) <| RunL.v (O.mv (.lit rfl)) rfl rfl (.yb rfl rfl hb13) ?_
              obtain ⟨x15, hx15, hj⟩ := bnd hj
              obtain rfl := sm hj
              exact RunL.c (PC.go (.cc (.imm rfl) (.cc (.lit rfl) (.cc (.lit rfl) .nil))) (con24 a0 x5 x6 _ hx15) call24 rfl) rfl rfl (.yb rfl rfl hb13) <| RunL.v (O.eql (.lit rfl) (.lit rfl)) rfl rfl (.yb rfl rfl hb13) <| Rv (O.pkT (.lit rfl) hb13 (.lit rfl)) <| Rv (O.as (.lit rfl)) <| RunL.fin (.n rfl .nil)
            · obtain rfl := sm hj
              exact RunL.ps rfl rfl hb13 rfl rfl <| RunL.ps rfl rfl hb13 rfl rfl <| RunL.ps rfl rfl hb13 rfl rfl <| RunL.ps rfl rfl hb13 rfl rfl <| RunL.ps rfl rfl hb13 rfl rfl <| RunL.ps rfl rfl hb13 rfl rfl <| RunL.ps rfl rfl hb13 rfl rfl <| RunL.ps rfl rfl hb13 rfl rfl <| RunL.ps rfl rfl hb13 rfl rfl <| RunL.ps rfl rfl hb13 rfl rfl <| RunL.ps rfl rfl hb13 rfl rfl <| Rv (O.pkF (.lit rfl) hb13 (.k rfl)) <| Rv (O.as (.lit rfl)) <| RunL.fin (.n rfl .nil)
          · obtain rfl := sm hj
            exact RunL.ps rfl rfl hb10 rfl rfl <| RunL.ps rfl rfl hb10 rfl rfl <| RunL.ps rfl rfl hb10 rfl rfl <| RunL.ps rfl rfl hb10 rfl rfl <| RunL.ps rfl rfl hb10 rfl rfl <| RunL.ps rfl rfl hb10 rfl rfl <| RunL.ps rfl rfl hb10 rfl rfl <| RunL.ps rfl rfl hb10 rfl rfl <| Rv (O.pkF (.lit rfl) hb10 (.k rfl)) <| Rv (O.mv (.lit rfl)) <| RunL.ps rfl rfl rfl rfl rfl <| RunL.ps rfl rfl rfl rfl rfl <| RunL.ps rfl rfl rfl rfl rfl <| RunL.ps rfl rfl rfl rfl rfl <| RunL.ps rfl rfl rfl rfl rfl <| RunL.ps rfl rfl rfl rfl rfl <| RunL.ps rfl rfl rfl rfl rfl <| RunL.ps rfl rfl rfl rfl rfl <| RunL.ps rfl rfl rfl rfl rfl <| RunL.ps rfl rfl rfl rfl rfl <| RunL.ps rfl rfl rfl rfl rfl <| Rv (O.pkF (.lit rfl) rfl (.k rfl)) <| Rv (O.as (.lit rfl)) <| RunL.fin (.n rfl .nil)
        · obtain rfl := sm hj
          exact RunL.ps rfl rfl hb9 rfl rfl <| RunL.ps rfl rfl hb9 rfl rfl <| RunL.ps rfl rfl hb9 rfl rfl <| RunL.ps rfl rfl hb9 rfl rfl <| Rv (O.pkF (.lit rfl) hb9 (.k rfl)) <| Rv (O.mv (.lit rfl)) <| RunL.ps rfl rfl rfl rfl rfl <| RunL.ps rfl rfl rfl rfl rfl <| RunL.ps rfl rfl rfl rfl rfl <| RunL.ps rfl rfl rfl rfl rfl <| RunL.ps rfl rfl rfl rfl rfl <| RunL.ps rfl rfl rfl rfl rfl <| RunL.ps rfl rfl rfl rfl rfl <| RunL.ps rfl rfl rfl rfl rfl <| Rv (O.pkF (.lit rfl) rfl (.k rfl)) <| Rv (O.mv (.lit rfl)) <| RunL.ps rfl rfl rfl rfl rfl <| RunL.ps rfl rfl rfl rfl rfl <| RunL.ps rfl rfl rfl rfl rfl <| RunL.ps rfl rfl rfl rfl rfl <| RunL.ps rfl rfl rfl rfl rfl <| RunL.ps rfl rfl rfl rfl rfl <| RunL.ps rfl rfl rfl rfl rfl <| RunL.ps rfl rfl rfl rfl rfl <| RunL.ps rfl rfl rfl rfl rfl <| RunL.ps rfl rfl rfl rfl rfl <| RunL.ps rfl rfl rfl rfl rfl <| Rv (O.pkF (.lit rfl) rfl (.k rfl)) <| Rv (O.as (.lit rfl)) <| RunL.fin (.n rfl .nil)
      refine Px.sq ?_
      refine W.rt ?_
      obtain rfl := sm h
      exact Px.fin (Fin.ro (.f rfl rfl .nil) rfl (of_decide_eq_true (by kernel_rfl)) (.no (.no (.no (.no .nil)))) rfl (.inr rfl))
end Go.Proofs
namespace Go.Own
open Go
variable {α β S R : Type}
abbrev LR (p : S → Prop) (q : R → Prop) (x : S ⊕ R) : Prop := Sum.elim p q x
def Tot (x : Option α) (Φ : α → Prop) : Prop := ∃ a, x = some a ∧ Φ a
namespace Tot
variable {Φ Ψ : α → Prop}
theorem so {a : α} (h : Φ a) : Tot (some a) Φ := ⟨a, rfl, h⟩
theorem bi {x : Option β} {f : β → Option α} (h : Tot x fun a => Tot (f a) Φ) : Tot (x.bind f) Φ := by
  obtain ⟨a, rfl, b, hb, hΦ⟩ := h
  exact ⟨b, hb, hΦ⟩
theorem sm {f : β → Option α} {a : β} (h : Tot (f a) Φ) : Tot ((some a).bind f) Φ := h
theorem use {x : Option α} (h : Tot x Ψ) (hi : ∀ a, Ψ a → Φ a) : Tot x Φ := by
  obtain ⟨a, ha, hΨ⟩ := h
  exact ⟨a, ha, hi a hΨ⟩
theorem by' {x : Option β} {f : β → Option α} {Ξ : β → Prop} (h : Tot x Ξ) (hk : ∀ a, Ξ a → Tot (f a) Φ) : Tot (x.bind f) Φ := bi (h.use hk)
theorem cd {c : Bool} {a b : Option α} (ht : c = true → Tot a Φ) (hf : c = false → Tot b Φ) : Tot (cond c a b) Φ := by
  cases c
  · exact hf rfl
  · exact ht rfl
theorem cp {p : Prop} [Decidable p] {a b : Option α} (ht : p → Tot a Φ) (hf : ¬ p → Tot b Φ) : Tot (cond (decide p) a b) Φ :=
  cd (fun h => ht (of_decide_eq_true h)) (fun h => hf (of_decide_eq_false h))
theorem cn {p : Prop} [Decidable p] {a b : Option α} (ht : ¬ p → Tot a Φ) (hf : p → Tot b Φ) : Tot (cond (!decide p) a b) Φ :=
  cd (fun h => ht (of_decide_eq_false (by simpa using h))) (fun h => hf (of_decide_eq_true (by simpa using h)))
theorem ix {l : List α} {i : Int} (h0 : 0 ≤ i) (h1 : i < l.length) (hk : ∀ y, idx l i = some y → y ∈ l → Φ y) : Tot (idx l i) Φ := by
  have hlt : i.toNat < l.length := by omega
  have : idx l i = some l[i.toNat] := by simp [idx, h0, hlt]
  exact ⟨_, this, hk _ this (List.getElem_mem hlt)⟩
theorem ap {Φ : List α → Prop} {l m : List α} (h : l.length + m.length ≤ lim) (hk : Φ (l ++ m)) : Tot (appO l m) Φ := by
  refine ⟨l ++ m, ?_, hk⟩
  unfold appO
  rw [if_pos h]
theorem loop {f : S → Option (S ⊕ R)} {s0 : S} {Ψ : R → Prop} (Inv : S → Prop) (μ : S → Nat) (h0 : Inv s0) (hμ : μ s0 < fuel)
    (hs : ∀ s, Inv s → Tot (f s) (LR (fun s' => Inv s' ∧ μ s' < μ s) Ψ)) : Tot (loopM f s0) Ψ := by
  have key : ∀ n s, Inv s → μ s < n → Tot (iter f n s) Ψ := by
    intro n
    induction n with
    | zero => intro s _ h; omega
    | succ n ih =>
      intro s hI hm
      obtain ⟨x, hx, hP⟩ := hs s hI
      cases x with
      | inl s' =>
        obtain ⟨h1, h2⟩ := hP
        simp only [iter, hx]
        exact ih s' h1 (by omega)
      | inr r =>
        simp only [iter, hx]
        exact ⟨r, rfl, hP⟩
  exact key fuel s0 h0 hμ
theorem count {f : S → Option (S ⊕ R)} {s0 : S} {Ψ : R → Prop} (i : S → Int) (n : Int) (Inv : S → Prop) (h0 : Inv s0) (hn : n - i s0 < 1000000000000000000)
    (hs : ∀ s, Inv s → Tot (f s) (LR (fun s' => Inv s' ∧ i s < i s' ∧ i s' ≤ n) Ψ)) : Tot (loopM f s0) Ψ := by
  refine loop Inv (fun s => (n - i s).toNat) h0 (by show (n - i s0).toNat < 1000000000000000000; omega) fun s hI => (hs s hI).use fun x hx => ?_
  cases x with
  | inl s' => exact ⟨hx.1, by have := hx.2; show (n - i s').toNat < (n - i s).toNat; omega⟩
  | inr r => exact hx
end Tot
theorem w64_eq (n : Int) : w64 n = (n + 9223372036854775808) % 18446744073709551616 - 9223372036854775808 := IntKind.wrap_i64 n
namespace Tot
theorem cat {Φ : ByteArray → Prop} {s u : ByteArray} (h : s.size + u.size ≤ 4611686018427387904) (hk : Φ (s ++ u)) : Tot (catO s u) Φ := by
  refine ⟨s ++ u, ?_, hk⟩
  unfold catO
  rw [if_pos h]
theorem cut {Φ : ByteArray → Prop} {s : ByteArray} {m n : Int} (h : 0 ≤ m ∧ m ≤ n ∧ n ≤ s.size) (hk : Φ (cutS s m n)) : Tot (cutO s m n) Φ := by
  refine ⟨_, ?_, hk⟩
  unfold cutO
  rw [if_pos h]
theorem sub {Φ : List α → Prop} {l : List α} {m n : Int} (h : 0 ≤ m ∧ m ≤ n ∧ n ≤ l.length) (hk : Φ ((l.drop m.toNat).take (n - m).toNat)) : Tot (subO l m n) Φ := by
  refine ⟨_, ?_, hk⟩
  unfold subO
  rw [if_pos h]
theorem rem {Φ : Int → Prop} {m n : Int} (h : n ≠ 0) (hk : Φ (m.tmod n)) : Tot (remO m n) Φ := by
  refine ⟨_, ?_, hk⟩
  unfold remO
  rw [if_neg h]
theorem quo {Φ : Int → Prop} {m n : Int} (h : n ≠ 0) (hk : Φ (w64 (m.tdiv n))) : Tot (quoO m n) Φ := by
  refine ⟨_, ?_, hk⟩
  unfold quoO
  rw [if_neg h]
theorem remU {Φ : Int → Prop} {m n : Int} (h : n ≠ 0) (hk : Φ (m.tmod n)) : Tot (Own.remU m n) Φ := by
  refine ⟨_, ?_, hk⟩
  unfold Own.remU
  rw [if_neg h]
theorem quoU {Φ : Int → Prop} {m n : Int} (h : n ≠ 0) (hk : Φ (IntKind.u64.wrap (m.tdiv n))) : Tot (Own.quoU m n) Φ := by
  refine ⟨_, ?_, hk⟩
  unfold Own.quoU
  rw [if_neg h]
theorem mk {Φ : List α → Prop} {m : Int} {z : α} (h : 0 ≤ m ∧ m ≤ lim) (hk : Φ (List.replicate m.toNat z)) : Tot (mkO m z) Φ := by
  refine ⟨_, ?_, hk⟩
  unfold mkO
  rw [if_pos h]
theorem ex {x : Option α} {Φ : α → Prop} (h : Tot x Φ) : ∃ a, x = some a ∧ Φ a := h
end Tot
namespace Tot
theorem scan {f : Int → Option (Int ⊕ (Unit ⊕ R))} (l : List β) (P : β → Prop) (Q : R → Prop) (hl : l.length ≤ 100000000000000000)
    (hs : ∀ (s : Int) (y : β), 0 ≤ s → s < l.length → idx l s = some y → y ∈ l → Tot (f s) (LR (fun s' => s' = s + 1 ∧ P y) (LR (fun _ => False) Q)))
    (he : ∀ s : Int, ¬ s < l.length → f s = some (.inr (.inl ()))) : Tot (loopM f 0) (LR (fun _ => ∀ y ∈ l, P y) Q) := by
  refine count (fun s => s) l.length (fun s => 0 ≤ s ∧ s ≤ l.length ∧ ∀ (j : Nat) (y : β), (j : Int) < s → l[j]? = some y → P y) ⟨by omega, by omega, fun j y h => by omega⟩ (by show (l.length : Int) - 0 < _; omega) fun s hI => ?_
  obtain ⟨h0, h1, h2⟩ := hI
  by_cases hlt : s < l.length
  · have hlt' : s.toNat < l.length := by omega
    have hi : idx l s = some l[s.toNat] := by simp [idx, h0, hlt']
    refine (hs s _ h0 hlt hi (List.getElem_mem hlt')).use fun x hx => ?_
    rcases x with s' | ⟨⟨⟩⟩ | r
    · obtain ⟨rfl, hP⟩ := hx
      refine ⟨⟨by omega, by omega, fun j y hj hy => ?_⟩, by show s < s + 1; omega, by show s + 1 ≤ _; omega⟩
      by_cases hjs : (j : Int) < s
      · exact h2 j y hjs hy
      · have : j = s.toNat := by omega
        subst this
        rw [List.getElem?_eq_getElem hlt'] at hy
        cases hy; exact hP
    · exact hx.elim
    · exact hx
  · rw [he s hlt]
    refine so fun y hy => ?_
    obtain ⟨j, hj, rfl⟩ := List.mem_iff_getElem.1 hy
    exact h2 j _ (by omega) (List.getElem?_eq_getElem hj)
end Tot
end Go.Own
namespace Go.Proofs
open Go Go.Own
set_option maxRecDepth 100000
set_option linter.unusedVariables false
abbrev big : Nat := 1000000000000
end Go.Proofs
namespace Go.Proofs
open Go Go.Own
set_option maxRecDepth 100000
set_option linter.unusedVariables false
def LitOk (x : Sym) : Prop := x.Lit = true → x.Name.size = 1
structure DeclB (d : Decl) : Prop where
  tag : d.Tag.size ≤ big
  n : d.Syms.length ≤ 1000
  syms : ∀ x ∈ d.Syms, x.Name.size ≤ big
structure AltB (a : Alt) : Prop where
  n : a.Parts.length ≤ 1000
  parts : ∀ p ∈ a.Parts, p.Sym.Name.size ≤ big ∧ p.Code.size ≤ big
  prec : a.Prec.Name.size ≤ big
structure RuleB (r : Rule) : Prop where
  left : r.Left.size ≤ big
  n : r.Alts.length ≤ 1000
  alts : ∀ a ∈ r.Alts, AltB a
structure SrcB (s : Source) : Prop where
  pro : s.Pro.size ≤ big
  dn : s.Decls.length ≤ 1000
  decls : ∀ d ∈ s.Decls, DeclB d
  rn : s.Rules.length ≤ 1000
  rules : ∀ r ∈ s.Rules, RuleB r
structure AltOk (a : Alt) : Prop where
  parts : ∀ p ∈ a.Parts, LitOk p.Sym
  prec : LitOk a.Prec
structure SrcOk (s : Source) : Prop where
  decls : ∀ d ∈ s.Decls, ∀ x ∈ d.Syms, LitOk x
  rules : ∀ r ∈ s.Rules, ∀ a ∈ r.Alts, AltOk a
  pos : 0 < s.Rules.length
end Go.Proofs
namespace Go.Proofs
open Go Go.Own
set_option maxRecDepth 100000
set_option linter.unusedVariables false
abbrev Mk := yuccaref9_maker
structure Same (m m' : Mk) : Prop where
  g : m'.f_g = m.f_g
  gv : m'.f_given = m.f_given
  ty : m'.f_types = m.f_types
  lf : m'.f_lefts = m.f_lefts
  lv : m'.f_level = m.f_level
  inn : m'.f_inner = m.f_inner
structure Grow (m m' : Mk) (k : Nat) : Prop where
  gv : m'.f_given.length = m'.f_g.Toks.length
  lo : m.f_g.Toks.length ≤ m'.f_g.Toks.length
  hi : m'.f_g.Toks.length ≤ m.f_g.Toks.length + k
  ty : m'.f_types.length ≤ m.f_types.length + k
  lf : m'.f_lefts = m.f_lefts
  pr : m'.f_g.Prods = m.f_g.Prods
  inn : m'.f_inner = m.f_inner
  lvl : m'.f_level = m.f_level
  lv : 0 ≤ m.f_level → (∀ t ∈ m.f_g.Toks, 0 ≤ t.Level) → ∀ t ∈ m'.f_g.Toks, 0 ≤ t.Level
structure Tk (m m' : Mk) : Prop where
  tk : m'.f_g.Toks.length = m.f_g.Toks.length
  gv : m'.f_given.length = m.f_given.length
  ty : m'.f_types = m.f_types
  lf : m'.f_lefts = m.f_lefts
  pr : m'.f_g.Prods = m.f_g.Prods
  inn : m'.f_inner = m.f_inner
  lvl : m'.f_level = m.f_level
  lv : 0 ≤ m.f_level → (∀ t ∈ m.f_g.Toks, 0 ≤ t.Level) → ∀ t ∈ m'.f_g.Toks, 0 ≤ t.Level
def SyOk (T : Nat) (N : Int) (s : Int) : Prop := (0 ≤ s ∧ s < T) ∨ (1000 ≤ s ∧ s ≤ 1000 + N)
end Go.Proofs
namespace Go.Proofs
open Go Go.Own
set_option maxRecDepth 100000
set_option linter.unusedVariables false
structure PrOk (T : Nat) (N : Int) (p : Prod) : Prop where
  left : 0 ≤ p.Left ∧ p.Left ≤ N
  right : ∀ s ∈ p.Right, SyOk T N s
  prec : -1 ≤ p.Prec ∧ p.Prec < T
structure MJ (m : Mk) (T L I Q : Nat) : Prop where
  gv : m.f_given.length = m.f_g.Toks.length
  lo : 3 ≤ m.f_g.Toks.length
  hi : m.f_g.Toks.length ≤ T
  ty : m.f_types.length ≤ T
  lf : m.f_lefts.length = L
  inn : 0 ≤ m.f_inner ∧ m.f_inner ≤ I
  prn : m.f_g.Prods.length ≤ Q
  pr : ∀ p ∈ m.f_g.Prods, PrOk m.f_g.Toks.length (L + m.f_inner) p
  lvl : 0 ≤ m.f_level
  lv : ∀ t ∈ m.f_g.Toks, 0 ≤ t.Level
end Go.Proofs
namespace Go.Proofs
open Go Go.Own
set_option maxRecDepth 100000
set_option linter.unusedVariables false
structure GOk (g : Grammar) : Prop where
  tn : 3 ≤ g.Toks.length ∧ g.Toks.length ≤ 40
  nn : 1 ≤ g.Nons.length ∧ g.Nons.length ≤ 24
  pn : 1 ≤ g.Prods.length ∧ g.Prods.length ≤ 60
  pr : ∀ p ∈ g.Prods, PrOk g.Toks.length (g.Nons.length - 1) p
  rn : ∀ p ∈ g.Prods, p.Right.length ≤ 8
  lv : ∀ t ∈ g.Toks, 0 ≤ t.Level
structure M0 (m : Mk) (T L : Nat) : Prop where
  gv : m.f_given.length = m.f_g.Toks.length
  lo : 3 ≤ m.f_g.Toks.length
  hi : m.f_g.Toks.length ≤ 3 + T
  ty : m.f_types.length ≤ T
  lf : m.f_lefts.length ≤ L
  pr : m.f_g.Prods = []
  inn : m.f_inner = 0
  lvl : 0 ≤ m.f_level
  lv : ∀ t ∈ m.f_g.Toks, 0 ≤ t.Level
end Go.Proofs
namespace Go.Proofs
open Go Go.Own
set_option maxRecDepth 100000
set_option linter.unusedVariables false
end Go.Proofs
namespace Go.Proofs
open Go Go.Own
set_option maxRecDepth 100000
set_option linter.unusedVariables false
end Go.Proofs
namespace Go.Proofs
open Go Go.Own
set_option maxRecDepth 100000
set_option linter.unusedVariables false
theorem t25 (a n : Int) (h : 0 < n) (hn : n ≤ 9223372036854775807) : Tot (pf25 a n) fun r => 0 ≤ r ∧ r < n := by
  unfold pf25
  have h1 : -n < a.tmod n := by
    by_cases ha : 0 ≤ a
    · have := Int.tmod_nonneg n ha; omega
    · have h2 : (-a).tmod n < n := Int.tmod_lt_of_pos _ h
      rw [Int.neg_tmod] at h2
      omega
  have h2 : a.tmod n < n := Int.tmod_lt_of_pos a h
  refine .by' (Ξ := fun x => x = a.tmod n) (Tot.rem (by omega) rfl) fun x hx => ?_
  subst hx
  refine Tot.by' (Ξ := fun r => 0 ≤ r ∧ r < n) (Tot.cp (fun h3 => .so ?_) (fun h3 => .so (by omega))) fun r hr => .so hr
  rw [w64_eq]; omega
structure DclB (n : Nat) (d : Decl) : Prop where
  tag : d.Tag.size = 0
  n : d.Syms.length ≤ n
  syms : ∀ x ∈ d.Syms, x.Name.size ≤ big
structure RlB (n : Nat) (r : Rule) : Prop where
  left : r.Left.size ≤ big
  n : r.Alts.length ≤ n
  alts : ∀ a ∈ r.Alts, AltB a
end Go.Proofs
namespace Go.Proofs
open Go Go.Own
set_option maxRecDepth 100000
set_option linter.unusedVariables false
def tokS (g : Grammar) (t : Int) : Int × Int := match idx g.Toks t with | some k => (k.Level, k.Assoc) | none => (0, 0)
def levS (g : Grammar) (p : Int) : Int × Int := match idx g.Prods p with | some q => tokS g q.Prec | none => (0, 0)
def decS (l : Int) (k : Int × Int) : Int :=
  if l = 0 ∨ k.1 = 0 then 0 else if l < k.1 ∨ (k.1 = l ∧ k.2 = 2) then 1 else if k.1 < l ∨ k.2 = 1 then 2 else 3
theorem idx_none {α : Type} {l : List α} {i : Int} (h : i < 0 ∨ (l.length : Int) ≤ i) : idx l i = none := by
  unfold idx
  split
  · exact List.getElem?_eq_none (by omega)
  · rfl
theorem idx_some {α : Type} {l : List α} {i : Int} (h0 : 0 ≤ i) (h1 : i < l.length) : ∃ y, idx l i = some y ∧ y ∈ l := by
  have hlt : i.toNat < l.length := by omega
  exact ⟨l[i.toNat], by simp [idx, h0, hlt], List.getElem_mem hlt⟩
theorem e51 (g : Grammar) (t : Int) : pf51 g t = some (tokS g t) := by
  unfold pf51 tokS
  by_cases h0 : t < 0
  · simp [h0, idx_none (Or.inl h0)]
  · by_cases h1 : (g.Toks.length : Int) ≤ t
    · simp [h0, h1, idx_none (Or.inr h1)]
    · obtain ⟨y, hy, _⟩ := idx_some (l := g.Toks) (i := t) (by omega) (by omega)
      simp [h0, h1, hy]
theorem e19 (g : Grammar) (p : Int) : pf19 g p = some (levS g p) := by
  unfold pf19 levS
  by_cases h0 : p < 0
  · simp [h0, idx_none (Or.inl h0)]
  · by_cases h1 : (g.Prods.length : Int) ≤ p
    · simp [h0, h1, idx_none (Or.inr h1)]
    · obtain ⟨y, hy, _⟩ := idx_some (l := g.Prods) (i := p) (by omega) (by omega)
      simp [h0, h1, hy, e51]
theorem e21 (g : Grammar) (p t : Int) : pf21 g p t = some (decS (levS g p).1 (tokS g t)) := by
  unfold pf21
  rw [e19, e51]
  generalize levS g p = a
  generalize tokS g t = k
  obtain ⟨l, x⟩ := a
  obtain ⟨m, s⟩ := k
  simp only [Option.bind_some, decS]
  by_cases h1 : l = 0
  · simp [h1]
  · by_cases h2 : m = 0
    · simp [h2]
    · by_cases h3 : l < m
      · simp [h1, h2, h3]
      · by_cases h4 : m = l
        · by_cases h5 : s = 2
          · simp [h1, h4, h5]
          · by_cases h6 : s = 1
            · simp [h1, h4, h6]
            · simp [h1, h4, h5, h6]
        · have h7 : m < l := by omega
          simp [h1, h2, h3, h4, h7]
end Go.Proofs
namespace Go.Proofs
open Go Go.Own
set_option maxRecDepth 100000
set_option linter.unusedVariables false
theorem w15 : pf15 = some true := by kernel_rfl
end Go.Proofs
namespace Go.Proofs
open Go Go.Own
set_option maxRecDepth 100000
set_option linter.unusedVariables false
def tn : Nat → ByteArray
  | 0 => ⟨#[116, 48]⟩ | 1 => ⟨#[116, 49]⟩ | 2 => ⟨#[116, 50]⟩ | 3 => ⟨#[116, 51]⟩ | 4 => ⟨#[116, 52]⟩ | 5 => ⟨#[116, 53]⟩ | 6 => ⟨#[116, 54]⟩ | 7 => ⟨#[116, 55]⟩ | _ => ⟨#[116, 56]⟩
abbrev nE : ByteArray := { data := #[] }
abbrev cE : ByteArray := { data := #[101] }
def sy (i : Nat) : Sym := ⟨tn i, false, 0, 0⟩
def syE : Sym := ⟨cE, false, 0, 0⟩
def dc (i : Nat) (w : Int) : Decl := ⟨w64 (2 + w), nE, [sy i], 0⟩
def ds : Nat → List Int → List Decl
  | _, [] => []
  | i, w :: ws => dc i w :: ds (i + 1) ws
def al (i : Nat) : Alt := ⟨[⟨syE, nE, 0⟩, ⟨sy i, nE, 0⟩, ⟨syE, nE, 0⟩], ⟨nE, false, 0, 0⟩, 0⟩
def als : Nat → List Alt
  | 0 => []
  | n + 1 => als n ++ [al n]
def xal : Alt := ⟨[⟨⟨⟨#[120]⟩, true, 0, 0⟩, nE, 0⟩], ⟨nE, false, 0, 0⟩, 0⟩
def lal (o s : Nat) : Alt := ⟨[⟨sy o, nE, 0⟩, ⟨syE, nE, 0⟩], sy s, 0⟩
def src (ws : List Int) (o s : Nat) : Source := ⟨nE, ds 0 ws, [⟨cE, (als ws.length ++ [xal]) ++ [lal o s], 0⟩], nE⟩
theorem ds_len : ∀ (ws : List Int) (i : Nat), (ds i ws).length = ws.length
  | [], _ => rfl
  | _ :: ws, i => by simp [ds, ds_len ws]
theorem als_len : ∀ n, (als n).length = n
  | 0 => rfl
  | n + 1 => by simp [als, als_len n]
theorem ds_get : ∀ (ws : List Int) (i k : Nat), (ds i ws)[k]? = (ws[k]?).map (dc (i + k))
  | [], _, _ => rfl
  | _ :: ws, i, 0 => rfl
  | _ :: ws, i, k + 1 => by
    simp only [ds, List.getElem?_cons_succ, ds_get ws (i + 1) k]
    rw [show i + 1 + k = i + (k + 1) by omega]
theorem ds_app : ∀ (ws : List Int) (i : Nat) (w : Int), ds i (ws ++ [w]) = ds i ws ++ [dc (i + ws.length) w]
  | [], _, _ => rfl
  | _ :: ws, i, w => by
    simp only [List.cons_append, ds, ds_app ws, List.length_cons]
    rw [show i + 1 + ws.length = i + (ws.length + 1) by omega]
theorem als_get : ∀ (n k : Nat), k < n → (als n)[k]? = some (al k)
  | n + 1, k, h => by
    by_cases hk : k < n
    · simp only [als]
      rw [List.getElem?_append_left (by rw [als_len]; exact hk)]
      exact als_get n k hk
    · have : k = n := by omega
      subst this
      simp only [als]
      rw [List.getElem?_append_right (by rw [als_len]; exact Nat.le_refl _), als_len]
      simp
def T3 : List Tok := [⟨{ data := #[36, 101, 110, 100] }, false, 0, 0, 0, nE⟩, ⟨{ data := #[101, 114, 114, 111, 114] }, false, (-1), 0, 0, nE⟩, ⟨{ data := #[36, 117, 110, 107] }, false, (-1), 0, 0, nE⟩]
def tks (b : Int) (c : Int) : Nat → List Int → List Tok
  | _, [] => []
  | i, w :: ws => ⟨tn i, false, b + c * i, i + 1, w + 1, nE⟩ :: tks b c (i + 1) ws
def tx : Tok := ⟨⟨#[120]⟩, true, 120, 0, 0, nE⟩
def pr (i : Nat) : Prod := ⟨1, [1001, i + 3, 1001], i + 3, nE, [1001, i + 3, 1001], 0⟩
def prs : Nat → List Prod
  | 0 => [⟨0, [1001], -1, nE, [], 0⟩]
  | n + 1 => prs n ++ [pr n]
def px (n : Nat) : Prod := ⟨1, [n + 3], n + 3, nE, [n + 3], 0⟩
def pl (o s : Nat) : Prod := ⟨1, [o + 3, 1001], s + 3, nE, [o + 3, 1001], 0⟩
def mkr (ws : List Int) : yuccaref9_maker := ⟨⟨T3 ++ tks 0 0 0 ws, [], [], nE, nE⟩, [false, false, false] ++ ws.map (fun _ => false), [], [], 0, 0, nE, ws.length, 0⟩
def mkA (ws : List Int) (k : Nat) : yuccaref9_maker := ⟨⟨T3 ++ tks 0 0 0 ws, [], prs k, nE, nE⟩, [false, false, false] ++ ws.map (fun _ => false), [], [cE], 0, 0, nE, ws.length, 0⟩
def mkB (ws : List Int) : yuccaref9_maker := ⟨⟨(T3 ++ tks 0 0 0 ws) ++ [tx], [], prs ws.length ++ [px ws.length], nE, nE⟩, ([false, false, false] ++ ws.map (fun _ => false)) ++ [true], [], [cE], 0, 0, nE, ws.length, 0⟩
def mkC (ws : List Int) (o s : Nat) : yuccaref9_maker := ⟨⟨(T3 ++ tks 0 0 0 ws) ++ [tx], [], (prs ws.length ++ [px ws.length]) ++ [pl o s], nE, nE⟩, ([false, false, false] ++ ws.map (fun _ => false)) ++ [true], [], [cE], 0, 0, nE, ws.length, 0⟩
def grm (ws : List Int) (o s : Nat) : Grammar := ⟨(T3 ++ tks 57346 1 0 ws) ++ [tx], [⟨{ data := #[36, 97, 99, 99, 101, 112, 116] }, nE⟩, ⟨cE, nE⟩], (prs ws.length ++ [px ws.length]) ++ [pl o s], nE, nE⟩
theorem cases9 {P : List Int → Prop} (ws : List Int) (h : ws.length ≤ 9) (h0 : P []) (h1 : ∀ a, P [a]) (h2 : ∀ a b, P [a, b]) (h3 : ∀ a b c, P [a, b, c]) (h4 : ∀ a b c d, P [a, b, c, d]) (h5 : ∀ a b c d e, P [a, b, c, d, e]) (h6 : ∀ a b c d e f, P [a, b, c, d, e, f])
    (h7 : ∀ a b c d e f g, P [a, b, c, d, e, f, g]) (h8 : ∀ a b c d e f g i, P [a, b, c, d, e, f, g, i]) (h9 : ∀ a b c d e f g i j, P [a, b, c, d, e, f, g, i, j]) : P ws := by
  rcases ws with _ | ⟨a, _ | ⟨b, _ | ⟨c, _ | ⟨d, _ | ⟨e, _ | ⟨f, _ | ⟨g, _ | ⟨i, _ | ⟨j, _ | ⟨k, l⟩⟩⟩⟩⟩⟩⟩⟩⟩⟩
  · exact h0
  · exact h1 ..
  · exact h2 ..
  · exact h3 ..
  · exact h4 ..
  · exact h5 ..
  · exact h6 ..
  · exact h7 ..
  · exact h8 ..
  · exact h9 ..
  · simp only [List.length_cons] at h; omega
theorem nat9 {P : Nat → Prop} (k : Nat) (h : k < 9) (h0 : P 0) (h1 : P 1) (h2 : P 2) (h3 : P 3) (h4 : P 4) (h5 : P 5) (h6 : P 6) (h7 : P 7) (h8 : P 8) : P k := by
  match k, h with
  | 0, _ => exact h0
  | 1, _ => exact h1
  | 2, _ => exact h2
  | 3, _ => exact h3
  | 4, _ => exact h4
  | 5, _ => exact h5
  | 6, _ => exact h6
  | 7, _ => exact h7
  | 8, _ => exact h8
def In3 (w : Int) : Prop := w = 0 ∨ w = 1 ∨ w = 2
theorem e78 (i : Nat) (hi : i < 9) {w : Int} (hw : In3 w) : pf78 (dc i w) = some true := by
  rcases hw with rfl | rfl | rfl
  · exact nat9 (P := fun i => pf78 (dc i 0) = some true) i hi (by kernel_rfl) (by kernel_rfl) (by kernel_rfl) (by kernel_rfl) (by kernel_rfl) (by kernel_rfl) (by kernel_rfl) (by kernel_rfl) (by kernel_rfl)
  · exact nat9 (P := fun i => pf78 (dc i 1) = some true) i hi (by kernel_rfl) (by kernel_rfl) (by kernel_rfl) (by kernel_rfl) (by kernel_rfl) (by kernel_rfl) (by kernel_rfl) (by kernel_rfl) (by kernel_rfl)
  · exact nat9 (P := fun i => pf78 (dc i 2) = some true) i hi (by kernel_rfl) (by kernel_rfl) (by kernel_rfl) (by kernel_rfl) (by kernel_rfl) (by kernel_rfl) (by kernel_rfl) (by kernel_rfl) (by kernel_rfl)
theorem e80 (i : Nat) (hi : i < 9) : pf80 (al i) = some true := by
  exact nat9 (P := fun i => pf80 (al i) = some true) i hi (by kernel_rfl) (by kernel_rfl) (by kernel_rfl) (by kernel_rfl) (by kernel_rfl) (by kernel_rfl) (by kernel_rfl) (by kernel_rfl) (by kernel_rfl)
theorem e80x : pf80 xal = some true := by kernel_rfl
theorem e80l (o s : Nat) (ho : o < 9) (hs : s < 9) : pf80 (lal o s) = some true := by
  refine nat9 (P := fun o => pf80 (lal o s) = some true) o ho ?_ ?_ ?_ ?_ ?_ ?_ ?_ ?_ ?_ <;>
  exact nat9 (P := fun s => pf80 (lal _ s) = some true) s hs (by kernel_rfl) (by kernel_rfl) (by kernel_rfl) (by kernel_rfl) (by kernel_rfl) (by kernel_rfl) (by kernel_rfl) (by kernel_rfl) (by kernel_rfl)
theorem e64 (ws : List Int) (h : ws.length < 9) {w : Int} (hw : In3 w) : pf64 (⟨(mkr ws).f_g, (mkr ws).f_given, (mkr ws).f_types, (mkr ws).f_lefts, (mkr ws).f_e, (mkr ws).f_at, (mkr ws).f_name, w64 (ws.length + 1), (mkr ws).f_inner⟩ : yuccaref9_maker) (dc ws.length w) (sy ws.length) = some (mkr (ws ++ [w])) := by
  revert h
  rcases hw with rfl | rfl | rfl
  all_goals
    refine fun h => cases9 (P := fun ws => ws.length < 9 → pf64 (⟨(mkr ws).f_g, (mkr ws).f_given, (mkr ws).f_types, (mkr ws).f_lefts, (mkr ws).f_e, (mkr ws).f_at, (mkr ws).f_name, w64 (ws.length + 1), (mkr ws).f_inner⟩ : yuccaref9_maker) (dc ws.length _) (sy ws.length) = some (mkr (ws ++ [_]))) ws (by omega) ?_ ?_ ?_ ?_ ?_ ?_ ?_ ?_ ?_ (fun _ _ _ _ _ _ _ _ _ h => absurd h (by simp)) h <;> intros <;> kernel_rfl
end Go.Proofs
namespace Go.Proofs
open Go Go.Own
set_option maxRecDepth 100000
set_option linter.unusedVariables false
theorem e68a (ws : List Int) (h : ws.length ≤ 9) : ∀ k, k < ws.length → pf68 (mkA ws k) cE (al k) = some (mkA ws (k + 1)) := by
  refine cases9 (P := fun ws => ∀ k, k < ws.length → pf68 (mkA ws k) cE (al k) = some (mkA ws (k + 1))) ws h ?_ ?_ ?_ ?_ ?_ ?_ ?_ ?_ ?_ ?_
  · exact fun k hk => absurd hk (Nat.not_lt_zero k)
  · intros a k hk; obtain rfl : k = 0 := by simp at hk; omega
    kernel_rfl
  · intros a b k hk; obtain rfl | rfl : k = 0 ∨ k = 1 := by simp at hk; omega
    all_goals kernel_rfl
  · intros a b c k hk; obtain rfl | rfl | rfl : k = 0 ∨ k = 1 ∨ k = 2 := by simp at hk; omega
    all_goals kernel_rfl
  · intros a b c d k hk; obtain rfl | rfl | rfl | rfl : k = 0 ∨ k = 1 ∨ k = 2 ∨ k = 3 := by simp at hk; omega
    all_goals kernel_rfl
  · intros a b c d e k hk; obtain rfl | rfl | rfl | rfl | rfl : k = 0 ∨ k = 1 ∨ k = 2 ∨ k = 3 ∨ k = 4 := by simp at hk; omega
    all_goals kernel_rfl
  · intros a b c d e f k hk; obtain rfl | rfl | rfl | rfl | rfl | rfl : k = 0 ∨ k = 1 ∨ k = 2 ∨ k = 3 ∨ k = 4 ∨ k = 5 := by simp at hk; omega
    all_goals kernel_rfl
  · intros a b c d e f g k hk; obtain rfl | rfl | rfl | rfl | rfl | rfl | rfl : k = 0 ∨ k = 1 ∨ k = 2 ∨ k = 3 ∨ k = 4 ∨ k = 5 ∨ k = 6 := by simp at hk; omega
    all_goals kernel_rfl
  · intros a b c d e f g i k hk; obtain rfl | rfl | rfl | rfl | rfl | rfl | rfl | rfl : k = 0 ∨ k = 1 ∨ k = 2 ∨ k = 3 ∨ k = 4 ∨ k = 5 ∨ k = 6 ∨ k = 7 := by simp at hk; omega
    all_goals kernel_rfl
  · intros a b c d e f g i j k hk; obtain rfl | rfl | rfl | rfl | rfl | rfl | rfl | rfl | rfl : k = 0 ∨ k = 1 ∨ k = 2 ∨ k = 3 ∨ k = 4 ∨ k = 5 ∨ k = 6 ∨ k = 7 ∨ k = 8 := by simp at hk; omega
    all_goals kernel_rfl
theorem e68x (ws : List Int) (h : ws.length ≤ 9) : pf68 (mkA ws ws.length) cE xal = some (mkB ws) := by
  refine cases9 (P := fun ws => pf68 (mkA ws ws.length) cE xal = some (mkB ws)) ws h ?_ ?_ ?_ ?_ ?_ ?_ ?_ ?_ ?_ ?_ <;> intros <;> kernel_rfl
theorem eTk3 (ws : List Int) (h : ws.length ≤ 9) : ∀ k, k < ws.length → pf83 (mkB ws) (sy k) = some ((k : Int) + 3, mkB ws) := by
  refine cases9 (P := fun ws => ∀ k, k < ws.length → pf83 (mkB ws) (sy k) = some ((k : Int) + 3, mkB ws)) ws h ?_ ?_ ?_ ?_ ?_ ?_ ?_ ?_ ?_ ?_
  · exact fun k hk => absurd hk (Nat.not_lt_zero k)
  · intros a k hk; obtain rfl : k = 0 := by simp at hk; omega
    kernel_rfl
  · intros a b k hk; obtain rfl | rfl : k = 0 ∨ k = 1 := by simp at hk; omega
    all_goals kernel_rfl
  · intros a b c k hk; obtain rfl | rfl | rfl : k = 0 ∨ k = 1 ∨ k = 2 := by simp at hk; omega
    all_goals kernel_rfl
  · intros a b c d k hk; obtain rfl | rfl | rfl | rfl : k = 0 ∨ k = 1 ∨ k = 2 ∨ k = 3 := by simp at hk; omega
    all_goals kernel_rfl
  · intros a b c d e k hk; obtain rfl | rfl | rfl | rfl | rfl : k = 0 ∨ k = 1 ∨ k = 2 ∨ k = 3 ∨ k = 4 := by simp at hk; omega
    all_goals kernel_rfl
  · intros a b c d e f k hk; obtain rfl | rfl | rfl | rfl | rfl | rfl : k = 0 ∨ k = 1 ∨ k = 2 ∨ k = 3 ∨ k = 4 ∨ k = 5 := by simp at hk; omega
    all_goals kernel_rfl
  · intros a b c d e f g k hk; obtain rfl | rfl | rfl | rfl | rfl | rfl | rfl : k = 0 ∨ k = 1 ∨ k = 2 ∨ k = 3 ∨ k = 4 ∨ k = 5 ∨ k = 6 := by simp at hk; omega
    all_goals kernel_rfl
  · intros a b c d e f g i k hk; obtain rfl | rfl | rfl | rfl | rfl | rfl | rfl | rfl : k = 0 ∨ k = 1 ∨ k = 2 ∨ k = 3 ∨ k = 4 ∨ k = 5 ∨ k = 6 ∨ k = 7 := by simp at hk; omega
    all_goals kernel_rfl
  · intros a b c d e f g i j k hk; obtain rfl | rfl | rfl | rfl | rfl | rfl | rfl | rfl | rfl : k = 0 ∨ k = 1 ∨ k = 2 ∨ k = 3 ∨ k = 4 ∨ k = 5 ∨ k = 6 ∨ k = 7 ∨ k = 8 := by simp at hk; omega
    all_goals kernel_rfl
theorem e67E (ws : List Int) (k : Nat) (hk : k < 9) : pf67 (mkB ws) (tn k) = some (-1) := by
  exact nat9 (P := fun k => pf67 (mkB ws) (tn k) = some (-1)) k hk (by kernel_rfl) (by kernel_rfl) (by kernel_rfl) (by kernel_rfl) (by kernel_rfl) (by kernel_rfl) (by kernel_rfl) (by kernel_rfl) (by kernel_rfl)
theorem tnE (k : Nat) : ¬ tn k = nE := fun h => by
  have h := congrArg ByteArray.size h
  unfold tn at h
  split at h <;> exact absurd h (by decide)
theorem prs_len : ∀ n, (prs n).length = n + 1
  | 0 => rfl
  | n + 1 => by simp [prs, prs_len n]
theorem e68l (ws : List Int) (h : ws.length ≤ 9) (o s : Nat) (ho : o < ws.length) (hs : s < ws.length) : pf68 (mkB ws) cE (lal o s) = some (mkC ws o s) := by
  have h1 : pf67 (mkB ws) cE = some 0 := by kernel_rfl
  have h2 : pf83 (mkB ws) syE = some (1001, mkB ws) := by kernel_rfl
  have key : ∀ o s : Nat, pf83 (mkB ws) (sy o) = some ((o : Int) + 3, mkB ws) → pf83 (mkB ws) (sy s) = some ((s : Int) + 3, mkB ws) → pf67 (mkB ws) (tn s) = some (-1) → ¬ tn s = nE → (o : Int) < 9 → pf68 (mkB ws) cE (lal o s) = some (mkC ws o s) := by
    intro o s ho hs hl hne ho9
    unfold pf68
    rw [h1]
    have hlp : ∀ (f : yuccaref9_maker × List Int × ByteArray × Int × Int → Option ((yuccaref9_maker × List Int × ByteArray × Int × Int) ⊕ (yuccaref9_maker × List Int × ByteArray × Int))),
        f (mkB ws, [], nE, 0, 0) = some (.inl (mkB ws, [(o : Int) + 3], nE, 0, 1)) → f (mkB ws, [(o : Int) + 3], nE, 0, 1) = some (.inl (mkB ws, [(o : Int) + 3, 1001], nE, 0, 2)) → f (mkB ws, [(o : Int) + 3, 1001], nE, 0, 2) = some (.inr (mkB ws, [(o : Int) + 3, 1001], nE, 0)) →
        loopM f (mkB ws, [], nE, 0, 0) = some (mkB ws, [(o : Int) + 3, 1001], nE, 0) := by
      intro f a b c
      show iter f (999999999999999997 + 1 + 1 + 1) _ = _
      simp only [iter, a, b, c]
    simp only [Option.bind_some]
    show (loopM _ (mkB ws, [], nE, 0, 0)).bind _ = _
    rw [hlp _ ?_ ?_ ?_]
    · have hlq : ∀ (f : Int × Int → Option ((Int × Int) ⊕ Int)), f (-1, 0) = some (.inl ((o : Int) + 3, 1)) → f ((o : Int) + 3, 1) = some (.inl ((o : Int) + 3, 2)) → f ((o : Int) + 3, 2) = some (.inr ((o : Int) + 3)) → loopM f (-1, 0) = some ((o : Int) + 3) := by
        intro f a b c
        show iter f (999999999999999997 + 1 + 1 + 1) _ = _
        simp only [iter, a, b, c]
      simp only [Option.bind_some]
      rw [hlq _ ?_ ?_ ?_]
      · simp only [Option.bind_some, lal, sy] at *
        have ha : ∀ p, appO (mkB ws).f_g.Prods [p] = some ((mkB ws).f_g.Prods ++ [p]) := fun p => by
          unfold appO
          rw [if_pos]
          show (prs ws.length ++ [px ws.length]).length + 1 ≤ lim
          rw [List.length_append, prs_len]
          simp [lim]
          omega
        simp only [hne, hl, decide_false, Bool.not_false, cond_true, cond_false, Option.bind_some, hs]
        rw [show decide ((-1 : Int) < 0) = true from rfl]
        simp only [cond_true, Option.bind_some, ha]
        rfl
      · show (bif decide ((0 : Int) < 2) then _ else _) = _
        have e : idx [(o : Int) + 3, 1001] 0 = some ((o : Int) + 3) := rfl
        simp only [e, Option.bind_some]
        rw [decide_eq_true (by omega : (o : Int) + 3 < 1000)]
        rfl
      · rfl
      · rfl
    · show (bif decide ((0 : Int) < 2) then _ else _) = _
      have e : idx (lal o s).Parts 0 = some ⟨sy o, nE, 0⟩ := rfl
      simp only [e, Option.bind_some, ho]
      rfl
    · show (bif decide ((1 : Int) < 2) then _ else _) = _
      have e : idx (lal o s).Parts 1 = some ⟨syE, nE, 0⟩ := rfl
      simp only [e, Option.bind_some, h2]
      rfl
    · rfl
  exact key o s (eTk3 ws h o ho) (eTk3 ws h s hs) (e67E ws s (by omega)) (tnE s) (by omega)
end Go.Proofs
namespace Go.Proofs
open Go Go.Own
set_option maxRecDepth 100000
set_option linter.unusedVariables false
theorem mem_ds {ws : List Int} {i : Int} {y : Decl} (h : idx (ds 0 ws) i = some y) : ∃ (k : Nat) (w : Int), i = k ∧ ws[k]? = some w ∧ y = dc k w := by
  obtain ⟨h0, h1, h2⟩ := idx_spec h
  rw [ds_get] at h2
  cases hw : ws[i.toNat]? with
  | none => rw [hw] at h2; cases h2
  | some w =>
    rw [hw] at h2
    simp only [Option.map_some, Option.some.injEq] at h2
    exact ⟨i.toNat, w, by omega, hw, by rw [← h2, Nat.zero_add]⟩
theorem mem_as {n o s : Nat} {i : Int} {y : Alt} (h : idx ((als n ++ [xal]) ++ [lal o s]) i = some y) : (i < n ∧ 0 ≤ i ∧ y = al i.toNat) ∨ (i = n ∧ y = xal) ∨ (i = n + 1 ∧ y = lal o s) := by
  obtain ⟨h0, h1, h2⟩ := idx_spec h
  by_cases ha : i.toNat < n
  · rw [List.append_assoc, List.getElem?_append_left (by rw [als_len]; exact ha), als_get n _ ha] at h2
    cases h2
    exact .inl ⟨by omega, h0, rfl⟩
  · rw [List.append_assoc, List.getElem?_append_right (by rw [als_len]; omega), als_len] at h2
    obtain e | e | e : i.toNat - n = 0 ∨ i.toNat - n = 1 ∨ 2 ≤ i.toNat - n := by omega
    · rw [e] at h2; cases h2; exact .inr (.inl ⟨by omega, rfl⟩)
    · rw [e] at h2; cases h2; exact .inr (.inr ⟨by omega, rfl⟩)
    · rw [List.getElem?_eq_none (by simpa using e)] at h2; cases h2
theorem take_get (ws : List Int) (k : Nat) (h : k < ws.length) : ws.take (k + 1) = ws.take k ++ [ws[k]] := by
  rw [List.take_add_one, List.getElem?_eq_getElem h]; rfl
structure Lv (ws : List Int) (o s : Nat) : Prop where
  n : ws.length ≤ 9
  k : ∀ w ∈ ws, In3 w
  o : o < ws.length
  s : s < ws.length
theorem e63 (ws : List Int) (o s : Nat) (h : Lv ws o s) : Tot (pf63 (src ws o s)) fun r => r = true := by
  unfold pf63
  have hn := h.n
  have ho := h.o
  have hs := h.s
  refine .by' (Ξ := fun r => r = .inl ()) ⟨.inl (), rfl, rfl⟩ fun r hr => ?_
  subst hr
  refine Tot.by' (Ξ := LR (fun _ => True) (fun _ => False)) ?_ fun r hr => ?_
  · refine (Tot.scan (ds 0 ws) (fun _ => True) (fun _ => False) (by rw [ds_len]; omega) (fun i y h0 h1 hi hm => ?_) (fun i hi => ?_)).use fun x hx => ?_
    · refine Tot.cp (fun _ => ?_) (fun hh => absurd h1 hh)
      show Tot ((idx (ds 0 ws) i).bind _) _
      rw [hi]
      obtain ⟨k, w, rfl, hw, rfl⟩ := mem_ds hi
      have hk : k < ws.length := by rw [ds_len] at h1; omega
      refine Tot.sm ?_
      rw [e78 k (by omega) (h.k w (List.mem_of_getElem? hw))]
      refine Tot.sm (.so ⟨?_, trivial⟩)
      show w64 (_ + 1) = _; rw [w64_eq]; omega
    · have : ¬ (i : Int) < ((src ws o s).Decls.length : Int) := hi
      simp only [this, decide_false, cond_false]
    · rcases x with x | x
      · trivial
      · exact hx
  rcases r with r | r
  · refine Tot.by' (Ξ := LR (fun _ => True) (fun _ => False)) ?_ fun r hr => ?_
    · refine (Tot.scan [(⟨cE, (als ws.length ++ [xal]) ++ [lal o s], 0⟩ : Rule)] (fun _ => True) (fun _ => False) (by show 1 ≤ 100000000000000000; decide) (fun i y h0 h1 hi hm => ?_) (fun i hi => ?_)).use fun x hx => ?_
      · refine Tot.cp (fun _ => ?_) (fun hh => absurd h1 hh)
        show Tot ((idx [(⟨cE, (als ws.length ++ [xal]) ++ [lal o s], 0⟩ : Rule)] i).bind _) _
        rw [hi]
        have hy := List.mem_singleton.1 hm
        subst hy
        have hal : ((((als ws.length ++ [xal]) ++ [lal o s]).length : Nat) : Int) = ws.length + 2 := by simp [als_len]
        refine Tot.sm ?_
        refine .by' (Ξ := fun c => c = false) ?_ fun c hc => ?_
        · have e79 : pf79 cE = some true := by kernel_rfl
          show Tot ((pf79 cE).bind _) _
          rw [e79]
          refine Tot.sm (.so ?_)
          show decide ((((als ws.length ++ [xal]) ++ [lal o s]).length : Int) = 0) = false
          rw [hal]
          exact decide_eq_false (by omega)
        subst hc
        refine Tot.cd (fun h => by cases h) (fun _ => ?_)
        refine Tot.by' (Ξ := LR (fun _ => True) (fun _ => False)) ?_ fun r hr => ?_
        · refine (Tot.scan ((als ws.length ++ [xal]) ++ [lal o s]) (fun _ => True) (fun _ => False) (by omega) (fun i y h0 h1 hi hm => ?_) (fun i hi => ?_)).use fun x hx => ?_
          · refine Tot.cp (fun _ => ?_) (fun hh => absurd h1 hh)
            show Tot ((idx ((als ws.length ++ [xal]) ++ [lal o s]) i).bind _) _
            rw [hi]
            have e : pf80 y = some true := by
              rcases mem_as hi with ⟨a, b, rfl⟩ | ⟨a, rfl⟩ | ⟨a, rfl⟩
              · exact e80 _ (by omega)
              · exact e80x
              · exact e80l o s (by omega) (by omega)
            refine Tot.sm ?_
            rw [e]
            refine Tot.sm (.so ⟨?_, trivial⟩)
            show w64 (_ + 1) = _; rw [w64_eq]; omega
          · have : ¬ (i : Int) < (((als ws.length ++ [xal]) ++ [lal o s]).length : Int) := hi
            simp only [this, decide_false, cond_false]
          · rcases x with x | x
            · trivial
            · exact hx
        rcases r with r | r
        · refine .so ⟨?_, trivial⟩
          have h1 : i < 1 := h1
          show w64 (_ + 1) = _; rw [w64_eq]; omega
        · exact hr.elim
      · have : ¬ (i : Int) < ((src ws o s).Rules.length : Int) := hi
        simp only [this, decide_false, cond_false]
      · rcases x with x | x
        · trivial
        · exact hx
    rcases r with r | r
    · exact .so (decide_eq_true (by show (0 : Int) < 1; decide))
    · exact hr.elim
  · exact hr.elim
theorem e67S (ws : List Int) : pf67 ({ mkr ws with f_lefts := [cE] }) cE = some 0 := by kernel_rfl
theorem e66S (ws : List Int) (h : ws.length ≤ 9) : pf66 (mkr ws) (⟨cE, false, 0, 0⟩ : Sym) = some (-1) := by
  refine cases9 (P := fun ws => pf66 (mkr ws) (⟨cE, false, 0, 0⟩ : Sym) = some (-1)) ws h ?_ ?_ ?_ ?_ ?_ ?_ ?_ ?_ ?_ ?_ <;> intros <;> kernel_rfl
theorem e67R (ws : List Int) : pf67 (mkr ws) cE = some (-1) := by kernel_rfl
theorem e50 (ws : List Int) (o s : Nat) (h : Lv ws o s) : Tot (pf50 (src ws o s)) fun r => r = (grm ws o s, 0, 0, nE) := by
  unfold pf50
  have hn := h.n
  have ho := h.o
  have hs := h.s
  refine .by' (e63 ws o s h) fun c hc => ?_
  subst hc
  refine Tot.cd (fun h => by cases h) (fun _ => ?_)
  refine .by' (Ξ := fun l => l = [false, false, false]) ⟨_, rfl, rfl⟩ fun x3 hx3 => ?_
  subst hx3
  -- declarations
  refine Tot.by' (Ξ := fun r => r = (mkr ws, nE)) ?_ fun x5 h5 => ?_
  · refine Tot.count (fun z => z.2.2) ws.length (fun z => ∃ k : Nat, k ≤ ws.length ∧ z = (mkr (ws.take k), nE, (k : Int))) ⟨0, Nat.zero_le _, rfl⟩ (by show (ws.length : Int) - 0 < _; omega) fun z hz => ?_
    obtain ⟨k, hk, rfl⟩ := hz
    simp only
    refine Tot.cp (fun hlt => ?_) (fun hge => .so ?_)
    · have hlt : (k : Int) < ((ds 0 ws).length : Int) := hlt
      rw [ds_len] at hlt
      have hlt : k < ws.length := by omega
      have hw : ws[k]? = some ws[k] := List.getElem?_eq_getElem hlt
      have hd : idx (ds 0 ws) (k : Int) = some (dc k ws[k]) := by
        have : (ds 0 ws)[k]? = some (dc k ws[k]) := by rw [ds_get, hw, Nat.zero_add]; rfl
        simp [idx, this]
      show Tot ((idx (ds 0 ws) (k : Int)).bind _) _
      rw [hd]
      have hi3 : In3 ws[k] := h.k _ (List.getElem_mem hlt)
      have htl : (ws.take k).length = k := by simp; omega
      have e := e64 (ws.take k) (by omega) hi3
      rw [htl, ← take_get ws k hlt] at e
      have hkd : (2 : Int) ≤ (dc k ws[k]).Kind ∧ (dc k ws[k]).Kind ≤ 4 := by
        have : (dc k ws[k]).Kind = w64 (2 + ws[k]) := rfl
        rw [this]
        rcases hi3 with h | h | h <;> rw [h] <;> decide
      refine Tot.sm ?_
      refine .by' (Ξ := fun c => c = true) (Tot.cp (fun _ => .so (decide_eq_true hkd.2)) (fun h => absurd hkd.1 h)) fun c hc => ?_
      subst hc
      refine .by' (Ξ := fun j => j = w64 (k + 1)) (.so (by show w64 (((ws.take k).length : Int) + 1) = _; rw [htl])) fun j hj => ?_
      subst hj
      refine .by' (Ξ := fun r => r = (mkr (ws.take (k + 1)), nE)) ?_ fun r hr => ?_
      · have l1 : ∀ (f : yuccaref9_maker × ByteArray × Int → Option ((yuccaref9_maker × ByteArray × Int) ⊕ (yuccaref9_maker × ByteArray))) (m : yuccaref9_maker) (m' : yuccaref9_maker),
            f (m, nE, 0) = some (.inl (m', nE, 1)) → f (m', nE, 1) = some (.inr (m', nE)) → loopM f (m, nE, 0) = some (m', nE) := by
          intro f m m' a b
          show iter f (999999999999999998 + 1 + 1) _ = _
          simp only [iter, a, b]
        refine ⟨_, l1 _ _ (mkr (ws.take (k + 1))) ?_ ?_, rfl⟩
        · have i0 : idx (dc k ws[k]).Syms 0 = some (sy k) := rfl
          have hk6 : decide ((dc k ws[k]).Kind = 6) = false := decide_eq_false (by omega)
          show (bif decide ((0 : Int) < 1) then _ else _) = _
          simp only [hk6, i0, Bool.not_false, cond_true, Option.bind_some]
          rw [e]
          rfl
        · rfl
      · subst hr
        have hw' : w64 ((k : Int) + 1) = (k : Int) + 1 := by rw [w64_eq]; omega
        refine .so ⟨⟨k + 1, by omega, ?_⟩, ?_, ?_⟩
        · rw [hw']; rfl
        · show (k : Int) < w64 (k + 1); rw [hw']; omega
        · show w64 ((k : Int) + 1) ≤ _; rw [hw']; omega
    · have hge : ¬ (k : Int) < ((ds 0 ws).length : Int) := hge
      rw [ds_len] at hge
      have : k = ws.length := by omega
      rw [this, List.take_length]; rfl
  subst h5
  -- what stands on the left
  refine Tot.by' (Ξ := fun r => r = { mkr ws with f_lefts := [cE] }) ?_ fun x28 h28 => ?_
  · have l1 : ∀ (f : yuccaref9_maker × Int → Option ((yuccaref9_maker × Int) ⊕ yuccaref9_maker)) (m : yuccaref9_maker) (m' : yuccaref9_maker),
        f (m, 0) = some (.inl (m', 1)) → f (m', 1) = some (.inr m') → loopM f (m, 0) = some m' := by
      intro f m m' a b
      show iter f (999999999999999998 + 1 + 1) _ = _
      simp only [iter, a, b]
    refine ⟨_, l1 _ _ ({ mkr ws with f_lefts := [cE] }) ?_ ?_, rfl⟩
    · show (bif decide ((0 : Int) < 1) then _ else _) = _
      have i0 : idx (src ws o s).Rules 0 = some (⟨cE, (als ws.length ++ [xal]) ++ [lal o s], 0⟩ : Rule) := rfl
      simp only [i0, Option.bind_some, e66S ws hn]
      rw [show decide ((0 : Int) ≤ -1) = false from rfl]
      simp only [cond_false, Option.bind_some, e67R]
      rfl
    · rfl
  subst h28
  -- types and starts
  refine Tot.by' (Ξ := fun r => r = { mkr ws with f_lefts := [cE] }) ?_ fun x42 h42 => ?_
  · refine Tot.count (fun z => z.2) ws.length (fun z => ∃ k : Nat, k ≤ ws.length ∧ z = ({ mkr ws with f_lefts := [cE] }, (k : Int))) ⟨0, Nat.zero_le _, rfl⟩ (by show (ws.length : Int) - 0 < _; omega) fun z hz => ?_
    obtain ⟨k, hk, rfl⟩ := hz
    refine Tot.cp (fun hlt => ?_) (fun hge => .so rfl)
    have hlt : (k : Int) < ((ds 0 ws).length : Int) := hlt
    rw [ds_len] at hlt
    have hlt : k < ws.length := by omega
    have hw : ws[k]? = some ws[k] := List.getElem?_eq_getElem hlt
    have hd : idx (src ws o s).Decls (k : Int) = some (dc k ws[k]) := by
      have : (ds 0 ws)[k]? = some (dc k ws[k]) := by rw [ds_get, hw, Nat.zero_add]; rfl
      show idx (ds 0 ws) (k : Int) = _
      simp [idx, this]
    have hi3 : In3 ws[k] := h.k _ (List.getElem_mem hlt)
    have hkd : ¬ (5 : Int) ≤ (dc k ws[k]).Kind := by
      have : (dc k ws[k]).Kind = w64 (2 + ws[k]) := rfl
      rw [this]
      rcases hi3 with h | h | h <;> rw [h] <;> decide
    refine .by' (Ξ := fun r => r = { mkr ws with f_lefts := [cE] }) ?_ fun r hr => ?_
    · have l1 : ∀ (f : yuccaref9_maker × Int → Option ((yuccaref9_maker × Int) ⊕ yuccaref9_maker)) (m : yuccaref9_maker),
          f (m, 0) = some (.inl (m, 1)) → f (m, 1) = some (.inr m) → loopM f (m, 0) = some m := by
        intro f m a b
        show iter f (999999999999999998 + 1 + 1) _ = _
        simp only [iter, a, b]
      refine ⟨_, l1 _ _ ?_ ?_, rfl⟩
      · have i0 : idx (dc k ws[k]).Syms 0 = some (sy k) := rfl
        simp only [hd, Option.bind_some, i0, hkd, decide_false, cond_false]
        rfl
      · simp only [hd, Option.bind_some]
        rfl
    · subst hr
      have hw' : w64 ((k : Int) + 1) = (k : Int) + 1 := by rw [w64_eq]; omega
      refine .so ⟨⟨k + 1, by omega, ?_⟩, ?_, ?_⟩
      · rw [hw']; rfl
      · show (k : Int) < w64 (k + 1); rw [hw']; omega
      · show w64 ((k : Int) + 1) ≤ _; rw [hw']; omega
  subst h42
  refine .by' (Ξ := fun r => r = cE) ⟨_, rfl, rfl⟩ fun j hj => ?_
  subst hj
  refine .by' (Ξ := fun r => r = 0) ⟨_, e67S ws, rfl⟩ fun j hj => ?_
  subst hj
  -- alternatives
  refine Tot.by' (Ξ := fun r => r = mkC ws o s) ?_ fun x65 h65 => ?_
  · have l1 : ∀ (f : yuccaref9_maker × Int → Option ((yuccaref9_maker × Int) ⊕ yuccaref9_maker)) (m : yuccaref9_maker) (m' : yuccaref9_maker),
        f (m, 0) = some (.inl (m', 1)) → f (m', 1) = some (.inr m') → loopM f (m, 0) = some m' := by
      intro f m m' a b
      show iter f (999999999999999998 + 1 + 1) _ = _
      simp only [iter, a, b]
    refine ⟨_, l1 _ _ (mkC ws o s) ?_ rfl, rfl⟩
    show (bif decide ((0 : Int) < 1) then _ else _) = _
    have i0 : idx (src ws o s).Rules 0 = some (⟨cE, (als ws.length ++ [xal]) ++ [lal o s], 0⟩ : Rule) := rfl
    simp only [i0, Option.bind_some]
    have hal : ((((als ws.length ++ [xal]) ++ [lal o s]).length : Nat) : Int) = ws.length + 2 := by simp [als_len]
    have key : Tot (loopM (R := yuccaref9_maker) (fun (s68 : yuccaref9_maker × Int) => (bif decide (s68.2 < (((als ws.length ++ [xal]) ++ [lal o s]).length : Int)) then
        (idx ((als ws.length ++ [xal]) ++ [lal o s]) s68.2).bind fun x75 => (pf68 s68.1 cE x75).bind fun x76 => some (.inl (x76, w64 (s68.2 + 1))) else some (.inr s68.1))) (mkA ws 0, 0)) fun r => r = mkC ws o s := by
      refine Tot.count (fun z => z.2) (ws.length + 2) (fun z => 0 ≤ z.2 ∧ z.2 ≤ ws.length + 2 ∧ z.1 = (if z.2 ≤ ws.length then mkA ws z.2.toNat else if z.2 = ws.length + 1 then mkB ws else mkC ws o s)) ⟨Int.le_refl 0, by show (0:Int) ≤ _; omega, by
        show mkA ws 0 = (if (0:Int) ≤ ws.length then mkA ws 0 else _)
        rw [if_pos (by omega)]⟩ (by show (ws.length : Int) + 2 - 0 < _; omega) fun z hz => ?_
      obtain ⟨m, i⟩ := z
      obtain ⟨h0, h1, hm⟩ := hz
      simp only at h0 h1 hm ⊢
      have hw' : w64 (i + 1) = i + 1 := by rw [w64_eq]; omega
      rw [hw']
      refine Tot.cp (fun hlt => ?_) (fun hge => .so ?_)
      · refine .by' (Tot.ix (Φ := fun y => idx ((als ws.length ++ [xal]) ++ [lal o s]) i = some y) h0 hlt fun y hy _ => hy) fun y hy => ?_
        refine .by' (Ξ := fun r => r = (if i + 1 ≤ ws.length then mkA ws (i + 1).toNat else if i + 1 = ws.length + 1 then mkB ws else mkC ws o s)) ?_ fun r hr => .so ⟨⟨?_, ?_, hr⟩, ?_, ?_⟩
        · rcases mem_as hy with ⟨a, b, rfl⟩ | ⟨rfl, rfl⟩ | ⟨rfl, rfl⟩
          · rw [if_pos (by omega)] at hm
            subst hm
            refine ⟨_, e68a ws hn i.toNat (by omega), ?_⟩
            rw [if_pos (by omega), show (i + 1).toNat = i.toNat + 1 by omega]
          · rw [if_pos (by omega)] at hm
            subst hm
            refine ⟨_, e68x ws hn, ?_⟩
            rw [if_neg (by omega), if_pos rfl]
          · rw [if_neg (by omega), if_pos rfl] at hm
            subst hm
            refine ⟨_, e68l ws hn o s ho hs, ?_⟩
            rw [if_neg (by omega), if_neg (by omega)]
        · show 0 ≤ i + 1; omega
        · show i + 1 ≤ (ws.length : Int) + 2; omega
        · show i < i + 1; omega
        · show i + 1 ≤ (ws.length : Int) + 2; omega
      · rw [hm, if_neg (by omega), if_neg (by omega)]; rfl
    obtain ⟨r, hr, rfl⟩ := key
    show (bif true then (loopM _ (mkA ws 0, 0)).bind _ else _) = _
    rw [hr]
    rfl
  subst h65
  refine Tot.cn (fun h => absurd rfl h) (fun _ => ?_)
  refine .by' (Ξ := fun l => l = (grm ws o s).Nons) ⟨_, by kernel_rfl, rfl⟩ fun x79 h79 => ?_
  subst h79
  refine .by' (Ξ := fun l => l = (grm ws o s).Nons) ⟨_, by kernel_rfl, rfl⟩ fun x89 h89 => ?_
  subst h89
  refine .by' (Ξ := fun l => l = (grm ws o s).Toks) ⟨_, ?_, rfl⟩ fun x96 h96 => ?_
  · clear h ho hs
    rcases ws with _ | ⟨a0, _ | ⟨b0, _ | ⟨c0, _ | ⟨d0, _ | ⟨e0, _ | ⟨f0, _ | ⟨g0, _ | ⟨i0, _ | ⟨j0, _ | ⟨zz, zl⟩⟩⟩⟩⟩⟩⟩⟩⟩⟩ <;> first | (exfalso; simp at hn; done) | kernel_rfl
  subst h96
  refine .by' (Ξ := fun c => c = false) ⟨_, ?_, rfl⟩ fun x106 h106 => ?_
  · clear h ho hs
    rcases ws with _ | ⟨a0, _ | ⟨b0, _ | ⟨c0, _ | ⟨d0, _ | ⟨e0, _ | ⟨f0, _ | ⟨g0, _ | ⟨i0, _ | ⟨j0, _ | ⟨zz, zl⟩⟩⟩⟩⟩⟩⟩⟩⟩⟩ <;> first | (exfalso; simp at hn; done) | kernel_rfl
  subst h106
  refine .by' (Ξ := fun c => c = false) ⟨_, ?_, rfl⟩ fun x108 h108 => ?_
  · clear h ho hs
    rcases ws with _ | ⟨a0, _ | ⟨b0, _ | ⟨c0, _ | ⟨d0, _ | ⟨e0, _ | ⟨f0, _ | ⟨g0, _ | ⟨i0, _ | ⟨j0, _ | ⟨zz, zl⟩⟩⟩⟩⟩⟩⟩⟩⟩⟩ <;> first | (exfalso; simp at hn; done) | kernel_rfl
  subst h108
  exact Tot.so rfl
end Go.Proofs
namespace Go.Proofs
open Go Go.Own
set_option maxRecDepth 100000
set_option linter.unusedVariables false
def wi (a : Int) : Int := (pf25 a 3).getD 0
theorem wi_spec (a : Int) : pf25 a 3 = some (wi a) ∧ In3 (wi a) := by
  obtain ⟨r, h, h0, h1⟩ := t25 a 3 (by decide) (by decide)
  unfold wi In3
  rw [h]
  exact ⟨rfl, by show r = 0 ∨ r = 1 ∨ r = 2; omega⟩
def wsK (l : List Int) : List Int := (l.take 9).map wi
theorem wsK_len (l : List Int) : ((wsK l).length : Int) = min (l.length : Int) 9 := by
  simp [wsK]; omega
theorem wsK_get (l : List Int) (k : Nat) (h : k < (wsK l).length) : ∃ a, idx l (k : Int) = some a ∧ (wsK l)[k] = wi a := by
  have hl : k < 9 ∧ k < l.length := by simp [wsK] at h; omega
  refine ⟨l[k], by simp [idx, hl.2], by simp [wsK]⟩
theorem e52 (i : Nat) (h : i < 9) : ∃ s, pf52 (i : Int) = some s ∧ catO ({ data := #[116] }) s = some (tn i) := by
  refine nat9 (P := fun i => ∃ s, pf52 (i : Int) = some s ∧ catO ({ data := #[116] }) s = some (tn i)) i h ?_ ?_ ?_ ?_ ?_ ?_ ?_ ?_ ?_
  · exact ⟨⟨#[48]⟩, by kernel_rfl, by kernel_rfl⟩
  · exact ⟨⟨#[49]⟩, by kernel_rfl, by kernel_rfl⟩
  · exact ⟨⟨#[50]⟩, by kernel_rfl, by kernel_rfl⟩
  · exact ⟨⟨#[51]⟩, by kernel_rfl, by kernel_rfl⟩
  · exact ⟨⟨#[52]⟩, by kernel_rfl, by kernel_rfl⟩
  · exact ⟨⟨#[53]⟩, by kernel_rfl, by kernel_rfl⟩
  · exact ⟨⟨#[54]⟩, by kernel_rfl, by kernel_rfl⟩
  · exact ⟨⟨#[55]⟩, by kernel_rfl, by kernel_rfl⟩
  · exact ⟨⟨#[56]⟩, by kernel_rfl, by kernel_rfl⟩
theorem lvK (l : List Int) (o s : Nat) (ho : (o : Int) < min (l.length : Int) 9) (hs : (s : Int) < min (l.length : Int) 9) : Lv (wsK l) o s := by
  have := wsK_len l
  refine ⟨by omega, fun w hw => ?_, by omega, by omega⟩
  simp only [wsK, List.mem_map] at hw
  obtain ⟨a, _, rfl⟩ := hw
  exact (wi_spec a).2
theorem e23 (l : List Int) (o s : Nat) (ho : (o : Int) < min (l.length : Int) 9) (hs : (s : Int) < min (l.length : Int) 9) : Tot (pf23 l o s) fun r => r = (grm (wsK l) o s, min (l.length : Int) 9, true) := by
  unfold pf23
  have hlv := lvK l o s ho hs
  have hn := wsK_len l
  generalize hws : wsK l = ws at hn hlv ⊢
  refine .by' (Ξ := fun r => r = (ds 0 ws, als ws.length)) ?_ fun x2 h2 => ?_
  · refine Tot.count (fun z => z.2.2) ws.length (fun z => ∃ k : Nat, k ≤ ws.length ∧ z = (ds 0 (ws.take k), als k, (k : Int))) ⟨0, Nat.zero_le _, rfl⟩ (by show (ws.length : Int) - 0 < _; omega) fun z hz => ?_
    obtain ⟨k, hk, rfl⟩ := hz
    simp only
    refine Tot.cp (fun hlt => ?_) (fun hge => .so ?_)
    · have hlt : k < ws.length := by omega
      obtain ⟨x5, h5, h6⟩ := e52 k (by omega)
      obtain ⟨a, h7, h8⟩ := wsK_get l k (by rw [hws]; exact hlt)
      have h8 : ws[k] = wi a := by simpa only [hws] using h8
      obtain ⟨h9, h10⟩ := wi_spec a
      rw [h5, h7]
      refine Tot.sm ?_
      rw [h6]
      refine Tot.sm (Tot.sm ?_)
      rw [h9]
      refine Tot.sm ?_
      refine .by' (Ξ := fun _ => True) (Tot.ap (by rw [ds_len]; simp [lim]; omega) trivial) fun _ _ => .by' (Ξ := fun _ => True) (Tot.ap (by rw [als_len]; simp [lim]; omega) trivial) fun _ _ => ?_
      have hw' : w64 ((k : Int) + 1) = (k : Int) + 1 := by rw [w64_eq]; omega
      refine .so ⟨⟨k + 1, by omega, ?_⟩, ?_, ?_⟩
      · rw [hw', take_get ws k hlt, ds_app, h8]
        have : (ws.take k).length = k := by simp; omega
        rw [this, Nat.zero_add]
        rfl
      · show (k : Int) < w64 (k + 1); rw [hw']; omega
      · show w64 ((k : Int) + 1) ≤ _; rw [hw']; omega
    · have : k = ws.length := by omega
      rw [this, List.take_length]; rfl
  subst h2
  refine .by' (Ξ := fun _ => True) (Tot.ap (by rw [als_len]; simp [lim]; omega) trivial) fun _ _ => ?_
  refine .by' (Ξ := fun r => r = (als ws.length ++ [xal]) ++ [lal o s]) ?_ fun j12 h12 => ?_
  · refine Tot.cp (fun _ => ?_) (fun h => absurd (by omega) h)
    obtain ⟨x5, h5, h6⟩ := e52 o (by omega)
    obtain ⟨x7, h7, h8⟩ := e52 s (by omega)
    rw [h5]
    refine Tot.sm ?_
    rw [h6, h7]
    refine Tot.sm (Tot.sm ?_)
    rw [h8]
    refine Tot.sm ?_
    exact .by' (Ξ := fun _ => True) (Tot.ap (by rw [List.length_append, als_len]; simp [lim]; omega) trivial) fun _ _ => .so rfl
  subst h12
  refine .by' (Ξ := fun r => r = (grm ws o s, true)) ?_ fun x19 h19 => ?_
  · unfold pf18
    refine .by' (e50 ws o s hlv) fun r hr => ?_
    subst hr
    exact .so rfl
  subst h19
  exact .so rfl
end Go.Proofs
namespace Go.Proofs
open Go Go.Own
set_option maxRecDepth 100000
set_option linter.unusedVariables false
theorem tks_len (b c : Int) : ∀ (ws : List Int) (i : Nat), (tks b c i ws).length = ws.length
  | [], _ => rfl
  | _ :: ws, i => by simp [tks, tks_len b c ws]
theorem tks_get (b c : Int) : ∀ (ws : List Int) (i k : Nat), (tks b c i ws)[k]? = (ws[k]?).map fun w => ⟨tn (i + k), false, b + c * (i + k : Nat), (i + k : Nat) + 1, w + 1, nE⟩
  | [], _, _ => rfl
  | _ :: ws, i, 0 => rfl
  | _ :: ws, i, k + 1 => by
    simp only [tks, List.getElem?_cons_succ, tks_get b c ws (i + 1) k]
    rw [show i + 1 + k = i + (k + 1) by omega]
theorem tok_lv (ws : List Int) (o s k : Nat) (h : k < ws.length) : tokS (grm ws o s) (k + 3) = ((k : Int) + 1, ws[k] + 1) := by
  have : (grm ws o s).Toks[k + 3]? = some ⟨tn k, false, 57346 + 1 * (k : Nat), (k : Nat) + 1, ws[k] + 1, nE⟩ := by
    show ((T3 ++ tks 57346 1 0 ws) ++ [tx])[k + 3]? = _
    rw [List.append_assoc, List.getElem?_append_right (by show 3 ≤ k + 3; omega)]
    show (tks 57346 1 0 ws ++ [tx])[k + 3 - 3]? = _
    rw [List.getElem?_append_left (by rw [tks_len]; omega), tks_get, show k + 3 - 3 = k by omega, List.getElem?_eq_getElem h, Nat.zero_add]
    rfl
  have e : idx (grm ws o s).Toks ((k : Int) + 3) = some ⟨tn k, false, 57346 + 1 * (k : Nat), (k : Nat) + 1, ws[k] + 1, nE⟩ := by
    unfold idx
    rw [if_pos (by omega), show ((k : Int) + 3).toNat = k + 3 by omega, this]
  unfold tokS
  rw [e]
theorem lev_l (ws : List Int) (o s : Nat) (h : s < ws.length) : levS (grm ws o s) (ws.length + 2) = ((s : Int) + 1, ws[s] + 1) := by
  have e : idx (grm ws o s).Prods ((ws.length : Int) + 2) = some (pl o s) := by
    unfold idx
    rw [if_pos (by omega), show ((ws.length : Int) + 2).toNat = ws.length + 2 by omega]
    show ((prs ws.length ++ [px ws.length]) ++ [pl o s])[ws.length + 2]? = _
    rw [List.append_assoc, List.getElem?_append_right (by rw [prs_len]; omega), prs_len, show ws.length + 2 - (ws.length + 1) = 1 by omega]
    rfl
  unfold levS
  rw [e]
  exact tok_lv ws o s s h
theorem e24 (l : List Int) (i k : Nat) (hi : i < (wsK l).length) : Tot (pf24 l i k) fun r => r = decS ((i : Int) + 1) ((k : Int) + 1, (if h : k < (wsK l).length then (wsK l)[k] else 0) + 1) := by
  unfold pf24 decS
  refine Tot.cp (fun h => .so ?_) (fun h => Tot.cp (fun h2 => .so ?_) (fun h2 => ?_))
  · rw [if_neg (by simp only; omega), if_pos (by simp only; omega)]
  · rw [if_neg (by simp only; omega), if_neg (by simp only; omega), if_pos (by simp only; omega)]
  · have : k = i := by omega
    subst this
    rw [dif_pos hi]
    obtain ⟨a, ha, hw⟩ := wsK_get l k hi
    obtain ⟨h9, h10⟩ := wi_spec a
    rw [ha, hw]
    refine Tot.sm ?_
    rw [h9]
    refine Tot.sm ?_
    rcases h10 with e | e | e <;> rw [e]
    · exact ⟨2, rfl, by rw [if_neg (by simp only; omega), if_neg (by simp only; omega), if_pos (by simp only; omega)]⟩
    · exact ⟨1, rfl, by rw [if_neg (by simp only; omega), if_pos (.inr ⟨rfl, rfl⟩)]⟩
    · exact ⟨3, rfl, by rw [if_neg (by simp only; omega), if_neg (by simp only; omega), if_neg (by simp only; omega)]⟩
theorem t5 (l : List Int) (a b c : Int) : Tot (pf5 l a b c) fun r => r = true := by
  unfold pf5
  rw [w15]
  refine Tot.sm (Tot.cd (fun h => by cases h) (fun _ => ?_))
  refine Tot.cp (fun _ => .so rfl) (fun hl => ?_)
  have hn := wsK_len l
  refine .by' (t25 a _ (by omega) (by omega)) fun o ho => .by' (t25 b _ (by omega) (by omega)) fun s hs => .by' (t25 c _ (by omega) (by omega)) fun t ht => ?_
  obtain ⟨o, rfl⟩ : ∃ p : Nat, o = p := ⟨o.toNat, by omega⟩
  obtain ⟨s, rfl⟩ : ∃ p : Nat, s = p := ⟨s.toNat, by omega⟩
  obtain ⟨t, rfl⟩ : ∃ p : Nat, t = p := ⟨t.toNat, by omega⟩
  refine .by' (e23 l o s ho.2 hs.2) fun x3 h3 => ?_
  subst h3
  simp only [← hn] at ho hs ht ⊢
  have hsl : s < (wsK l).length := by omega
  have htl : t < (wsK l).length := by omega
  have w1 : w64 ((s : Int) + 1) = (s : Int) + 1 := by rw [w64_eq]; omega
  have w2 : w64 ((t : Int) + 3) = (t : Int) + 3 := by rw [w64_eq]; omega
  have w3 : w64 (((wsK l).length : Int) + 2) = ((wsK l).length : Int) + 2 := by rw [w64_eq]; omega
  simp only [w1, w2, w3]
  rw [e19, lev_l _ _ _ hsl]
  refine Tot.sm (.by' (Ξ := fun c => c = true) (Tot.cd (fun _ => Tot.cp (fun _ => ?_) (fun h => absurd rfl h)) (fun h => by cases h)) fun c hc => .so hc)
  obtain ⟨x, hx, hw⟩ := wsK_get l s hsl
  obtain ⟨h9, h10⟩ := wi_spec x
  rw [hx]
  refine Tot.sm ?_
  rw [h9]
  refine Tot.sm (Tot.cp (fun _ => ?_) (fun h => ?_))
  · rw [e21, lev_l _ _ _ hsl, tok_lv _ _ _ _ htl]
    refine Tot.sm (.by' (e24 l s t hsl) fun y hy => .so ?_)
    subst hy
    rw [dif_pos htl]
    exact decide_eq_true rfl
  · refine absurd ?_ h
    rw [hw]
    show wi x + 1 = w64 (1 + wi x)
    rcases h10 with e | e | e <;> rw [e] <;> decide
end Go.Proofs
namespace Go.Proofs
open Go Go.Own
set_option maxRecDepth 100000
theorem uI : Try.prog.underlying 3 = some (.int .i64) := by kernel_rfl
def okI (n : Int) : Prop := (Lit.int .i64 n).wf = true
def okL {α : Type} (p : α → Prop) (l : List α) : Prop := l.length ≤ maxLen ∧ ∀ x ∈ l, p x
theorem aI : Ar Try.prog eI 3 okI := .int uI (by kernel_rfl) fun _ => rfl
theorem uLI : Try.prog.underlying 27 = some (.slice 3) := by kernel_rfl
theorem aLI : Ar Try.prog (eM eI) 27 (okL okI) := aI.slice (t := 27) uLI (by kernel_rfl) (by decide)
theorem pLaid : laidOutB Try.prog = true := by kernel_rfl
theorem pMaps : mapsRowed Try.prog = true := by kernel_rfl
theorem pFull : ((List.range Try.prog.types.size).all fun t => match Try.prog.underlying t with | some (.slice e) => decide (0 < Try.prog.cellsOf e) | _ => true) = true := by kernel_rfl
end Go.Proofs
