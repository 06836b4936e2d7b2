/-
  What is proved here: parts of the proof that QT states last: rules for walks through code, and of this program's functions what they answer. No condition of their own.
-/
import Derived.Test.YteohndfkdfehcaaRows
import Derived.Test.YteohndfkdfehcaaE4
namespace Go.Proofs
open Go Go.Own
set_option maxRecDepth 100000
set_option linter.unusedVariables false
theorem con67 (a0 : yuccaref9_maker) (a1 : ByteArray) (r : Int) (h : pf67 a0 a1 = some r) : Con Try.prog 67 [.iptr ([iR eTok a0.f_g.Toks, iR eNon a0.f_g.Nons, iR eProd_0 a0.f_g.Prods, SS a0.f_g.Pro, SS a0.f_g.Tail, iR eB a0.f_given, iR eNon a0.f_types, iR eS a0.f_lefts, I64 a0.f_e, I64 a0.f_at, SS a0.f_name, I64 a0.f_level, I64 a0.f_inner]), SS a1] [none, none] (I64 r) := by
  unfold pf67 at h
  refine Con.go (N := ⟨25, []⟩) Try.func67 rfl rfl rfl rfl (W.fin ?_)
  refine W.st [(0, .iptr ([iR eTok a0.f_g.Toks, iR eNon a0.f_g.Nons, iR eProd_0 a0.f_g.Prods, SS a0.f_g.Pro, SS a0.f_g.Tail, iR eB a0.f_given, iR eNon a0.f_types, iR eS a0.f_lefts, I64 a0.f_e, I64 a0.f_at, SS a0.f_name, I64 a0.f_level, I64 a0.f_inner])), (1, SS a1)] ?_
  refine W.sq' ?_
  refine W.rx [(0, _), (1, _)] (RunL.v (O.as (.k rfl)) rfl rfl .none <| RunL.fin (.n rfl (.n rfl .nil))) ?_
  refine Px.sq ?_
  refine W.sq' ?_
  refine W.sq' ?_
  refine W.rx [(0, _), (1, _), (5, _)] (RunL.v (O.as (.k rfl)) rfl rfl .none <| RunL.fin (.n rfl (.n rfl (.n rfl .nil)))) ?_
  refine Px.sq ?_
  refine W.bk ?_
  obtain ⟨x2, hl, h⟩ := bnd h
  refine W.tr (G1 := [(0, .iptr ([iR eTok a0.f_g.Toks, iR eNon a0.f_g.Nons, iR eProd_0 a0.f_g.Prods, SS a0.f_g.Pro, SS a0.f_g.Tail, iR eB a0.f_given, iR eNon a0.f_types, iR eS a0.f_lefts, I64 a0.f_e, I64 a0.f_at, SS a0.f_name, I64 a0.f_level, I64 a0.f_inner])), (1, SS a1), (5, I64 0)]) (.n rfl (.n rfl (.n rfl .nil))) ?_
  refine W.lp2 (s := 0) (fun (s1 : Int) => [(0, .iptr ([iR eTok a0.f_g.Toks, iR eNon a0.f_g.Nons, iR eProd_0 a0.f_g.Prods, SS a0.f_g.Pro, SS a0.f_g.Tail, iR eB a0.f_given, iR eNon a0.f_types, iR eS a0.f_lefts, I64 a0.f_e, I64 a0.f_at, SS a0.f_name, I64 a0.f_level, I64 a0.f_inner])), (1, SS a1), (5, I64 s1)]) 0 (fun (x3 : Unit) => []) (fun (x4 : Int) => [(4, I64 x4)]) hl (fun s1 o h => ?_) (fun x3 hx => ?_) (fun x4 hx => ?_)
  · clear hl
    refine W.sq' ?_
    refine W.sq' ?_
    refine W.rx [(0, _), (1, _), (5, _), (12, _)] (RunL.v (O.mv (.lit rfl)) rfl rfl .none <| RunL.v (O.mv (.iptr rfl)) rfl rfl .none <| RunL.v (O.nlI (.iptr rfl)) rfl rfl .none <| RunL.v (O.fI (.iptr rfl) fd128_3) rfl rfl .none <| RunL.v (O.ldI (x := iR eS a0.f_lefts) (.iptr rfl) ct61 rfl) rfl rfl .none <| RunL.v (O.lenI (.imm rfl) sl61) rfl rfl .none <| RunL.v (O.lss (.lit rfl) (.lit rfl)) rfl rfl .none <| RunL.fin (.n rfl (.n rfl (.n rfl (.n rfl .nil))))) ?_
    refine Px.sq ?_
    refine W.cnd rfl (fun hb5 => ?_) (fun hb5 => ?_)
    · replace h := cndT hb5 h
      refine W.sk ?_
      refine Px.sq ?_
      refine W.sq' ?_
      refine W.bk ?_
      refine W.sq' ?_
      obtain ⟨x6, hx6, h⟩ := bnd h
      refine W.rx [(0, _), (1, _), (5, _), (23, _)] (RunL.v (O.mv (.iptr rfl)) rfl rfl .none <| RunL.v (O.nlI (.iptr rfl)) rfl rfl .none <| RunL.v (O.fI (.iptr rfl) fd128_3) rfl rfl .none <| RunL.v (O.ldI (x := iR eS a0.f_lefts) (.iptr rfl) ct61 rfl) rfl rfl .none <| RunL.v (O.mv (.lit rfl)) rfl rfl .none <| RunL.v (O.ixI (.imm rfl) (.lit rfl) sl61 hx6) rfl rfl .none <| RunL.v (O.ldI (x := SS x6) (.iptr rfl) ct9 rfl) rfl rfl .none <| RunL.v (O.mv (.lit rfl)) rfl rfl .none <| RunL.v (O.eqS (.lit rfl) (.lit rfl)) rfl rfl .none <| RunL.fin (.n rfl (.n rfl (.n rfl (.n rfl .nil))))) ?_
      refine Px.sq ?_
      refine W.cnd rfl (fun hb7 => ?_) (fun hb7 => ?_)
      · replace h := cndT hb7 h
        refine W.sq' ?_
        refine W.rx [(4, _)] (RunL.v (O.mv (.lit rfl)) rfl rfl .none <| RunL.v (O.as (.lit rfl)) rfl rfl .none <| RunL.fin (.n rfl .nil)) ?_
        refine Px.sq ?_
        refine W.rt ?_
        refine Px.bkR ?_
        refine Px.sqR ?_
        obtain rfl := sm h
        exact Px.r2 (.n rfl .nil)
      · replace h := cndF hb7 h
        refine W.sk ?_
        refine Px.bk ?_
        refine Px.sq ?_
        refine W.rx [(0, _), (1, _), (5, _)] (RunL.v (O.mv (.lit rfl)) rfl rfl .none <| RunL.v (O.add (.lit rfl) (.k rfl)) rfl rfl .none <| RunL.re (G1 := [(0, .iptr ([iR eTok a0.f_g.Toks, iR eNon a0.f_g.Nons, iR eProd_0 a0.f_g.Prods, SS a0.f_g.Pro, SS a0.f_g.Tail, iR eB a0.f_given, iR eNon a0.f_types, iR eS a0.f_lefts, I64 a0.f_e, I64 a0.f_at, SS a0.f_name, I64 a0.f_level, I64 a0.f_inner])), (1, SS a1), (14, I64 (w64 (s1 + 1)))]) (.n rfl (.n rfl (.n rfl .nil))) <| RunL.v (O.as (.lit rfl)) rfl rfl .none <| RunL.fin (.n rfl (.n rfl (.n rfl .nil)))) ?_
        obtain rfl := sm h
        exact Px.go (.n rfl (.n rfl (.n rfl .nil)))
    · replace h := cndF hb5 h
      refine W.xi ?_
      refine Px.sqE ?_
      obtain rfl := sm h
      exact Px.x2 .nil
  · subst hx
    refine Px.bkH ?_
    refine Px.sq ?_
    refine W.sq' ?_
    refine W.rx [(4, _)] (RunL.v (O.as (.k rfl)) rfl rfl .none <| RunL.fin (.n rfl .nil)) ?_
    refine Px.sq ?_
    refine W.rt ?_
    obtain rfl := sm h
    exact Px.fin (Fin.ro (.f rfl rfl .nil) rfl (of_decide_eq_true (by kernel_rfl)) (.no (.no .nil)) rfl (.inr rfl))
  · subst hx
    refine Px.bkR ?_
    refine Px.sqR ?_
    obtain rfl := sm h
    exact Px.fin (Fin.ro (.f rfl rfl .nil) rfl (of_decide_eq_true (by kernel_rfl)) (.no (.no .nil)) rfl (.inr rfl))
def pf83 (a0 : yuccaref9_maker) (a1 : Sym) : Option (Int × yuccaref9_maker) :=
 (bif a1.Lit then
 (pf81 a0 a1).bind fun x2 =>
 some (x2.1, x2.2)
 else
 (pf67 a0 a1.Name).bind fun x3 =>
 (bif decide (0 ≤ x3) then
 some (w64 (1001 + x3), a0)
 else
 (pf66 a0 a1).bind fun x5 =>
 (bif decide (x5 < 0) then
 (pf65 a0 a1.At a1.Name).bind fun x7 =>
 some (0, x7)
 else
 some (x5, a0))))
theorem con83 (a0 : yuccaref9_maker) (a1 : Sym) (r : Int × yuccaref9_maker) (h : pf83 a0 a1 = some r) : Con Try.prog 83 [.obj [oR eTok a0.f_g.Toks, oR eNon a0.f_g.Nons, oR eProd_0 a0.f_g.Prods, SS a0.f_g.Pro, SS a0.f_g.Tail, oR eB a0.f_given, oR eNon a0.f_types, oR eS a0.f_lefts, I64 a0.f_e, I64 a0.f_at, SS a0.f_name, I64 a0.f_level, I64 a0.f_inner], .agg [SS a1.Name, BB a1.Lit, I64 a1.Num, I64 a1.At]] [some (.obj [oR eTok r.2.f_g.Toks, oR eNon r.2.f_g.Nons, oR eProd_0 r.2.f_g.Prods, SS r.2.f_g.Pro, SS r.2.f_g.Tail, oR eB r.2.f_given, oR eNon r.2.f_types, oR eS r.2.f_lefts, I64 r.2.f_e, I64 r.2.f_at, SS r.2.f_name, I64 r.2.f_level, I64 r.2.f_inner]), none] (I64 r.1) := by
  unfold pf83 at h
  refine Con.go (N := ⟨32, [0]⟩) Try.func83 rfl rfl rfl rfl (W.fin ?_)
  refine W.st [(0, .obj [oR eTok a0.f_g.Toks, oR eNon a0.f_g.Nons, oR eProd_0 a0.f_g.Prods, SS a0.f_g.Pro, SS a0.f_g.Tail, oR eB a0.f_given, oR eNon a0.f_types, oR eS a0.f_lefts, I64 a0.f_e, I64 a0.f_at, SS a0.f_name, I64 a0.f_level, I64 a0.f_inner]), (1, .agg [SS a1.Name, BB a1.Lit, I64 a1.Num, I64 a1.At])] ?_
  refine W.sq' ?_
  refine W.rx [(0, _), (3, _)] (RunL.v (O.box (.aggF rfl rfl) rfl) rfl rfl .none <| RunL.v (O.as (.k rfl)) rfl rfl .none <| RunL.fin (.n rfl (.n rfl .nil))) ?_
  refine Px.sq ?_
  refine W.sq' ?_
  refine W.sq' ?_
  refine W.rx [(0, _), (3, _), (8, _)] (RunL.v (O.fO rfl (.obj rfl) fd91_1 rfl) rfl rfl .none <| RunL.v (O.ldO (y := BB a1.Lit) rfl (.ptr rfl) ct4 rfl rfl) rfl rfl .none <| RunL.fin (.n rfl (.n rfl (.n rfl .nil)))) ?_
  refine Px.sq ?_
  refine W.cnd rfl (fun hb1 => ?_) (fun hb1 => ?_)
  · replace h := cndT hb1 h
    refine W.sq' ?_
    obtain ⟨x2, hx2, h⟩ := bnd h
    refine W.rx [(0, _), (4, _)] (RunL.v (O.mv (.obj rfl)) rfl rfl .none <| RunL.v (O.ldON (cs' := [SS a1.Name, BB a1.Lit, I64 a1.Num, I64 a1.At]) rfl (.obj rfl) at91 rfl rfl) rfl rfl .none <| RunL.ef (G2 := [(11, I64 x2.1), (0, .obj [oR eTok x2.2.f_g.Toks, oR eNon x2.2.f_g.Nons, oR eProd_0 x2.2.f_g.Prods, SS x2.2.f_g.Pro, SS x2.2.f_g.Tail, oR eB x2.2.f_given, oR eNon x2.2.f_types, oR eS x2.2.f_lefts, I64 x2.2.f_e, I64 x2.2.f_at, SS x2.2.f_name, I64 x2.2.f_level, I64 x2.2.f_inner])]) rfl (EO.call rfl rfl (CallOk.ln (G2 := []) (A := []) (ys := [.ptr ⟨0, []⟩ 0, .agg [SS a1.Name, BB a1.Lit, I64 a1.Num, I64 a1.At]]) (args := [.obj [oR eTok a0.f_g.Toks, oR eNon a0.f_g.Nons, oR eProd_0 a0.f_g.Prods, SS a0.f_g.Pro, SS a0.f_g.Tail, oR eB a0.f_given, oR eNon a0.f_types, oR eS a0.f_lefts, I64 a0.f_e, I64 a0.f_at, SS a0.f_name, I64 a0.f_level, I64 a0.f_inner], .agg [SS a1.Name, BB a1.Lit, I64 a1.Num, I64 a1.At]]) (cs' := [oR eTok x2.2.f_g.Toks, oR eNon x2.2.f_g.Nons, oR eProd_0 x2.2.f_g.Prods, SS x2.2.f_g.Pro, SS x2.2.f_g.Tail, oR eB x2.2.f_given, oR eNon x2.2.f_types, oR eS x2.2.f_lefts, I64 x2.2.f_e, I64 x2.2.f_at, SS x2.2.f_name, I64 x2.2.f_level, I64 x2.2.f_inner]) (k0 := 0) rfl rfl rfl rfl (.b rfl (.n rfl .nil)) rfl (con81 a0 a1 _ hx2) call81 .nil rfl rfl .nil .nil rfl)) <| RunL.v (O.as (.lit rfl)) rfl rfl .none <| RunL.fin (.n rfl (.n rfl .nil))) ?_
    refine Px.sq ?_
    refine W.rt ?_
    refine Px.sqR ?_
    obtain rfl := sm h
    exact Px.fin (Fin.ro (.f rfl rfl .nil) rfl (of_decide_eq_true (by kernel_rfl)) (.so rfl rfl (.no .nil)) rfl (.inr rfl))
  · replace h := cndF hb1 h
    refine W.sk ?_
    refine Px.sq ?_
    refine W.sq' ?_
    refine W.sq' ?_
    obtain ⟨x3, hx3, h⟩ := bnd h
    refine W.rx [(0, _), (3, _), (5, _)] (RunL.v (O.mv (.obj rfl)) rfl rfl .none <| RunL.v (O.fO rfl (.obj rfl) fd91_0 rfl) rfl rfl .none <| RunL.v (O.ldO (y := SS a1.Name) rfl (.ptr rfl) ct9 rfl rfl) rfl rfl .none <| RunL.c (PC.vw (ys := [.ptr ⟨0, []⟩ 0, SS a1.Name]) rfl (.c (View.p0 rfl rfl) (.s .nil)) (con67 a0 a1.Name _ hx3) call67 rfl) rfl rfl .none <| RunL.v (O.as (.lit rfl)) rfl rfl .none <| RunL.fin (.n rfl (.n rfl (.n rfl .nil)))) ?_
    refine Px.sq ?_
    refine W.sq' ?_
    refine W.rx [(0, _), (3, _), (5, _), (17, _)] (RunL.v (O.mv (.lit rfl)) rfl rfl .none <| RunL.v (O.geq (.lit rfl) (.k rfl)) rfl rfl .none <| RunL.fin (.n rfl (.n rfl (.n rfl (.n rfl .nil))))) ?_
    refine Px.sq ?_
    refine W.cnd rfl (fun hb4 => ?_) (fun hb4 => ?_)
    · replace h := cndT hb4 h
      refine W.sq' ?_
      refine W.rx [(0, _), (4, _)] (RunL.v (O.mv (.lit rfl)) rfl rfl .none <| RunL.v (O.add (.k rfl) (.lit rfl)) rfl rfl .none <| RunL.v (O.as (.lit rfl)) rfl rfl .none <| RunL.fin (.n rfl (.n rfl .nil))) ?_
      refine Px.sq ?_
      refine W.rt ?_
      refine Px.sqR ?_
      obtain rfl := sm h
      exact Px.fin (Fin.ro (.f rfl rfl .nil) rfl (of_decide_eq_true (by kernel_rfl)) (.so rfl rfl (.no .nil)) rfl (.inr rfl))
    · replace h := cndF hb4 h
      refine W.sk ?_
      refine Px.sq ?_
      refine W.sq' ?_
      obtain ⟨x5, hx5, h⟩ := bnd h
      refine W.rx [(0, _), (3, _), (6, _)] (RunL.v (O.mv (.obj rfl)) rfl rfl .none <| RunL.v (O.ldON (cs' := [SS a1.Name, BB a1.Lit, I64 a1.Num, I64 a1.At]) rfl (.obj rfl) at91 rfl rfl) rfl rfl .none <| RunL.c (PC.vw (ys := [.ptr ⟨0, []⟩ 0, .agg [SS a1.Name, BB a1.Lit, I64 a1.Num, I64 a1.At]]) rfl (.c (View.p0 rfl rfl) (.c (.ag (.s (.s (.s (.s .nil))))) .nil)) (con66 a0 a1 _ hx5) call66 rfl) rfl rfl .none <| RunL.v (O.as (.lit rfl)) rfl rfl .none <| RunL.fin (.n rfl (.n rfl (.n rfl .nil)))) ?_
      refine Px.sq ?_
      refine W.sq' ?_
      refine W.sq' ?_
      refine W.rx [(0, _), (3, _), (6, _), (24, _)] (RunL.v (O.mv (.lit rfl)) rfl rfl .none <| RunL.v (O.lss (.lit rfl) (.k rfl)) rfl rfl .none <| RunL.fin (.n rfl (.n rfl (.n rfl (.n rfl .nil))))) ?_
      refine Px.sq ?_
      refine W.cnd rfl (fun hb6 => ?_) (fun hb6 => ?_)
      · replace h := cndT hb6 h
        refine W.sq' ?_
        obtain ⟨x7, hx7, h⟩ := bnd h
        refine W.rx [(0, _)] (RunL.v (O.mv (.obj rfl)) rfl rfl .none <| RunL.v (O.fO rfl (.obj rfl) fd91_3 rfl) rfl rfl .none <| RunL.v (O.ldO (y := I64 a1.At) rfl (.ptr rfl) ct3 rfl rfl) rfl rfl .none <| RunL.v (O.fO rfl (.obj rfl) fd91_0 rfl) rfl rfl .none <| RunL.v (O.ldO (y := SS a1.Name) rfl (.ptr rfl) ct9 rfl rfl) rfl rfl .none <| RunL.ef (G2 := [(30, .tup []), (0, .obj [oR eTok x7.f_g.Toks, oR eNon x7.f_g.Nons, oR eProd_0 x7.f_g.Prods, SS x7.f_g.Pro, SS x7.f_g.Tail, oR eB x7.f_given, oR eNon x7.f_types, oR eS x7.f_lefts, I64 x7.f_e, I64 x7.f_at, SS x7.f_name, I64 x7.f_level, I64 x7.f_inner])]) rfl (EO.call rfl rfl (CallOk.ln (G2 := []) (A := []) (ys := [.ptr ⟨0, []⟩ 0, I64 a1.At, SS a1.Name]) (args := [.obj [oR eTok a0.f_g.Toks, oR eNon a0.f_g.Nons, oR eProd_0 a0.f_g.Prods, SS a0.f_g.Pro, SS a0.f_g.Tail, oR eB a0.f_given, oR eNon a0.f_types, oR eS a0.f_lefts, I64 a0.f_e, I64 a0.f_at, SS a0.f_name, I64 a0.f_level, I64 a0.f_inner], I64 a1.At, SS a1.Name]) (cs' := [oR eTok x7.f_g.Toks, oR eNon x7.f_g.Nons, oR eProd_0 x7.f_g.Prods, SS x7.f_g.Pro, SS x7.f_g.Tail, oR eB x7.f_given, oR eNon x7.f_types, oR eS x7.f_lefts, I64 x7.f_e, I64 x7.f_at, SS x7.f_name, I64 x7.f_level, I64 x7.f_inner]) (k0 := 0) rfl rfl rfl rfl (.b rfl (.n rfl (.n rfl .nil))) rfl (con65 a0 a1.At a1.Name _ hx7) call65 .nil rfl rfl .nil .nil rfl)) <| RunL.fin (.n rfl .nil)) ?_
        refine Px.sq ?_
        refine W.sq' ?_
        refine W.rx [(0, _), (4, _)] (RunL.v (O.as (.k rfl)) rfl rfl .none <| RunL.fin (.n rfl (.n rfl .nil))) ?_
        refine Px.sq ?_
        refine W.rt ?_
        refine Px.sqR ?_
        obtain rfl := sm h
        exact Px.fin (Fin.ro (.f rfl rfl .nil) rfl (of_decide_eq_true (by kernel_rfl)) (.so rfl rfl (.no .nil)) rfl (.inr rfl))
      · replace h := cndF hb6 h
        refine W.sk ?_
        refine Px.sq ?_
        refine W.sq' ?_
        refine W.rx [(0, _), (4, _)] (RunL.v (O.mv (.lit rfl)) rfl rfl .none <| RunL.v (O.as (.lit rfl)) rfl rfl .none <| RunL.fin (.n rfl (.n rfl .nil))) ?_
        refine Px.sq ?_
        refine W.rt ?_
        obtain rfl := sm h
        exact Px.fin (Fin.ro (.f rfl rfl .nil) rfl (of_decide_eq_true (by kernel_rfl)) (.so rfl rfl (.no .nil)) rfl (.inr rfl))
def pf68 (a0 : yuccaref9_maker) (a1 : ByteArray) (a2 : Alt) : Option (yuccaref9_maker) :=
 (pf67 a0 a1).bind fun x1 =>
 (loopM (R := yuccaref9_maker × List Int × ByteArray × Int) (fun (s2 : yuccaref9_maker × List Int × ByteArray × Int × Int) =>
 (bif decide (s2.2.2.2.2 < (a2.Parts.length : Int)) then
 ((idx a2.Parts s2.2.2.2.2).bind fun x7 =>
 (((bif decide (x7.Code = { data := #[] }) then
 (pf83 s2.1 x7.Sym).bind fun x11 =>
 (appO s2.2.1 [x11.1]).bind fun x12 =>
 some (x11.2, s2.2.1 ++ [x11.1], s2.2.2.1, s2.2.2.2.1)
 else
 ((bif decide (w64 (s2.2.2.2.2 + 1) = (a2.Parts.length : Int)) then
 some (s2.1.f_g.Prods, s2.1.f_inner, s2.2.1, x7.Code, x7.At)
 else
 (appO ([] : List Int) s2.2.1).bind fun x15 =>
 (appO s2.1.f_g.Prods [(⟨w64 ((s2.1.f_lefts.length : Int) + (w64 (s2.1.f_inner + 1))), ([] : List Int), (-1), x7.Code, ([] : List Int) ++ s2.2.1, x7.At⟩ : Prod)]).bind fun x16 =>
 (appO s2.2.1 [w64 ((w64 (1000 + (s2.1.f_lefts.length : Int))) + (w64 (s2.1.f_inner + 1)))]).bind fun x17 =>
 some (s2.1.f_g.Prods ++ [(⟨w64 ((s2.1.f_lefts.length : Int) + (w64 (s2.1.f_inner + 1))), ([] : List Int), (-1), x7.Code, ([] : List Int) ++ s2.2.1, x7.At⟩ : Prod)], w64 (s2.1.f_inner + 1), s2.2.1 ++ [w64 ((w64 (1000 + (s2.1.f_lefts.length : Int))) + (w64 (s2.1.f_inner + 1)))], s2.2.2.1, s2.2.2.2.1))).bind fun j13 =>
 some ((⟨(⟨s2.1.f_g.Toks, s2.1.f_g.Nons, j13.1, s2.1.f_g.Pro, s2.1.f_g.Tail⟩ : Grammar), s2.1.f_given, s2.1.f_types, s2.1.f_lefts, s2.1.f_e, s2.1.f_at, s2.1.f_name, s2.1.f_level, j13.2.1⟩ : yuccaref9_maker), j13.2.2.1, j13.2.2.2.1, j13.2.2.2.2))).bind fun j9 =>
 some (j9.1, j9.2.1, j9.2.2.1, j9.2.2.2)).bind fun j8 =>
 some (j8.1, j8.2.1, j8.2.2.1, j8.2.2.2)).bind fun j6 =>
 some (.inl (j6.1, j6.2.1, j6.2.2.1, j6.2.2.2, w64 (s2.2.2.2.2 + 1)))
 else
 some (.inr (s2.1, s2.2.1, s2.2.2.1, s2.2.2.2.1)))) (a0, ([] : List Int), { data := #[] }, a2.At, 0)).bind fun x3 =>
 (loopM (R := Int) (fun (s18 : Int × Int) =>
 (bif decide (s18.2 < (x3.2.1.length : Int)) then
 ((idx x3.2.1 s18.2).bind fun x23 =>
 ((bif decide (x23 < 1000) then
 (idx x3.2.1 s18.2).bind fun x26 =>
 some x26
 else
 some s18.1)).bind fun j24 =>
 some j24).bind fun j22 =>
 some (.inl (j22, w64 (s18.2 + 1)))
 else
 some (.inr s18.1))) ((-1), 0)).bind fun x19 =>
 ((bif !decide (a2.Prec.Name = { data := #[] }) then
 ((bif a2.Prec.Lit then some true else ((pf67 x3.1 a2.Prec.Name).bind fun x30 => some (decide (x30 < 0))))).bind fun c31 =>
 ((bif c31 then
 (pf83 x3.1 a2.Prec).bind fun x34 =>
 some (x34.2, x34.1)
 else
 (pf65 x3.1 a2.Prec.At a2.Prec.Name).bind fun x35 =>
 some (x35, (-1)))).bind fun j32 =>
 some (j32.1, j32.2)
 else
 some (x3.1, x19))).bind fun j27 =>
 (appO ([] : List Int) x3.2.1).bind fun x36 =>
 (appO j27.1.f_g.Prods [(⟨w64 (1 + x1), x3.2.1, j27.2, x3.2.2.1, ([] : List Int) ++ x3.2.1, x3.2.2.2⟩ : Prod)]).bind fun x37 =>
 some (⟨(⟨j27.1.f_g.Toks, j27.1.f_g.Nons, j27.1.f_g.Prods ++ [(⟨w64 (1 + x1), x3.2.1, j27.2, x3.2.2.1, ([] : List Int) ++ x3.2.1, x3.2.2.2⟩ : Prod)], j27.1.f_g.Pro, j27.1.f_g.Tail⟩ : Grammar), j27.1.f_given, j27.1.f_types, j27.1.f_lefts, j27.1.f_e, j27.1.f_at, j27.1.f_name, j27.1.f_level, j27.1.f_inner⟩ : yuccaref9_maker)
theorem con68 (a0 : yuccaref9_maker) (a1 : ByteArray) (a2 : Alt) (r : yuccaref9_maker) (h : pf68 a0 a1 a2 = some r) : Con Try.prog 68 [.obj [oR eTok a0.f_g.Toks, oR eNon a0.f_g.Nons, oR eProd_0 a0.f_g.Prods, SS a0.f_g.Pro, SS a0.f_g.Tail, oR eB a0.f_given, oR eNon a0.f_types, oR eS a0.f_lefts, I64 a0.f_e, I64 a0.f_at, SS a0.f_name, I64 a0.f_level, I64 a0.f_inner], SS a1, .agg [iR ePart a2.Parts, SS a2.Prec.Name, BB a2.Prec.Lit, I64 a2.Prec.Num, I64 a2.Prec.At, I64 a2.At]] [some (.obj [oR eTok r.f_g.Toks, oR eNon r.f_g.Nons, oR eProd_0 r.f_g.Prods, SS r.f_g.Pro, SS r.f_g.Tail, oR eB r.f_given, oR eNon r.f_types, oR eS r.f_lefts, I64 r.f_e, I64 r.f_at, SS r.f_name, I64 r.f_level, I64 r.f_inner]), none, none] (.tup []) := by
  unfold pf68 at h
  refine Con.go (N := ⟨173, [0]⟩) Try.func68 rfl rfl rfl rfl (W.fin ?_)
  refine W.st [(0, .obj [oR eTok a0.f_g.Toks, oR eNon a0.f_g.Nons, oR eProd_0 a0.f_g.Prods, SS a0.f_g.Pro, SS a0.f_g.Tail, oR eB a0.f_given, oR eNon a0.f_types, oR eS a0.f_lefts, I64 a0.f_e, I64 a0.f_at, SS a0.f_name, I64 a0.f_level, I64 a0.f_inner]), (1, SS a1), (2, .agg [iR ePart a2.Parts, SS a2.Prec.Name, BB a2.Prec.Lit, I64 a2.Prec.Num, I64 a2.Prec.At, I64 a2.At])] ?_
  refine W.sq' ?_
  refine W.rx [(0, _), (1, _), (5, _)] (RunL.v (O.box (.aggF rfl rfl) rfl) rfl rfl .none <| RunL.fin (.n rfl (.n rfl (.n rfl .nil)))) ?_
  refine Px.sq ?_
  refine W.sq' ?_
  obtain ⟨x1, hx1, h⟩ := bnd h
  refine W.rd [[], [], [0, 1], [0, 1, 2], [], [4], [0, 1, 2, 3, 4, 5], [], [0, 1, 2, 3, 4, 5, 6, 7]] [(0, _), (5, _), (6, _)] mixo (by kernel_rfl) (DL.v 0 (O.mv (.obj rfl)) rfl rfl rfl rfl .none <| DL.v 1 (O.mv (.lit rfl)) rfl rfl rfl rfl .none <| DL.c 2 (PC.vw (ys := [.ptr ⟨0, []⟩ 0, SS a1]) rfl (.c (View.p0 rfl rfl) (.s .nil)) (con67 a0 a1 _ hx1) call67 rfl) rfl rfl rfl rfl .none <| DL.v 3 (O.add (.k rfl) (.lit rfl)) rfl rfl rfl rfl .none <| DL.v 4 (O.fO rfl (.obj rfl) fd98_2 rfl) rfl rfl rfl rfl .none <| DL.v 5 (O.ldO (y := I64 a2.At) rfl (.ptr rfl) ct3 rfl rfl) rfl rfl rfl rfl .none <| DL.v 6 (O.bu (cs := [I64 (w64 (1 + x1)), .nils, I64 (-1), SS ({ data := #[] }), .nils, I64 a2.At]) sc109 ze109 rfl rfl rfl) rfl rfl rfl rfl .none <| DL.v 7 (O.al (cs := [I64 0, .nils, I64 0, SS ({ data := #[] }), .nils, I64 0]) ze109 rfl rfl) rfl rfl rfl rfl .none <| DL.sO 8 (G2 := [(0, .obj [oR eTok a0.f_g.Toks, oR eNon a0.f_g.Nons, oR eProd_0 a0.f_g.Prods, SS a0.f_g.Pro, SS a0.f_g.Tail, oR eB a0.f_given, oR eNon a0.f_types, oR eS a0.f_lefts, I64 a0.f_e, I64 a0.f_at, SS a0.f_name, I64 a0.f_level, I64 a0.f_inner]), (5, .obj [iR ePart a2.Parts, SS a2.Prec.Name, BB a2.Prec.Lit, I64 a2.Prec.Num, I64 a2.Prec.At, I64 a2.At]), (6, .obj [I64 (w64 (1 + x1)), .nils, I64 (-1), SS ({ data := #[] }), .nils, I64 a2.At])]) (cs2 := [I64 (w64 (1 + x1)), .nils, I64 (-1), SS ({ data := #[] }), .nils, I64 a2.At]) rfl (by kernel_rfl) (by kernel_rfl) rfl rfl rfl (.obj rfl) (.aggF rfl rfl) rfl sz109 rfl rfl rfl rfl (.n rfl rfl (.n rfl rfl (.b rfl .nil))) <| DL.fin rfl rfl rfl (.n rfl (.n rfl (.n rfl .nil)))) ?_
  refine Px.sq ?_
  refine W.sq' ?_
  refine W.sq' ?_
  refine W.rx [(0, _), (5, _), (6, _), (7, _)] (RunL.v (O.as (.k rfl)) rfl rfl .none <| RunL.fin (.n rfl (.n rfl (.n rfl (.n rfl .nil))))) ?_
  refine Px.sq ?_
  refine W.bk ?_
  obtain ⟨x3, hl, h⟩ := bnd h
  refine W.tr (G1 := [(0, .obj [oR eTok a0.f_g.Toks, oR eNon a0.f_g.Nons, oR eProd_0 a0.f_g.Prods, SS a0.f_g.Pro, SS a0.f_g.Tail, oR eB a0.f_given, oR eNon a0.f_types, oR eS a0.f_lefts, I64 a0.f_e, I64 a0.f_at, SS a0.f_name, I64 a0.f_level, I64 a0.f_inner]), (5, .obj [iR ePart a2.Parts, SS a2.Prec.Name, BB a2.Prec.Lit, I64 a2.Prec.Num, I64 a2.Prec.At, I64 a2.At]), (6, .obj [I64 (w64 (1 + x1)), oR eI ([] : List Int), I64 (-1), SS ({ data := #[] }), .nils, I64 a2.At]), (7, I64 0)]) (.n rfl (.n rfl (.w rfl rfl (WkL.obj (.f (.o (.f (.f (.f (.f .nil))))))) (.n rfl .nil)))) ?_
  refine W.lp1 (s := (a0, ([] : List Int), { data := #[] }, a2.At, 0)) (fun (s2 : yuccaref9_maker × List Int × ByteArray × Int × Int) => [(0, .obj [oR eTok s2.1.f_g.Toks, oR eNon s2.1.f_g.Nons, oR eProd_0 s2.1.f_g.Prods, SS s2.1.f_g.Pro, SS s2.1.f_g.Tail, oR eB s2.1.f_given, oR eNon s2.1.f_types, oR eS s2.1.f_lefts, I64 s2.1.f_e, I64 s2.1.f_at, SS s2.1.f_name, I64 s2.1.f_level, I64 s2.1.f_inner]), (5, .obj [iR ePart a2.Parts, SS a2.Prec.Name, BB a2.Prec.Lit, I64 a2.Prec.Num, I64 a2.Prec.At, I64 a2.At]), (6, .obj [I64 (w64 (1 + x1)), oR eI s2.2.1, I64 (-1), SS s2.2.2.1, .nils, I64 s2.2.2.2.1]), (7, I64 s2.2.2.2.2)]) 0 (fun (x3 : yuccaref9_maker × List Int × ByteArray × Int) => [(0, .obj [oR eTok x3.1.f_g.Toks, oR eNon x3.1.f_g.Nons, oR eProd_0 x3.1.f_g.Prods, SS x3.1.f_g.Pro, SS x3.1.f_g.Tail, oR eB x3.1.f_given, oR eNon x3.1.f_types, oR eS x3.1.f_lefts, I64 x3.1.f_e, I64 x3.1.f_at, SS x3.1.f_name, I64 x3.1.f_level, I64 x3.1.f_inner]), (5, .obj [iR ePart a2.Parts, SS a2.Prec.Name, BB a2.Prec.Lit, I64 a2.Prec.Num, I64 a2.Prec.At, I64 a2.At]), (6, .obj [I64 (w64 (1 + x1)), oR eI x3.2.1, I64 (-1), SS x3.2.2.1, .nils, I64 x3.2.2.2])]) hl (fun s2 o h => ?_) ?_
  · clear hl
    refine W.sq' ?_
    refine W.sq' ?_
    refine W.rx [(0, _), (5, _), (6, _), (7, _), (21, _)] (RunL.v (O.mv (.lit rfl)) rfl rfl .none <| RunL.v (O.fO rfl (.obj rfl) fd98_0 rfl) rfl rfl .none <| RunL.v (O.ldO (y := iR ePart a2.Parts) rfl (.ptr rfl) ct96 rfl rfl) rfl rfl .none <| RunL.v (O.lenI (.imm rfl) sl96) rfl rfl .none <| RunL.v (O.lss (.lit rfl) (.lit rfl)) rfl rfl .none <| RunL.fin (.n rfl (.n rfl (.n rfl (.n rfl (.n rfl .nil)))))) ?_
    refine Px.sq ?_
    refine W.cnd rfl (fun hb5 => ?_) (fun hb5 => ?_)
    · replace h := cndT hb5 h
      refine W.sk ?_
      refine Px.sq ?_
      refine W.sq' ?_
      obtain ⟨j6, hj, h⟩ := bnd h
      refine W.jn [(0, .obj [oR eTok j6.1.f_g.Toks, oR eNon j6.1.f_g.Nons, oR eProd_0 j6.1.f_g.Prods, SS j6.1.f_g.Pro, SS j6.1.f_g.Tail, oR eB j6.1.f_given, oR eNon j6.1.f_types, oR eS j6.1.f_lefts, I64 j6.1.f_e, I64 j6.1.f_at, SS j6.1.f_name, I64 j6.1.f_level, I64 j6.1.f_inner]), (5, .obj [iR ePart a2.Parts, SS a2.Prec.Name, BB a2.Prec.Lit, I64 a2.Prec.Num, I64 a2.Prec.At, I64 a2.At]), (6, .obj [I64 (w64 (1 + x1)), oR eI j6.2.1, I64 (-1), SS j6.2.2.1, .nils, I64 j6.2.2.2]), (7, I64 s2.2.2.2.2)] ?_ ?_
      · clear h; have h := hj; clear hj
        refine W.bk ?_
        refine W.sq' ?_
        obtain ⟨x7, hx7, h⟩ := bnd h
        refine W.rx [(0, _), (5, _), (6, _), (7, _), (8, _)] (RunL.v (O.fO rfl (.obj rfl) fd98_0 rfl) rfl rfl .none <| RunL.v (O.ldO (y := iR ePart a2.Parts) rfl (.ptr rfl) ct96 rfl rfl) rfl rfl .none <| RunL.v (O.mv (.lit rfl)) rfl rfl .none <| RunL.v (O.ixI (.imm rfl) (.lit rfl) sl96 hx7) rfl rfl .none <| RunL.v (O.ldIN (cs' := [SS x7.Sym.Name, BB x7.Sym.Lit, I64 x7.Sym.Num, I64 x7.Sym.At, SS x7.Code, I64 x7.At]) (.iptr rfl) at100 rfl rfl) rfl rfl .none <| RunL.v (O.al (cs := [SS ({ data := #[] }), BB false, I64 0, I64 0, SS ({ data := #[] }), I64 0]) ze100 rfl rfl) rfl rfl .none <| RunL.sO (G2 := [(0, .obj [oR eTok s2.1.f_g.Toks, oR eNon s2.1.f_g.Nons, oR eProd_0 s2.1.f_g.Prods, SS s2.1.f_g.Pro, SS s2.1.f_g.Tail, oR eB s2.1.f_given, oR eNon s2.1.f_types, oR eS s2.1.f_lefts, I64 s2.1.f_e, I64 s2.1.f_at, SS s2.1.f_name, I64 s2.1.f_level, I64 s2.1.f_inner]), (5, .obj [iR ePart a2.Parts, SS a2.Prec.Name, BB a2.Prec.Lit, I64 a2.Prec.Num, I64 a2.Prec.At, I64 a2.At]), (6, .obj [I64 (w64 (1 + x1)), oR eI s2.2.1, I64 (-1), SS s2.2.2.1, .nils, I64 s2.2.2.2.1]), (7, I64 s2.2.2.2.2), (8, .obj [SS x7.Sym.Name, BB x7.Sym.Lit, I64 x7.Sym.Num, I64 x7.Sym.At, SS x7.Code, I64 x7.At])]) (cs2 := [SS x7.Sym.Name, BB x7.Sym.Lit, I64 x7.Sym.Num, I64 x7.Sym.At, SS x7.Code, I64 x7.At]) rfl (.obj rfl) (.aggF rfl rfl) rfl sz100 rfl rfl rfl rfl (.n rfl rfl (.n rfl rfl (.n rfl rfl (.n rfl rfl (.b rfl .nil))))) <| RunL.fin (.n rfl (.n rfl (.n rfl (.n rfl (.n rfl .nil)))))) ?_
        refine Px.sq ?_
        obtain ⟨j8, hj, h⟩ := bnd h
        refine W.jn [(0, .obj [oR eTok j8.1.f_g.Toks, oR eNon j8.1.f_g.Nons, oR eProd_0 j8.1.f_g.Prods, SS j8.1.f_g.Pro, SS j8.1.f_g.Tail, oR eB j8.1.f_given, oR eNon j8.1.f_types, oR eS j8.1.f_lefts, I64 j8.1.f_e, I64 j8.1.f_at, SS j8.1.f_name, I64 j8.1.f_level, I64 j8.1.f_inner]), (5, .obj [iR ePart a2.Parts, SS a2.Prec.Name, BB a2.Prec.Lit, I64 a2.Prec.Num, I64 a2.Prec.At, I64 a2.At]), (6, .obj [I64 (w64 (1 + x1)), oR eI j8.2.1, I64 (-1), SS j8.2.2.1, .nils, I64 j8.2.2.2]), (7, I64 s2.2.2.2.2)] ?_ ?_
        · clear h; have h := hj; clear hj
          refine W.bk ?_
          refine W.sq' ?_
          refine W.rx [(0, _), (5, _), (6, _), (7, _), (8, _), (82, _)] (RunL.v (O.fO rfl (.obj rfl) fd100_1 rfl) rfl rfl .none <| RunL.v (O.ldO (y := SS x7.Code) rfl (.ptr rfl) ct9 rfl rfl) rfl rfl .none <| RunL.v (O.eqS (.lit rfl) (.k rfl)) rfl rfl .none <| RunL.v (O.as (.lit rfl)) rfl rfl .none <| RunL.fin (.n rfl (.n rfl (.n rfl (.n rfl (.n rfl (.n rfl .nil))))))) ?_
          refine Px.sq ?_
          obtain ⟨j9, hj, h⟩ := bnd h
          refine W.jn [(0, .obj [oR eTok j9.1.f_g.Toks, oR eNon j9.1.f_g.Nons, oR eProd_0 j9.1.f_g.Prods, SS j9.1.f_g.Pro, SS j9.1.f_g.Tail, oR eB j9.1.f_given, oR eNon j9.1.f_types, oR eS j9.1.f_lefts, I64 j9.1.f_e, I64 j9.1.f_at, SS j9.1.f_name, I64 j9.1.f_level, I64 j9.1.f_inner]), (5, .obj [iR ePart a2.Parts, SS a2.Prec.Name, BB a2.Prec.Lit, I64 a2.Prec.Num, I64 a2.Prec.At, I64 a2.At]), (6, .obj [I64 (w64 (1 + x1)), oR eI j9.2.1, I64 (-1), SS j9.2.2.1, .nils, I64 j9.2.2.2]), (7, I64 s2.2.2.2.2)] ?_ ?_
          · clear h; have h := hj; clear hj
            refine W.cnd rfl (fun hb10 => ?_) (fun hb10 => ?_)
            · replace h := cndT hb10 h
              obtain ⟨x11, hx11, h⟩ := bnd h
              obtain ⟨x12, hx12, h⟩ := bnd h
              refine W.rd [[], [0], [], [], [3], [2, 3, 4], [2, 3, 4, 5], [0, 1, 2, 3, 4, 5, 6], [0, 1, 2, 3, 4, 5, 6, 7], [0, 1, 2, 3, 4, 5, 6, 7, 8]] [(0, _), (5, _), (6, _), (7, _)] mixo (by kernel_rfl) (DL.v 0 (O.fO rfl (.obj rfl) fd109_1 rfl) rfl rfl rfl rfl .none <| DL.v 1 (O.ldO (y := .brw eI.z ⟨6, [1]⟩ s2.2.1.length) rfl (.ptr rfl) ct27 rfl rfl) rfl rfl rfl rfl .none <| DL.v 2 (O.mv (.obj rfl)) rfl rfl rfl rfl .none <| DL.v 3 (O.fO rfl (.obj rfl) fd100_0 rfl) rfl rfl rfl rfl .none <| DL.v 4 (O.ldON (cs' := [SS x7.Sym.Name, BB x7.Sym.Lit, I64 x7.Sym.Num, I64 x7.Sym.At]) rfl (.ptr rfl) at91 rfl rfl) rfl rfl rfl rfl .none <| DL.bu 5 (G2 := (6, .obj [I64 (w64 (1 + x1)), oR eI s2.2.1, I64 (-1), SS s2.2.2.1, .nils, I64 s2.2.2.2.1]) :: [(91, I64 x11.1), (0, .obj [oR eTok x11.2.f_g.Toks, oR eNon x11.2.f_g.Nons, oR eProd_0 x11.2.f_g.Prods, SS x11.2.f_g.Pro, SS x11.2.f_g.Tail, oR eB x11.2.f_given, oR eNon x11.2.f_types, oR eS x11.2.f_lefts, I64 x11.2.f_e, I64 x11.2.f_at, SS x11.2.f_name, I64 x11.2.f_level, I64 x11.2.f_inner]), (5, .obj [iR ePart a2.Parts, SS a2.Prec.Name, BB a2.Prec.Lit, I64 a2.Prec.Num, I64 a2.Prec.At, I64 a2.At]), (7, I64 s2.2.2.2.2)]) (U := [(1, 87, some (.brw eI.z ⟨6, [1]⟩ s2.2.1.length)), (0, 86, some (.ptr ⟨6, []⟩ 1))]) (EffV.box (r := 6) (G1 := [(0, .obj [oR eTok s2.1.f_g.Toks, oR eNon s2.1.f_g.Nons, oR eProd_0 s2.1.f_g.Prods, SS s2.1.f_g.Pro, SS s2.1.f_g.Tail, oR eB s2.1.f_given, oR eNon s2.1.f_types, oR eS s2.1.f_lefts, I64 s2.1.f_e, I64 s2.1.f_at, SS s2.1.f_name, I64 s2.1.f_level, I64 s2.1.f_inner]), (5, .obj [iR ePart a2.Parts, SS a2.Prec.Name, BB a2.Prec.Lit, I64 a2.Prec.Num, I64 a2.Prec.At, I64 a2.At]), (7, I64 s2.2.2.2.2), (88, .ptr ⟨0, []⟩ 0), (90, .agg [SS x7.Sym.Name, BB x7.Sym.Lit, I64 x7.Sym.Num, I64 x7.Sym.At])]) (G2 := [(91, I64 x11.1), (0, .obj [oR eTok x11.2.f_g.Toks, oR eNon x11.2.f_g.Nons, oR eProd_0 x11.2.f_g.Prods, SS x11.2.f_g.Pro, SS x11.2.f_g.Tail, oR eB x11.2.f_given, oR eNon x11.2.f_types, oR eS x11.2.f_lefts, I64 x11.2.f_e, I64 x11.2.f_at, SS x11.2.f_name, I64 x11.2.f_level, I64 x11.2.f_inner]), (5, .obj [iR ePart a2.Parts, SS a2.Prec.Name, BB a2.Prec.Lit, I64 a2.Prec.Num, I64 a2.Prec.At, I64 a2.At]), (7, I64 s2.2.2.2.2)]) (EO.call rfl rfl (CallOk.ln (G2 := [(5, .obj [iR ePart a2.Parts, SS a2.Prec.Name, BB a2.Prec.Lit, I64 a2.Prec.Num, I64 a2.Prec.At, I64 a2.At]), (7, I64 s2.2.2.2.2)]) (A := []) (ys := [.ptr ⟨0, []⟩ 0, .agg [SS x7.Sym.Name, BB x7.Sym.Lit, I64 x7.Sym.Num, I64 x7.Sym.At]]) (args := [.obj [oR eTok s2.1.f_g.Toks, oR eNon s2.1.f_g.Nons, oR eProd_0 s2.1.f_g.Prods, SS s2.1.f_g.Pro, SS s2.1.f_g.Tail, oR eB s2.1.f_given, oR eNon s2.1.f_types, oR eS s2.1.f_lefts, I64 s2.1.f_e, I64 s2.1.f_at, SS s2.1.f_name, I64 s2.1.f_level, I64 s2.1.f_inner], .agg [SS x7.Sym.Name, BB x7.Sym.Lit, I64 x7.Sym.Num, I64 x7.Sym.At]]) (cs' := [oR eTok x11.2.f_g.Toks, oR eNon x11.2.f_g.Nons, oR eProd_0 x11.2.f_g.Prods, SS x11.2.f_g.Pro, SS x11.2.f_g.Tail, oR eB x11.2.f_given, oR eNon x11.2.f_types, oR eS x11.2.f_lefts, I64 x11.2.f_e, I64 x11.2.f_at, SS x11.2.f_name, I64 x11.2.f_level, I64 x11.2.f_inner]) (k0 := 0) rfl rfl rfl rfl (.b rfl (.n rfl .nil)) rfl (con83 s2.1 x7.Sym _ hx11) call83 (.n rfl (.n rfl .nil)) rfl rfl (.n rfl (.n rfl .nil)) .nil rfl)) rfl (.n rfl (.n rfl (.n rfl (.q rfl rfl rfl (.n rfl .nil))))) rfl rfl rfl) rfl rfl (by kernel_rfl) rfl rfl rfl (.c (.inl ⟨6, [1], _, _, _, _, rfl, by simp, rfl, rfl, Nat.le_refl _⟩) rfl rfl rfl rfl rfl (Gd.wanted .none) (O.ldO (y := .brw eI.z ⟨6, [1]⟩ s2.2.1.length) rfl (.ptr rfl) ct27 rfl rfl) (.c (.inr (.inr (.inr ⟨6, _, _, rfl, rfl, of_blt rfl, by simp⟩))) rfl rfl rfl rfl rfl (Gd.wanted .none) (O.fO rfl (.obj rfl) fd109_1 rfl) .nil)) (by kernel_rfl) <| DL.vi 6 (x := iR eI [x11.1]) (O.bs (ys := [I64 x11.1]) eI [x11.1] sl27 rfl rfl rfl rfl rfl rfl zt3 rfl rfl) rfl rfl rfl rfl .none <| DL.v 7 (O.ap (en := eI) (r := x12) (.brw rfl) rfl (.imm rfl) .i ap27 rfl hx12) rfl rfl rfl rfl .none <| DL.v 8 (O.fO rfl (.obj rfl) fd109_1 rfl) rfl rfl rfl rfl .none <| DL.bp 9 (G2 := [(0, .obj [oR eTok x11.2.f_g.Toks, oR eNon x11.2.f_g.Nons, oR eProd_0 x11.2.f_g.Prods, SS x11.2.f_g.Pro, SS x11.2.f_g.Tail, oR eB x11.2.f_given, oR eNon x11.2.f_types, oR eS x11.2.f_lefts, I64 x11.2.f_e, I64 x11.2.f_at, SS x11.2.f_name, I64 x11.2.f_level, I64 x11.2.f_inner]), (5, .obj [iR ePart a2.Parts, SS a2.Prec.Name, BB a2.Prec.Lit, I64 a2.Prec.Num, I64 a2.Prec.At, I64 a2.At]), (6, .obj [I64 (w64 (1 + x1)), oR eI (s2.2.1 ++ [x11.1]), I64 (-1), SS s2.2.2.1, .nils, I64 s2.2.2.2.1]), (7, I64 s2.2.2.2.2)]) (EO.stP (g1 := _) (en := eI) (M := [x11.1]) (cs2 := [I64 (w64 (1 + x1)), oR eI (s2.2.1 ++ [x11.1]), I64 (-1), SS s2.2.2.1, .nils, I64 s2.2.2.2.1]) rfl rfl (.ptr rfl) (.pend rfl) rfl rfl rfl .ns .rf rfl rfl sz27 rfl rfl rfl rfl (.n rfl rfl (.n rfl rfl (.b rfl (.n rfl rfl .nil))))) rfl rfl rfl rfl (by kernel_rfl) (by kernel_rfl) <| DL.fin rfl rfl rfl (.n rfl (.n rfl (.n rfl (.n rfl .nil))))) ?_
              obtain rfl := sm h
              exact Px.jn (.n rfl (.n rfl (.n rfl (.n rfl .nil))))
            · replace h := cndF hb10 h
              refine W.sq' ?_
              refine W.rx [(0, _), (5, _), (6, _), (7, _), (8, _), (95, _)] (RunL.v (O.mv (.lit rfl)) rfl rfl .none <| RunL.v (O.add (.lit rfl) (.k rfl)) rfl rfl .none <| RunL.v (O.fO rfl (.obj rfl) fd98_0 rfl) rfl rfl .none <| RunL.v (O.ldO (y := iR ePart a2.Parts) rfl (.ptr rfl) ct96 rfl rfl) rfl rfl .none <| RunL.v (O.lenI (.imm rfl) sl96) rfl rfl .none <| RunL.v (O.eql (.lit rfl) (.lit rfl)) rfl rfl .none <| RunL.v (O.as (.lit rfl)) rfl rfl .none <| RunL.fin (.n rfl (.n rfl (.n rfl (.n rfl (.n rfl (.n rfl .nil))))))) ?_
              refine Px.sq ?_
              obtain ⟨j13, hj, h⟩ := bnd h
              refine W.jn [(0, .obj [oR eTok s2.1.f_g.Toks, oR eNon s2.1.f_g.Nons, oR eProd_0 j13.1, SS s2.1.f_g.Pro, SS s2.1.f_g.Tail, oR eB s2.1.f_given, oR eNon s2.1.f_types, oR eS s2.1.f_lefts, I64 s2.1.f_e, I64 s2.1.f_at, SS s2.1.f_name, I64 s2.1.f_level, I64 j13.2.1]), (5, .obj [iR ePart a2.Parts, SS a2.Prec.Name, BB a2.Prec.Lit, I64 a2.Prec.Num, I64 a2.Prec.At, I64 a2.At]), (6, .obj [I64 (w64 (1 + x1)), oR eI j13.2.2.1, I64 (-1), SS j13.2.2.2.1, .nils, I64 j13.2.2.2.2]), (7, I64 s2.2.2.2.2)] ?_ ?_
              · clear h; have h := hj; clear hj
                refine W.cnd rfl (fun hb14 => ?_) (fun hb14 => ?_)
                · replace h := cndT hb14 h
                  refine W.rd [[], [0], [], [2], [0, 1], [0, 1, 4], [0, 1, 2, 3, 4, 5], [0, 1, 2, 3, 4, 5, 6]] [(0, _), (5, _), (6, _), (7, _)] mixo (by kernel_rfl) (DL.v 0 (O.fO rfl (.obj rfl) fd100_1 rfl) rfl rfl rfl rfl .none <| DL.v 1 (O.ldO (y := SS x7.Code) rfl (.ptr rfl) ct9 rfl rfl) rfl rfl rfl rfl .none <| DL.v 2 (O.fO rfl (.obj rfl) fd100_2 rfl) rfl rfl rfl rfl .none <| DL.v 3 (O.ldO (y := I64 x7.At) rfl (.ptr rfl) ct3 rfl rfl) rfl rfl rfl rfl .none <| DL.v 4 (O.fO rfl (.obj rfl) fd109_3 rfl) rfl rfl rfl rfl .none <| DL.bu 5 (G2 := [(0, .obj [oR eTok s2.1.f_g.Toks, oR eNon s2.1.f_g.Nons, oR eProd_0 s2.1.f_g.Prods, SS s2.1.f_g.Pro, SS s2.1.f_g.Tail, oR eB s2.1.f_given, oR eNon s2.1.f_types, oR eS s2.1.f_lefts, I64 s2.1.f_e, I64 s2.1.f_at, SS s2.1.f_name, I64 s2.1.f_level, I64 s2.1.f_inner]), (5, .obj [iR ePart a2.Parts, SS a2.Prec.Name, BB a2.Prec.Lit, I64 a2.Prec.Num, I64 a2.Prec.At, I64 a2.At]), (6, .obj [I64 (w64 (1 + x1)), oR eI s2.2.1, I64 (-1), SS x7.Code, .nils, I64 s2.2.2.2.1]), (7, I64 s2.2.2.2.2), (8, .obj [SS x7.Sym.Name, BB x7.Sym.Lit, I64 x7.Sym.Num, I64 x7.Sym.At, SS x7.Code, I64 x7.At])]) (U := [(3, 105, some (I64 x7.At)), (2, 104, some (.ptr ⟨8, []⟩ 5))]) (EffOk.v (EO.eff (EO.sO (G2 := [(0, .obj [oR eTok s2.1.f_g.Toks, oR eNon s2.1.f_g.Nons, oR eProd_0 s2.1.f_g.Prods, SS s2.1.f_g.Pro, SS s2.1.f_g.Tail, oR eB s2.1.f_given, oR eNon s2.1.f_types, oR eS s2.1.f_lefts, I64 s2.1.f_e, I64 s2.1.f_at, SS s2.1.f_name, I64 s2.1.f_level, I64 s2.1.f_inner]), (5, .obj [iR ePart a2.Parts, SS a2.Prec.Name, BB a2.Prec.Lit, I64 a2.Prec.Num, I64 a2.Prec.At, I64 a2.At]), (6, .obj [I64 (w64 (1 + x1)), oR eI s2.2.1, I64 (-1), SS x7.Code, .nils, I64 s2.2.2.2.1]), (7, I64 s2.2.2.2.2), (8, .obj [SS x7.Sym.Name, BB x7.Sym.Lit, I64 x7.Sym.Num, I64 x7.Sym.At, SS x7.Code, I64 x7.At])]) (cs2 := [I64 (w64 (1 + x1)), oR eI s2.2.1, I64 (-1), SS x7.Code, .nils, I64 s2.2.2.2.1]) rfl rfl rfl (.ptr rfl) (.lit rfl) rfl sz9 rfl rfl rfl rfl (.n rfl rfl (.n rfl rfl (.b rfl (.n rfl rfl (.n rfl rfl .nil)))))))) rfl rfl (by kernel_rfl) rfl rfl rfl (.c (.inr (.inl ⟨_, rfl⟩)) rfl rfl rfl rfl rfl (Gd.wanted .none) (O.ldO (y := I64 x7.At) rfl (.ptr rfl) ct3 rfl rfl) (.c (.inr (.inr (.inr ⟨8, _, _, rfl, rfl, of_blt rfl, by simp⟩))) rfl rfl rfl rfl rfl (Gd.wanted .none) (O.fO rfl (.obj rfl) fd100_2 rfl) .nil)) (by kernel_rfl) <| DL.v 6 (O.fO rfl (.obj rfl) fd109_5 rfl) rfl rfl rfl rfl .none <| DL.sO 7 (G2 := [(0, .obj [oR eTok s2.1.f_g.Toks, oR eNon s2.1.f_g.Nons, oR eProd_0 s2.1.f_g.Prods, SS s2.1.f_g.Pro, SS s2.1.f_g.Tail, oR eB s2.1.f_given, oR eNon s2.1.f_types, oR eS s2.1.f_lefts, I64 s2.1.f_e, I64 s2.1.f_at, SS s2.1.f_name, I64 s2.1.f_level, I64 s2.1.f_inner]), (5, .obj [iR ePart a2.Parts, SS a2.Prec.Name, BB a2.Prec.Lit, I64 a2.Prec.Num, I64 a2.Prec.At, I64 a2.At]), (6, .obj [I64 (w64 (1 + x1)), oR eI s2.2.1, I64 (-1), SS x7.Code, .nils, I64 x7.At]), (7, I64 s2.2.2.2.2)]) (cs2 := [I64 (w64 (1 + x1)), oR eI s2.2.1, I64 (-1), SS x7.Code, .nils, I64 x7.At]) rfl (by kernel_rfl) (by kernel_rfl) rfl rfl rfl (.ptr rfl) (.lit rfl) rfl sz3 rfl rfl rfl rfl (.n rfl rfl (.n rfl rfl (.b rfl (.n rfl rfl .nil)))) <| DL.fin rfl rfl rfl (.n rfl (.n rfl (.n rfl (.n rfl .nil))))) ?_
                  obtain rfl := sm h
                  exact Px.jn (.n rfl (.n rfl (.n rfl (.n rfl .nil))))
                · replace h := cndF hb14 h
                  refine W.sq' ?_
                  refine W.rx [(0, _), (5, _), (6, _), (7, _), (8, _)] (RunL.v (O.mv (.obj rfl)) rfl rfl .none <| RunL.v (O.nlP (.ptr rfl)) rfl rfl .none <| RunL.v (O.fO rfl (.ptr rfl) fd128_8 rfl) rfl rfl .none <| RunL.v (O.ldO (y := I64 s2.1.f_inner) rfl (.ptr rfl) ct3 rfl rfl) rfl rfl .none <| RunL.v (O.add (.lit rfl) (.k rfl)) rfl rfl .none <| RunL.v (O.nlP (.ptr rfl)) rfl rfl .none <| RunL.v (O.fO rfl (.ptr rfl) fd128_8 rfl) rfl rfl .none <| RunL.sO (G2 := [(0, .obj [oR eTok s2.1.f_g.Toks, oR eNon s2.1.f_g.Nons, oR eProd_0 s2.1.f_g.Prods, SS s2.1.f_g.Pro, SS s2.1.f_g.Tail, oR eB s2.1.f_given, oR eNon s2.1.f_types, oR eS s2.1.f_lefts, I64 s2.1.f_e, I64 s2.1.f_at, SS s2.1.f_name, I64 s2.1.f_level, I64 (w64 (s2.1.f_inner + 1))]), (5, .obj [iR ePart a2.Parts, SS a2.Prec.Name, BB a2.Prec.Lit, I64 a2.Prec.Num, I64 a2.Prec.At, I64 a2.At]), (6, .obj [I64 (w64 (1 + x1)), oR eI s2.2.1, I64 (-1), SS s2.2.2.1, .nils, I64 s2.2.2.2.1]), (7, I64 s2.2.2.2.2), (8, .obj [SS x7.Sym.Name, BB x7.Sym.Lit, I64 x7.Sym.Num, I64 x7.Sym.At, SS x7.Code, I64 x7.At])]) (cs2 := [oR eTok s2.1.f_g.Toks, oR eNon s2.1.f_g.Nons, oR eProd_0 s2.1.f_g.Prods, SS s2.1.f_g.Pro, SS s2.1.f_g.Tail, oR eB s2.1.f_given, oR eNon s2.1.f_types, oR eS s2.1.f_lefts, I64 s2.1.f_e, I64 s2.1.f_at, SS s2.1.f_name, I64 s2.1.f_level, I64 (w64 (s2.1.f_inner + 1))]) rfl (.ptr rfl) (.lit rfl) rfl sz3 rfl rfl rfl rfl (.b rfl (.n rfl rfl (.n rfl rfl (.n rfl rfl (.n rfl rfl .nil))))) <| RunL.fin (.n rfl (.n rfl (.n rfl (.n rfl (.n rfl .nil)))))) ?_
                  refine Px.sq ?_
                  refine W.sq' ?_
                  obtain ⟨x15, hx15, h⟩ := bnd h
                  obtain ⟨x16, hx16, h⟩ := bnd h
                  refine W.rd [[], [], [1], [1, 2], [1, 2, 3], [1, 2, 3, 4], [], [6], [6, 7], [6, 7, 8], [6, 7, 8, 9], [], [11], [11, 12], [11, 12, 13], [6, 7, 8, 9, 10, 11, 12, 13, 14], [], [16], [], [], [19], [18, 19, 20], [], [22], [6, 7, 8, 9, 10, 11, 12, 13, 14, 15, 16, 17, 18, 19, 20, 21, 22, 23], [6, 7, 8, 9, 10, 11, 12, 13, 14, 15, 16, 17, 18, 19, 20, 21, 22, 23, 24], [1, 2, 3, 4, 5, 6, 7, 8, 9, 10, 11, 12, 13, 14, 15, 16, 17, 18, 19, 20, 21, 22, 23, 24, 25], [0, 1, 2, 3, 4, 5, 6, 7, 8, 9, 10, 11, 12, 13, 14, 15, 16, 17, 18, 19, 20, 21, 22, 23, 24, 25, 26], [0, 1, 2, 3, 4, 5, 6, 7, 8, 9, 10, 11, 12, 13, 14, 15, 16, 17, 18, 19, 20, 21, 22, 23, 24, 25, 26, 27], [0, 1, 2, 3, 4, 5, 6, 7, 8, 9, 10, 11, 12, 13, 14, 15, 16, 17, 18, 19, 20, 21, 22, 23, 24, 25, 26, 27, 28], [0, 1, 2, 3, 4, 5, 6, 7, 8, 9, 10, 11, 12, 13, 14, 15, 16, 17, 18, 19, 20, 21, 22, 23, 24, 25, 26, 27, 28, 29]] [(0, _), (5, _), (6, _), (7, _)] mixo (by kernel_rfl) (DL.v 0 (O.mv (.obj rfl)) rfl rfl rfl rfl .none <| DL.v 1 (O.mv (.obj rfl)) rfl rfl rfl rfl .none <| DL.v 2 (O.nlP (.ptr rfl)) rfl rfl rfl rfl .none <| DL.v 3 (O.fO rfl (.ptr rfl) fd128_0 rfl) rfl rfl rfl rfl .none <| DL.v 4 (O.fO rfl (.ptr rfl) fd38_2 rfl) rfl rfl rfl rfl .none <| DL.v 5 (O.ldO (y := .brw eProd_0.z ⟨0, [2]⟩ s2.1.f_g.Prods.length) rfl (.ptr rfl) ct36 rfl rfl) rfl rfl rfl rfl .none <| DL.v 6 (O.mv (.obj rfl)) rfl rfl rfl rfl .none <| DL.v 7 (O.nlP (.ptr rfl)) rfl rfl rfl rfl .none <| DL.v 8 (O.fO rfl (.ptr rfl) fd128_3 rfl) rfl rfl rfl rfl .none <| DL.v 9 (O.ldO (y := .brw eS.z ⟨0, [7]⟩ s2.1.f_lefts.length) rfl (.ptr rfl) ct61 rfl rfl) rfl rfl rfl rfl .none <| DL.v 10 (O.lenO (.brw rfl) sl61) rfl rfl rfl rfl .none <| DL.v 11 (O.mv (.obj rfl)) rfl rfl rfl rfl .none <| DL.v 12 (O.nlP (.ptr rfl)) rfl rfl rfl rfl .none <| DL.v 13 (O.fO rfl (.ptr rfl) fd128_8 rfl) rfl rfl rfl rfl .none <| DL.v 14 (O.ldO (y := I64 (w64 (s2.1.f_inner + 1))) rfl (.ptr rfl) ct3 rfl rfl) rfl rfl rfl rfl .none <| DL.v 15 (O.add (.lit rfl) (.lit rfl)) rfl rfl rfl rfl .none <| DL.v 16 (O.fO rfl (.obj rfl) fd100_1 rfl) rfl rfl rfl rfl .none <| DL.v 17 (O.ldO (y := SS x7.Code) rfl (.ptr rfl) ct9 rfl rfl) rfl rfl rfl rfl .none <| DL.v 18 (O.bs (ys := []) eI ([] : List Int) sl27 rfl rfl rfl rfl rfl rfl zt3 rfl rfl) rfl rfl rfl rfl .none <| DL.v 19 (O.fO rfl (.obj rfl) fd109_1 rfl) rfl rfl rfl rfl .none <| DL.v 20 (O.ldO (y := .brw eI.z ⟨6, [1]⟩ s2.2.1.length) rfl (.ptr rfl) ct27 rfl rfl) rfl rfl rfl rfl .none <| DL.v 21 (O.ap (en := eI) (r := x15) (.own rfl) rfl (.brw rfl) (.flat eI rfl) ap27 rfl hx15) rfl rfl rfl rfl .none <| DL.v 22 (O.fO rfl (.obj rfl) fd100_2 rfl) rfl rfl rfl rfl .none <| DL.v 23 (O.ldO (y := I64 x7.At) rfl (.ptr rfl) ct3 rfl rfl) rfl rfl rfl rfl .none <| DL.v 24 (O.bu (cs := [I64 (w64 ((s2.1.f_lefts.length : Int) + (w64 (s2.1.f_inner + 1)))), .nils, I64 (-1), SS x7.Code, .brw eI.z ⟨57, []⟩ (([] : List Int).length + s2.2.1.length), I64 x7.At]) sc109 ze109 rfl rfl rfl) rfl rfl rfl rfl .none <| DL.v 25 (O.bsL (ys := [.agg [I64 (w64 ((s2.1.f_lefts.length : Int) + (w64 (s2.1.f_inner + 1)))), .nils, I64 (-1), SS x7.Code, .brw eI.z ⟨57, []⟩ (([] : List Int).length + s2.2.1.length), I64 x7.At]]) (cs := [I64 (w64 ((s2.1.f_lefts.length : Int) + (w64 (s2.1.f_inner + 1)))), .nils, I64 (-1), SS x7.Code, .brw eI.z ⟨57, []⟩ (([] : List Int).length + s2.2.1.length), I64 x7.At]) sl36 rfl rfl rfl rfl rfl zt109 rfl rfl) rfl rfl rfl rfl .none <| DL.v 26 (O.apL' (en := eProd_0) (M := [(⟨w64 ((s2.1.f_lefts.length : Int) + (w64 (s2.1.f_inner + 1))), ([] : List Int), (-1), x7.Code, ([] : List Int) ++ s2.2.1, x7.At⟩ : Prod)]) (r := x16) (.brw rfl) rfl (.own rfl) rfl rfl rfl rfl ap36 rfl hx16 (noP_spec (by kernel_rfl) (by kernel_rfl))) rfl rfl rfl rfl .none <| DL.v 27 (O.nlP (.ptr rfl)) rfl rfl rfl rfl .none <| DL.v 28 (O.fO rfl (.ptr rfl) fd128_0 rfl) rfl rfl rfl rfl .none <| DL.v 29 (O.fO rfl (.ptr rfl) fd38_2 rfl) rfl rfl rfl rfl .none <| DL.bp 30 (G2 := [(0, .obj [oR eTok s2.1.f_g.Toks, oR eNon s2.1.f_g.Nons, oR eProd_0 (s2.1.f_g.Prods ++ [(⟨w64 ((s2.1.f_lefts.length : Int) + (w64 (s2.1.f_inner + 1))), ([] : List Int), (-1), x7.Code, ([] : List Int) ++ s2.2.1, x7.At⟩ : Prod)]), SS s2.1.f_g.Pro, SS s2.1.f_g.Tail, oR eB s2.1.f_given, oR eNon s2.1.f_types, oR eS s2.1.f_lefts, I64 s2.1.f_e, I64 s2.1.f_at, SS s2.1.f_name, I64 s2.1.f_level, I64 (w64 (s2.1.f_inner + 1))]), (5, .obj [iR ePart a2.Parts, SS a2.Prec.Name, BB a2.Prec.Lit, I64 a2.Prec.Num, I64 a2.Prec.At, I64 a2.At]), (6, .obj [I64 (w64 (1 + x1)), oR eI s2.2.1, I64 (-1), SS s2.2.2.1, .nils, I64 s2.2.2.2.1]), (7, I64 s2.2.2.2.2)]) (EO.stP (g1 := _) (en := eProd_0) (M := [(⟨w64 ((s2.1.f_lefts.length : Int) + (w64 (s2.1.f_inner + 1))), ([] : List Int), (-1), x7.Code, ([] : List Int) ++ s2.2.1, x7.At⟩ : Prod)]) (cs2 := [oR eTok s2.1.f_g.Toks, oR eNon s2.1.f_g.Nons, oR eProd_0 (s2.1.f_g.Prods ++ [(⟨w64 ((s2.1.f_lefts.length : Int) + (w64 (s2.1.f_inner + 1))), ([] : List Int), (-1), x7.Code, ([] : List Int) ++ s2.2.1, x7.At⟩ : Prod)]), SS s2.1.f_g.Pro, SS s2.1.f_g.Tail, oR eB s2.1.f_given, oR eNon s2.1.f_types, oR eS s2.1.f_lefts, I64 s2.1.f_e, I64 s2.1.f_at, SS s2.1.f_name, I64 s2.1.f_level, I64 (w64 (s2.1.f_inner + 1))]) rfl rfl (.ptr rfl) (.pend rfl) rfl rfl rfl (.f (.f (.f (.f (.pn rfl rfl rfl .ns (.f .nil)))))) (.f (.z (.f (.f (.z (hv := Vw.pn rfl rfl) (.f .nil)))))) rfl rfl sz36 rfl rfl rfl rfl (.b rfl (.n rfl rfl (.n rfl rfl (.n rfl rfl .nil))))) rfl rfl rfl rfl (by kernel_rfl) (by kernel_rfl) <| DL.fin rfl rfl rfl (.n rfl (.n rfl (.n rfl (.n rfl .nil))))) ?_
                  refine Px.sq ?_
                  obtain ⟨x17, hx17, h⟩ := bnd h
                  refine W.rd [[], [0], [], [2], [2, 3], [2, 3, 4], [2, 3, 4, 5], [2, 3, 4, 5, 6], [], [8], [8, 9], [8, 9, 10], [2, 3, 4, 5, 6, 7, 8, 9, 10, 11], [2, 3, 4, 5, 6, 7, 8, 9, 10, 11, 12], [0, 1, 2, 3, 4, 5, 6, 7, 8, 9, 10, 11, 12, 13], [0, 1, 2, 3, 4, 5, 6, 7, 8, 9, 10, 11, 12, 13, 14], [0, 1, 2, 3, 4, 5, 6, 7, 8, 9, 10, 11, 12, 13, 14, 15]] [(0, _), (5, _), (6, _), (7, _)] mixo (by kernel_rfl) (DL.v 0 (O.fO rfl (.obj rfl) fd109_1 rfl) rfl rfl rfl rfl .none <| DL.v 1 (O.ldO (y := .brw eI.z ⟨6, [1]⟩ s2.2.1.length) rfl (.ptr rfl) ct27 rfl rfl) rfl rfl rfl rfl .none <| DL.v 2 (O.mv (.obj rfl)) rfl rfl rfl rfl .none <| DL.v 3 (O.nlP (.ptr rfl)) rfl rfl rfl rfl .none <| DL.v 4 (O.fO rfl (.ptr rfl) fd128_3 rfl) rfl rfl rfl rfl .none <| DL.v 5 (O.ldO (y := .brw eS.z ⟨0, [7]⟩ s2.1.f_lefts.length) rfl (.ptr rfl) ct61 rfl rfl) rfl rfl rfl rfl .none <| DL.v 6 (O.lenO (.brw rfl) sl61) rfl rfl rfl rfl .none <| DL.v 7 (O.add (.k rfl) (.lit rfl)) rfl rfl rfl rfl .none <| DL.v 8 (O.mv (.obj rfl)) rfl rfl rfl rfl .none <| DL.v 9 (O.nlP (.ptr rfl)) rfl rfl rfl rfl .none <| DL.v 10 (O.fO rfl (.ptr rfl) fd128_8 rfl) rfl rfl rfl rfl .none <| DL.v 11 (O.ldO (y := I64 (w64 (s2.1.f_inner + 1))) rfl (.ptr rfl) ct3 rfl rfl) rfl rfl rfl rfl .none <| DL.v 12 (O.add (.lit rfl) (.lit rfl)) rfl rfl rfl rfl .none <| DL.vi 13 (x := iR eI [w64 ((w64 (1000 + (s2.1.f_lefts.length : Int))) + (w64 (s2.1.f_inner + 1)))]) (O.bs (ys := [I64 (w64 ((w64 (1000 + (s2.1.f_lefts.length : Int))) + (w64 (s2.1.f_inner + 1))))]) eI [w64 ((w64 (1000 + (s2.1.f_lefts.length : Int))) + (w64 (s2.1.f_inner + 1)))] sl27 rfl rfl rfl rfl rfl rfl zt3 rfl rfl) rfl rfl rfl rfl .none <| DL.v 14 (O.ap (en := eI) (r := x17) (.brw rfl) rfl (.imm rfl) .i ap27 rfl hx17) rfl rfl rfl rfl .none <| DL.v 15 (O.fO rfl (.obj rfl) fd109_1 rfl) rfl rfl rfl rfl .none <| DL.bp 16 (G2 := [(0, .obj [oR eTok s2.1.f_g.Toks, oR eNon s2.1.f_g.Nons, oR eProd_0 (s2.1.f_g.Prods ++ [(⟨w64 ((s2.1.f_lefts.length : Int) + (w64 (s2.1.f_inner + 1))), ([] : List Int), (-1), x7.Code, ([] : List Int) ++ s2.2.1, x7.At⟩ : Prod)]), SS s2.1.f_g.Pro, SS s2.1.f_g.Tail, oR eB s2.1.f_given, oR eNon s2.1.f_types, oR eS s2.1.f_lefts, I64 s2.1.f_e, I64 s2.1.f_at, SS s2.1.f_name, I64 s2.1.f_level, I64 (w64 (s2.1.f_inner + 1))]), (5, .obj [iR ePart a2.Parts, SS a2.Prec.Name, BB a2.Prec.Lit, I64 a2.Prec.Num, I64 a2.Prec.At, I64 a2.At]), (6, .obj [I64 (w64 (1 + x1)), oR eI (s2.2.1 ++ [w64 ((w64 (1000 + (s2.1.f_lefts.length : Int))) + (w64 (s2.1.f_inner + 1)))]), I64 (-1), SS s2.2.2.1, .nils, I64 s2.2.2.2.1]), (7, I64 s2.2.2.2.2)]) (EO.stP (g1 := _) (en := eI) (M := [w64 ((w64 (1000 + (s2.1.f_lefts.length : Int))) + (w64 (s2.1.f_inner + 1)))]) (cs2 := [I64 (w64 (1 + x1)), oR eI (s2.2.1 ++ [w64 ((w64 (1000 + (s2.1.f_lefts.length : Int))) + (w64 (s2.1.f_inner + 1)))]), I64 (-1), SS s2.2.2.1, .nils, I64 s2.2.2.2.1]) rfl rfl (.ptr rfl) (.pend rfl) rfl rfl rfl .ns .rf rfl rfl sz27 rfl rfl rfl rfl (.n rfl rfl (.n rfl rfl (.b rfl (.n rfl rfl .nil))))) rfl rfl rfl rfl (by kernel_rfl) (by kernel_rfl) <| DL.fin rfl rfl rfl (.n rfl (.n rfl (.n rfl (.n rfl .nil))))) ?_
                  obtain rfl := sm h
                  exact Px.jn (.n rfl (.n rfl (.n rfl (.n rfl .nil))))
              obtain rfl := sm h
              exact Px.jn (.n rfl (.n rfl (.n rfl (.n rfl .nil))))
          refine Px.bk ?_
          obtain rfl := sm h
          exact Px.jn (.n rfl (.n rfl (.n rfl (.n rfl .nil))))
        refine Px.bk ?_
        obtain rfl := sm h
        exact Px.jn (.n rfl (.n rfl (.n rfl (.n rfl .nil))))
      refine Px.sq ?_
      refine W.rx [(0, _), (5, _), (6, _), (7, _)] (RunL.v (O.mv (.lit rfl)) rfl rfl .none <| RunL.v (O.add (.lit rfl) (.k rfl)) rfl rfl .none <| RunL.re (G1 := [(0, .obj [oR eTok j6.1.f_g.Toks, oR eNon j6.1.f_g.Nons, oR eProd_0 j6.1.f_g.Prods, SS j6.1.f_g.Pro, SS j6.1.f_g.Tail, oR eB j6.1.f_given, oR eNon j6.1.f_types, oR eS j6.1.f_lefts, I64 j6.1.f_e, I64 j6.1.f_at, SS j6.1.f_name, I64 j6.1.f_level, I64 j6.1.f_inner]), (5, .obj [iR ePart a2.Parts, SS a2.Prec.Name, BB a2.Prec.Lit, I64 a2.Prec.Num, I64 a2.Prec.At, I64 a2.At]), (6, .obj [I64 (w64 (1 + x1)), oR eI j6.2.1, I64 (-1), SS j6.2.2.1, .nils, I64 j6.2.2.2]), (23, I64 (w64 (s2.2.2.2.2 + 1)))]) (.n rfl (.n rfl (.n rfl (.n rfl .nil)))) <| RunL.v (O.as (.lit rfl)) rfl rfl .none <| RunL.fin (.n rfl (.n rfl (.n rfl (.n rfl .nil))))) ?_
      obtain rfl := sm h
      exact Px.go (.n rfl (.n rfl (.n rfl (.n rfl .nil))))
    · replace h := cndF hb5 h
      refine W.xi ?_
      refine Px.sqE ?_
      obtain rfl := sm h
      exact Px.x1 (.n rfl (.n rfl (.n rfl .nil)))
  refine Px.bkH ?_
  refine Px.sq ?_
  refine W.sq' ?_
  refine W.sq' ?_
  refine W.rx [(0, _), (5, _), (6, _), (9, _)] (RunL.v (O.as (.k rfl)) rfl rfl .none <| RunL.fin (.n rfl (.n rfl (.n rfl (.n rfl .nil))))) ?_
  refine Px.sq ?_
  refine W.bk ?_
  obtain ⟨x19, hl, h⟩ := bnd h
  refine W.tr (G1 := [(0, .obj [oR eTok x3.1.f_g.Toks, oR eNon x3.1.f_g.Nons, oR eProd_0 x3.1.f_g.Prods, SS x3.1.f_g.Pro, SS x3.1.f_g.Tail, oR eB x3.1.f_given, oR eNon x3.1.f_types, oR eS x3.1.f_lefts, I64 x3.1.f_e, I64 x3.1.f_at, SS x3.1.f_name, I64 x3.1.f_level, I64 x3.1.f_inner]), (5, .obj [iR ePart a2.Parts, SS a2.Prec.Name, BB a2.Prec.Lit, I64 a2.Prec.Num, I64 a2.Prec.At, I64 a2.At]), (6, .obj [I64 (w64 (1 + x1)), oR eI x3.2.1, I64 (-1), SS x3.2.2.1, .nils, I64 x3.2.2.2]), (9, I64 0)]) (.n rfl (.n rfl (.n rfl (.n rfl .nil)))) ?_
  refine W.lp1 (s := ((-1), 0)) (fun (s18 : Int × Int) => [(0, .obj [oR eTok x3.1.f_g.Toks, oR eNon x3.1.f_g.Nons, oR eProd_0 x3.1.f_g.Prods, SS x3.1.f_g.Pro, SS x3.1.f_g.Tail, oR eB x3.1.f_given, oR eNon x3.1.f_types, oR eS x3.1.f_lefts, I64 x3.1.f_e, I64 x3.1.f_at, SS x3.1.f_name, I64 x3.1.f_level, I64 x3.1.f_inner]), (5, .obj [iR ePart a2.Parts, SS a2.Prec.Name, BB a2.Prec.Lit, I64 a2.Prec.Num, I64 a2.Prec.At, I64 a2.At]), (6, .obj [I64 (w64 (1 + x1)), oR eI x3.2.1, I64 s18.1, SS x3.2.2.1, .nils, I64 x3.2.2.2]), (9, I64 s18.2)]) 3 (fun (x19 : Int) => [(0, .obj [oR eTok x3.1.f_g.Toks, oR eNon x3.1.f_g.Nons, oR eProd_0 x3.1.f_g.Prods, SS x3.1.f_g.Pro, SS x3.1.f_g.Tail, oR eB x3.1.f_given, oR eNon x3.1.f_types, oR eS x3.1.f_lefts, I64 x3.1.f_e, I64 x3.1.f_at, SS x3.1.f_name, I64 x3.1.f_level, I64 x3.1.f_inner]), (5, .obj [iR ePart a2.Parts, SS a2.Prec.Name, BB a2.Prec.Lit, I64 a2.Prec.Num, I64 a2.Prec.At, I64 a2.At]), (6, .obj [I64 (w64 (1 + x1)), oR eI x3.2.1, I64 x19, SS x3.2.2.1, .nils, I64 x3.2.2.2])]) hl (fun s18 o h => ?_) ?_
  · clear hl
    refine W.sq' ?_
    refine W.sq' ?_
    refine W.rx [(0, _), (5, _), (6, _), (9, _), (112, _)] (RunL.v (O.mv (.lit rfl)) rfl rfl .none <| RunL.v (O.fO rfl (.obj rfl) fd109_1 rfl) rfl rfl .none <| RunL.v (O.ldO (y := .brw eI.z ⟨6, [1]⟩ x3.2.1.length) rfl (.ptr rfl) ct27 rfl rfl) rfl rfl .none <| RunL.v (O.lenO (.brw rfl) sl27) rfl rfl .none <| RunL.v (O.lss (.lit rfl) (.lit rfl)) rfl rfl .none <| RunL.fin (.n rfl (.n rfl (.n rfl (.n rfl (.n rfl .nil)))))) ?_
    refine Px.sq ?_
    refine W.cnd rfl (fun hb21 => ?_) (fun hb21 => ?_)
    · replace h := cndT hb21 h
      refine W.sk ?_
      refine Px.sq ?_
      refine W.sq' ?_
      obtain ⟨j22, hj, h⟩ := bnd h
      refine W.jn [(0, .obj [oR eTok x3.1.f_g.Toks, oR eNon x3.1.f_g.Nons, oR eProd_0 x3.1.f_g.Prods, SS x3.1.f_g.Pro, SS x3.1.f_g.Tail, oR eB x3.1.f_given, oR eNon x3.1.f_types, oR eS x3.1.f_lefts, I64 x3.1.f_e, I64 x3.1.f_at, SS x3.1.f_name, I64 x3.1.f_level, I64 x3.1.f_inner]), (5, .obj [iR ePart a2.Parts, SS a2.Prec.Name, BB a2.Prec.Lit, I64 a2.Prec.Num, I64 a2.Prec.At, I64 a2.At]), (6, .obj [I64 (w64 (1 + x1)), oR eI x3.2.1, I64 j22, SS x3.2.2.1, .nils, I64 x3.2.2.2]), (9, I64 s18.2)] ?_ ?_
      · clear h; have h := hj; clear hj
        refine W.bk ?_
        refine W.sq' ?_
        obtain ⟨x23, hx23, h⟩ := bnd h
        refine W.rx [(0, _), (5, _), (6, _), (9, _), (120, _)] (RunL.v (O.fO rfl (.obj rfl) fd109_1 rfl) rfl rfl .none <| RunL.v (O.ldO (y := .brw eI.z ⟨6, [1]⟩ x3.2.1.length) rfl (.ptr rfl) ct27 rfl rfl) rfl rfl .none <| RunL.v (O.mv (.lit rfl)) rfl rfl .none <| RunL.v (O.ixO (en := eI) rfl (.brw rfl) (.lit rfl) sl27 hx23 rfl) rfl rfl .none <| RunL.v (O.ldE (en := eI) (x' := I64 x23) rfl (.ptr rfl) ct3 hx23 rfl rfl) rfl rfl .none <| RunL.v (O.lss (.lit rfl) (.k rfl)) rfl rfl .none <| RunL.fin (.n rfl (.n rfl (.n rfl (.n rfl (.n rfl .nil)))))) ?_
        refine Px.sq ?_
        obtain ⟨j24, hj, h⟩ := bnd h
        refine W.jn [(0, .obj [oR eTok x3.1.f_g.Toks, oR eNon x3.1.f_g.Nons, oR eProd_0 x3.1.f_g.Prods, SS x3.1.f_g.Pro, SS x3.1.f_g.Tail, oR eB x3.1.f_given, oR eNon x3.1.f_types, oR eS x3.1.f_lefts, I64 x3.1.f_e, I64 x3.1.f_at, SS x3.1.f_name, I64 x3.1.f_level, I64 x3.1.f_inner]), (5, .obj [iR ePart a2.Parts, SS a2.Prec.Name, BB a2.Prec.Lit, I64 a2.Prec.Num, I64 a2.Prec.At, I64 a2.At]), (6, .obj [I64 (w64 (1 + x1)), oR eI x3.2.1, I64 j24, SS x3.2.2.1, .nils, I64 x3.2.2.2]), (9, I64 s18.2)] ?_ ?_
        · clear h; have h := hj; clear hj
          refine W.cnd rfl (fun hb25 => ?_) (fun hb25 => ?_)
          · replace h := cndT hb25 h
            obtain ⟨x26, hx26, h⟩ := bnd h
            refine W.rx [(0, _), (5, _), (6, _), (9, _)] (RunL.v (O.fO rfl (.obj rfl) fd109_1 rfl) rfl rfl .none <| RunL.v (O.ldO (y := .brw eI.z ⟨6, [1]⟩ x3.2.1.length) rfl (.ptr rfl) ct27 rfl rfl) rfl rfl .none <| RunL.v (O.mv (.lit rfl)) rfl rfl .none <| RunL.v (O.ixO (en := eI) rfl (.brw rfl) (.lit rfl) sl27 hx26 rfl) rfl rfl .none <| RunL.v (O.ldE (en := eI) (x' := I64 x26) rfl (.ptr rfl) ct3 hx26 rfl rfl) rfl rfl .none <| RunL.v (O.fO rfl (.obj rfl) fd109_2 rfl) rfl rfl .none <| RunL.sO (G2 := [(0, .obj [oR eTok x3.1.f_g.Toks, oR eNon x3.1.f_g.Nons, oR eProd_0 x3.1.f_g.Prods, SS x3.1.f_g.Pro, SS x3.1.f_g.Tail, oR eB x3.1.f_given, oR eNon x3.1.f_types, oR eS x3.1.f_lefts, I64 x3.1.f_e, I64 x3.1.f_at, SS x3.1.f_name, I64 x3.1.f_level, I64 x3.1.f_inner]), (5, .obj [iR ePart a2.Parts, SS a2.Prec.Name, BB a2.Prec.Lit, I64 a2.Prec.Num, I64 a2.Prec.At, I64 a2.At]), (6, .obj [I64 (w64 (1 + x1)), oR eI x3.2.1, I64 x26, SS x3.2.2.1, .nils, I64 x3.2.2.2]), (9, I64 s18.2)]) (cs2 := [I64 (w64 (1 + x1)), oR eI x3.2.1, I64 x26, SS x3.2.2.1, .nils, I64 x3.2.2.2]) rfl (.ptr rfl) (.lit rfl) rfl sz3 rfl rfl rfl rfl (.n rfl rfl (.n rfl rfl (.b rfl (.n rfl rfl .nil)))) <| RunL.fin (.n rfl (.n rfl (.n rfl (.n rfl .nil))))) ?_
            obtain rfl := sm h
            exact Px.jn (.n rfl (.n rfl (.n rfl (.n rfl .nil))))
          · replace h := cndF hb25 h
            refine W.sk ?_
            obtain rfl := sm h
            exact Px.jn (.n rfl (.n rfl (.n rfl (.n rfl .nil))))
        refine Px.bk ?_
        obtain rfl := sm h
        exact Px.jn (.n rfl (.n rfl (.n rfl (.n rfl .nil))))
      refine Px.sq ?_
      refine W.rx [(0, _), (5, _), (6, _), (9, _)] (RunL.v (O.mv (.lit rfl)) rfl rfl .none <| RunL.v (O.add (.lit rfl) (.k rfl)) rfl rfl .none <| RunL.re (G1 := [(0, .obj [oR eTok x3.1.f_g.Toks, oR eNon x3.1.f_g.Nons, oR eProd_0 x3.1.f_g.Prods, SS x3.1.f_g.Pro, SS x3.1.f_g.Tail, oR eB x3.1.f_given, oR eNon x3.1.f_types, oR eS x3.1.f_lefts, I64 x3.1.f_e, I64 x3.1.f_at, SS x3.1.f_name, I64 x3.1.f_level, I64 x3.1.f_inner]), (5, .obj [iR ePart a2.Parts, SS a2.Prec.Name, BB a2.Prec.Lit, I64 a2.Prec.Num, I64 a2.Prec.At, I64 a2.At]), (6, .obj [I64 (w64 (1 + x1)), oR eI x3.2.1, I64 j22, SS x3.2.2.1, .nils, I64 x3.2.2.2]), (114, I64 (w64 (s18.2 + 1)))]) (.n rfl (.n rfl (.n rfl (.n rfl .nil)))) <| RunL.v (O.as (.lit rfl)) rfl rfl .none <| RunL.fin (.n rfl (.n rfl (.n rfl (.n rfl .nil))))) ?_
      obtain rfl := sm h
      exact Px.go (.n rfl (.n rfl (.n rfl (.n rfl .nil))))
    · replace h := cndF hb21 h
      refine W.xi ?_
      refine Px.sqE ?_
      obtain rfl := sm h
      exact Px.x1 (.n rfl (.n rfl (.n rfl .nil)))
  refine Px.bkH ?_
  refine Px.sq ?_
  refine W.sq' ?_
  refine W.sq' ?_
  refine W.rx [(0, _), (5, _), (6, _), (130, _)] (RunL.v (O.fO rfl (.obj rfl) fd98_1 rfl) rfl rfl .none <| RunL.v (O.fO rfl (.ptr rfl) fd91_0 rfl) rfl rfl .none <| RunL.v (O.ldO (y := SS a2.Prec.Name) rfl (.ptr rfl) ct9 rfl rfl) rfl rfl .none <| RunL.v (O.neS (.lit rfl) (.k rfl)) rfl rfl .none <| RunL.fin (.n rfl (.n rfl (.n rfl (.n rfl .nil))))) ?_
  refine Px.sq ?_
  obtain ⟨j27, hj, h⟩ := bnd h
  refine W.jn [(0, .obj [oR eTok j27.1.f_g.Toks, oR eNon j27.1.f_g.Nons, oR eProd_0 j27.1.f_g.Prods, SS j27.1.f_g.Pro, SS j27.1.f_g.Tail, oR eB j27.1.f_given, oR eNon j27.1.f_types, oR eS j27.1.f_lefts, I64 j27.1.f_e, I64 j27.1.f_at, SS j27.1.f_name, I64 j27.1.f_level, I64 j27.1.f_inner]), (6, .obj [I64 (w64 (1 + x1)), oR eI x3.2.1, I64 j27.2, SS x3.2.2.1, .nils, I64 x3.2.2.2])] ?_ ?_
  · clear h; have h := hj; clear hj
    refine W.cnd rfl (fun hb28 => ?_) (fun hb28 => ?_)
    · replace h := cndT hb28 h
      refine W.sq' ?_
      refine W.rx [(0, _), (5, _), (6, _)] (RunL.v (O.fO rfl (.obj rfl) fd109_2 rfl) rfl rfl .none <| RunL.sO (G2 := [(0, .obj [oR eTok x3.1.f_g.Toks, oR eNon x3.1.f_g.Nons, oR eProd_0 x3.1.f_g.Prods, SS x3.1.f_g.Pro, SS x3.1.f_g.Tail, oR eB x3.1.f_given, oR eNon x3.1.f_types, oR eS x3.1.f_lefts, I64 x3.1.f_e, I64 x3.1.f_at, SS x3.1.f_name, I64 x3.1.f_level, I64 x3.1.f_inner]), (5, .obj [iR ePart a2.Parts, SS a2.Prec.Name, BB a2.Prec.Lit, I64 a2.Prec.Num, I64 a2.Prec.At, I64 a2.At]), (6, .obj [I64 (w64 (1 + x1)), oR eI x3.2.1, I64 (-1), SS x3.2.2.1, .nils, I64 x3.2.2.2])]) (cs2 := [I64 (w64 (1 + x1)), oR eI x3.2.1, I64 (-1), SS x3.2.2.1, .nils, I64 x3.2.2.2]) rfl (.ptr rfl) (.k rfl) rfl sz3 rfl rfl rfl rfl (.n rfl rfl (.n rfl rfl (.b rfl .nil))) <| RunL.fin (.n rfl (.n rfl (.n rfl .nil)))) ?_
      refine Px.sq ?_
      refine W.sq' ?_
      obtain ⟨c31, hj, h⟩ := bnd h
      refine W.rx [(0, .obj [oR eTok x3.1.f_g.Toks, oR eNon x3.1.f_g.Nons, oR eProd_0 x3.1.f_g.Prods, SS x3.1.f_g.Pro, SS x3.1.f_g.Tail, oR eB x3.1.f_given, oR eNon x3.1.f_types, oR eS x3.1.f_lefts, I64 x3.1.f_e, I64 x3.1.f_at, SS x3.1.f_name, I64 x3.1.f_level, I64 x3.1.f_inner]), (5, .obj [iR ePart a2.Parts, SS a2.Prec.Name, BB a2.Prec.Lit, I64 a2.Prec.Num, I64 a2.Prec.At, I64 a2.At]), (6, .obj [I64 (w64 (1 + x1)), oR eI x3.2.1, I64 (-1), SS x3.2.2.1, .nils, I64 x3.2.2.2]), (142, BB c31)] ?_ ?_
      · refine RunL.v (O.fO rfl (.obj rfl) fd98_1 rfl) rfl rfl .none <| RunL.v (O.fO rfl (.ptr rfl) fd91_1 rfl) rfl rfl .none <| RunL.v (O.ldO (y := BB a2.Prec.Lit) rfl (.ptr rfl) ct4 rfl rfl) rfl rfl .none <| RunL.v (O.mv (.lit rfl)) rfl rfl .none ?_
        rcases cnd hj with ⟨hb29, hj⟩ | ⟨hb29, hj⟩
        · obtain rfl := sm hj
          exact RunL.ps rfl rfl hb29 rfl rfl <| RunL.ps rfl rfl hb29 rfl rfl <| RunL.ps rfl rfl hb29 rfl rfl <| RunL.ps rfl rfl hb29 rfl rfl <| RunL.ps rfl rfl hb29 rfl rfl <| RunL.ps rfl rfl hb29 rfl rfl <| RunL.v (O.pkT (.lit rfl) hb29 (.k rfl)) rfl rfl .none <| RunL.fin (.n rfl (.n rfl (.n rfl (.n rfl .nil))))
        · refine RunL.v (O.mv (.obj rfl)) rfl rfl (.yb rfl rfl hb29) <| RunL.v (O.fO rfl (.obj rfl) fd98_1 rfl) rfl rfl (.yb rfl rfl hb29) <| RunL.v (O.fO rfl (.ptr rfl) fd91_0 rfl) rfl rfl (.yb rfl rfl hb29) <| RunL.v (O.ldO (y := SS a2.Prec.Name) rfl (.ptr rfl) ct9 rfl rfl) rfl rfl (.yb rfl rfl hb29) ?_
          obtain ⟨x30, hx30, hj⟩ := bnd hj
          obtain rfl := sm hj
          exact RunL.c (PC.vw (ys := [.ptr ⟨0, []⟩ 0, SS a2.Prec.Name]) rfl (.c (View.p0 rfl rfl) (.s .nil)) (con67 x3.1 a2.Prec.Name _ hx30) call67 rfl) rfl rfl (.yb rfl rfl hb29) <| RunL.v (O.lss (.lit rfl) (.k rfl)) rfl rfl (.yb rfl rfl hb29) <| RunL.v (O.pkF (.lit rfl) hb29 (.lit rfl)) rfl rfl .none <| RunL.fin (.n rfl (.n rfl (.n rfl (.n rfl .nil))))
      refine Px.sq ?_
      obtain ⟨j32, hj, h⟩ := bnd h
      refine W.jn [(0, .obj [oR eTok j32.1.f_g.Toks, oR eNon j32.1.f_g.Nons, oR eProd_0 j32.1.f_g.Prods, SS j32.1.f_g.Pro, SS j32.1.f_g.Tail, oR eB j32.1.f_given, oR eNon j32.1.f_types, oR eS j32.1.f_lefts, I64 j32.1.f_e, I64 j32.1.f_at, SS j32.1.f_name, I64 j32.1.f_level, I64 j32.1.f_inner]), (6, .obj [I64 (w64 (1 + x1)), oR eI x3.2.1, I64 j32.2, SS x3.2.2.1, .nils, I64 x3.2.2.2])] ?_ ?_
      · clear h; have h := hj; clear hj
        refine W.cnd rfl (fun hb33 => ?_) (fun hb33 => ?_)
        · replace h := cndT hb33 h
          obtain ⟨x34, hx34, h⟩ := bnd h
          refine W.rx [(0, _), (6, _)] (RunL.v (O.mv (.obj rfl)) rfl rfl .none <| RunL.v (O.fO rfl (.obj rfl) fd98_1 rfl) rfl rfl .none <| RunL.v (O.ldON (cs' := [SS a2.Prec.Name, BB a2.Prec.Lit, I64 a2.Prec.Num, I64 a2.Prec.At]) rfl (.ptr rfl) at91 rfl rfl) rfl rfl .none <| RunL.ef (G2 := [(146, I64 x34.1), (0, .obj [oR eTok x34.2.f_g.Toks, oR eNon x34.2.f_g.Nons, oR eProd_0 x34.2.f_g.Prods, SS x34.2.f_g.Pro, SS x34.2.f_g.Tail, oR eB x34.2.f_given, oR eNon x34.2.f_types, oR eS x34.2.f_lefts, I64 x34.2.f_e, I64 x34.2.f_at, SS x34.2.f_name, I64 x34.2.f_level, I64 x34.2.f_inner]), (6, .obj [I64 (w64 (1 + x1)), oR eI x3.2.1, I64 (-1), SS x3.2.2.1, .nils, I64 x3.2.2.2])]) rfl (EO.call rfl rfl (CallOk.ln (G2 := [(6, .obj [I64 (w64 (1 + x1)), oR eI x3.2.1, I64 (-1), SS x3.2.2.1, .nils, I64 x3.2.2.2])]) (A := []) (ys := [.ptr ⟨0, []⟩ 0, .agg [SS a2.Prec.Name, BB a2.Prec.Lit, I64 a2.Prec.Num, I64 a2.Prec.At]]) (args := [.obj [oR eTok x3.1.f_g.Toks, oR eNon x3.1.f_g.Nons, oR eProd_0 x3.1.f_g.Prods, SS x3.1.f_g.Pro, SS x3.1.f_g.Tail, oR eB x3.1.f_given, oR eNon x3.1.f_types, oR eS x3.1.f_lefts, I64 x3.1.f_e, I64 x3.1.f_at, SS x3.1.f_name, I64 x3.1.f_level, I64 x3.1.f_inner], .agg [SS a2.Prec.Name, BB a2.Prec.Lit, I64 a2.Prec.Num, I64 a2.Prec.At]]) (cs' := [oR eTok x34.2.f_g.Toks, oR eNon x34.2.f_g.Nons, oR eProd_0 x34.2.f_g.Prods, SS x34.2.f_g.Pro, SS x34.2.f_g.Tail, oR eB x34.2.f_given, oR eNon x34.2.f_types, oR eS x34.2.f_lefts, I64 x34.2.f_e, I64 x34.2.f_at, SS x34.2.f_name, I64 x34.2.f_level, I64 x34.2.f_inner]) (k0 := 0) rfl rfl rfl rfl (.b rfl (.n rfl .nil)) rfl (con83 x3.1 a2.Prec _ hx34) call83 (.n rfl .nil) rfl rfl (.n rfl .nil) .nil rfl)) <| RunL.v (O.fO rfl (.obj rfl) fd109_2 rfl) rfl rfl .none <| RunL.sO (G2 := [(0, .obj [oR eTok x34.2.f_g.Toks, oR eNon x34.2.f_g.Nons, oR eProd_0 x34.2.f_g.Prods, SS x34.2.f_g.Pro, SS x34.2.f_g.Tail, oR eB x34.2.f_given, oR eNon x34.2.f_types, oR eS x34.2.f_lefts, I64 x34.2.f_e, I64 x34.2.f_at, SS x34.2.f_name, I64 x34.2.f_level, I64 x34.2.f_inner]), (6, .obj [I64 (w64 (1 + x1)), oR eI x3.2.1, I64 x34.1, SS x3.2.2.1, .nils, I64 x3.2.2.2])]) (cs2 := [I64 (w64 (1 + x1)), oR eI x3.2.1, I64 x34.1, SS x3.2.2.1, .nils, I64 x3.2.2.2]) rfl (.ptr rfl) (.lit rfl) rfl sz3 rfl rfl rfl rfl (.n rfl rfl (.b rfl .nil)) <| RunL.fin (.n rfl (.n rfl .nil))) ?_
          obtain rfl := sm h
          exact Px.jn (.n rfl (.n rfl .nil))
        · replace h := cndF hb33 h
          obtain ⟨x35, hx35, h⟩ := bnd h
          refine W.rx [(0, _), (6, _)] (RunL.v (O.mv (.obj rfl)) rfl rfl .none <| RunL.v (O.fO rfl (.obj rfl) fd98_1 rfl) rfl rfl .none <| RunL.v (O.fO rfl (.ptr rfl) fd91_3 rfl) rfl rfl .none <| RunL.v (O.ldO (y := I64 a2.Prec.At) rfl (.ptr rfl) ct3 rfl rfl) rfl rfl .none <| RunL.v (O.fO rfl (.obj rfl) fd98_1 rfl) rfl rfl .none <| RunL.v (O.fO rfl (.ptr rfl) fd91_0 rfl) rfl rfl .none <| RunL.v (O.ldO (y := SS a2.Prec.Name) rfl (.ptr rfl) ct9 rfl rfl) rfl rfl .none <| RunL.ef (G2 := [(155, .tup []), (0, .obj [oR eTok x35.f_g.Toks, oR eNon x35.f_g.Nons, oR eProd_0 x35.f_g.Prods, SS x35.f_g.Pro, SS x35.f_g.Tail, oR eB x35.f_given, oR eNon x35.f_types, oR eS x35.f_lefts, I64 x35.f_e, I64 x35.f_at, SS x35.f_name, I64 x35.f_level, I64 x35.f_inner]), (6, .obj [I64 (w64 (1 + x1)), oR eI x3.2.1, I64 (-1), SS x3.2.2.1, .nils, I64 x3.2.2.2])]) rfl (EO.call rfl rfl (CallOk.ln (G2 := [(6, .obj [I64 (w64 (1 + x1)), oR eI x3.2.1, I64 (-1), SS x3.2.2.1, .nils, I64 x3.2.2.2])]) (A := []) (ys := [.ptr ⟨0, []⟩ 0, I64 a2.Prec.At, SS a2.Prec.Name]) (args := [.obj [oR eTok x3.1.f_g.Toks, oR eNon x3.1.f_g.Nons, oR eProd_0 x3.1.f_g.Prods, SS x3.1.f_g.Pro, SS x3.1.f_g.Tail, oR eB x3.1.f_given, oR eNon x3.1.f_types, oR eS x3.1.f_lefts, I64 x3.1.f_e, I64 x3.1.f_at, SS x3.1.f_name, I64 x3.1.f_level, I64 x3.1.f_inner], I64 a2.Prec.At, SS a2.Prec.Name]) (cs' := [oR eTok x35.f_g.Toks, oR eNon x35.f_g.Nons, oR eProd_0 x35.f_g.Prods, SS x35.f_g.Pro, SS x35.f_g.Tail, oR eB x35.f_given, oR eNon x35.f_types, oR eS x35.f_lefts, I64 x35.f_e, I64 x35.f_at, SS x35.f_name, I64 x35.f_level, I64 x35.f_inner]) (k0 := 0) rfl rfl rfl rfl (.b rfl (.n rfl (.n rfl .nil))) rfl (con65 x3.1 a2.Prec.At a2.Prec.Name _ hx35) call65 (.n rfl .nil) rfl rfl (.n rfl .nil) .nil rfl)) <| RunL.fin (.n rfl (.n rfl .nil))) ?_
          obtain rfl := sm h
          exact Px.jn (.n rfl (.n rfl .nil))
      obtain rfl := sm h
      exact Px.jn (.n rfl (.n rfl .nil))
    · replace h := cndF hb28 h
      refine W.sk ?_
      obtain rfl := sm h
      exact Px.jn (.n rfl (.n rfl .nil))
  refine Px.sq ?_
  refine W.sq' ?_
  obtain ⟨x36, hx36, h⟩ := bnd h
  refine W.rx [(0, _), (6, _)] (RunL.v (O.bs (ys := []) eI ([] : List Int) sl27 rfl rfl rfl rfl rfl rfl zt3 rfl rfl) rfl rfl .none <| RunL.v (O.fO rfl (.obj rfl) fd109_1 rfl) rfl rfl .none <| RunL.v (O.ldO (y := .brw eI.z ⟨6, [1]⟩ x3.2.1.length) rfl (.ptr rfl) ct27 rfl rfl) rfl rfl .none <| RunL.v (O.ap (en := eI) (r := x36) (.own rfl) rfl (.brw rfl) (.flat eI rfl) ap27 rfl hx36) rfl rfl .none <| RunL.v (O.fO rfl (.obj rfl) fd109_4 rfl) rfl rfl .none <| RunL.ef (G2 := [(0, .obj [oR eTok j27.1.f_g.Toks, oR eNon j27.1.f_g.Nons, oR eProd_0 j27.1.f_g.Prods, SS j27.1.f_g.Pro, SS j27.1.f_g.Tail, oR eB j27.1.f_given, oR eNon j27.1.f_types, oR eS j27.1.f_lefts, I64 j27.1.f_e, I64 j27.1.f_at, SS j27.1.f_name, I64 j27.1.f_level, I64 j27.1.f_inner]), (6, .obj [I64 (w64 (1 + x1)), oR eI x3.2.1, I64 j27.2, SS x3.2.2.1, oR eI (([] : List Int) ++ x3.2.1), I64 x3.2.2.2])]) rfl (EO.stP (g1 := _) (en := eI) (M := x3.2.1) (cs2 := [I64 (w64 (1 + x1)), oR eI x3.2.1, I64 j27.2, SS x3.2.2.1, oR eI (([] : List Int) ++ x3.2.1), I64 x3.2.2.2]) rfl rfl (.ptr rfl) (.pend rfl) rfl rfl rfl .ns .rf rfl rfl sz27 rfl rfl rfl rfl (.n rfl rfl (.b rfl .nil))) <| RunL.fin (.n rfl (.n rfl .nil))) ?_
  refine Px.sq ?_
  refine W.fz (G1 := [(0, .obj [oR eTok j27.1.f_g.Toks, oR eNon j27.1.f_g.Nons, oR eProd_0 j27.1.f_g.Prods, SS j27.1.f_g.Pro, SS j27.1.f_g.Tail, oR eB j27.1.f_given, oR eNon j27.1.f_types, oR eS j27.1.f_lefts, I64 j27.1.f_e, I64 j27.1.f_at, SS j27.1.f_name, I64 j27.1.f_level, I64 j27.1.f_inner]), (6, .obj [I64 (w64 (1 + x1)), iR eI x3.2.1, I64 j27.2, SS x3.2.2.1, oR eI (([] : List Int) ++ x3.2.1), I64 x3.2.2.2])]) [6] (.n rfl rfl (.z rfl rfl (FzL.obj (.f (.z (.f (.f (.f (.f .nil))))))) .nil)) ?_
  refine W.fz (G1 := [(0, .obj [oR eTok j27.1.f_g.Toks, oR eNon j27.1.f_g.Nons, oR eProd_0 j27.1.f_g.Prods, SS j27.1.f_g.Pro, SS j27.1.f_g.Tail, oR eB j27.1.f_given, oR eNon j27.1.f_types, oR eS j27.1.f_lefts, I64 j27.1.f_e, I64 j27.1.f_at, SS j27.1.f_name, I64 j27.1.f_level, I64 j27.1.f_inner]), (6, .obj [I64 (w64 (1 + x1)), iR eI x3.2.1, I64 j27.2, SS x3.2.2.1, iR eI (([] : List Int) ++ x3.2.1), I64 x3.2.2.2])]) [6] (.n rfl rfl (.z rfl rfl (FzL.obj (.f (.f (.f (.f (.z (.f .nil))))))) .nil)) ?_
  obtain ⟨x37, hx37, h⟩ := bnd h
  refine W.rd [[], [], [1], [1, 2], [1, 2, 3], [1, 2, 3, 4], [], [6], [1, 2, 3, 4, 5, 6, 7], [0, 1, 2, 3, 4, 5, 6, 7, 8], [0, 1, 2, 3, 4, 5, 6, 7, 8, 9], [0, 1, 2, 3, 4, 5, 6, 7, 8, 9, 10], [0, 1, 2, 3, 4, 5, 6, 7, 8, 9, 10, 11]] [(0, _)] mixo (by kernel_rfl) (DL.v 0 (O.mv (.obj rfl)) rfl rfl rfl rfl .none <| DL.v 1 (O.mv (.obj rfl)) rfl rfl rfl rfl .none <| DL.v 2 (O.nlP (.ptr rfl)) rfl rfl rfl rfl .none <| DL.v 3 (O.fO rfl (.ptr rfl) fd128_0 rfl) rfl rfl rfl rfl .none <| DL.v 4 (O.fO rfl (.ptr rfl) fd38_2 rfl) rfl rfl rfl rfl .none <| DL.v 5 (O.ldO (y := .brw eProd_0.z ⟨0, [2]⟩ j27.1.f_g.Prods.length) rfl (.ptr rfl) ct36 rfl rfl) rfl rfl rfl rfl .none <| DL.v 6 (O.ldON (cs' := [I64 (w64 (1 + x1)), iR eI x3.2.1, I64 j27.2, SS x3.2.2.1, iR eI (([] : List Int) ++ x3.2.1), I64 x3.2.2.2]) rfl (.obj rfl) at109 rfl rfl) rfl rfl rfl rfl .none <| DL.vi 7 (x := iR eProd_0 [(⟨w64 (1 + x1), x3.2.1, j27.2, x3.2.2.1, ([] : List Int) ++ x3.2.1, x3.2.2.2⟩ : Prod)]) (O.bs (ys := [.agg [I64 (w64 (1 + x1)), iR eI x3.2.1, I64 j27.2, SS x3.2.2.1, iR eI (([] : List Int) ++ x3.2.1), I64 x3.2.2.2]]) eProd_0 [(⟨w64 (1 + x1), x3.2.1, j27.2, x3.2.2.1, ([] : List Int) ++ x3.2.1, x3.2.2.2⟩ : Prod)] sl36 rfl rfl rfl rfl rfl rfl zt109 rfl rfl) rfl rfl rfl rfl .none <| DL.v 8 (O.ap (en := eProd_0) (r := x37) (.brw rfl) rfl (.imm rfl) .i ap36 rfl hx37) rfl rfl rfl rfl .none <| DL.v 9 (O.nlP (.ptr rfl)) rfl rfl rfl rfl .none <| DL.v 10 (O.fO rfl (.ptr rfl) fd128_0 rfl) rfl rfl rfl rfl .none <| DL.v 11 (O.fO rfl (.ptr rfl) fd38_2 rfl) rfl rfl rfl rfl .none <| DL.bp 12 (G2 := [(0, .obj [oR eTok j27.1.f_g.Toks, oR eNon j27.1.f_g.Nons, oR eProd_0 (j27.1.f_g.Prods ++ [(⟨w64 (1 + x1), x3.2.1, j27.2, x3.2.2.1, ([] : List Int) ++ x3.2.1, x3.2.2.2⟩ : Prod)]), SS j27.1.f_g.Pro, SS j27.1.f_g.Tail, oR eB j27.1.f_given, oR eNon j27.1.f_types, oR eS j27.1.f_lefts, I64 j27.1.f_e, I64 j27.1.f_at, SS j27.1.f_name, I64 j27.1.f_level, I64 j27.1.f_inner])]) (EO.stP (g1 := _) (en := eProd_0) (M := [(⟨w64 (1 + x1), x3.2.1, j27.2, x3.2.2.1, ([] : List Int) ++ x3.2.1, x3.2.2.2⟩ : Prod)]) (cs2 := [oR eTok j27.1.f_g.Toks, oR eNon j27.1.f_g.Nons, oR eProd_0 (j27.1.f_g.Prods ++ [(⟨w64 (1 + x1), x3.2.1, j27.2, x3.2.2.1, ([] : List Int) ++ x3.2.1, x3.2.2.2⟩ : Prod)]), SS j27.1.f_g.Pro, SS j27.1.f_g.Tail, oR eB j27.1.f_given, oR eNon j27.1.f_types, oR eS j27.1.f_lefts, I64 j27.1.f_e, I64 j27.1.f_at, SS j27.1.f_name, I64 j27.1.f_level, I64 j27.1.f_inner]) rfl rfl (.ptr rfl) (.pend rfl) rfl rfl rfl .ns .rf rfl rfl sz36 rfl rfl rfl rfl (.b rfl .nil)) rfl rfl rfl rfl (by kernel_rfl) (by kernel_rfl) <| DL.fin rfl rfl rfl (.n rfl .nil)) ?_
  obtain rfl := sm h
  exact Px.fin (Fin.ro .nil rfl (of_decide_eq_true (by kernel_rfl)) (.so rfl rfl (.no (.no .nil))) rfl (.inl rfl))
def pf50 (a0 : Source) : Option (Grammar × Int × Int × ByteArray) :=
 (pf63 a0).bind fun x1 =>
 (bif !x1 then
 some ((⟨([] : List Tok), ([] : List Non), ([] : List Prod), { data := #[] }, { data := #[] }⟩ : Grammar), 1, 0, { data := #[] })
 else
 (mkO 3 false).bind fun x3 =>
 (loopM (R := yuccaref9_maker × ByteArray) (fun (s4 : yuccaref9_maker × ByteArray × Int) =>
 (bif decide (s4.2.2 < (a0.Decls.length : Int)) then
 (idx a0.Decls s4.2.2).bind fun x8 =>
 ((bif decide (2 ≤ x8.Kind) then some (decide (x8.Kind ≤ 4)) else some false)).bind fun c10 =>
 ((bif c10 then
 some (w64 (s4.1.f_level + 1))
 else
 some s4.1.f_level)).bind fun j11 =>
 (loopM (R := yuccaref9_maker × ByteArray) (fun (s13 : yuccaref9_maker × ByteArray × Int) =>
 (bif decide (s13.2.2 < (x8.Syms.length : Int)) then
 ((bif !decide (x8.Kind = 6) then
 (idx x8.Syms s13.2.2).bind fun x19 =>
 (pf64 s13.1 x8 x19).bind fun x20 =>
 some (x20, s13.2.1)
 else
 ((bif !decide (s13.2.1 = { data := #[] }) then
 (idx x8.Syms s13.2.2).bind fun x23 =>
 (idx x8.Syms s13.2.2).bind fun x24 =>
 (pf65 s13.1 x23.At x24.Name).bind fun x25 =>
 some x25
 else
 some s13.1)).bind fun j21 =>
 (idx x8.Syms s13.2.2).bind fun x26 =>
 some (j21, x26.Name))).bind fun j17 =>
 some (.inl (j17.1, j17.2, w64 (s13.2.2 + 1)))
 else
 some (.inr (s13.1, s13.2.1)))) ((⟨s4.1.f_g, s4.1.f_given, s4.1.f_types, s4.1.f_lefts, s4.1.f_e, s4.1.f_at, s4.1.f_name, j11, s4.1.f_inner⟩ : yuccaref9_maker), s4.2.1, 0)).bind fun x14 =>
 some (.inl (x14.1, x14.2, w64 (s4.2.2 + 1)))
 else
 some (.inr (s4.1, s4.2.1)))) ((⟨(⟨[(⟨{ data := #[36, 101, 110, 100] }, false, 0, 0, 0, { data := #[] }⟩ : Tok), (⟨{ data := #[101, 114, 114, 111, 114] }, false, (-1), 0, 0, { data := #[] }⟩ : Tok), (⟨{ data := #[36, 117, 110, 107] }, false, (-1), 0, 0, { data := #[] }⟩ : Tok)], [], [], { data := #[] }, { data := #[] }⟩ : Grammar), x3, [], [], 0, 0, { data := #[] }, 0, 0⟩ : yuccaref9_maker), { data := #[] }, 0)).bind fun x5 =>
 (loopM (R := yuccaref9_maker) (fun (s27 : yuccaref9_maker × Int) =>
 (bif decide (s27.2 < (a0.Rules.length : Int)) then
 ((idx a0.Rules s27.2).bind fun x32 =>
 (pf66 s27.1 (⟨x32.Left, false, 0, 0⟩ : Sym)).bind fun x33 =>
 ((bif decide (0 ≤ x33) then
 (pf65 s27.1 x32.At x32.Left).bind fun x36 =>
 some x36
 else
 some s27.1)).bind fun j34 =>
 (pf67 j34 x32.Left).bind fun x37 =>
 ((bif decide (x37 < 0) then
 (appO j34.f_lefts [x32.Left]).bind fun x40 =>
 some (j34.f_lefts ++ [x32.Left])
 else
 some j34.f_lefts)).bind fun j38 =>
 some (⟨j34.f_g, j34.f_given, j34.f_types, j38, j34.f_e, j34.f_at, j34.f_name, j34.f_level, j34.f_inner⟩ : yuccaref9_maker)).bind fun j31 =>
 some (.inl (j31, w64 (s27.2 + 1)))
 else
 some (.inr s27.1))) (x5.1, 0)).bind fun x28 =>
 (loopM (R := yuccaref9_maker) (fun (s41 : yuccaref9_maker × Int) =>
 (bif decide (s41.2 < (a0.Decls.length : Int)) then
 (loopM (R := yuccaref9_maker) (fun (s45 : yuccaref9_maker × Int) =>
 (idx a0.Decls s41.2).bind fun x48 =>
 (bif decide (s45.2 < (x48.Syms.length : Int)) then
 ((idx a0.Decls s41.2).bind fun x51 =>
 (idx x51.Syms s45.2).bind fun x52 =>
 (((idx a0.Decls s41.2).bind fun x53 => (bif decide (5 ≤ x53.Kind) then ((pf67 s45.1 x52.Name).bind fun x55 => some (decide (x55 < 0))) else some false))).bind fun c56 =>
 ((bif c56 then
 (pf65 s45.1 x52.At x52.Name).bind fun x59 =>
 some x59
 else
 some s45.1)).bind fun j57 =>
 some j57).bind fun j50 =>
 some (.inl (j50, w64 (s45.2 + 1)))
 else
 some (.inr s45.1))) (s41.1, 0)).bind fun x46 =>
 some (.inl (x46, w64 (s41.2 + 1)))
 else
 some (.inr s41.1))) (x28, 0)).bind fun x42 =>
 ((bif decide (x5.2 = { data := #[] }) then
 (idx a0.Rules 0).bind fun x62 =>
 some x62.Left
 else
 some x5.2)).bind fun j60 =>
 (pf67 x42 j60).bind fun x63 =>
 (loopM (R := yuccaref9_maker) (fun (s64 : yuccaref9_maker × Int) =>
 (bif decide (s64.2 < (a0.Rules.length : Int)) then
 (loopM (R := yuccaref9_maker) (fun (s68 : yuccaref9_maker × Int) =>
 (idx a0.Rules s64.2).bind fun x71 =>
 (bif decide (s68.2 < (x71.Alts.length : Int)) then
 (idx a0.Rules s64.2).bind fun x73 =>
 (idx a0.Rules s64.2).bind fun x74 =>
 (idx x74.Alts s68.2).bind fun x75 =>
 (pf68 s68.1 x73.Left x75).bind fun x76 =>
 some (.inl (x76, w64 (s68.2 + 1)))
 else
 some (.inr s68.1))) (s64.1, 0)).bind fun x69 =>
 some (.inl (x69, w64 (s64.2 + 1)))
 else
 some (.inr s64.1))) ((⟨(⟨x42.f_g.Toks, x42.f_g.Nons, [(⟨0, [w64 (1001 + x63)], (-1), { data := #[] }, ([] : List Int), 0⟩ : Prod)], x42.f_g.Pro, x42.f_g.Tail⟩ : Grammar), x42.f_given, x42.f_types, x42.f_lefts, x42.f_e, x42.f_at, x42.f_name, x42.f_level, x42.f_inner⟩ : yuccaref9_maker), 0)).bind fun x65 =>
 (bif !decide (x65.f_e = 0) then
 some ((⟨([] : List Tok), ([] : List Non), ([] : List Prod), { data := #[] }, { data := #[] }⟩ : Grammar), x65.f_e, x65.f_at, x65.f_name)
 else
 (loopM (R := List Non) (fun (s78 : List Non × Int) =>
 (bif decide (s78.2 < (x65.f_lefts.length : Int)) then
 (idx x65.f_lefts s78.2).bind fun x82 =>
 (pf69 (⟨(⟨x65.f_g.Toks, s78.1, x65.f_g.Prods, x65.f_g.Pro, x65.f_g.Tail⟩ : Grammar), x65.f_given, x65.f_types, x65.f_lefts, x65.f_e, x65.f_at, x65.f_name, x65.f_level, x65.f_inner⟩ : yuccaref9_maker) x82).bind fun x83 =>
 ((bif decide (0 ≤ x83) then
 (idx x65.f_types x83).bind fun x86 =>
 some x86.Tag
 else
 some ({ data := #[] }))).bind fun j84 =>
 (appO s78.1 [(⟨x82, j84⟩ : Non)]).bind fun x87 =>
 some (.inl (s78.1 ++ [(⟨x82, j84⟩ : Non)], w64 (s78.2 + 1)))
 else
 some (.inr s78.1))) ([(⟨{ data := #[36, 97, 99, 99, 101, 112, 116] }, { data := #[] }⟩ : Non)], 0)).bind fun x79 =>
 (loopM (R := List Non) (fun (s88 : List Non × Int) =>
 (bif decide (s88.2 ≤ x65.f_inner) then
 (pf52 s88.2).bind fun x92 =>
 (catO ({ data := #[64] }) x92).bind fun x93 =>
 (appO s88.1 [(⟨x93, { data := #[] }⟩ : Non)]).bind fun x94 =>
 some (.inl (s88.1 ++ [(⟨x93, { data := #[] }⟩ : Non)], w64 (s88.2 + 1)))
 else
 some (.inr s88.1))) (x79, 1)).bind fun x89 =>
 (loopM (R := List Tok) (fun (s95 : List Tok × Int × Int) =>
 (bif decide (s95.2.2 < (s95.1.length : Int)) then
 ((idx x65.f_given s95.2.2).bind fun x100 =>
 ((bif !x100 then
 (idx s95.1 s95.2.2).bind fun x103 =>
 some (s95.1.set s95.2.2.toNat (⟨x103.Name, x103.Lit, s95.2.1, x103.Level, x103.Assoc, x103.Tag⟩ : Tok), w64 (s95.2.1 + 1))
 else
 some (s95.1, s95.2.1))).bind fun j101 =>
 some (j101.1, j101.2)).bind fun j99 =>
 some (.inl (j99.1, j99.2, w64 (s95.2.2 + 1)))
 else
 some (.inr s95.1))) (x65.f_g.Toks, 57346, 3)).bind fun x96 =>
 ((bif decide (40 < (x96.length : Int)) then some true else (bif decide (24 < (x89.length : Int)) then some true else some (decide (60 < (x65.f_g.Prods.length : Int)))))).bind fun c106 =>
 (loopM (R := Bool) (fun (s107 : Bool × Int) =>
 (bif decide (s107.2 < (x65.f_g.Prods.length : Int)) then
 ((bif s107.1 then some true else ((idx x65.f_g.Prods s107.2).bind fun x112 => some (decide (8 < (x112.Right.length : Int)))))).bind fun c113 =>
 some (.inl (c113, w64 (s107.2 + 1)))
 else
 some (.inr s107.1))) (c106, 0)).bind fun x108 =>
 (bif x108 then
 some ((⟨([] : List Tok), ([] : List Non), ([] : List Prod), { data := #[] }, { data := #[] }⟩ : Grammar), 4, 0, { data := #[] })
 else
 some ((⟨x96, x89, x65.f_g.Prods, a0.Pro, a0.Tail⟩ : Grammar), 0, 0, { data := #[] }))))
theorem con50 (a0 : Source) (r : Grammar × Int × Int × ByteArray) (h : pf50 a0 = some r) : Con Try.prog 50 [.agg [SS a0.Pro, iR eDecl_0 a0.Decls, iR eRule_0 a0.Rules, SS a0.Tail]] [none] (.tup [.agg [iR eTok r.1.Toks, iR eNon r.1.Nons, iR eProd_0 r.1.Prods, SS r.1.Pro, SS r.1.Tail], I64 r.2.1, I64 r.2.2.1, SS r.2.2.2]) := by
  unfold pf50 at h
  refine Con.go (N := ⟨435, []⟩) Try.func50 rfl rfl rfl rfl (W.fin ?_)
  refine W.st [(0, .agg [SS a0.Pro, iR eDecl_0 a0.Decls, iR eRule_0 a0.Rules, SS a0.Tail])] ?_
  refine W.sq' ?_
  refine W.rx [(1, _), (2, _)] (RunL.v (O.box (.aggF rfl rfl) rfl) rfl rfl .none <| RunL.v (O.al (cs := [.nils, .nils, .nils, SS ({ data := #[] }), SS ({ data := #[] })]) ze38 rfl rfl) rfl rfl .none <| RunL.v (O.as (.k rfl)) rfl rfl .none <| RunL.v (O.as (.k rfl)) rfl rfl .none <| RunL.v (O.as (.k rfl)) rfl rfl .none <| RunL.fin (.n rfl (.n rfl .nil))) ?_
  refine Px.sq ?_
  refine W.sq' ?_
  refine W.sq' ?_
  obtain ⟨x1, hx1, h⟩ := bnd h
  refine W.rx [(1, _), (2, _), (28, _)] (RunL.v (O.ldON (cs' := [SS a0.Pro, iR eDecl_0 a0.Decls, iR eRule_0 a0.Rules, SS a0.Tail]) rfl (.obj rfl) at25 rfl rfl) rfl rfl .none <| RunL.c (PC.go (.cc (.aggF rfl rfl) .nil) (con63 a0 _ hx1) call63 rfl) rfl rfl .none <| RunL.v (O.not (.lit rfl)) rfl rfl .none <| RunL.fin (.n rfl (.n rfl (.n rfl .nil)))) ?_
  refine Px.sq ?_
  refine W.cnd rfl (fun hb2 => ?_) (fun hb2 => ?_)
  · replace h := cndT hb2 h
    refine W.sq' ?_
    refine W.rx [(2, _), (3, _), (4, _), (5, _)] (RunL.v (O.bu (cs := [.nils, .nils, .nils, SS ({ data := #[] }), SS ({ data := #[] })]) sc38 ze38 rfl rfl rfl) rfl rfl .none <| RunL.sO (G2 := [(2, .obj [.nils, .nils, .nils, SS ({ data := #[] }), SS ({ data := #[] })])]) (cs2 := [.nils, .nils, .nils, SS ({ data := #[] }), SS ({ data := #[] })]) rfl (.obj rfl) (.aggF rfl rfl) rfl sz38 rfl rfl rfl rfl (.b rfl .nil) <| RunL.v (O.as (.k rfl)) rfl rfl .none <| RunL.v (O.as (.k rfl)) rfl rfl .none <| RunL.v (O.as (.k rfl)) rfl rfl .none <| RunL.fin (.n rfl (.n rfl (.n rfl (.n rfl .nil))))) ?_
    refine Px.sq ?_
    refine W.fz (G1 := [(2, .obj [iR eTok ([] : List Tok), iR eNon ([] : List Non), iR eProd_0 ([] : List Prod), SS ({ data := #[] }), SS ({ data := #[] })]), (3, I64 1), (4, I64 0), (5, SS ({ data := #[] }))]) [2] (.z rfl rfl (FzL.obj (.z (.z (.z (.f (.f .nil)))))) (.n rfl rfl (.n rfl rfl (.n rfl rfl .nil)))) ?_
    refine W.rt ?_
    refine Px.sqR ?_
    obtain rfl := sm h
    exact Px.fin (Fin.ro (.c (ys0 := [iR eTok ([] : List Tok), iR eNon ([] : List Non), iR eProd_0 ([] : List Prod), SS ({ data := #[] }), SS ({ data := #[] })]) rfl at38 rfl rfl rfl (.f rfl (.f rfl (.f rfl (.f rfl (.f rfl .nil))))) (.f rfl rfl (.f rfl rfl (.f rfl rfl .nil)))) rfl (of_decide_eq_true (by kernel_rfl)) (.no .nil) rfl (.inr rfl))
  · replace h := cndF hb2 h
    refine W.sk ?_
    refine Px.sq ?_
    refine W.sq' ?_
    obtain ⟨x3, hx3, h⟩ := bnd h
    refine W.rx [(1, _), (2, _), (6, _)] (RunL.v (O.mk (en := eB) (z0 := false) sl102 (.k rfl) (.k rfl) ze4 rfl rfl hx3 bb4 rfl) rfl rfl .none <| RunL.v (O.bu (cs := [.nils, .nils, .nils, SS ({ data := #[] }), SS ({ data := #[] }), .brw eB.z ⟨30, []⟩ x3.length, .nils, .nils, I64 0, I64 0, SS ({ data := #[] }), I64 0, I64 0]) sc128 ze128 rfl rfl rfl) rfl rfl .none <| RunL.v (O.box (.aggF rfl rfl) rfl) rfl rfl .none <| RunL.ea (G2 := [(1, .obj [SS a0.Pro, iR eDecl_0 a0.Decls, iR eRule_0 a0.Rules, SS a0.Tail]), (2, .obj [.nils, .nils, .nils, SS ({ data := #[] }), SS ({ data := #[] })])]) rfl (EO.aG (y' := .obj [.nils, .nils, .nils, SS ({ data := #[] }), SS ({ data := #[] }), oR eB x3, .nils, .nils, I64 0, I64 0, SS ({ data := #[] }), I64 0, I64 0]) rfl rfl (.obj rfl) (.b rfl (.f (.f (.f (.f (.f (.r rfl (.f (.f (.f (.f (.f (.f (.f .nil))))))))))))) .nil) .refl (.n rfl (.n rfl .nil)) rfl rfl) <| RunL.fin (.n rfl (.n rfl (.n rfl .nil)))) ?_
    refine Px.sq ?_
    refine W.sq' ?_
    refine W.rx [(1, _), (2, _), (6, _)] (RunL.v (O.mv (.obj rfl)) rfl rfl .none <| RunL.v (O.bu (cs := [SS ({ data := #[36, 101, 110, 100] }), BB false, I64 0, I64 0, I64 0, SS ({ data := #[] })]) sc52 ze52 rfl rfl rfl) rfl rfl .none <| RunL.v (O.bu (cs := [SS ({ data := #[101, 114, 114, 111, 114] }), BB false, I64 (-1), I64 0, I64 0, SS ({ data := #[] })]) sc52 ze52 rfl rfl rfl) rfl rfl .none <| RunL.v (O.bu (cs := [SS ({ data := #[36, 117, 110, 107] }), BB false, I64 (-1), I64 0, I64 0, SS ({ data := #[] })]) sc52 ze52 rfl rfl rfl) rfl rfl .none <| RunL.v (O.bs (ys := [.agg [SS ({ data := #[36, 101, 110, 100] }), BB false, I64 0, I64 0, I64 0, SS ({ data := #[] })], .agg [SS ({ data := #[101, 114, 114, 111, 114] }), BB false, I64 (-1), I64 0, I64 0, SS ({ data := #[] })], .agg [SS ({ data := #[36, 117, 110, 107] }), BB false, I64 (-1), I64 0, I64 0, SS ({ data := #[] })]]) eTok [(⟨{ data := #[36, 101, 110, 100] }, false, 0, 0, 0, { data := #[] }⟩ : Tok), (⟨{ data := #[101, 114, 114, 111, 114] }, false, (-1), 0, 0, { data := #[] }⟩ : Tok), (⟨{ data := #[36, 117, 110, 107] }, false, (-1), 0, 0, { data := #[] }⟩ : Tok)] sl34 rfl rfl rfl rfl rfl rfl zt52 rfl rfl) rfl rfl .none <| RunL.v (O.nlP (.ptr rfl)) rfl rfl .none <| RunL.v (O.fO rfl (.ptr rfl) fd128_0 rfl) rfl rfl .none <| RunL.v (O.fO rfl (.ptr rfl) fd38_0 rfl) rfl rfl .none <| RunL.ef (G2 := [(1, .obj [SS a0.Pro, iR eDecl_0 a0.Decls, iR eRule_0 a0.Rules, SS a0.Tail]), (2, .obj [.nils, .nils, .nils, SS ({ data := #[] }), SS ({ data := #[] })]), (6, .obj [oR eTok [(⟨{ data := #[36, 101, 110, 100] }, false, 0, 0, 0, { data := #[] }⟩ : Tok), (⟨{ data := #[101, 114, 114, 111, 114] }, false, (-1), 0, 0, { data := #[] }⟩ : Tok), (⟨{ data := #[36, 117, 110, 107] }, false, (-1), 0, 0, { data := #[] }⟩ : Tok)], .nils, .nils, SS ({ data := #[] }), SS ({ data := #[] }), oR eB x3, .nils, .nils, I64 0, I64 0, SS ({ data := #[] }), I64 0, I64 0])]) rfl (EO.stB (y' := oR eTok [(⟨{ data := #[36, 101, 110, 100] }, false, 0, 0, 0, { data := #[] }⟩ : Tok), (⟨{ data := #[101, 114, 114, 111, 114] }, false, (-1), 0, 0, { data := #[] }⟩ : Tok), (⟨{ data := #[36, 117, 110, 107] }, false, (-1), 0, 0, { data := #[] }⟩ : Tok)]) (cs2 := [oR eTok [(⟨{ data := #[36, 101, 110, 100] }, false, 0, 0, 0, { data := #[] }⟩ : Tok), (⟨{ data := #[101, 114, 114, 111, 114] }, false, (-1), 0, 0, { data := #[] }⟩ : Tok), (⟨{ data := #[36, 117, 110, 107] }, false, (-1), 0, 0, { data := #[] }⟩ : Tok)], .nils, .nils, SS ({ data := #[] }), SS ({ data := #[] }), oR eB x3, .nils, .nils, I64 0, I64 0, SS ({ data := #[] }), I64 0, I64 0]) rfl rfl (.ptr rfl) (.own rfl) (.r rfl .nil) .refl rfl sz34 rfl rfl rfl rfl rfl (.n rfl rfl (.n rfl rfl (.b rfl .nil)))) <| RunL.fin (.n rfl (.n rfl (.n rfl .nil)))) ?_
    refine Px.sq ?_
    refine W.sq' ?_
    refine W.rx [(1, _), (2, _), (6, _), (7, _)] (RunL.v (O.as (.k rfl)) rfl rfl .none <| RunL.fin (.n rfl (.n rfl (.n rfl (.n rfl .nil))))) ?_
    refine Px.sq ?_
    refine W.sq' ?_
    refine W.sq' ?_
    refine W.rx [(1, _), (2, _), (6, _), (7, _), (8, _)] (RunL.v (O.as (.k rfl)) rfl rfl .none <| RunL.fin (.n rfl (.n rfl (.n rfl (.n rfl (.n rfl .nil)))))) ?_
    refine Px.sq ?_
    refine W.bk ?_
    obtain ⟨x5, hl, h⟩ := bnd h
    refine W.tr (G1 := [(1, .obj [SS a0.Pro, iR eDecl_0 a0.Decls, iR eRule_0 a0.Rules, SS a0.Tail]), (2, .obj [.nils, .nils, .nils, SS ({ data := #[] }), SS ({ data := #[] })]), (6, .obj [oR eTok (((⟨(⟨[(⟨{ data := #[36, 101, 110, 100] }, false, 0, 0, 0, { data := #[] }⟩ : Tok), (⟨{ data := #[101, 114, 114, 111, 114] }, false, (-1), 0, 0, { data := #[] }⟩ : Tok), (⟨{ data := #[36, 117, 110, 107] }, false, (-1), 0, 0, { data := #[] }⟩ : Tok)], [], [], { data := #[] }, { data := #[] }⟩ : Grammar), x3, [], [], 0, 0, { data := #[] }, 0, 0⟩ : yuccaref9_maker).f_g).Toks), oR eNon (((⟨(⟨[(⟨{ data := #[36, 101, 110, 100] }, false, 0, 0, 0, { data := #[] }⟩ : Tok), (⟨{ data := #[101, 114, 114, 111, 114] }, false, (-1), 0, 0, { data := #[] }⟩ : Tok), (⟨{ data := #[36, 117, 110, 107] }, false, (-1), 0, 0, { data := #[] }⟩ : Tok)], [], [], { data := #[] }, { data := #[] }⟩ : Grammar), x3, [], [], 0, 0, { data := #[] }, 0, 0⟩ : yuccaref9_maker).f_g).Nons), oR eProd_0 (((⟨(⟨[(⟨{ data := #[36, 101, 110, 100] }, false, 0, 0, 0, { data := #[] }⟩ : Tok), (⟨{ data := #[101, 114, 114, 111, 114] }, false, (-1), 0, 0, { data := #[] }⟩ : Tok), (⟨{ data := #[36, 117, 110, 107] }, false, (-1), 0, 0, { data := #[] }⟩ : Tok)], [], [], { data := #[] }, { data := #[] }⟩ : Grammar), x3, [], [], 0, 0, { data := #[] }, 0, 0⟩ : yuccaref9_maker).f_g).Prods), SS (((⟨(⟨[(⟨{ data := #[36, 101, 110, 100] }, false, 0, 0, 0, { data := #[] }⟩ : Tok), (⟨{ data := #[101, 114, 114, 111, 114] }, false, (-1), 0, 0, { data := #[] }⟩ : Tok), (⟨{ data := #[36, 117, 110, 107] }, false, (-1), 0, 0, { data := #[] }⟩ : Tok)], [], [], { data := #[] }, { data := #[] }⟩ : Grammar), x3, [], [], 0, 0, { data := #[] }, 0, 0⟩ : yuccaref9_maker).f_g).Pro), SS (((⟨(⟨[(⟨{ data := #[36, 101, 110, 100] }, false, 0, 0, 0, { data := #[] }⟩ : Tok), (⟨{ data := #[101, 114, 114, 111, 114] }, false, (-1), 0, 0, { data := #[] }⟩ : Tok), (⟨{ data := #[36, 117, 110, 107] }, false, (-1), 0, 0, { data := #[] }⟩ : Tok)], [], [], { data := #[] }, { data := #[] }⟩ : Grammar), x3, [], [], 0, 0, { data := #[] }, 0, 0⟩ : yuccaref9_maker).f_g).Tail), oR eB ((⟨(⟨[(⟨{ data := #[36, 101, 110, 100] }, false, 0, 0, 0, { data := #[] }⟩ : Tok), (⟨{ data := #[101, 114, 114, 111, 114] }, false, (-1), 0, 0, { data := #[] }⟩ : Tok), (⟨{ data := #[36, 117, 110, 107] }, false, (-1), 0, 0, { data := #[] }⟩ : Tok)], [], [], { data := #[] }, { data := #[] }⟩ : Grammar), x3, [], [], 0, 0, { data := #[] }, 0, 0⟩ : yuccaref9_maker).f_given), oR eNon ((⟨(⟨[(⟨{ data := #[36, 101, 110, 100] }, false, 0, 0, 0, { data := #[] }⟩ : Tok), (⟨{ data := #[101, 114, 114, 111, 114] }, false, (-1), 0, 0, { data := #[] }⟩ : Tok), (⟨{ data := #[36, 117, 110, 107] }, false, (-1), 0, 0, { data := #[] }⟩ : Tok)], [], [], { data := #[] }, { data := #[] }⟩ : Grammar), x3, [], [], 0, 0, { data := #[] }, 0, 0⟩ : yuccaref9_maker).f_types), oR eS ((⟨(⟨[(⟨{ data := #[36, 101, 110, 100] }, false, 0, 0, 0, { data := #[] }⟩ : Tok), (⟨{ data := #[101, 114, 114, 111, 114] }, false, (-1), 0, 0, { data := #[] }⟩ : Tok), (⟨{ data := #[36, 117, 110, 107] }, false, (-1), 0, 0, { data := #[] }⟩ : Tok)], [], [], { data := #[] }, { data := #[] }⟩ : Grammar), x3, [], [], 0, 0, { data := #[] }, 0, 0⟩ : yuccaref9_maker).f_lefts), I64 ((⟨(⟨[(⟨{ data := #[36, 101, 110, 100] }, false, 0, 0, 0, { data := #[] }⟩ : Tok), (⟨{ data := #[101, 114, 114, 111, 114] }, false, (-1), 0, 0, { data := #[] }⟩ : Tok), (⟨{ data := #[36, 117, 110, 107] }, false, (-1), 0, 0, { data := #[] }⟩ : Tok)], [], [], { data := #[] }, { data := #[] }⟩ : Grammar), x3, [], [], 0, 0, { data := #[] }, 0, 0⟩ : yuccaref9_maker).f_e), I64 ((⟨(⟨[(⟨{ data := #[36, 101, 110, 100] }, false, 0, 0, 0, { data := #[] }⟩ : Tok), (⟨{ data := #[101, 114, 114, 111, 114] }, false, (-1), 0, 0, { data := #[] }⟩ : Tok), (⟨{ data := #[36, 117, 110, 107] }, false, (-1), 0, 0, { data := #[] }⟩ : Tok)], [], [], { data := #[] }, { data := #[] }⟩ : Grammar), x3, [], [], 0, 0, { data := #[] }, 0, 0⟩ : yuccaref9_maker).f_at), SS ((⟨(⟨[(⟨{ data := #[36, 101, 110, 100] }, false, 0, 0, 0, { data := #[] }⟩ : Tok), (⟨{ data := #[101, 114, 114, 111, 114] }, false, (-1), 0, 0, { data := #[] }⟩ : Tok), (⟨{ data := #[36, 117, 110, 107] }, false, (-1), 0, 0, { data := #[] }⟩ : Tok)], [], [], { data := #[] }, { data := #[] }⟩ : Grammar), x3, [], [], 0, 0, { data := #[] }, 0, 0⟩ : yuccaref9_maker).f_name), I64 ((⟨(⟨[(⟨{ data := #[36, 101, 110, 100] }, false, 0, 0, 0, { data := #[] }⟩ : Tok), (⟨{ data := #[101, 114, 114, 111, 114] }, false, (-1), 0, 0, { data := #[] }⟩ : Tok), (⟨{ data := #[36, 117, 110, 107] }, false, (-1), 0, 0, { data := #[] }⟩ : Tok)], [], [], { data := #[] }, { data := #[] }⟩ : Grammar), x3, [], [], 0, 0, { data := #[] }, 0, 0⟩ : yuccaref9_maker).f_level), I64 ((⟨(⟨[(⟨{ data := #[36, 101, 110, 100] }, false, 0, 0, 0, { data := #[] }⟩ : Tok), (⟨{ data := #[101, 114, 114, 111, 114] }, false, (-1), 0, 0, { data := #[] }⟩ : Tok), (⟨{ data := #[36, 117, 110, 107] }, false, (-1), 0, 0, { data := #[] }⟩ : Tok)], [], [], { data := #[] }, { data := #[] }⟩ : Grammar), x3, [], [], 0, 0, { data := #[] }, 0, 0⟩ : yuccaref9_maker).f_inner)]), (7, SS ({ data := #[] })), (8, I64 0)]) (.n rfl (.n rfl (.w rfl rfl (WkL.obj (.f (.o (.o (.f (.f (.f (.o (.o (.f (.f (.f (.f (.f .nil)))))))))))))) (.n rfl (.n rfl .nil))))) ?_
    refine W.lp1 (s := ((⟨(⟨[(⟨{ data := #[36, 101, 110, 100] }, false, 0, 0, 0, { data := #[] }⟩ : Tok), (⟨{ data := #[101, 114, 114, 111, 114] }, false, (-1), 0, 0, { data := #[] }⟩ : Tok), (⟨{ data := #[36, 117, 110, 107] }, false, (-1), 0, 0, { data := #[] }⟩ : Tok)], [], [], { data := #[] }, { data := #[] }⟩ : Grammar), x3, [], [], 0, 0, { data := #[] }, 0, 0⟩ : yuccaref9_maker), { data := #[] }, 0)) (fun (s4 : yuccaref9_maker × ByteArray × Int) => [(1, .obj [SS a0.Pro, iR eDecl_0 a0.Decls, iR eRule_0 a0.Rules, SS a0.Tail]), (2, .obj [.nils, .nils, .nils, SS ({ data := #[] }), SS ({ data := #[] })]), (6, .obj [oR eTok s4.1.f_g.Toks, oR eNon s4.1.f_g.Nons, oR eProd_0 s4.1.f_g.Prods, SS s4.1.f_g.Pro, SS s4.1.f_g.Tail, oR eB s4.1.f_given, oR eNon s4.1.f_types, oR eS s4.1.f_lefts, I64 s4.1.f_e, I64 s4.1.f_at, SS s4.1.f_name, I64 s4.1.f_level, I64 s4.1.f_inner]), (7, SS s4.2.1), (8, I64 s4.2.2)]) 0 (fun (x5 : yuccaref9_maker × ByteArray) => [(1, .obj [SS a0.Pro, iR eDecl_0 a0.Decls, iR eRule_0 a0.Rules, SS a0.Tail]), (2, .obj [.nils, .nils, .nils, SS ({ data := #[] }), SS ({ data := #[] })]), (6, .obj [oR eTok x5.1.f_g.Toks, oR eNon x5.1.f_g.Nons, oR eProd_0 x5.1.f_g.Prods, SS x5.1.f_g.Pro, SS x5.1.f_g.Tail, oR eB x5.1.f_given, oR eNon x5.1.f_types, oR eS x5.1.f_lefts, I64 x5.1.f_e, I64 x5.1.f_at, SS x5.1.f_name, I64 x5.1.f_level, I64 x5.1.f_inner]), (7, SS x5.2)]) hl (fun s4 o h => ?_) ?_
    · clear hl
      refine W.sq' ?_
      refine W.sq' ?_
      refine W.rx [(1, _), (2, _), (6, _), (7, _), (8, _), (45, _)] (RunL.v (O.mv (.lit rfl)) rfl rfl .none <| RunL.v (O.fO rfl (.obj rfl) fd25_1 rfl) rfl rfl .none <| RunL.v (O.ldO (y := iR eDecl_0 a0.Decls) rfl (.ptr rfl) ct22 rfl rfl) rfl rfl .none <| RunL.v (O.lenI (.imm rfl) sl22) rfl rfl .none <| RunL.v (O.lss (.lit rfl) (.lit rfl)) rfl rfl .none <| RunL.fin (.n rfl (.n rfl (.n rfl (.n rfl (.n rfl (.n rfl .nil))))))) ?_
      refine Px.sq ?_
      refine W.cnd rfl (fun hb7 => ?_) (fun hb7 => ?_)
      · replace h := cndT hb7 h
        refine W.sk ?_
        refine Px.sq ?_
        refine W.sq' ?_
        refine W.bk ?_
        refine W.sq' ?_
        obtain ⟨x8, hx8, h⟩ := bnd h
        refine W.rx [(1, _), (2, _), (6, _), (7, _), (8, _), (9, _)] (RunL.v (O.fO rfl (.obj rfl) fd25_1 rfl) rfl rfl .none <| RunL.v (O.ldO (y := iR eDecl_0 a0.Decls) rfl (.ptr rfl) ct22 rfl rfl) rfl rfl .none <| RunL.v (O.mv (.lit rfl)) rfl rfl .none <| RunL.v (O.ixI (.imm rfl) (.lit rfl) sl22 hx8) rfl rfl .none <| RunL.v (O.ldIN (cs' := [I64 x8.Kind, SS x8.Tag, iR eSym x8.Syms, I64 x8.At]) (.iptr rfl) at89 rfl rfl) rfl rfl .none <| RunL.v (O.al (cs := [I64 0, SS ({ data := #[] }), .nils, I64 0]) ze89 rfl rfl) rfl rfl .none <| RunL.sO (G2 := [(1, .obj [SS a0.Pro, iR eDecl_0 a0.Decls, iR eRule_0 a0.Rules, SS a0.Tail]), (2, .obj [.nils, .nils, .nils, SS ({ data := #[] }), SS ({ data := #[] })]), (6, .obj [oR eTok s4.1.f_g.Toks, oR eNon s4.1.f_g.Nons, oR eProd_0 s4.1.f_g.Prods, SS s4.1.f_g.Pro, SS s4.1.f_g.Tail, oR eB s4.1.f_given, oR eNon s4.1.f_types, oR eS s4.1.f_lefts, I64 s4.1.f_e, I64 s4.1.f_at, SS s4.1.f_name, I64 s4.1.f_level, I64 s4.1.f_inner]), (7, SS s4.2.1), (8, I64 s4.2.2), (9, .obj [I64 x8.Kind, SS x8.Tag, iR eSym x8.Syms, I64 x8.At])]) (cs2 := [I64 x8.Kind, SS x8.Tag, iR eSym x8.Syms, I64 x8.At]) rfl (.obj rfl) (.aggF rfl rfl) rfl sz89 rfl rfl rfl rfl (.n rfl rfl (.n rfl rfl (.n rfl rfl (.n rfl rfl (.n rfl rfl (.b rfl .nil)))))) <| RunL.fin (.n rfl (.n rfl (.n rfl (.n rfl (.n rfl (.n rfl .nil))))))) ?_
        refine Px.sq ?_
        refine W.sq' ?_
        refine W.sq' ?_
        obtain ⟨c10, hj, h⟩ := bnd h
        refine W.rx [(1, .obj [SS a0.Pro, iR eDecl_0 a0.Decls, iR eRule_0 a0.Rules, SS a0.Tail]), (2, .obj [.nils, .nils, .nils, SS ({ data := #[] }), SS ({ data := #[] })]), (6, .obj [oR eTok s4.1.f_g.Toks, oR eNon s4.1.f_g.Nons, oR eProd_0 s4.1.f_g.Prods, SS s4.1.f_g.Pro, SS s4.1.f_g.Tail, oR eB s4.1.f_given, oR eNon s4.1.f_types, oR eS s4.1.f_lefts, I64 s4.1.f_e, I64 s4.1.f_at, SS s4.1.f_name, I64 s4.1.f_level, I64 s4.1.f_inner]), (7, SS s4.2.1), (8, I64 s4.2.2), (9, .obj [I64 x8.Kind, SS x8.Tag, iR eSym x8.Syms, I64 x8.At]), (60, BB c10)] ?_ ?_
        · refine RunL.v (O.fO rfl (.obj rfl) fd89_0 rfl) rfl rfl .none <| RunL.v (O.ldO (y := I64 x8.Kind) rfl (.ptr rfl) ct3 rfl rfl) rfl rfl .none <| RunL.v (O.geq (.lit rfl) (.k rfl)) rfl rfl .none <| RunL.v (O.mv (.lit rfl)) rfl rfl .none ?_
          rcases cnd hj with ⟨hb9, hj⟩ | ⟨hb9, hj⟩
          · obtain rfl := sm hj
            exact RunL.v (O.fO rfl (.obj rfl) fd89_0 rfl) rfl rfl (.yb rfl rfl hb9) <| RunL.v (O.ldO (y := I64 x8.Kind) rfl (.ptr rfl) ct3 rfl rfl) rfl rfl (.yb rfl rfl hb9) <| RunL.v (O.leq (.lit rfl) (.k rfl)) rfl rfl (.yb rfl rfl hb9) <| RunL.v (O.pkT (.lit rfl) hb9 (.lit rfl)) rfl rfl .none <| RunL.fin (.n rfl (.n rfl (.n rfl (.n rfl (.n rfl (.n rfl (.n rfl .nil)))))))
          · obtain rfl := sm hj
            exact RunL.ps rfl rfl hb9 rfl rfl <| RunL.ps rfl rfl hb9 rfl rfl <| RunL.ps rfl rfl hb9 rfl rfl <| RunL.v (O.pkF (.lit rfl) hb9 (.k rfl)) rfl rfl .none <| RunL.fin (.n rfl (.n rfl (.n rfl (.n rfl (.n rfl (.n rfl (.n rfl .nil)))))))
        refine Px.sq ?_
        obtain ⟨j11, hj, h⟩ := bnd h
        refine W.jn [(1, .obj [SS a0.Pro, iR eDecl_0 a0.Decls, iR eRule_0 a0.Rules, SS a0.Tail]), (2, .obj [.nils, .nils, .nils, SS ({ data := #[] }), SS ({ data := #[] })]), (6, .obj [oR eTok s4.1.f_g.Toks, oR eNon s4.1.f_g.Nons, oR eProd_0 s4.1.f_g.Prods, SS s4.1.f_g.Pro, SS s4.1.f_g.Tail, oR eB s4.1.f_given, oR eNon s4.1.f_types, oR eS s4.1.f_lefts, I64 s4.1.f_e, I64 s4.1.f_at, SS s4.1.f_name, I64 j11, I64 s4.1.f_inner]), (7, SS s4.2.1), (8, I64 s4.2.2), (9, .obj [I64 x8.Kind, SS x8.Tag, iR eSym x8.Syms, I64 x8.At])] ?_ ?_
        · clear h; have h := hj; clear hj
          refine W.cnd rfl (fun hb12 => ?_) (fun hb12 => ?_)
          · replace h := cndT hb12 h
            refine W.rx [(1, _), (2, _), (6, _), (7, _), (8, _), (9, _)] (RunL.v (O.mv (.obj rfl)) rfl rfl .none <| RunL.v (O.nlP (.ptr rfl)) rfl rfl .none <| RunL.v (O.fO rfl (.ptr rfl) fd128_7 rfl) rfl rfl .none <| RunL.v (O.ldO (y := I64 s4.1.f_level) rfl (.ptr rfl) ct3 rfl rfl) rfl rfl .none <| RunL.v (O.add (.lit rfl) (.k rfl)) rfl rfl .none <| RunL.v (O.nlP (.ptr rfl)) rfl rfl .none <| RunL.v (O.fO rfl (.ptr rfl) fd128_7 rfl) rfl rfl .none <| RunL.sO (G2 := [(1, .obj [SS a0.Pro, iR eDecl_0 a0.Decls, iR eRule_0 a0.Rules, SS a0.Tail]), (2, .obj [.nils, .nils, .nils, SS ({ data := #[] }), SS ({ data := #[] })]), (6, .obj [oR eTok s4.1.f_g.Toks, oR eNon s4.1.f_g.Nons, oR eProd_0 s4.1.f_g.Prods, SS s4.1.f_g.Pro, SS s4.1.f_g.Tail, oR eB s4.1.f_given, oR eNon s4.1.f_types, oR eS s4.1.f_lefts, I64 s4.1.f_e, I64 s4.1.f_at, SS s4.1.f_name, I64 (w64 (s4.1.f_level + 1)), I64 s4.1.f_inner]), (7, SS s4.2.1), (8, I64 s4.2.2), (9, .obj [I64 x8.Kind, SS x8.Tag, iR eSym x8.Syms, I64 x8.At])]) (cs2 := [oR eTok s4.1.f_g.Toks, oR eNon s4.1.f_g.Nons, oR eProd_0 s4.1.f_g.Prods, SS s4.1.f_g.Pro, SS s4.1.f_g.Tail, oR eB s4.1.f_given, oR eNon s4.1.f_types, oR eS s4.1.f_lefts, I64 s4.1.f_e, I64 s4.1.f_at, SS s4.1.f_name, I64 (w64 (s4.1.f_level + 1)), I64 s4.1.f_inner]) rfl (.ptr rfl) (.lit rfl) rfl sz3 rfl rfl rfl rfl (.n rfl rfl (.n rfl rfl (.b rfl (.n rfl rfl (.n rfl rfl (.n rfl rfl .nil)))))) <| RunL.fin (.n rfl (.n rfl (.n rfl (.n rfl (.n rfl (.n rfl .nil))))))) ?_
            obtain rfl := sm h
            exact Px.jn (.n rfl (.n rfl (.n rfl (.n rfl (.n rfl (.n rfl .nil))))))
          · replace h := cndF hb12 h
            refine W.sk ?_
            obtain rfl := sm h
            exact Px.jn (.n rfl (.n rfl (.n rfl (.n rfl (.n rfl (.n rfl .nil))))))
        refine Px.sq ?_
        refine W.sq' ?_
        refine W.rx [(1, _), (2, _), (6, _), (7, _), (8, _), (9, _), (10, _)] (RunL.v (O.as (.k rfl)) rfl rfl .none <| RunL.fin (.n rfl (.n rfl (.n rfl (.n rfl (.n rfl (.n rfl (.n rfl .nil)))))))) ?_
        refine Px.sq ?_
        refine W.bk ?_
        obtain ⟨x14, hl, h⟩ := bnd h
        refine W.tr (G1 := [(1, .obj [SS a0.Pro, iR eDecl_0 a0.Decls, iR eRule_0 a0.Rules, SS a0.Tail]), (2, .obj [.nils, .nils, .nils, SS ({ data := #[] }), SS ({ data := #[] })]), (6, .obj [oR eTok (((⟨s4.1.f_g, s4.1.f_given, s4.1.f_types, s4.1.f_lefts, s4.1.f_e, s4.1.f_at, s4.1.f_name, j11, s4.1.f_inner⟩ : yuccaref9_maker).f_g).Toks), oR eNon (((⟨s4.1.f_g, s4.1.f_given, s4.1.f_types, s4.1.f_lefts, s4.1.f_e, s4.1.f_at, s4.1.f_name, j11, s4.1.f_inner⟩ : yuccaref9_maker).f_g).Nons), oR eProd_0 (((⟨s4.1.f_g, s4.1.f_given, s4.1.f_types, s4.1.f_lefts, s4.1.f_e, s4.1.f_at, s4.1.f_name, j11, s4.1.f_inner⟩ : yuccaref9_maker).f_g).Prods), SS (((⟨s4.1.f_g, s4.1.f_given, s4.1.f_types, s4.1.f_lefts, s4.1.f_e, s4.1.f_at, s4.1.f_name, j11, s4.1.f_inner⟩ : yuccaref9_maker).f_g).Pro), SS (((⟨s4.1.f_g, s4.1.f_given, s4.1.f_types, s4.1.f_lefts, s4.1.f_e, s4.1.f_at, s4.1.f_name, j11, s4.1.f_inner⟩ : yuccaref9_maker).f_g).Tail), oR eB ((⟨s4.1.f_g, s4.1.f_given, s4.1.f_types, s4.1.f_lefts, s4.1.f_e, s4.1.f_at, s4.1.f_name, j11, s4.1.f_inner⟩ : yuccaref9_maker).f_given), oR eNon ((⟨s4.1.f_g, s4.1.f_given, s4.1.f_types, s4.1.f_lefts, s4.1.f_e, s4.1.f_at, s4.1.f_name, j11, s4.1.f_inner⟩ : yuccaref9_maker).f_types), oR eS ((⟨s4.1.f_g, s4.1.f_given, s4.1.f_types, s4.1.f_lefts, s4.1.f_e, s4.1.f_at, s4.1.f_name, j11, s4.1.f_inner⟩ : yuccaref9_maker).f_lefts), I64 ((⟨s4.1.f_g, s4.1.f_given, s4.1.f_types, s4.1.f_lefts, s4.1.f_e, s4.1.f_at, s4.1.f_name, j11, s4.1.f_inner⟩ : yuccaref9_maker).f_e), I64 ((⟨s4.1.f_g, s4.1.f_given, s4.1.f_types, s4.1.f_lefts, s4.1.f_e, s4.1.f_at, s4.1.f_name, j11, s4.1.f_inner⟩ : yuccaref9_maker).f_at), SS ((⟨s4.1.f_g, s4.1.f_given, s4.1.f_types, s4.1.f_lefts, s4.1.f_e, s4.1.f_at, s4.1.f_name, j11, s4.1.f_inner⟩ : yuccaref9_maker).f_name), I64 ((⟨s4.1.f_g, s4.1.f_given, s4.1.f_types, s4.1.f_lefts, s4.1.f_e, s4.1.f_at, s4.1.f_name, j11, s4.1.f_inner⟩ : yuccaref9_maker).f_level), I64 ((⟨s4.1.f_g, s4.1.f_given, s4.1.f_types, s4.1.f_lefts, s4.1.f_e, s4.1.f_at, s4.1.f_name, j11, s4.1.f_inner⟩ : yuccaref9_maker).f_inner)]), (7, SS s4.2.1), (8, I64 s4.2.2), (9, .obj [I64 x8.Kind, SS x8.Tag, iR eSym x8.Syms, I64 x8.At]), (10, I64 0)]) (.n rfl (.n rfl (.n rfl (.n rfl (.n rfl (.n rfl (.n rfl .nil))))))) ?_
        refine W.lp1 (s := ((⟨s4.1.f_g, s4.1.f_given, s4.1.f_types, s4.1.f_lefts, s4.1.f_e, s4.1.f_at, s4.1.f_name, j11, s4.1.f_inner⟩ : yuccaref9_maker), s4.2.1, 0)) (fun (s13 : yuccaref9_maker × ByteArray × Int) => [(1, .obj [SS a0.Pro, iR eDecl_0 a0.Decls, iR eRule_0 a0.Rules, SS a0.Tail]), (2, .obj [.nils, .nils, .nils, SS ({ data := #[] }), SS ({ data := #[] })]), (6, .obj [oR eTok s13.1.f_g.Toks, oR eNon s13.1.f_g.Nons, oR eProd_0 s13.1.f_g.Prods, SS s13.1.f_g.Pro, SS s13.1.f_g.Tail, oR eB s13.1.f_given, oR eNon s13.1.f_types, oR eS s13.1.f_lefts, I64 s13.1.f_e, I64 s13.1.f_at, SS s13.1.f_name, I64 s13.1.f_level, I64 s13.1.f_inner]), (7, SS s13.2.1), (8, I64 s4.2.2), (9, .obj [I64 x8.Kind, SS x8.Tag, iR eSym x8.Syms, I64 x8.At]), (10, I64 s13.2.2)]) 2 (fun (x14 : yuccaref9_maker × ByteArray) => [(1, .obj [SS a0.Pro, iR eDecl_0 a0.Decls, iR eRule_0 a0.Rules, SS a0.Tail]), (2, .obj [.nils, .nils, .nils, SS ({ data := #[] }), SS ({ data := #[] })]), (6, .obj [oR eTok x14.1.f_g.Toks, oR eNon x14.1.f_g.Nons, oR eProd_0 x14.1.f_g.Prods, SS x14.1.f_g.Pro, SS x14.1.f_g.Tail, oR eB x14.1.f_given, oR eNon x14.1.f_types, oR eS x14.1.f_lefts, I64 x14.1.f_e, I64 x14.1.f_at, SS x14.1.f_name, I64 x14.1.f_level, I64 x14.1.f_inner]), (7, SS x14.2), (8, I64 s4.2.2)]) hl (fun s13 o h => ?_) ?_
        · clear hl
          refine W.sq' ?_
          refine W.sq' ?_
          refine W.rx [(1, _), (2, _), (6, _), (7, _), (8, _), (9, _), (10, _), (72, _)] (RunL.v (O.mv (.lit rfl)) rfl rfl .none <| RunL.v (O.fO rfl (.obj rfl) fd89_2 rfl) rfl rfl .none <| RunL.v (O.ldO (y := iR eSym x8.Syms) rfl (.ptr rfl) ct87 rfl rfl) rfl rfl .none <| RunL.v (O.lenI (.imm rfl) sl87) rfl rfl .none <| RunL.v (O.lss (.lit rfl) (.lit rfl)) rfl rfl .none <| RunL.fin (.n rfl (.n rfl (.n rfl (.n rfl (.n rfl (.n rfl (.n rfl (.n rfl .nil))))))))) ?_
          refine Px.sq ?_
          refine W.cnd rfl (fun hb16 => ?_) (fun hb16 => ?_)
          · replace h := cndT hb16 h
            refine W.sk ?_
            refine Px.sq ?_
            refine W.sq' ?_
            obtain ⟨j17, hj, h⟩ := bnd h
            refine W.jn [(1, .obj [SS a0.Pro, iR eDecl_0 a0.Decls, iR eRule_0 a0.Rules, SS a0.Tail]), (2, .obj [.nils, .nils, .nils, SS ({ data := #[] }), SS ({ data := #[] })]), (6, .obj [oR eTok j17.1.f_g.Toks, oR eNon j17.1.f_g.Nons, oR eProd_0 j17.1.f_g.Prods, SS j17.1.f_g.Pro, SS j17.1.f_g.Tail, oR eB j17.1.f_given, oR eNon j17.1.f_types, oR eS j17.1.f_lefts, I64 j17.1.f_e, I64 j17.1.f_at, SS j17.1.f_name, I64 j17.1.f_level, I64 j17.1.f_inner]), (7, SS j17.2), (8, I64 s4.2.2), (9, .obj [I64 x8.Kind, SS x8.Tag, iR eSym x8.Syms, I64 x8.At]), (10, I64 s13.2.2)] ?_ ?_
            · clear h; have h := hj; clear hj
              refine W.bk ?_
              refine W.sq' ?_
              refine W.sq' ?_
              refine W.rx [(1, _), (2, _), (6, _), (7, _), (8, _), (9, _), (10, _), (77, _)] (RunL.v (O.fO rfl (.obj rfl) fd89_0 rfl) rfl rfl .none <| RunL.v (O.ldO (y := I64 x8.Kind) rfl (.ptr rfl) ct3 rfl rfl) rfl rfl .none <| RunL.v (O.neq (.lit rfl) (.k rfl)) rfl rfl .none <| RunL.fin (.n rfl (.n rfl (.n rfl (.n rfl (.n rfl (.n rfl (.n rfl (.n rfl .nil))))))))) ?_
              refine Px.sq ?_
              refine W.cnd rfl (fun hb18 => ?_) (fun hb18 => ?_)
              · replace h := cndT hb18 h
                refine W.sq' ?_
                obtain ⟨x19, hx19, h⟩ := bnd h
                obtain ⟨x20, hx20, h⟩ := bnd h
                refine W.rd [[], [], [], [2], [], [2, 3, 4], [2, 3, 4, 5], [0, 1, 2, 3, 4, 5, 6]] [(1, _), (2, _), (6, _), (7, _), (8, _), (9, _), (10, _)] mixo (by kernel_rfl) (DL.v 0 (O.mv (.obj rfl)) rfl rfl rfl rfl .none <| DL.v 1 (O.ldON (cs' := [I64 x8.Kind, SS x8.Tag, iR eSym x8.Syms, I64 x8.At]) rfl (.obj rfl) at89 rfl rfl) rfl rfl rfl rfl .none <| DL.v 2 (O.fO rfl (.obj rfl) fd89_2 rfl) rfl rfl rfl rfl .none <| DL.v 3 (O.ldO (y := iR eSym x8.Syms) rfl (.ptr rfl) ct87 rfl rfl) rfl rfl rfl rfl .none <| DL.v 4 (O.mv (.lit rfl)) rfl rfl rfl rfl .none <| DL.v 5 (O.ixI (.imm rfl) (.lit rfl) sl87 hx19) rfl rfl rfl rfl .none <| DL.v 6 (O.ldIN (cs' := [SS x19.Name, BB x19.Lit, I64 x19.Num, I64 x19.At]) (.iptr rfl) at91 rfl rfl) rfl rfl rfl rfl .none <| DL.bp 7 (G2 := [(85, .tup []), (6, .obj [oR eTok x20.f_g.Toks, oR eNon x20.f_g.Nons, oR eProd_0 x20.f_g.Prods, SS x20.f_g.Pro, SS x20.f_g.Tail, oR eB x20.f_given, oR eNon x20.f_types, oR eS x20.f_lefts, I64 x20.f_e, I64 x20.f_at, SS x20.f_name, I64 x20.f_level, I64 x20.f_inner]), (1, .obj [SS a0.Pro, iR eDecl_0 a0.Decls, iR eRule_0 a0.Rules, SS a0.Tail]), (2, .obj [.nils, .nils, .nils, SS ({ data := #[] }), SS ({ data := #[] })]), (7, SS s13.2.1), (8, I64 s4.2.2), (9, .obj [I64 x8.Kind, SS x8.Tag, iR eSym x8.Syms, I64 x8.At]), (10, I64 s13.2.2)]) (EO.call rfl rfl (CallOk.ln (G2 := [(1, .obj [SS a0.Pro, iR eDecl_0 a0.Decls, iR eRule_0 a0.Rules, SS a0.Tail]), (2, .obj [.nils, .nils, .nils, SS ({ data := #[] }), SS ({ data := #[] })]), (7, SS s13.2.1), (8, I64 s4.2.2), (9, .obj [I64 x8.Kind, SS x8.Tag, iR eSym x8.Syms, I64 x8.At]), (10, I64 s13.2.2)]) (A := []) (ys := [.ptr ⟨6, []⟩ 0, .agg [I64 x8.Kind, SS x8.Tag, iR eSym x8.Syms, I64 x8.At], .agg [SS x19.Name, BB x19.Lit, I64 x19.Num, I64 x19.At]]) (args := [.obj [oR eTok s13.1.f_g.Toks, oR eNon s13.1.f_g.Nons, oR eProd_0 s13.1.f_g.Prods, SS s13.1.f_g.Pro, SS s13.1.f_g.Tail, oR eB s13.1.f_given, oR eNon s13.1.f_types, oR eS s13.1.f_lefts, I64 s13.1.f_e, I64 s13.1.f_at, SS s13.1.f_name, I64 s13.1.f_level, I64 s13.1.f_inner], .agg [I64 x8.Kind, SS x8.Tag, iR eSym x8.Syms, I64 x8.At], .agg [SS x19.Name, BB x19.Lit, I64 x19.Num, I64 x19.At]]) (cs' := [oR eTok x20.f_g.Toks, oR eNon x20.f_g.Nons, oR eProd_0 x20.f_g.Prods, SS x20.f_g.Pro, SS x20.f_g.Tail, oR eB x20.f_given, oR eNon x20.f_types, oR eS x20.f_lefts, I64 x20.f_e, I64 x20.f_at, SS x20.f_name, I64 x20.f_level, I64 x20.f_inner]) (k0 := 0) rfl rfl rfl rfl (.b rfl (.n rfl (.n rfl .nil))) rfl (con64 s13.1 x8 x19 _ hx20) call64 (.n rfl (.n rfl (.n rfl (.n rfl (.n rfl (.n rfl .nil)))))) rfl rfl (.n rfl (.n rfl (.n rfl (.n rfl (.n rfl (.n rfl .nil)))))) .nil rfl)) rfl rfl rfl rfl (by kernel_rfl) (by kernel_rfl) <| DL.fin rfl rfl rfl (.n rfl (.n rfl (.n rfl (.n rfl (.n rfl (.n rfl (.n rfl .nil)))))))) ?_
                refine Px.sq ?_
                refine W.xi ?_
                refine Px.sqE ?_
                refine Px.bkH ?_
                obtain rfl := sm h
                exact Px.jn (.n rfl (.n rfl (.n rfl (.n rfl (.n rfl (.n rfl (.n rfl .nil)))))))
              · replace h := cndF hb18 h
                refine W.sk ?_
                refine Px.sq ?_
                refine W.sq' ?_
                refine W.sq' ?_
                refine W.rx [(1, _), (2, _), (6, _), (8, _), (9, _), (10, _), (87, _)] (RunL.v (O.mv (.lit rfl)) rfl rfl .none <| RunL.v (O.neS (.lit rfl) (.k rfl)) rfl rfl .none <| RunL.fin (.n rfl (.n rfl (.n rfl (.n rfl (.n rfl (.n rfl (.n rfl .nil)))))))) ?_
                refine Px.sq ?_
                obtain ⟨j21, hj, h⟩ := bnd h
                refine W.jn [(1, .obj [SS a0.Pro, iR eDecl_0 a0.Decls, iR eRule_0 a0.Rules, SS a0.Tail]), (2, .obj [.nils, .nils, .nils, SS ({ data := #[] }), SS ({ data := #[] })]), (6, .obj [oR eTok j21.f_g.Toks, oR eNon j21.f_g.Nons, oR eProd_0 j21.f_g.Prods, SS j21.f_g.Pro, SS j21.f_g.Tail, oR eB j21.f_given, oR eNon j21.f_types, oR eS j21.f_lefts, I64 j21.f_e, I64 j21.f_at, SS j21.f_name, I64 j21.f_level, I64 j21.f_inner]), (8, I64 s4.2.2), (9, .obj [I64 x8.Kind, SS x8.Tag, iR eSym x8.Syms, I64 x8.At]), (10, I64 s13.2.2)] ?_ ?_
                · clear h; have h := hj; clear hj
                  refine W.cnd rfl (fun hb22 => ?_) (fun hb22 => ?_)
                  · replace h := cndT hb22 h
                    obtain ⟨x23, hx23, h⟩ := bnd h
                    obtain ⟨x24, hx24, h⟩ := bnd h
                    obtain ⟨x25, hx25, h⟩ := bnd h
                    refine W.rd [[], [], [1], [], [1, 2, 3], [1, 2, 3, 4], [1, 2, 3, 4, 5], [], [7], [], [7, 8, 9], [7, 8, 9, 10], [7, 8, 9, 10, 11], [0, 1, 2, 3, 4, 5, 6, 7, 8, 9, 10, 11, 12]] [(1, _), (2, _), (6, _), (8, _), (9, _), (10, _)] mixo (by kernel_rfl) (DL.v 0 (O.mv (.obj rfl)) rfl rfl rfl rfl .none <| DL.v 1 (O.fO rfl (.obj rfl) fd89_2 rfl) rfl rfl rfl rfl .none <| DL.v 2 (O.ldO (y := iR eSym x8.Syms) rfl (.ptr rfl) ct87 rfl rfl) rfl rfl rfl rfl .none <| DL.v 3 (O.mv (.lit rfl)) rfl rfl rfl rfl .none <| DL.v 4 (O.ixI (.imm rfl) (.lit rfl) sl87 hx23) rfl rfl rfl rfl .none <| DL.v 5 (O.fI (.iptr rfl) fd91_3) rfl rfl rfl rfl .none <| DL.v 6 (O.ldI (x := I64 x23.At) (.iptr rfl) ct3 rfl) rfl rfl rfl rfl .none <| DL.v 7 (O.fO rfl (.obj rfl) fd89_2 rfl) rfl rfl rfl rfl .none <| DL.v 8 (O.ldO (y := iR eSym x8.Syms) rfl (.ptr rfl) ct87 rfl rfl) rfl rfl rfl rfl .none <| DL.v 9 (O.mv (.lit rfl)) rfl rfl rfl rfl .none <| DL.v 10 (O.ixI (.imm rfl) (.lit rfl) sl87 hx24) rfl rfl rfl rfl .none <| DL.v 11 (O.fI (.iptr rfl) fd91_0) rfl rfl rfl rfl .none <| DL.v 12 (O.ldI (x := SS x24.Name) (.iptr rfl) ct9 rfl) rfl rfl rfl rfl .none <| DL.bp 13 (G2 := [(101, .tup []), (6, .obj [oR eTok x25.f_g.Toks, oR eNon x25.f_g.Nons, oR eProd_0 x25.f_g.Prods, SS x25.f_g.Pro, SS x25.f_g.Tail, oR eB x25.f_given, oR eNon x25.f_types, oR eS x25.f_lefts, I64 x25.f_e, I64 x25.f_at, SS x25.f_name, I64 x25.f_level, I64 x25.f_inner]), (1, .obj [SS a0.Pro, iR eDecl_0 a0.Decls, iR eRule_0 a0.Rules, SS a0.Tail]), (2, .obj [.nils, .nils, .nils, SS ({ data := #[] }), SS ({ data := #[] })]), (8, I64 s4.2.2), (9, .obj [I64 x8.Kind, SS x8.Tag, iR eSym x8.Syms, I64 x8.At]), (10, I64 s13.2.2)]) (EO.call rfl rfl (CallOk.ln (G2 := [(1, .obj [SS a0.Pro, iR eDecl_0 a0.Decls, iR eRule_0 a0.Rules, SS a0.Tail]), (2, .obj [.nils, .nils, .nils, SS ({ data := #[] }), SS ({ data := #[] })]), (8, I64 s4.2.2), (9, .obj [I64 x8.Kind, SS x8.Tag, iR eSym x8.Syms, I64 x8.At]), (10, I64 s13.2.2)]) (A := []) (ys := [.ptr ⟨6, []⟩ 0, I64 x23.At, SS x24.Name]) (args := [.obj [oR eTok s13.1.f_g.Toks, oR eNon s13.1.f_g.Nons, oR eProd_0 s13.1.f_g.Prods, SS s13.1.f_g.Pro, SS s13.1.f_g.Tail, oR eB s13.1.f_given, oR eNon s13.1.f_types, oR eS s13.1.f_lefts, I64 s13.1.f_e, I64 s13.1.f_at, SS s13.1.f_name, I64 s13.1.f_level, I64 s13.1.f_inner], I64 x23.At, SS x24.Name]) (cs' := [oR eTok x25.f_g.Toks, oR eNon x25.f_g.Nons, oR eProd_0 x25.f_g.Prods, SS x25.f_g.Pro, SS x25.f_g.Tail, oR eB x25.f_given, oR eNon x25.f_types, oR eS x25.f_lefts, I64 x25.f_e, I64 x25.f_at, SS x25.f_name, I64 x25.f_level, I64 x25.f_inner]) (k0 := 0) rfl rfl rfl rfl (.b rfl (.n rfl (.n rfl .nil))) rfl (con65 s13.1 x23.At x24.Name _ hx25) call65 (.n rfl (.n rfl (.n rfl (.n rfl (.n rfl .nil))))) rfl rfl (.n rfl (.n rfl (.n rfl (.n rfl (.n rfl .nil))))) .nil rfl)) rfl rfl rfl rfl (by kernel_rfl) (by kernel_rfl) <| DL.fin rfl rfl rfl (.n rfl (.n rfl (.n rfl (.n rfl (.n rfl (.n rfl .nil))))))) ?_
                    obtain rfl := sm h
                    exact Px.jn (.n rfl (.n rfl (.n rfl (.n rfl (.n rfl (.n rfl .nil))))))
                  · replace h := cndF hb22 h
                    refine W.sk ?_
                    obtain rfl := sm h
                    exact Px.jn (.n rfl (.n rfl (.n rfl (.n rfl (.n rfl (.n rfl .nil))))))
                refine Px.sq ?_
                obtain ⟨x26, hx26, h⟩ := bnd h
                refine W.rx [(1, _), (2, _), (6, _), (7, _), (8, _), (9, _), (10, _)] (RunL.v (O.fO rfl (.obj rfl) fd89_2 rfl) rfl rfl .none <| RunL.v (O.ldO (y := iR eSym x8.Syms) rfl (.ptr rfl) ct87 rfl rfl) rfl rfl .none <| RunL.v (O.mv (.lit rfl)) rfl rfl .none <| RunL.v (O.ixI (.imm rfl) (.lit rfl) sl87 hx26) rfl rfl .none <| RunL.v (O.fI (.iptr rfl) fd91_0) rfl rfl .none <| RunL.v (O.ldI (x := SS x26.Name) (.iptr rfl) ct9 rfl) rfl rfl .none <| RunL.v (O.as (.lit rfl)) rfl rfl .none <| RunL.fin (.n rfl (.n rfl (.n rfl (.n rfl (.n rfl (.n rfl (.n rfl .nil)))))))) ?_
                refine Px.bk ?_
                obtain rfl := sm h
                exact Px.jn (.n rfl (.n rfl (.n rfl (.n rfl (.n rfl (.n rfl (.n rfl .nil)))))))
            refine Px.sq ?_
            refine W.rx [(1, _), (2, _), (6, _), (7, _), (8, _), (9, _), (10, _)] (RunL.v (O.mv (.lit rfl)) rfl rfl .none <| RunL.v (O.add (.lit rfl) (.k rfl)) rfl rfl .none <| RunL.re (G1 := [(1, .obj [SS a0.Pro, iR eDecl_0 a0.Decls, iR eRule_0 a0.Rules, SS a0.Tail]), (2, .obj [.nils, .nils, .nils, SS ({ data := #[] }), SS ({ data := #[] })]), (6, .obj [oR eTok j17.1.f_g.Toks, oR eNon j17.1.f_g.Nons, oR eProd_0 j17.1.f_g.Prods, SS j17.1.f_g.Pro, SS j17.1.f_g.Tail, oR eB j17.1.f_given, oR eNon j17.1.f_types, oR eS j17.1.f_lefts, I64 j17.1.f_e, I64 j17.1.f_at, SS j17.1.f_name, I64 j17.1.f_level, I64 j17.1.f_inner]), (7, SS j17.2), (8, I64 s4.2.2), (9, .obj [I64 x8.Kind, SS x8.Tag, iR eSym x8.Syms, I64 x8.At]), (74, I64 (w64 (s13.2.2 + 1)))]) (.n rfl (.n rfl (.n rfl (.n rfl (.n rfl (.n rfl (.n rfl .nil))))))) <| RunL.v (O.as (.lit rfl)) rfl rfl .none <| RunL.fin (.n rfl (.n rfl (.n rfl (.n rfl (.n rfl (.n rfl (.n rfl .nil)))))))) ?_
            obtain rfl := sm h
            exact Px.go (.n rfl (.n rfl (.n rfl (.n rfl (.n rfl (.n rfl (.n rfl .nil)))))))
          · replace h := cndF hb16 h
            refine W.xi ?_
            refine Px.sqE ?_
            obtain rfl := sm h
            exact Px.x1 (.n rfl (.n rfl (.n rfl (.n rfl (.n rfl .nil)))))
        refine Px.bkH ?_
        refine Px.bk ?_
        refine Px.sq ?_
        refine W.rx [(1, _), (2, _), (6, _), (7, _), (8, _)] (RunL.v (O.mv (.lit rfl)) rfl rfl .none <| RunL.v (O.add (.lit rfl) (.k rfl)) rfl rfl .none <| RunL.re (G1 := [(1, .obj [SS a0.Pro, iR eDecl_0 a0.Decls, iR eRule_0 a0.Rules, SS a0.Tail]), (2, .obj [.nils, .nils, .nils, SS ({ data := #[] }), SS ({ data := #[] })]), (6, .obj [oR eTok x14.1.f_g.Toks, oR eNon x14.1.f_g.Nons, oR eProd_0 x14.1.f_g.Prods, SS x14.1.f_g.Pro, SS x14.1.f_g.Tail, oR eB x14.1.f_given, oR eNon x14.1.f_types, oR eS x14.1.f_lefts, I64 x14.1.f_e, I64 x14.1.f_at, SS x14.1.f_name, I64 x14.1.f_level, I64 x14.1.f_inner]), (7, SS x14.2), (47, I64 (w64 (s4.2.2 + 1)))]) (.n rfl (.n rfl (.n rfl (.n rfl (.n rfl .nil))))) <| RunL.v (O.as (.lit rfl)) rfl rfl .none <| RunL.fin (.n rfl (.n rfl (.n rfl (.n rfl (.n rfl .nil)))))) ?_
        obtain rfl := sm h
        exact Px.go (.n rfl (.n rfl (.n rfl (.n rfl (.n rfl .nil)))))
      · replace h := cndF hb7 h
        refine W.xi ?_
        refine Px.sqE ?_
        obtain rfl := sm h
        exact Px.x1 (.n rfl (.n rfl (.n rfl (.n rfl .nil))))
    refine Px.bkH ?_
    refine Px.sq ?_
    refine W.sq' ?_
    refine W.sq' ?_
    refine W.rx [(1, _), (2, _), (6, _), (7, _), (11, _)] (RunL.v (O.as (.k rfl)) rfl rfl .none <| RunL.fin (.n rfl (.n rfl (.n rfl (.n rfl (.n rfl .nil)))))) ?_
    refine Px.sq ?_
    refine W.bk ?_
    obtain ⟨x28, hl, h⟩ := bnd h
    refine W.tr (G1 := [(1, .obj [SS a0.Pro, iR eDecl_0 a0.Decls, iR eRule_0 a0.Rules, SS a0.Tail]), (2, .obj [.nils, .nils, .nils, SS ({ data := #[] }), SS ({ data := #[] })]), (6, .obj [oR eTok x5.1.f_g.Toks, oR eNon x5.1.f_g.Nons, oR eProd_0 x5.1.f_g.Prods, SS x5.1.f_g.Pro, SS x5.1.f_g.Tail, oR eB x5.1.f_given, oR eNon x5.1.f_types, oR eS x5.1.f_lefts, I64 x5.1.f_e, I64 x5.1.f_at, SS x5.1.f_name, I64 x5.1.f_level, I64 x5.1.f_inner]), (7, SS x5.2), (11, I64 0)]) (.n rfl (.n rfl (.n rfl (.n rfl (.n rfl .nil))))) ?_
    refine W.lp1 (s := (x5.1, 0)) (fun (s27 : yuccaref9_maker × Int) => [(1, .obj [SS a0.Pro, iR eDecl_0 a0.Decls, iR eRule_0 a0.Rules, SS a0.Tail]), (2, .obj [.nils, .nils, .nils, SS ({ data := #[] }), SS ({ data := #[] })]), (6, .obj [oR eTok s27.1.f_g.Toks, oR eNon s27.1.f_g.Nons, oR eProd_0 s27.1.f_g.Prods, SS s27.1.f_g.Pro, SS s27.1.f_g.Tail, oR eB s27.1.f_given, oR eNon s27.1.f_types, oR eS s27.1.f_lefts, I64 s27.1.f_e, I64 s27.1.f_at, SS s27.1.f_name, I64 s27.1.f_level, I64 s27.1.f_inner]), (7, SS x5.2), (11, I64 s27.2)]) 4 (fun (x28 : yuccaref9_maker) => [(1, .obj [SS a0.Pro, iR eDecl_0 a0.Decls, iR eRule_0 a0.Rules, SS a0.Tail]), (2, .obj [.nils, .nils, .nils, SS ({ data := #[] }), SS ({ data := #[] })]), (6, .obj [oR eTok x28.f_g.Toks, oR eNon x28.f_g.Nons, oR eProd_0 x28.f_g.Prods, SS x28.f_g.Pro, SS x28.f_g.Tail, oR eB x28.f_given, oR eNon x28.f_types, oR eS x28.f_lefts, I64 x28.f_e, I64 x28.f_at, SS x28.f_name, I64 x28.f_level, I64 x28.f_inner]), (7, SS x5.2)]) hl (fun s27 o h => ?_) ?_
    · clear hl
      refine W.sq' ?_
      refine W.sq' ?_
      refine W.rx [(1, _), (2, _), (6, _), (7, _), (11, _), (112, _)] (RunL.v (O.mv (.lit rfl)) rfl rfl .none <| RunL.v (O.fO rfl (.obj rfl) fd25_2 rfl) rfl rfl .none <| RunL.v (O.ldO (y := iR eRule_0 a0.Rules) rfl (.ptr rfl) ct23 rfl rfl) rfl rfl .none <| RunL.v (O.lenI (.imm rfl) sl23) rfl rfl .none <| RunL.v (O.lss (.lit rfl) (.lit rfl)) rfl rfl .none <| RunL.fin (.n rfl (.n rfl (.n rfl (.n rfl (.n rfl (.n rfl .nil))))))) ?_
      refine Px.sq ?_
      refine W.cnd rfl (fun hb30 => ?_) (fun hb30 => ?_)
      · replace h := cndT hb30 h
        refine W.sk ?_
        refine Px.sq ?_
        refine W.sq' ?_
        obtain ⟨j31, hj, h⟩ := bnd h
        refine W.jn [(1, .obj [SS a0.Pro, iR eDecl_0 a0.Decls, iR eRule_0 a0.Rules, SS a0.Tail]), (2, .obj [.nils, .nils, .nils, SS ({ data := #[] }), SS ({ data := #[] })]), (6, .obj [oR eTok j31.f_g.Toks, oR eNon j31.f_g.Nons, oR eProd_0 j31.f_g.Prods, SS j31.f_g.Pro, SS j31.f_g.Tail, oR eB j31.f_given, oR eNon j31.f_types, oR eS j31.f_lefts, I64 j31.f_e, I64 j31.f_at, SS j31.f_name, I64 j31.f_level, I64 j31.f_inner]), (7, SS x5.2), (11, I64 s27.2)] ?_ ?_
        · clear h; have h := hj; clear hj
          refine W.bk ?_
          refine W.sq' ?_
          obtain ⟨x32, hx32, h⟩ := bnd h
          refine W.rx [(1, _), (2, _), (6, _), (7, _), (11, _), (12, _)] (RunL.v (O.fO rfl (.obj rfl) fd25_2 rfl) rfl rfl .none <| RunL.v (O.ldO (y := iR eRule_0 a0.Rules) rfl (.ptr rfl) ct23 rfl rfl) rfl rfl .none <| RunL.v (O.mv (.lit rfl)) rfl rfl .none <| RunL.v (O.ixI (.imm rfl) (.lit rfl) sl23 hx32) rfl rfl .none <| RunL.v (O.ldIN (cs' := [SS x32.Left, iR eAlt_0 x32.Alts, I64 x32.At]) (.iptr rfl) at95 rfl rfl) rfl rfl .none <| RunL.v (O.al (cs := [SS ({ data := #[] }), .nils, I64 0]) ze95 rfl rfl) rfl rfl .none <| RunL.sO (G2 := [(1, .obj [SS a0.Pro, iR eDecl_0 a0.Decls, iR eRule_0 a0.Rules, SS a0.Tail]), (2, .obj [.nils, .nils, .nils, SS ({ data := #[] }), SS ({ data := #[] })]), (6, .obj [oR eTok s27.1.f_g.Toks, oR eNon s27.1.f_g.Nons, oR eProd_0 s27.1.f_g.Prods, SS s27.1.f_g.Pro, SS s27.1.f_g.Tail, oR eB s27.1.f_given, oR eNon s27.1.f_types, oR eS s27.1.f_lefts, I64 s27.1.f_e, I64 s27.1.f_at, SS s27.1.f_name, I64 s27.1.f_level, I64 s27.1.f_inner]), (7, SS x5.2), (11, I64 s27.2), (12, .obj [SS x32.Left, iR eAlt_0 x32.Alts, I64 x32.At])]) (cs2 := [SS x32.Left, iR eAlt_0 x32.Alts, I64 x32.At]) rfl (.obj rfl) (.aggF rfl rfl) rfl sz95 rfl rfl rfl rfl (.n rfl rfl (.n rfl rfl (.n rfl rfl (.n rfl rfl (.n rfl rfl (.b rfl .nil)))))) <| RunL.fin (.n rfl (.n rfl (.n rfl (.n rfl (.n rfl (.n rfl .nil))))))) ?_
          refine Px.sq ?_
          refine W.sq' ?_
          refine W.sq' ?_
          obtain ⟨x33, hx33, h⟩ := bnd h
          refine W.rx [(1, _), (2, _), (6, _), (7, _), (11, _), (12, _), (125, _)] (RunL.v (O.mv (.obj rfl)) rfl rfl .none <| RunL.v (O.fO rfl (.obj rfl) fd95_0 rfl) rfl rfl .none <| RunL.v (O.ldO (y := SS x32.Left) rfl (.ptr rfl) ct9 rfl rfl) rfl rfl .none <| RunL.v (O.bu (cs := [SS x32.Left, BB false, I64 0, I64 0]) sc91 ze91 rfl rfl rfl) rfl rfl .none <| RunL.c (PC.vw (ys := [.ptr ⟨6, []⟩ 0, .agg [SS x32.Left, BB false, I64 0, I64 0]]) rfl (.c (View.p0 rfl rfl) (.c (.ag (.s (.s (.s (.s .nil))))) .nil)) (con66 s27.1 (⟨x32.Left, false, 0, 0⟩ : Sym) _ hx33) call66 rfl) rfl rfl .none <| RunL.v (O.geq (.lit rfl) (.k rfl)) rfl rfl .none <| RunL.fin (.n rfl (.n rfl (.n rfl (.n rfl (.n rfl (.n rfl (.n rfl .nil)))))))) ?_
          refine Px.sq ?_
          obtain ⟨j34, hj, h⟩ := bnd h
          refine W.jn [(1, .obj [SS a0.Pro, iR eDecl_0 a0.Decls, iR eRule_0 a0.Rules, SS a0.Tail]), (2, .obj [.nils, .nils, .nils, SS ({ data := #[] }), SS ({ data := #[] })]), (6, .obj [oR eTok j34.f_g.Toks, oR eNon j34.f_g.Nons, oR eProd_0 j34.f_g.Prods, SS j34.f_g.Pro, SS j34.f_g.Tail, oR eB j34.f_given, oR eNon j34.f_types, oR eS j34.f_lefts, I64 j34.f_e, I64 j34.f_at, SS j34.f_name, I64 j34.f_level, I64 j34.f_inner]), (7, SS x5.2), (11, I64 s27.2), (12, .obj [SS x32.Left, iR eAlt_0 x32.Alts, I64 x32.At])] ?_ ?_
          · clear h; have h := hj; clear hj
            refine W.cnd rfl (fun hb35 => ?_) (fun hb35 => ?_)
            · replace h := cndT hb35 h
              obtain ⟨x36, hx36, h⟩ := bnd h
              refine W.rx [(1, _), (2, _), (6, _), (7, _), (11, _), (12, _)] (RunL.v (O.mv (.obj rfl)) rfl rfl .none <| RunL.v (O.fO rfl (.obj rfl) fd95_2 rfl) rfl rfl .none <| RunL.v (O.ldO (y := I64 x32.At) rfl (.ptr rfl) ct3 rfl rfl) rfl rfl .none <| RunL.v (O.fO rfl (.obj rfl) fd95_0 rfl) rfl rfl .none <| RunL.v (O.ldO (y := SS x32.Left) rfl (.ptr rfl) ct9 rfl rfl) rfl rfl .none <| RunL.ef (G2 := [(131, .tup []), (6, .obj [oR eTok x36.f_g.Toks, oR eNon x36.f_g.Nons, oR eProd_0 x36.f_g.Prods, SS x36.f_g.Pro, SS x36.f_g.Tail, oR eB x36.f_given, oR eNon x36.f_types, oR eS x36.f_lefts, I64 x36.f_e, I64 x36.f_at, SS x36.f_name, I64 x36.f_level, I64 x36.f_inner]), (1, .obj [SS a0.Pro, iR eDecl_0 a0.Decls, iR eRule_0 a0.Rules, SS a0.Tail]), (2, .obj [.nils, .nils, .nils, SS ({ data := #[] }), SS ({ data := #[] })]), (7, SS x5.2), (11, I64 s27.2), (12, .obj [SS x32.Left, iR eAlt_0 x32.Alts, I64 x32.At])]) rfl (EO.call rfl rfl (CallOk.ln (G2 := [(1, .obj [SS a0.Pro, iR eDecl_0 a0.Decls, iR eRule_0 a0.Rules, SS a0.Tail]), (2, .obj [.nils, .nils, .nils, SS ({ data := #[] }), SS ({ data := #[] })]), (7, SS x5.2), (11, I64 s27.2), (12, .obj [SS x32.Left, iR eAlt_0 x32.Alts, I64 x32.At])]) (A := []) (ys := [.ptr ⟨6, []⟩ 0, I64 x32.At, SS x32.Left]) (args := [.obj [oR eTok s27.1.f_g.Toks, oR eNon s27.1.f_g.Nons, oR eProd_0 s27.1.f_g.Prods, SS s27.1.f_g.Pro, SS s27.1.f_g.Tail, oR eB s27.1.f_given, oR eNon s27.1.f_types, oR eS s27.1.f_lefts, I64 s27.1.f_e, I64 s27.1.f_at, SS s27.1.f_name, I64 s27.1.f_level, I64 s27.1.f_inner], I64 x32.At, SS x32.Left]) (cs' := [oR eTok x36.f_g.Toks, oR eNon x36.f_g.Nons, oR eProd_0 x36.f_g.Prods, SS x36.f_g.Pro, SS x36.f_g.Tail, oR eB x36.f_given, oR eNon x36.f_types, oR eS x36.f_lefts, I64 x36.f_e, I64 x36.f_at, SS x36.f_name, I64 x36.f_level, I64 x36.f_inner]) (k0 := 0) rfl rfl rfl rfl (.b rfl (.n rfl (.n rfl .nil))) rfl (con65 s27.1 x32.At x32.Left _ hx36) call65 (.n rfl (.n rfl (.n rfl (.n rfl (.n rfl .nil))))) rfl rfl (.n rfl (.n rfl (.n rfl (.n rfl (.n rfl .nil))))) .nil rfl)) <| RunL.fin (.n rfl (.n rfl (.n rfl (.n rfl (.n rfl (.n rfl .nil))))))) ?_
              obtain rfl := sm h
              exact Px.jn (.n rfl (.n rfl (.n rfl (.n rfl (.n rfl (.n rfl .nil))))))
            · replace h := cndF hb35 h
              refine W.sk ?_
              obtain rfl := sm h
              exact Px.jn (.n rfl (.n rfl (.n rfl (.n rfl (.n rfl (.n rfl .nil))))))
          refine Px.sq ?_
          refine W.sq' ?_
          obtain ⟨x37, hx37, h⟩ := bnd h
          refine W.rx [(1, _), (2, _), (6, _), (7, _), (11, _), (12, _), (136, _)] (RunL.v (O.mv (.obj rfl)) rfl rfl .none <| RunL.v (O.fO rfl (.obj rfl) fd95_0 rfl) rfl rfl .none <| RunL.v (O.ldO (y := SS x32.Left) rfl (.ptr rfl) ct9 rfl rfl) rfl rfl .none <| RunL.c (PC.vw (ys := [.ptr ⟨6, []⟩ 0, SS x32.Left]) rfl (.c (View.p0 rfl rfl) (.s .nil)) (con67 j34 x32.Left _ hx37) call67 rfl) rfl rfl .none <| RunL.v (O.lss (.lit rfl) (.k rfl)) rfl rfl .none <| RunL.fin (.n rfl (.n rfl (.n rfl (.n rfl (.n rfl (.n rfl (.n rfl .nil)))))))) ?_
          refine Px.sq ?_
          obtain ⟨j38, hj, h⟩ := bnd h
          refine W.jn [(1, .obj [SS a0.Pro, iR eDecl_0 a0.Decls, iR eRule_0 a0.Rules, SS a0.Tail]), (2, .obj [.nils, .nils, .nils, SS ({ data := #[] }), SS ({ data := #[] })]), (6, .obj [oR eTok j34.f_g.Toks, oR eNon j34.f_g.Nons, oR eProd_0 j34.f_g.Prods, SS j34.f_g.Pro, SS j34.f_g.Tail, oR eB j34.f_given, oR eNon j34.f_types, oR eS j38, I64 j34.f_e, I64 j34.f_at, SS j34.f_name, I64 j34.f_level, I64 j34.f_inner]), (7, SS x5.2), (11, I64 s27.2)] ?_ ?_
          · clear h; have h := hj; clear hj
            refine W.cnd rfl (fun hb39 => ?_) (fun hb39 => ?_)
            · replace h := cndT hb39 h
              obtain ⟨x40, hx40, h⟩ := bnd h
              refine W.rd [[], [], [1], [1, 2], [1, 2, 3], [], [5], [5, 6], [1, 2, 3, 4, 5, 6, 7], [0, 1, 2, 3, 4, 5, 6, 7, 8], [0, 1, 2, 3, 4, 5, 6, 7, 8, 9], [0, 1, 2, 3, 4, 5, 6, 7, 8, 9, 10]] [(1, _), (2, _), (6, _), (7, _), (11, _)] mixo (by kernel_rfl) (DL.v 0 (O.mv (.obj rfl)) rfl rfl rfl rfl .none <| DL.v 1 (O.mv (.obj rfl)) rfl rfl rfl rfl .none <| DL.v 2 (O.nlP (.ptr rfl)) rfl rfl rfl rfl .none <| DL.v 3 (O.fO rfl (.ptr rfl) fd128_3 rfl) rfl rfl rfl rfl .none <| DL.v 4 (O.ldO (y := .brw eS.z ⟨6, [7]⟩ j34.f_lefts.length) rfl (.ptr rfl) ct61 rfl rfl) rfl rfl rfl rfl .none <| DL.v 5 (O.fO rfl (.obj rfl) fd95_0 rfl) rfl rfl rfl rfl .none <| DL.v 6 (O.ldO (y := SS x32.Left) rfl (.ptr rfl) ct9 rfl rfl) rfl rfl rfl rfl .none <| DL.vi 7 (x := iR eS [x32.Left]) (O.bs (ys := [SS x32.Left]) eS [x32.Left] sl61 rfl rfl rfl rfl rfl rfl zt9 rfl rfl) rfl rfl rfl rfl .none <| DL.v 8 (O.ap (en := eS) (r := x40) (.brw rfl) rfl (.imm rfl) .i ap61 rfl hx40) rfl rfl rfl rfl .none <| DL.v 9 (O.nlP (.ptr rfl)) rfl rfl rfl rfl .none <| DL.v 10 (O.fO rfl (.ptr rfl) fd128_3 rfl) rfl rfl rfl rfl .none <| DL.bp 11 (G2 := [(1, .obj [SS a0.Pro, iR eDecl_0 a0.Decls, iR eRule_0 a0.Rules, SS a0.Tail]), (2, .obj [.nils, .nils, .nils, SS ({ data := #[] }), SS ({ data := #[] })]), (6, .obj [oR eTok j34.f_g.Toks, oR eNon j34.f_g.Nons, oR eProd_0 j34.f_g.Prods, SS j34.f_g.Pro, SS j34.f_g.Tail, oR eB j34.f_given, oR eNon j34.f_types, oR eS (j34.f_lefts ++ [x32.Left]), I64 j34.f_e, I64 j34.f_at, SS j34.f_name, I64 j34.f_level, I64 j34.f_inner]), (7, SS x5.2), (11, I64 s27.2)]) (EO.stP (g1 := _) (en := eS) (M := [x32.Left]) (cs2 := [oR eTok j34.f_g.Toks, oR eNon j34.f_g.Nons, oR eProd_0 j34.f_g.Prods, SS j34.f_g.Pro, SS j34.f_g.Tail, oR eB j34.f_given, oR eNon j34.f_types, oR eS (j34.f_lefts ++ [x32.Left]), I64 j34.f_e, I64 j34.f_at, SS j34.f_name, I64 j34.f_level, I64 j34.f_inner]) rfl rfl (.ptr rfl) (.pend rfl) rfl rfl rfl .ns .rf rfl rfl sz61 rfl rfl rfl rfl (.n rfl rfl (.n rfl rfl (.b rfl (.n rfl rfl (.n rfl rfl .nil)))))) rfl rfl rfl rfl (by kernel_rfl) (by kernel_rfl) <| DL.fin rfl rfl rfl (.n rfl (.n rfl (.n rfl (.n rfl (.n rfl .nil)))))) ?_
              obtain rfl := sm h
              exact Px.jn (.n rfl (.n rfl (.n rfl (.n rfl (.n rfl .nil)))))
            · replace h := cndF hb39 h
              refine W.sk ?_
              obtain rfl := sm h
              exact Px.jn (.n rfl (.n rfl (.n rfl (.n rfl (.n rfl .nil)))))
          refine Px.bk ?_
          obtain rfl := sm h
          exact Px.jn (.n rfl (.n rfl (.n rfl (.n rfl (.n rfl .nil)))))
        refine Px.sq ?_
        refine W.rx [(1, _), (2, _), (6, _), (7, _), (11, _)] (RunL.v (O.mv (.lit rfl)) rfl rfl .none <| RunL.v (O.add (.lit rfl) (.k rfl)) rfl rfl .none <| RunL.re (G1 := [(1, .obj [SS a0.Pro, iR eDecl_0 a0.Decls, iR eRule_0 a0.Rules, SS a0.Tail]), (2, .obj [.nils, .nils, .nils, SS ({ data := #[] }), SS ({ data := #[] })]), (6, .obj [oR eTok j31.f_g.Toks, oR eNon j31.f_g.Nons, oR eProd_0 j31.f_g.Prods, SS j31.f_g.Pro, SS j31.f_g.Tail, oR eB j31.f_given, oR eNon j31.f_types, oR eS j31.f_lefts, I64 j31.f_e, I64 j31.f_at, SS j31.f_name, I64 j31.f_level, I64 j31.f_inner]), (7, SS x5.2), (114, I64 (w64 (s27.2 + 1)))]) (.n rfl (.n rfl (.n rfl (.n rfl (.n rfl .nil))))) <| RunL.v (O.as (.lit rfl)) rfl rfl .none <| RunL.fin (.n rfl (.n rfl (.n rfl (.n rfl (.n rfl .nil)))))) ?_
        obtain rfl := sm h
        exact Px.go (.n rfl (.n rfl (.n rfl (.n rfl (.n rfl .nil)))))
      · replace h := cndF hb30 h
        refine W.xi ?_
        refine Px.sqE ?_
        obtain rfl := sm h
        exact Px.x1 (.n rfl (.n rfl (.n rfl (.n rfl .nil))))
    refine Px.bkH ?_
    refine Px.sq ?_
    refine W.sq' ?_
    refine W.sq' ?_
    refine W.rx [(1, _), (2, _), (6, _), (7, _), (13, _)] (RunL.v (O.as (.k rfl)) rfl rfl .none <| RunL.fin (.n rfl (.n rfl (.n rfl (.n rfl (.n rfl .nil)))))) ?_
    refine Px.sq ?_
    refine W.bk ?_
    obtain ⟨x42, hl, h⟩ := bnd h
    refine W.tr (G1 := [(1, .obj [SS a0.Pro, iR eDecl_0 a0.Decls, iR eRule_0 a0.Rules, SS a0.Tail]), (2, .obj [.nils, .nils, .nils, SS ({ data := #[] }), SS ({ data := #[] })]), (6, .obj [oR eTok x28.f_g.Toks, oR eNon x28.f_g.Nons, oR eProd_0 x28.f_g.Prods, SS x28.f_g.Pro, SS x28.f_g.Tail, oR eB x28.f_given, oR eNon x28.f_types, oR eS x28.f_lefts, I64 x28.f_e, I64 x28.f_at, SS x28.f_name, I64 x28.f_level, I64 x28.f_inner]), (7, SS x5.2), (13, I64 0)]) (.n rfl (.n rfl (.n rfl (.n rfl (.n rfl .nil))))) ?_
    refine W.lp1 (s := (x28, 0)) (fun (s41 : yuccaref9_maker × Int) => [(1, .obj [SS a0.Pro, iR eDecl_0 a0.Decls, iR eRule_0 a0.Rules, SS a0.Tail]), (2, .obj [.nils, .nils, .nils, SS ({ data := #[] }), SS ({ data := #[] })]), (6, .obj [oR eTok s41.1.f_g.Toks, oR eNon s41.1.f_g.Nons, oR eProd_0 s41.1.f_g.Prods, SS s41.1.f_g.Pro, SS s41.1.f_g.Tail, oR eB s41.1.f_given, oR eNon s41.1.f_types, oR eS s41.1.f_lefts, I64 s41.1.f_e, I64 s41.1.f_at, SS s41.1.f_name, I64 s41.1.f_level, I64 s41.1.f_inner]), (7, SS x5.2), (13, I64 s41.2)]) 6 (fun (x42 : yuccaref9_maker) => [(1, .obj [SS a0.Pro, iR eDecl_0 a0.Decls, iR eRule_0 a0.Rules, SS a0.Tail]), (2, .obj [.nils, .nils, .nils, SS ({ data := #[] }), SS ({ data := #[] })]), (6, .obj [oR eTok x42.f_g.Toks, oR eNon x42.f_g.Nons, oR eProd_0 x42.f_g.Prods, SS x42.f_g.Pro, SS x42.f_g.Tail, oR eB x42.f_given, oR eNon x42.f_types, oR eS x42.f_lefts, I64 x42.f_e, I64 x42.f_at, SS x42.f_name, I64 x42.f_level, I64 x42.f_inner]), (7, SS x5.2)]) hl (fun s41 o h => ?_) ?_
    · clear hl
      refine W.sq' ?_
      refine W.sq' ?_
      refine W.rx [(1, _), (2, _), (6, _), (7, _), (13, _), (152, _)] (RunL.v (O.mv (.lit rfl)) rfl rfl .none <| RunL.v (O.fO rfl (.obj rfl) fd25_1 rfl) rfl rfl .none <| RunL.v (O.ldO (y := iR eDecl_0 a0.Decls) rfl (.ptr rfl) ct22 rfl rfl) rfl rfl .none <| RunL.v (O.lenI (.imm rfl) sl22) rfl rfl .none <| RunL.v (O.lss (.lit rfl) (.lit rfl)) rfl rfl .none <| RunL.fin (.n rfl (.n rfl (.n rfl (.n rfl (.n rfl (.n rfl .nil))))))) ?_
      refine Px.sq ?_
      refine W.cnd rfl (fun hb44 => ?_) (fun hb44 => ?_)
      · replace h := cndT hb44 h
        refine W.sk ?_
        refine Px.sq ?_
        refine W.sq' ?_
        refine W.bk ?_
        refine W.sq' ?_
        refine W.rx [(1, _), (2, _), (6, _), (7, _), (13, _), (14, _)] (RunL.v (O.as (.k rfl)) rfl rfl .none <| RunL.fin (.n rfl (.n rfl (.n rfl (.n rfl (.n rfl (.n rfl .nil))))))) ?_
        refine Px.sq ?_
        refine W.bk ?_
        obtain ⟨x46, hl, h⟩ := bnd h
        refine W.tr (G1 := [(1, .obj [SS a0.Pro, iR eDecl_0 a0.Decls, iR eRule_0 a0.Rules, SS a0.Tail]), (2, .obj [.nils, .nils, .nils, SS ({ data := #[] }), SS ({ data := #[] })]), (6, .obj [oR eTok s41.1.f_g.Toks, oR eNon s41.1.f_g.Nons, oR eProd_0 s41.1.f_g.Prods, SS s41.1.f_g.Pro, SS s41.1.f_g.Tail, oR eB s41.1.f_given, oR eNon s41.1.f_types, oR eS s41.1.f_lefts, I64 s41.1.f_e, I64 s41.1.f_at, SS s41.1.f_name, I64 s41.1.f_level, I64 s41.1.f_inner]), (7, SS x5.2), (13, I64 s41.2), (14, I64 0)]) (.n rfl (.n rfl (.n rfl (.n rfl (.n rfl (.n rfl .nil)))))) ?_
        refine W.lp1 (s := (s41.1, 0)) (fun (s45 : yuccaref9_maker × Int) => [(1, .obj [SS a0.Pro, iR eDecl_0 a0.Decls, iR eRule_0 a0.Rules, SS a0.Tail]), (2, .obj [.nils, .nils, .nils, SS ({ data := #[] }), SS ({ data := #[] })]), (6, .obj [oR eTok s45.1.f_g.Toks, oR eNon s45.1.f_g.Nons, oR eProd_0 s45.1.f_g.Prods, SS s45.1.f_g.Pro, SS s45.1.f_g.Tail, oR eB s45.1.f_given, oR eNon s45.1.f_types, oR eS s45.1.f_lefts, I64 s45.1.f_e, I64 s45.1.f_at, SS s45.1.f_name, I64 s45.1.f_level, I64 s45.1.f_inner]), (7, SS x5.2), (13, I64 s41.2), (14, I64 s45.2)]) 8 (fun (x46 : yuccaref9_maker) => [(1, .obj [SS a0.Pro, iR eDecl_0 a0.Decls, iR eRule_0 a0.Rules, SS a0.Tail]), (2, .obj [.nils, .nils, .nils, SS ({ data := #[] }), SS ({ data := #[] })]), (6, .obj [oR eTok x46.f_g.Toks, oR eNon x46.f_g.Nons, oR eProd_0 x46.f_g.Prods, SS x46.f_g.Pro, SS x46.f_g.Tail, oR eB x46.f_given, oR eNon x46.f_types, oR eS x46.f_lefts, I64 x46.f_e, I64 x46.f_at, SS x46.f_name, I64 x46.f_level, I64 x46.f_inner]), (7, SS x5.2), (13, I64 s41.2)]) hl (fun s45 o h => ?_) ?_
        · clear hl
          refine W.sq' ?_
          refine W.sq' ?_
          obtain ⟨x48, hx48, h⟩ := bnd h
          refine W.rx [(1, _), (2, _), (6, _), (7, _), (13, _), (14, _), (163, _)] (RunL.v (O.mv (.lit rfl)) rfl rfl .none <| RunL.v (O.fO rfl (.obj rfl) fd25_1 rfl) rfl rfl .none <| RunL.v (O.ldO (y := iR eDecl_0 a0.Decls) rfl (.ptr rfl) ct22 rfl rfl) rfl rfl .none <| RunL.v (O.mv (.lit rfl)) rfl rfl .none <| RunL.v (O.ixI (.imm rfl) (.lit rfl) sl22 hx48) rfl rfl .none <| RunL.v (O.fI (.iptr rfl) fd89_2) rfl rfl .none <| RunL.v (O.ldI (x := iR eSym x48.Syms) (.iptr rfl) ct87 rfl) rfl rfl .none <| RunL.v (O.lenI (.imm rfl) sl87) rfl rfl .none <| RunL.v (O.lss (.lit rfl) (.lit rfl)) rfl rfl .none <| RunL.fin (.n rfl (.n rfl (.n rfl (.n rfl (.n rfl (.n rfl (.n rfl .nil)))))))) ?_
          refine Px.sq ?_
          refine W.cnd rfl (fun hb49 => ?_) (fun hb49 => ?_)
          · replace h := cndT hb49 h
            refine W.sk ?_
            refine Px.sq ?_
            refine W.sq' ?_
            obtain ⟨j50, hj, h⟩ := bnd h
            refine W.jn [(1, .obj [SS a0.Pro, iR eDecl_0 a0.Decls, iR eRule_0 a0.Rules, SS a0.Tail]), (2, .obj [.nils, .nils, .nils, SS ({ data := #[] }), SS ({ data := #[] })]), (6, .obj [oR eTok j50.f_g.Toks, oR eNon j50.f_g.Nons, oR eProd_0 j50.f_g.Prods, SS j50.f_g.Pro, SS j50.f_g.Tail, oR eB j50.f_given, oR eNon j50.f_types, oR eS j50.f_lefts, I64 j50.f_e, I64 j50.f_at, SS j50.f_name, I64 j50.f_level, I64 j50.f_inner]), (7, SS x5.2), (13, I64 s41.2), (14, I64 s45.2)] ?_ ?_
            · clear h; have h := hj; clear hj
              refine W.bk ?_
              refine W.sq' ?_
              obtain ⟨x51, hx51, h⟩ := bnd h
              obtain ⟨x52, hx52, h⟩ := bnd h
              refine W.rx [(1, _), (2, _), (6, _), (7, _), (13, _), (14, _), (15, _)] (RunL.v (O.fO rfl (.obj rfl) fd25_1 rfl) rfl rfl .none <| RunL.v (O.ldO (y := iR eDecl_0 a0.Decls) rfl (.ptr rfl) ct22 rfl rfl) rfl rfl .none <| RunL.v (O.mv (.lit rfl)) rfl rfl .none <| RunL.v (O.ixI (.imm rfl) (.lit rfl) sl22 hx51) rfl rfl .none <| RunL.v (O.fI (.iptr rfl) fd89_2) rfl rfl .none <| RunL.v (O.ldI (x := iR eSym x51.Syms) (.iptr rfl) ct87 rfl) rfl rfl .none <| RunL.v (O.mv (.lit rfl)) rfl rfl .none <| RunL.v (O.ixI (.imm rfl) (.lit rfl) sl87 hx52) rfl rfl .none <| RunL.v (O.ldIN (cs' := [SS x52.Name, BB x52.Lit, I64 x52.Num, I64 x52.At]) (.iptr rfl) at91 rfl rfl) rfl rfl .none <| RunL.v (O.al (cs := [SS ({ data := #[] }), BB false, I64 0, I64 0]) ze91 rfl rfl) rfl rfl .none <| RunL.sO (G2 := [(1, .obj [SS a0.Pro, iR eDecl_0 a0.Decls, iR eRule_0 a0.Rules, SS a0.Tail]), (2, .obj [.nils, .nils, .nils, SS ({ data := #[] }), SS ({ data := #[] })]), (6, .obj [oR eTok s45.1.f_g.Toks, oR eNon s45.1.f_g.Nons, oR eProd_0 s45.1.f_g.Prods, SS s45.1.f_g.Pro, SS s45.1.f_g.Tail, oR eB s45.1.f_given, oR eNon s45.1.f_types, oR eS s45.1.f_lefts, I64 s45.1.f_e, I64 s45.1.f_at, SS s45.1.f_name, I64 s45.1.f_level, I64 s45.1.f_inner]), (7, SS x5.2), (13, I64 s41.2), (14, I64 s45.2), (15, .obj [SS x52.Name, BB x52.Lit, I64 x52.Num, I64 x52.At])]) (cs2 := [SS x52.Name, BB x52.Lit, I64 x52.Num, I64 x52.At]) rfl (.obj rfl) (.aggF rfl rfl) rfl sz91 rfl rfl rfl rfl (.n rfl rfl (.n rfl rfl (.n rfl rfl (.n rfl rfl (.n rfl rfl (.n rfl rfl (.b rfl .nil))))))) <| RunL.fin (.n rfl (.n rfl (.n rfl (.n rfl (.n rfl (.n rfl (.n rfl .nil)))))))) ?_
              refine Px.sq ?_
              refine W.sq' ?_
              obtain ⟨c56, hj, h⟩ := bnd h
              refine W.rx [(1, .obj [SS a0.Pro, iR eDecl_0 a0.Decls, iR eRule_0 a0.Rules, SS a0.Tail]), (2, .obj [.nils, .nils, .nils, SS ({ data := #[] }), SS ({ data := #[] })]), (6, .obj [oR eTok s45.1.f_g.Toks, oR eNon s45.1.f_g.Nons, oR eProd_0 s45.1.f_g.Prods, SS s45.1.f_g.Pro, SS s45.1.f_g.Tail, oR eB s45.1.f_given, oR eNon s45.1.f_types, oR eS s45.1.f_lefts, I64 s45.1.f_e, I64 s45.1.f_at, SS s45.1.f_name, I64 s45.1.f_level, I64 s45.1.f_inner]), (7, SS x5.2), (13, I64 s41.2), (14, I64 s45.2), (15, .obj [SS x52.Name, BB x52.Lit, I64 x52.Num, I64 x52.At]), (188, BB c56)] ?_ ?_
              · refine RunL.v (O.fO rfl (.obj rfl) fd25_1 rfl) rfl rfl .none <| RunL.v (O.ldO (y := iR eDecl_0 a0.Decls) rfl (.ptr rfl) ct22 rfl rfl) rfl rfl .none <| RunL.v (O.mv (.lit rfl)) rfl rfl .none ?_
                obtain ⟨x53, hx53, hj⟩ := bnd hj
                refine RunL.v (O.ixI (.imm rfl) (.lit rfl) sl22 hx53) rfl rfl .none <| RunL.v (O.fI (.iptr rfl) fd89_0) rfl rfl .none <| RunL.v (O.ldI (x := I64 x53.Kind) (.iptr rfl) ct3 rfl) rfl rfl .none <| RunL.v (O.geq (.lit rfl) (.k rfl)) rfl rfl .none <| RunL.v (O.mv (.lit rfl)) rfl rfl .none ?_
                rcases cnd hj with ⟨hb54, hj⟩ | ⟨hb54, hj⟩
                · refine RunL.v (O.mv (.obj rfl)) rfl rfl (.yb rfl rfl hb54) <| RunL.v (O.fO rfl (.obj rfl) fd91_0 rfl) rfl rfl (.yb rfl rfl hb54) <| RunL.v (O.ldO (y := SS x52.Name) rfl (.ptr rfl) ct9 rfl rfl) rfl rfl (.yb rfl rfl hb54) ?_
                  obtain ⟨x55, hx55, hj⟩ := bnd hj
                  obtain rfl := sm hj
                  exact RunL.c (PC.vw (ys := [.ptr ⟨6, []⟩ 0, SS x52.Name]) rfl (.c (View.p0 rfl rfl) (.s .nil)) (con67 s45.1 x52.Name _ hx55) call67 rfl) rfl rfl (.yb rfl rfl hb54) <| RunL.v (O.lss (.lit rfl) (.k rfl)) rfl rfl (.yb rfl rfl hb54) <| RunL.v (O.pkT (.lit rfl) hb54 (.lit rfl)) rfl rfl .none <| RunL.fin (.n rfl (.n rfl (.n rfl (.n rfl (.n rfl (.n rfl (.n rfl (.n rfl .nil))))))))
                · obtain rfl := sm hj
                  exact RunL.ps rfl rfl hb54 rfl rfl <| RunL.ps rfl rfl hb54 rfl rfl <| RunL.ps rfl rfl hb54 rfl rfl <| RunL.ps rfl rfl hb54 rfl rfl <| RunL.ps rfl rfl hb54 rfl rfl <| RunL.v (O.pkF (.lit rfl) hb54 (.k rfl)) rfl rfl .none <| RunL.fin (.n rfl (.n rfl (.n rfl (.n rfl (.n rfl (.n rfl (.n rfl (.n rfl .nil))))))))
              refine Px.sq ?_
              obtain ⟨j57, hj, h⟩ := bnd h
              refine W.jn [(1, .obj [SS a0.Pro, iR eDecl_0 a0.Decls, iR eRule_0 a0.Rules, SS a0.Tail]), (2, .obj [.nils, .nils, .nils, SS ({ data := #[] }), SS ({ data := #[] })]), (6, .obj [oR eTok j57.f_g.Toks, oR eNon j57.f_g.Nons, oR eProd_0 j57.f_g.Prods, SS j57.f_g.Pro, SS j57.f_g.Tail, oR eB j57.f_given, oR eNon j57.f_types, oR eS j57.f_lefts, I64 j57.f_e, I64 j57.f_at, SS j57.f_name, I64 j57.f_level, I64 j57.f_inner]), (7, SS x5.2), (13, I64 s41.2), (14, I64 s45.2)] ?_ ?_
              · clear h; have h := hj; clear hj
                refine W.cnd rfl (fun hb58 => ?_) (fun hb58 => ?_)
                · replace h := cndT hb58 h
                  obtain ⟨x59, hx59, h⟩ := bnd h
                  refine W.rx [(1, _), (2, _), (6, _), (7, _), (13, _), (14, _)] (RunL.v (O.mv (.obj rfl)) rfl rfl .none <| RunL.v (O.fO rfl (.obj rfl) fd91_3 rfl) rfl rfl .none <| RunL.v (O.ldO (y := I64 x52.At) rfl (.ptr rfl) ct3 rfl rfl) rfl rfl .none <| RunL.v (O.fO rfl (.obj rfl) fd91_0 rfl) rfl rfl .none <| RunL.v (O.ldO (y := SS x52.Name) rfl (.ptr rfl) ct9 rfl rfl) rfl rfl .none <| RunL.ef (G2 := [(194, .tup []), (6, .obj [oR eTok x59.f_g.Toks, oR eNon x59.f_g.Nons, oR eProd_0 x59.f_g.Prods, SS x59.f_g.Pro, SS x59.f_g.Tail, oR eB x59.f_given, oR eNon x59.f_types, oR eS x59.f_lefts, I64 x59.f_e, I64 x59.f_at, SS x59.f_name, I64 x59.f_level, I64 x59.f_inner]), (1, .obj [SS a0.Pro, iR eDecl_0 a0.Decls, iR eRule_0 a0.Rules, SS a0.Tail]), (2, .obj [.nils, .nils, .nils, SS ({ data := #[] }), SS ({ data := #[] })]), (7, SS x5.2), (13, I64 s41.2), (14, I64 s45.2)]) rfl (EO.call rfl rfl (CallOk.ln (G2 := [(1, .obj [SS a0.Pro, iR eDecl_0 a0.Decls, iR eRule_0 a0.Rules, SS a0.Tail]), (2, .obj [.nils, .nils, .nils, SS ({ data := #[] }), SS ({ data := #[] })]), (7, SS x5.2), (13, I64 s41.2), (14, I64 s45.2)]) (A := []) (ys := [.ptr ⟨6, []⟩ 0, I64 x52.At, SS x52.Name]) (args := [.obj [oR eTok s45.1.f_g.Toks, oR eNon s45.1.f_g.Nons, oR eProd_0 s45.1.f_g.Prods, SS s45.1.f_g.Pro, SS s45.1.f_g.Tail, oR eB s45.1.f_given, oR eNon s45.1.f_types, oR eS s45.1.f_lefts, I64 s45.1.f_e, I64 s45.1.f_at, SS s45.1.f_name, I64 s45.1.f_level, I64 s45.1.f_inner], I64 x52.At, SS x52.Name]) (cs' := [oR eTok x59.f_g.Toks, oR eNon x59.f_g.Nons, oR eProd_0 x59.f_g.Prods, SS x59.f_g.Pro, SS x59.f_g.Tail, oR eB x59.f_given, oR eNon x59.f_types, oR eS x59.f_lefts, I64 x59.f_e, I64 x59.f_at, SS x59.f_name, I64 x59.f_level, I64 x59.f_inner]) (k0 := 0) rfl rfl rfl rfl (.b rfl (.n rfl (.n rfl .nil))) rfl (con65 s45.1 x52.At x52.Name _ hx59) call65 (.n rfl (.n rfl (.n rfl (.n rfl (.n rfl .nil))))) rfl rfl (.n rfl (.n rfl (.n rfl (.n rfl (.n rfl .nil))))) .nil rfl)) <| RunL.fin (.n rfl (.n rfl (.n rfl (.n rfl (.n rfl (.n rfl .nil))))))) ?_
                  obtain rfl := sm h
                  exact Px.jn (.n rfl (.n rfl (.n rfl (.n rfl (.n rfl (.n rfl .nil))))))
                · replace h := cndF hb58 h
                  refine W.sk ?_
                  obtain rfl := sm h
                  exact Px.jn (.n rfl (.n rfl (.n rfl (.n rfl (.n rfl (.n rfl .nil))))))
              refine Px.bk ?_
              obtain rfl := sm h
              exact Px.jn (.n rfl (.n rfl (.n rfl (.n rfl (.n rfl (.n rfl .nil))))))
            refine Px.sq ?_
            refine W.rx [(1, _), (2, _), (6, _), (7, _), (13, _), (14, _)] (RunL.v (O.mv (.lit rfl)) rfl rfl .none <| RunL.v (O.add (.lit rfl) (.k rfl)) rfl rfl .none <| RunL.re (G1 := [(1, .obj [SS a0.Pro, iR eDecl_0 a0.Decls, iR eRule_0 a0.Rules, SS a0.Tail]), (2, .obj [.nils, .nils, .nils, SS ({ data := #[] }), SS ({ data := #[] })]), (6, .obj [oR eTok j50.f_g.Toks, oR eNon j50.f_g.Nons, oR eProd_0 j50.f_g.Prods, SS j50.f_g.Pro, SS j50.f_g.Tail, oR eB j50.f_given, oR eNon j50.f_types, oR eS j50.f_lefts, I64 j50.f_e, I64 j50.f_at, SS j50.f_name, I64 j50.f_level, I64 j50.f_inner]), (7, SS x5.2), (13, I64 s41.2), (165, I64 (w64 (s45.2 + 1)))]) (.n rfl (.n rfl (.n rfl (.n rfl (.n rfl (.n rfl .nil)))))) <| RunL.v (O.as (.lit rfl)) rfl rfl .none <| RunL.fin (.n rfl (.n rfl (.n rfl (.n rfl (.n rfl (.n rfl .nil))))))) ?_
            obtain rfl := sm h
            exact Px.go (.n rfl (.n rfl (.n rfl (.n rfl (.n rfl (.n rfl .nil))))))
          · replace h := cndF hb49 h
            refine W.xi ?_
            refine Px.sqE ?_
            obtain rfl := sm h
            exact Px.x1 (.n rfl (.n rfl (.n rfl (.n rfl (.n rfl .nil)))))
        refine Px.bkH ?_
        refine Px.bk ?_
        refine Px.sq ?_
        refine W.rx [(1, _), (2, _), (6, _), (7, _), (13, _)] (RunL.v (O.mv (.lit rfl)) rfl rfl .none <| RunL.v (O.add (.lit rfl) (.k rfl)) rfl rfl .none <| RunL.re (G1 := [(1, .obj [SS a0.Pro, iR eDecl_0 a0.Decls, iR eRule_0 a0.Rules, SS a0.Tail]), (2, .obj [.nils, .nils, .nils, SS ({ data := #[] }), SS ({ data := #[] })]), (6, .obj [oR eTok x46.f_g.Toks, oR eNon x46.f_g.Nons, oR eProd_0 x46.f_g.Prods, SS x46.f_g.Pro, SS x46.f_g.Tail, oR eB x46.f_given, oR eNon x46.f_types, oR eS x46.f_lefts, I64 x46.f_e, I64 x46.f_at, SS x46.f_name, I64 x46.f_level, I64 x46.f_inner]), (7, SS x5.2), (154, I64 (w64 (s41.2 + 1)))]) (.n rfl (.n rfl (.n rfl (.n rfl (.n rfl .nil))))) <| RunL.v (O.as (.lit rfl)) rfl rfl .none <| RunL.fin (.n rfl (.n rfl (.n rfl (.n rfl (.n rfl .nil)))))) ?_
        obtain rfl := sm h
        exact Px.go (.n rfl (.n rfl (.n rfl (.n rfl (.n rfl .nil)))))
      · replace h := cndF hb44 h
        refine W.xi ?_
        refine Px.sqE ?_
        obtain rfl := sm h
        exact Px.x1 (.n rfl (.n rfl (.n rfl (.n rfl .nil))))
    refine Px.bkH ?_
    refine Px.sq ?_
    refine W.sq' ?_
    refine W.sq' ?_
    refine W.rx [(1, _), (2, _), (6, _), (7, _), (196, _)] (RunL.v (O.mv (.lit rfl)) rfl rfl .none <| RunL.v (O.eqS (.lit rfl) (.k rfl)) rfl rfl .none <| RunL.fin (.n rfl (.n rfl (.n rfl (.n rfl (.n rfl .nil)))))) ?_
    refine Px.sq ?_
    obtain ⟨j60, hj, h⟩ := bnd h
    refine W.jn [(1, .obj [SS a0.Pro, iR eDecl_0 a0.Decls, iR eRule_0 a0.Rules, SS a0.Tail]), (2, .obj [.nils, .nils, .nils, SS ({ data := #[] }), SS ({ data := #[] })]), (6, .obj [oR eTok x42.f_g.Toks, oR eNon x42.f_g.Nons, oR eProd_0 x42.f_g.Prods, SS x42.f_g.Pro, SS x42.f_g.Tail, oR eB x42.f_given, oR eNon x42.f_types, oR eS x42.f_lefts, I64 x42.f_e, I64 x42.f_at, SS x42.f_name, I64 x42.f_level, I64 x42.f_inner]), (7, SS j60)] ?_ ?_
    · clear h; have h := hj; clear hj
      refine W.cnd rfl (fun hb61 => ?_) (fun hb61 => ?_)
      · replace h := cndT hb61 h
        obtain ⟨x62, hx62, h⟩ := bnd h
        refine W.rx [(1, _), (2, _), (6, _), (7, _)] (RunL.v (O.fO rfl (.obj rfl) fd25_2 rfl) rfl rfl .none <| RunL.v (O.ldO (y := iR eRule_0 a0.Rules) rfl (.ptr rfl) ct23 rfl rfl) rfl rfl .none <| RunL.v (O.ixI (.imm rfl) (.k rfl) sl23 hx62) rfl rfl .none <| RunL.v (O.fI (.iptr rfl) fd95_0) rfl rfl .none <| RunL.v (O.ldI (x := SS x62.Left) (.iptr rfl) ct9 rfl) rfl rfl .none <| RunL.re (G1 := [(1, .obj [SS a0.Pro, iR eDecl_0 a0.Decls, iR eRule_0 a0.Rules, SS a0.Tail]), (2, .obj [.nils, .nils, .nils, SS ({ data := #[] }), SS ({ data := #[] })]), (6, .obj [oR eTok x42.f_g.Toks, oR eNon x42.f_g.Nons, oR eProd_0 x42.f_g.Prods, SS x42.f_g.Pro, SS x42.f_g.Tail, oR eB x42.f_given, oR eNon x42.f_types, oR eS x42.f_lefts, I64 x42.f_e, I64 x42.f_at, SS x42.f_name, I64 x42.f_level, I64 x42.f_inner]), (201, SS x62.Left)]) (.n rfl (.n rfl (.n rfl (.n rfl .nil)))) <| RunL.v (O.as (.lit rfl)) rfl rfl .none <| RunL.fin (.n rfl (.n rfl (.n rfl (.n rfl .nil))))) ?_
        obtain rfl := sm h
        exact Px.jn (.n rfl (.n rfl (.n rfl (.n rfl .nil))))
      · replace h := cndF hb61 h
        refine W.sk ?_
        obtain rfl := sm h
        exact Px.jn (.n rfl (.n rfl (.n rfl (.n rfl .nil))))
    refine Px.sq ?_
    refine W.sq' ?_
    obtain ⟨x63, hx63, h⟩ := bnd h
    refine W.rx [(1, _), (2, _), (6, _)] (RunL.v (O.mv (.obj rfl)) rfl rfl .none <| RunL.v (O.mv (.obj rfl)) rfl rfl .none <| RunL.v (O.mv (.lit rfl)) rfl rfl .none <| RunL.c (PC.vw (ys := [.ptr ⟨6, []⟩ 0, SS j60]) rfl (.c (View.p0 rfl rfl) (.s .nil)) (con67 x42 j60 _ hx63) call67 rfl) rfl rfl .none <| RunL.v (O.add (.k rfl) (.lit rfl)) rfl rfl .none <| RunL.vi (x := iR eI [w64 (1001 + x63)]) (O.bs (ys := [I64 (w64 (1001 + x63))]) eI [w64 (1001 + x63)] sl27 rfl rfl rfl rfl rfl rfl zt3 rfl rfl) rfl rfl .none <| RunL.vi (x := .agg [I64 0, iR eI [w64 (1001 + x63)], I64 (-1), SS ({ data := #[] }), iR eI ([] : List Int), I64 0]) (O.bu (cs := [I64 0, iR eI [w64 (1001 + x63)], I64 (-1), SS ({ data := #[] }), .nils, I64 0]) sc109 ze109 rfl rfl rfl) rfl rfl .none <| RunL.v (O.bs (ys := [.agg [I64 0, iR eI [w64 (1001 + x63)], I64 (-1), SS ({ data := #[] }), iR eI ([] : List Int), I64 0]]) eProd_0 [(⟨0, [w64 (1001 + x63)], (-1), { data := #[] }, ([] : List Int), 0⟩ : Prod)] sl36 rfl rfl rfl rfl rfl rfl zt109 rfl rfl) rfl rfl .none <| RunL.v (O.nlP (.ptr rfl)) rfl rfl .none <| RunL.v (O.fO rfl (.ptr rfl) fd128_0 rfl) rfl rfl .none <| RunL.v (O.fO rfl (.ptr rfl) fd38_2 rfl) rfl rfl .none <| RunL.ef (G2 := [(1, .obj [SS a0.Pro, iR eDecl_0 a0.Decls, iR eRule_0 a0.Rules, SS a0.Tail]), (2, .obj [.nils, .nils, .nils, SS ({ data := #[] }), SS ({ data := #[] })]), (6, .obj [oR eTok x42.f_g.Toks, oR eNon x42.f_g.Nons, oR eProd_0 [(⟨0, [w64 (1001 + x63)], (-1), { data := #[] }, ([] : List Int), 0⟩ : Prod)], SS x42.f_g.Pro, SS x42.f_g.Tail, oR eB x42.f_given, oR eNon x42.f_types, oR eS x42.f_lefts, I64 x42.f_e, I64 x42.f_at, SS x42.f_name, I64 x42.f_level, I64 x42.f_inner])]) rfl (EO.stB (y' := oR eProd_0 [(⟨0, [w64 (1001 + x63)], (-1), { data := #[] }, ([] : List Int), 0⟩ : Prod)]) (cs2 := [oR eTok x42.f_g.Toks, oR eNon x42.f_g.Nons, oR eProd_0 [(⟨0, [w64 (1001 + x63)], (-1), { data := #[] }, ([] : List Int), 0⟩ : Prod)], SS x42.f_g.Pro, SS x42.f_g.Tail, oR eB x42.f_given, oR eNon x42.f_types, oR eS x42.f_lefts, I64 x42.f_e, I64 x42.f_at, SS x42.f_name, I64 x42.f_level, I64 x42.f_inner]) rfl rfl (.ptr rfl) (.own rfl) (.r rfl .nil) .refl rfl sz36 rfl rfl rfl rfl rfl (.n rfl rfl (.n rfl rfl (.b rfl .nil)))) <| RunL.fin (.n rfl (.n rfl (.n rfl .nil)))) ?_
    refine Px.sq ?_
    refine W.sq' ?_
    refine W.sq' ?_
    refine W.rx [(1, _), (2, _), (6, _), (16, _)] (RunL.v (O.as (.k rfl)) rfl rfl .none <| RunL.fin (.n rfl (.n rfl (.n rfl (.n rfl .nil))))) ?_
    refine Px.sq ?_
    refine W.bk ?_
    obtain ⟨x65, hl, h⟩ := bnd h
    refine W.tr (G1 := [(1, .obj [SS a0.Pro, iR eDecl_0 a0.Decls, iR eRule_0 a0.Rules, SS a0.Tail]), (2, .obj [.nils, .nils, .nils, SS ({ data := #[] }), SS ({ data := #[] })]), (6, .obj [oR eTok (((⟨(⟨x42.f_g.Toks, x42.f_g.Nons, [(⟨0, [w64 (1001 + x63)], (-1), { data := #[] }, ([] : List Int), 0⟩ : Prod)], x42.f_g.Pro, x42.f_g.Tail⟩ : Grammar), x42.f_given, x42.f_types, x42.f_lefts, x42.f_e, x42.f_at, x42.f_name, x42.f_level, x42.f_inner⟩ : yuccaref9_maker).f_g).Toks), oR eNon (((⟨(⟨x42.f_g.Toks, x42.f_g.Nons, [(⟨0, [w64 (1001 + x63)], (-1), { data := #[] }, ([] : List Int), 0⟩ : Prod)], x42.f_g.Pro, x42.f_g.Tail⟩ : Grammar), x42.f_given, x42.f_types, x42.f_lefts, x42.f_e, x42.f_at, x42.f_name, x42.f_level, x42.f_inner⟩ : yuccaref9_maker).f_g).Nons), oR eProd_0 (((⟨(⟨x42.f_g.Toks, x42.f_g.Nons, [(⟨0, [w64 (1001 + x63)], (-1), { data := #[] }, ([] : List Int), 0⟩ : Prod)], x42.f_g.Pro, x42.f_g.Tail⟩ : Grammar), x42.f_given, x42.f_types, x42.f_lefts, x42.f_e, x42.f_at, x42.f_name, x42.f_level, x42.f_inner⟩ : yuccaref9_maker).f_g).Prods), SS (((⟨(⟨x42.f_g.Toks, x42.f_g.Nons, [(⟨0, [w64 (1001 + x63)], (-1), { data := #[] }, ([] : List Int), 0⟩ : Prod)], x42.f_g.Pro, x42.f_g.Tail⟩ : Grammar), x42.f_given, x42.f_types, x42.f_lefts, x42.f_e, x42.f_at, x42.f_name, x42.f_level, x42.f_inner⟩ : yuccaref9_maker).f_g).Pro), SS (((⟨(⟨x42.f_g.Toks, x42.f_g.Nons, [(⟨0, [w64 (1001 + x63)], (-1), { data := #[] }, ([] : List Int), 0⟩ : Prod)], x42.f_g.Pro, x42.f_g.Tail⟩ : Grammar), x42.f_given, x42.f_types, x42.f_lefts, x42.f_e, x42.f_at, x42.f_name, x42.f_level, x42.f_inner⟩ : yuccaref9_maker).f_g).Tail), oR eB ((⟨(⟨x42.f_g.Toks, x42.f_g.Nons, [(⟨0, [w64 (1001 + x63)], (-1), { data := #[] }, ([] : List Int), 0⟩ : Prod)], x42.f_g.Pro, x42.f_g.Tail⟩ : Grammar), x42.f_given, x42.f_types, x42.f_lefts, x42.f_e, x42.f_at, x42.f_name, x42.f_level, x42.f_inner⟩ : yuccaref9_maker).f_given), oR eNon ((⟨(⟨x42.f_g.Toks, x42.f_g.Nons, [(⟨0, [w64 (1001 + x63)], (-1), { data := #[] }, ([] : List Int), 0⟩ : Prod)], x42.f_g.Pro, x42.f_g.Tail⟩ : Grammar), x42.f_given, x42.f_types, x42.f_lefts, x42.f_e, x42.f_at, x42.f_name, x42.f_level, x42.f_inner⟩ : yuccaref9_maker).f_types), oR eS ((⟨(⟨x42.f_g.Toks, x42.f_g.Nons, [(⟨0, [w64 (1001 + x63)], (-1), { data := #[] }, ([] : List Int), 0⟩ : Prod)], x42.f_g.Pro, x42.f_g.Tail⟩ : Grammar), x42.f_given, x42.f_types, x42.f_lefts, x42.f_e, x42.f_at, x42.f_name, x42.f_level, x42.f_inner⟩ : yuccaref9_maker).f_lefts), I64 ((⟨(⟨x42.f_g.Toks, x42.f_g.Nons, [(⟨0, [w64 (1001 + x63)], (-1), { data := #[] }, ([] : List Int), 0⟩ : Prod)], x42.f_g.Pro, x42.f_g.Tail⟩ : Grammar), x42.f_given, x42.f_types, x42.f_lefts, x42.f_e, x42.f_at, x42.f_name, x42.f_level, x42.f_inner⟩ : yuccaref9_maker).f_e), I64 ((⟨(⟨x42.f_g.Toks, x42.f_g.Nons, [(⟨0, [w64 (1001 + x63)], (-1), { data := #[] }, ([] : List Int), 0⟩ : Prod)], x42.f_g.Pro, x42.f_g.Tail⟩ : Grammar), x42.f_given, x42.f_types, x42.f_lefts, x42.f_e, x42.f_at, x42.f_name, x42.f_level, x42.f_inner⟩ : yuccaref9_maker).f_at), SS ((⟨(⟨x42.f_g.Toks, x42.f_g.Nons, [(⟨0, [w64 (1001 + x63)], (-1), { data := #[] }, ([] : List Int), 0⟩ : Prod)], x42.f_g.Pro, x42.f_g.Tail⟩ : Grammar), x42.f_given, x42.f_types, x42.f_lefts, x42.f_e, x42.f_at, x42.f_name, x42.f_level, x42.f_inner⟩ : yuccaref9_maker).f_name), I64 ((⟨(⟨x42.f_g.Toks, x42.f_g.Nons, [(⟨0, [w64 (1001 + x63)], (-1), { data := #[] }, ([] : List Int), 0⟩ : Prod)], x42.f_g.Pro, x42.f_g.Tail⟩ : Grammar), x42.f_given, x42.f_types, x42.f_lefts, x42.f_e, x42.f_at, x42.f_name, x42.f_level, x42.f_inner⟩ : yuccaref9_maker).f_level), I64 ((⟨(⟨x42.f_g.Toks, x42.f_g.Nons, [(⟨0, [w64 (1001 + x63)], (-1), { data := #[] }, ([] : List Int), 0⟩ : Prod)], x42.f_g.Pro, x42.f_g.Tail⟩ : Grammar), x42.f_given, x42.f_types, x42.f_lefts, x42.f_e, x42.f_at, x42.f_name, x42.f_level, x42.f_inner⟩ : yuccaref9_maker).f_inner)]), (16, I64 0)]) (.n rfl (.n rfl (.n rfl (.n rfl .nil)))) ?_
    refine W.lp1 (s := ((⟨(⟨x42.f_g.Toks, x42.f_g.Nons, [(⟨0, [w64 (1001 + x63)], (-1), { data := #[] }, ([] : List Int), 0⟩ : Prod)], x42.f_g.Pro, x42.f_g.Tail⟩ : Grammar), x42.f_given, x42.f_types, x42.f_lefts, x42.f_e, x42.f_at, x42.f_name, x42.f_level, x42.f_inner⟩ : yuccaref9_maker), 0)) (fun (s64 : yuccaref9_maker × Int) => [(1, .obj [SS a0.Pro, iR eDecl_0 a0.Decls, iR eRule_0 a0.Rules, SS a0.Tail]), (2, .obj [.nils, .nils, .nils, SS ({ data := #[] }), SS ({ data := #[] })]), (6, .obj [oR eTok s64.1.f_g.Toks, oR eNon s64.1.f_g.Nons, oR eProd_0 s64.1.f_g.Prods, SS s64.1.f_g.Pro, SS s64.1.f_g.Tail, oR eB s64.1.f_given, oR eNon s64.1.f_types, oR eS s64.1.f_lefts, I64 s64.1.f_e, I64 s64.1.f_at, SS s64.1.f_name, I64 s64.1.f_level, I64 s64.1.f_inner]), (16, I64 s64.2)]) 10 (fun (x65 : yuccaref9_maker) => [(1, .obj [SS a0.Pro, iR eDecl_0 a0.Decls, iR eRule_0 a0.Rules, SS a0.Tail]), (2, .obj [.nils, .nils, .nils, SS ({ data := #[] }), SS ({ data := #[] })]), (6, .obj [oR eTok x65.f_g.Toks, oR eNon x65.f_g.Nons, oR eProd_0 x65.f_g.Prods, SS x65.f_g.Pro, SS x65.f_g.Tail, oR eB x65.f_given, oR eNon x65.f_types, oR eS x65.f_lefts, I64 x65.f_e, I64 x65.f_at, SS x65.f_name, I64 x65.f_level, I64 x65.f_inner])]) hl (fun s64 o h => ?_) ?_
    · clear hl
      refine W.sq' ?_
      refine W.sq' ?_
      refine W.rx [(1, _), (2, _), (6, _), (16, _), (217, _)] (RunL.v (O.mv (.lit rfl)) rfl rfl .none <| RunL.v (O.fO rfl (.obj rfl) fd25_2 rfl) rfl rfl .none <| RunL.v (O.ldO (y := iR eRule_0 a0.Rules) rfl (.ptr rfl) ct23 rfl rfl) rfl rfl .none <| RunL.v (O.lenI (.imm rfl) sl23) rfl rfl .none <| RunL.v (O.lss (.lit rfl) (.lit rfl)) rfl rfl .none <| RunL.fin (.n rfl (.n rfl (.n rfl (.n rfl (.n rfl .nil)))))) ?_
      refine Px.sq ?_
      refine W.cnd rfl (fun hb67 => ?_) (fun hb67 => ?_)
      · replace h := cndT hb67 h
        refine W.sk ?_
        refine Px.sq ?_
        refine W.sq' ?_
        refine W.bk ?_
        refine W.sq' ?_
        refine W.rx [(1, _), (2, _), (6, _), (16, _), (17, _)] (RunL.v (O.as (.k rfl)) rfl rfl .none <| RunL.fin (.n rfl (.n rfl (.n rfl (.n rfl (.n rfl .nil)))))) ?_
        refine Px.sq ?_
        refine W.bk ?_
        obtain ⟨x69, hl, h⟩ := bnd h
        refine W.tr (G1 := [(1, .obj [SS a0.Pro, iR eDecl_0 a0.Decls, iR eRule_0 a0.Rules, SS a0.Tail]), (2, .obj [.nils, .nils, .nils, SS ({ data := #[] }), SS ({ data := #[] })]), (6, .obj [oR eTok s64.1.f_g.Toks, oR eNon s64.1.f_g.Nons, oR eProd_0 s64.1.f_g.Prods, SS s64.1.f_g.Pro, SS s64.1.f_g.Tail, oR eB s64.1.f_given, oR eNon s64.1.f_types, oR eS s64.1.f_lefts, I64 s64.1.f_e, I64 s64.1.f_at, SS s64.1.f_name, I64 s64.1.f_level, I64 s64.1.f_inner]), (16, I64 s64.2), (17, I64 0)]) (.n rfl (.n rfl (.n rfl (.n rfl (.n rfl .nil))))) ?_
        refine W.lp1 (s := (s64.1, 0)) (fun (s68 : yuccaref9_maker × Int) => [(1, .obj [SS a0.Pro, iR eDecl_0 a0.Decls, iR eRule_0 a0.Rules, SS a0.Tail]), (2, .obj [.nils, .nils, .nils, SS ({ data := #[] }), SS ({ data := #[] })]), (6, .obj [oR eTok s68.1.f_g.Toks, oR eNon s68.1.f_g.Nons, oR eProd_0 s68.1.f_g.Prods, SS s68.1.f_g.Pro, SS s68.1.f_g.Tail, oR eB s68.1.f_given, oR eNon s68.1.f_types, oR eS s68.1.f_lefts, I64 s68.1.f_e, I64 s68.1.f_at, SS s68.1.f_name, I64 s68.1.f_level, I64 s68.1.f_inner]), (16, I64 s64.2), (17, I64 s68.2)]) 12 (fun (x69 : yuccaref9_maker) => [(1, .obj [SS a0.Pro, iR eDecl_0 a0.Decls, iR eRule_0 a0.Rules, SS a0.Tail]), (2, .obj [.nils, .nils, .nils, SS ({ data := #[] }), SS ({ data := #[] })]), (6, .obj [oR eTok x69.f_g.Toks, oR eNon x69.f_g.Nons, oR eProd_0 x69.f_g.Prods, SS x69.f_g.Pro, SS x69.f_g.Tail, oR eB x69.f_given, oR eNon x69.f_types, oR eS x69.f_lefts, I64 x69.f_e, I64 x69.f_at, SS x69.f_name, I64 x69.f_level, I64 x69.f_inner]), (16, I64 s64.2)]) hl (fun s68 o h => ?_) ?_
        · clear hl
          refine W.sq' ?_
          refine W.sq' ?_
          obtain ⟨x71, hx71, h⟩ := bnd h
          refine W.rx [(1, _), (2, _), (6, _), (16, _), (17, _), (228, _)] (RunL.v (O.mv (.lit rfl)) rfl rfl .none <| RunL.v (O.fO rfl (.obj rfl) fd25_2 rfl) rfl rfl .none <| RunL.v (O.ldO (y := iR eRule_0 a0.Rules) rfl (.ptr rfl) ct23 rfl rfl) rfl rfl .none <| RunL.v (O.mv (.lit rfl)) rfl rfl .none <| RunL.v (O.ixI (.imm rfl) (.lit rfl) sl23 hx71) rfl rfl .none <| RunL.v (O.fI (.iptr rfl) fd95_1) rfl rfl .none <| RunL.v (O.ldI (x := iR eAlt_0 x71.Alts) (.iptr rfl) ct93 rfl) rfl rfl .none <| RunL.v (O.lenI (.imm rfl) sl93) rfl rfl .none <| RunL.v (O.lss (.lit rfl) (.lit rfl)) rfl rfl .none <| RunL.fin (.n rfl (.n rfl (.n rfl (.n rfl (.n rfl (.n rfl .nil))))))) ?_
          refine Px.sq ?_
          refine W.cnd rfl (fun hb72 => ?_) (fun hb72 => ?_)
          · replace h := cndT hb72 h
            refine W.sk ?_
            refine Px.sq ?_
            refine W.sq' ?_
            refine W.bk ?_
            obtain ⟨x73, hx73, h⟩ := bnd h
            obtain ⟨x74, hx74, h⟩ := bnd h
            obtain ⟨x75, hx75, h⟩ := bnd h
            obtain ⟨x76, hx76, h⟩ := bnd h
            refine W.rd [[], [], [1], [], [1, 2, 3], [1, 2, 3, 4], [1, 2, 3, 4, 5], [], [7], [], [7, 8, 9], [7, 8, 9, 10], [7, 8, 9, 10, 11], [], [7, 8, 9, 10, 11, 12, 13], [7, 8, 9, 10, 11, 12, 13, 14], [0, 1, 2, 3, 4, 5, 6, 7, 8, 9, 10, 11, 12, 13, 14, 15]] [(1, _), (2, _), (6, _), (16, _), (17, _)] mixo (by kernel_rfl) (DL.v 0 (O.mv (.obj rfl)) rfl rfl rfl rfl .none <| DL.v 1 (O.fO rfl (.obj rfl) fd25_2 rfl) rfl rfl rfl rfl .none <| DL.v 2 (O.ldO (y := iR eRule_0 a0.Rules) rfl (.ptr rfl) ct23 rfl rfl) rfl rfl rfl rfl .none <| DL.v 3 (O.mv (.lit rfl)) rfl rfl rfl rfl .none <| DL.v 4 (O.ixI (.imm rfl) (.lit rfl) sl23 hx73) rfl rfl rfl rfl .none <| DL.v 5 (O.fI (.iptr rfl) fd95_0) rfl rfl rfl rfl .none <| DL.v 6 (O.ldI (x := SS x73.Left) (.iptr rfl) ct9 rfl) rfl rfl rfl rfl .none <| DL.v 7 (O.fO rfl (.obj rfl) fd25_2 rfl) rfl rfl rfl rfl .none <| DL.v 8 (O.ldO (y := iR eRule_0 a0.Rules) rfl (.ptr rfl) ct23 rfl rfl) rfl rfl rfl rfl .none <| DL.v 9 (O.mv (.lit rfl)) rfl rfl rfl rfl .none <| DL.v 10 (O.ixI (.imm rfl) (.lit rfl) sl23 hx74) rfl rfl rfl rfl .none <| DL.v 11 (O.fI (.iptr rfl) fd95_1) rfl rfl rfl rfl .none <| DL.v 12 (O.ldI (x := iR eAlt_0 x74.Alts) (.iptr rfl) ct93 rfl) rfl rfl rfl rfl .none <| DL.v 13 (O.mv (.lit rfl)) rfl rfl rfl rfl .none <| DL.v 14 (O.ixI (.imm rfl) (.lit rfl) sl93 hx75) rfl rfl rfl rfl .none <| DL.v 15 (O.ldIN (cs' := [iR ePart x75.Parts, SS x75.Prec.Name, BB x75.Prec.Lit, I64 x75.Prec.Num, I64 x75.Prec.At, I64 x75.At]) (.iptr rfl) at98 rfl rfl) rfl rfl rfl rfl .none <| DL.bp 16 (G2 := [(247, .tup []), (6, .obj [oR eTok x76.f_g.Toks, oR eNon x76.f_g.Nons, oR eProd_0 x76.f_g.Prods, SS x76.f_g.Pro, SS x76.f_g.Tail, oR eB x76.f_given, oR eNon x76.f_types, oR eS x76.f_lefts, I64 x76.f_e, I64 x76.f_at, SS x76.f_name, I64 x76.f_level, I64 x76.f_inner]), (1, .obj [SS a0.Pro, iR eDecl_0 a0.Decls, iR eRule_0 a0.Rules, SS a0.Tail]), (2, .obj [.nils, .nils, .nils, SS ({ data := #[] }), SS ({ data := #[] })]), (16, I64 s64.2), (17, I64 s68.2)]) (EO.call rfl rfl (CallOk.ln (G2 := [(1, .obj [SS a0.Pro, iR eDecl_0 a0.Decls, iR eRule_0 a0.Rules, SS a0.Tail]), (2, .obj [.nils, .nils, .nils, SS ({ data := #[] }), SS ({ data := #[] })]), (16, I64 s64.2), (17, I64 s68.2)]) (A := []) (ys := [.ptr ⟨6, []⟩ 0, SS x73.Left, .agg [iR ePart x75.Parts, SS x75.Prec.Name, BB x75.Prec.Lit, I64 x75.Prec.Num, I64 x75.Prec.At, I64 x75.At]]) (args := [.obj [oR eTok s68.1.f_g.Toks, oR eNon s68.1.f_g.Nons, oR eProd_0 s68.1.f_g.Prods, SS s68.1.f_g.Pro, SS s68.1.f_g.Tail, oR eB s68.1.f_given, oR eNon s68.1.f_types, oR eS s68.1.f_lefts, I64 s68.1.f_e, I64 s68.1.f_at, SS s68.1.f_name, I64 s68.1.f_level, I64 s68.1.f_inner], SS x73.Left, .agg [iR ePart x75.Parts, SS x75.Prec.Name, BB x75.Prec.Lit, I64 x75.Prec.Num, I64 x75.Prec.At, I64 x75.At]]) (cs' := [oR eTok x76.f_g.Toks, oR eNon x76.f_g.Nons, oR eProd_0 x76.f_g.Prods, SS x76.f_g.Pro, SS x76.f_g.Tail, oR eB x76.f_given, oR eNon x76.f_types, oR eS x76.f_lefts, I64 x76.f_e, I64 x76.f_at, SS x76.f_name, I64 x76.f_level, I64 x76.f_inner]) (k0 := 0) rfl rfl rfl rfl (.b rfl (.n rfl (.n rfl .nil))) rfl (con68 s68.1 x73.Left x75 _ hx76) call68 (.n rfl (.n rfl (.n rfl (.n rfl .nil)))) rfl rfl (.n rfl (.n rfl (.n rfl (.n rfl .nil)))) .nil rfl)) rfl rfl rfl rfl (by kernel_rfl) (by kernel_rfl) <| DL.fin rfl rfl rfl (.n rfl (.n rfl (.n rfl (.n rfl (.n rfl .nil)))))) ?_
            refine Px.bk ?_
            refine Px.sq ?_
            refine W.rx [(1, _), (2, _), (6, _), (16, _), (17, _)] (RunL.v (O.mv (.lit rfl)) rfl rfl .none <| RunL.v (O.add (.lit rfl) (.k rfl)) rfl rfl .none <| RunL.re (G1 := [(1, .obj [SS a0.Pro, iR eDecl_0 a0.Decls, iR eRule_0 a0.Rules, SS a0.Tail]), (2, .obj [.nils, .nils, .nils, SS ({ data := #[] }), SS ({ data := #[] })]), (6, .obj [oR eTok x76.f_g.Toks, oR eNon x76.f_g.Nons, oR eProd_0 x76.f_g.Prods, SS x76.f_g.Pro, SS x76.f_g.Tail, oR eB x76.f_given, oR eNon x76.f_types, oR eS x76.f_lefts, I64 x76.f_e, I64 x76.f_at, SS x76.f_name, I64 x76.f_level, I64 x76.f_inner]), (16, I64 s64.2), (230, I64 (w64 (s68.2 + 1)))]) (.n rfl (.n rfl (.n rfl (.n rfl (.n rfl .nil))))) <| RunL.v (O.as (.lit rfl)) rfl rfl .none <| RunL.fin (.n rfl (.n rfl (.n rfl (.n rfl (.n rfl .nil)))))) ?_
            obtain rfl := sm h
            exact Px.go (.n rfl (.n rfl (.n rfl (.n rfl (.n rfl .nil)))))
          · replace h := cndF hb72 h
            refine W.xi ?_
            refine Px.sqE ?_
            obtain rfl := sm h
            exact Px.x1 (.n rfl (.n rfl (.n rfl (.n rfl .nil))))
        refine Px.bkH ?_
        refine Px.bk ?_
        refine Px.sq ?_
        refine W.rx [(1, _), (2, _), (6, _), (16, _)] (RunL.v (O.mv (.lit rfl)) rfl rfl .none <| RunL.v (O.add (.lit rfl) (.k rfl)) rfl rfl .none <| RunL.re (G1 := [(1, .obj [SS a0.Pro, iR eDecl_0 a0.Decls, iR eRule_0 a0.Rules, SS a0.Tail]), (2, .obj [.nils, .nils, .nils, SS ({ data := #[] }), SS ({ data := #[] })]), (6, .obj [oR eTok x69.f_g.Toks, oR eNon x69.f_g.Nons, oR eProd_0 x69.f_g.Prods, SS x69.f_g.Pro, SS x69.f_g.Tail, oR eB x69.f_given, oR eNon x69.f_types, oR eS x69.f_lefts, I64 x69.f_e, I64 x69.f_at, SS x69.f_name, I64 x69.f_level, I64 x69.f_inner]), (219, I64 (w64 (s64.2 + 1)))]) (.n rfl (.n rfl (.n rfl (.n rfl .nil)))) <| RunL.v (O.as (.lit rfl)) rfl rfl .none <| RunL.fin (.n rfl (.n rfl (.n rfl (.n rfl .nil))))) ?_
        obtain rfl := sm h
        exact Px.go (.n rfl (.n rfl (.n rfl (.n rfl .nil))))
      · replace h := cndF hb67 h
        refine W.xi ?_
        refine Px.sqE ?_
        obtain rfl := sm h
        exact Px.x1 (.n rfl (.n rfl (.n rfl .nil)))
    refine Px.bkH ?_
    refine Px.sq ?_
    refine W.sq' ?_
    refine W.sq' ?_
    refine W.rx [(1, _), (2, _), (6, _), (252, _)] (RunL.v (O.mv (.obj rfl)) rfl rfl .none <| RunL.v (O.nlP (.ptr rfl)) rfl rfl .none <| RunL.v (O.fO rfl (.ptr rfl) fd128_4 rfl) rfl rfl .none <| RunL.v (O.ldO (y := I64 x65.f_e) rfl (.ptr rfl) ct3 rfl rfl) rfl rfl .none <| RunL.v (O.neq (.lit rfl) (.k rfl)) rfl rfl .none <| RunL.fin (.n rfl (.n rfl (.n rfl (.n rfl .nil))))) ?_
    refine Px.sq ?_
    refine W.cnd rfl (fun hb77 => ?_) (fun hb77 => ?_)
    · replace h := cndT hb77 h
      refine W.sq' ?_
      refine W.rd [[], [], [1], [1, 2], [1, 2, 3], [], [5], [5, 6], [5, 6, 7], [], [9], [9, 10], [9, 10, 11], [0], [0, 1, 2, 3, 4, 13], [0, 1, 2, 3, 4, 5, 6, 7, 8, 13, 14], [0, 1, 2, 3, 4, 5, 6, 7, 8, 9, 10, 11, 12, 13, 14, 15]] [(2, _), (3, _), (4, _), (5, _)] mixo (by kernel_rfl) (DL.v 0 (O.bu (cs := [.nils, .nils, .nils, SS ({ data := #[] }), SS ({ data := #[] })]) sc38 ze38 rfl rfl rfl) rfl rfl rfl rfl .none <| DL.v 1 (O.mv (.obj rfl)) rfl rfl rfl rfl .none <| DL.v 2 (O.nlP (.ptr rfl)) rfl rfl rfl rfl .none <| DL.v 3 (O.fO rfl (.ptr rfl) fd128_4 rfl) rfl rfl rfl rfl .none <| DL.v 4 (O.ldO (y := I64 x65.f_e) rfl (.ptr rfl) ct3 rfl rfl) rfl rfl rfl rfl .none <| DL.v 5 (O.mv (.obj rfl)) rfl rfl rfl rfl .none <| DL.v 6 (O.nlP (.ptr rfl)) rfl rfl rfl rfl .none <| DL.v 7 (O.fO rfl (.ptr rfl) fd128_5 rfl) rfl rfl rfl rfl .none <| DL.v 8 (O.ldO (y := I64 x65.f_at) rfl (.ptr rfl) ct3 rfl rfl) rfl rfl rfl rfl .none <| DL.v 9 (O.mv (.obj rfl)) rfl rfl rfl rfl .none <| DL.v 10 (O.nlP (.ptr rfl)) rfl rfl rfl rfl .none <| DL.v 11 (O.fO rfl (.ptr rfl) fd128_6 rfl) rfl rfl rfl rfl .none <| DL.v 12 (O.ldO (y := SS x65.f_name) rfl (.ptr rfl) ct9 rfl rfl) rfl rfl rfl rfl .none <| DL.bu 13 (G2 := [(2, .obj [.nils, .nils, .nils, SS ({ data := #[] }), SS ({ data := #[] })]), (6, .obj [oR eTok x65.f_g.Toks, oR eNon x65.f_g.Nons, oR eProd_0 x65.f_g.Prods, SS x65.f_g.Pro, SS x65.f_g.Tail, oR eB x65.f_given, oR eNon x65.f_types, oR eS x65.f_lefts, I64 x65.f_e, I64 x65.f_at, SS x65.f_name, I64 x65.f_level, I64 x65.f_inner])]) (U := [(12, 265, some (SS x65.f_name)), (11, 264, some (.ptr ⟨6, []⟩ 10)), (10, 263, some (.ptr ⟨6, []⟩ 0)), (9, 262, some (.ptr ⟨6, []⟩ 0)), (8, 261, some (I64 x65.f_at)), (7, 260, some (.ptr ⟨6, []⟩ 9)), (6, 259, some (.ptr ⟨6, []⟩ 0)), (5, 258, some (.ptr ⟨6, []⟩ 0)), (4, 257, some (I64 x65.f_e)), (3, 256, some (.ptr ⟨6, []⟩ 8)), (2, 255, some (.ptr ⟨6, []⟩ 0)), (1, 254, some (.ptr ⟨6, []⟩ 0))]) (EffOk.v (EO.eff (EO.sO (G2 := [(2, .obj [.nils, .nils, .nils, SS ({ data := #[] }), SS ({ data := #[] })]), (6, .obj [oR eTok x65.f_g.Toks, oR eNon x65.f_g.Nons, oR eProd_0 x65.f_g.Prods, SS x65.f_g.Pro, SS x65.f_g.Tail, oR eB x65.f_given, oR eNon x65.f_types, oR eS x65.f_lefts, I64 x65.f_e, I64 x65.f_at, SS x65.f_name, I64 x65.f_level, I64 x65.f_inner])]) (cs2 := [.nils, .nils, .nils, SS ({ data := #[] }), SS ({ data := #[] })]) rfl rfl rfl (.obj rfl) (.aggF rfl rfl) rfl sz38 rfl rfl rfl rfl (.b rfl (.n rfl rfl .nil))))) rfl rfl (by kernel_rfl) rfl rfl rfl (.c (.inr (.inl ⟨_, rfl⟩)) rfl rfl rfl rfl rfl (Gd.wanted .none) (O.ldO (y := SS x65.f_name) rfl (.ptr rfl) ct9 rfl rfl) (.c (.inr (.inr (.inr ⟨6, _, _, rfl, rfl, of_blt rfl, by simp⟩))) rfl rfl rfl rfl rfl (Gd.wanted .none) (O.fO rfl (.ptr rfl) fd128_6 rfl) (.c (.inr (.inr (.inr ⟨6, _, _, rfl, rfl, of_blt rfl, by simp⟩))) rfl rfl rfl rfl rfl (Gd.wanted .none) (O.nlP (.ptr rfl)) (.c (.inr (.inr (.inr ⟨6, _, _, rfl, rfl, of_blt rfl, by simp⟩))) rfl rfl rfl rfl rfl (Gd.wanted .none) (O.mv (.obj rfl)) (.c (.inr (.inl ⟨_, rfl⟩)) rfl rfl rfl rfl rfl (Gd.wanted .none) (O.ldO (y := I64 x65.f_at) rfl (.ptr rfl) ct3 rfl rfl) (.c (.inr (.inr (.inr ⟨6, _, _, rfl, rfl, of_blt rfl, by simp⟩))) rfl rfl rfl rfl rfl (Gd.wanted .none) (O.fO rfl (.ptr rfl) fd128_5 rfl) (.c (.inr (.inr (.inr ⟨6, _, _, rfl, rfl, of_blt rfl, by simp⟩))) rfl rfl rfl rfl rfl (Gd.wanted .none) (O.nlP (.ptr rfl)) (.c (.inr (.inr (.inr ⟨6, _, _, rfl, rfl, of_blt rfl, by simp⟩))) rfl rfl rfl rfl rfl (Gd.wanted .none) (O.mv (.obj rfl)) (.c (.inr (.inl ⟨_, rfl⟩)) rfl rfl rfl rfl rfl (Gd.wanted .none) (O.ldO (y := I64 x65.f_e) rfl (.ptr rfl) ct3 rfl rfl) (.c (.inr (.inr (.inr ⟨6, _, _, rfl, rfl, of_blt rfl, by simp⟩))) rfl rfl rfl rfl rfl (Gd.wanted .none) (O.fO rfl (.ptr rfl) fd128_4 rfl) (.c (.inr (.inr (.inr ⟨6, _, _, rfl, rfl, of_blt rfl, by simp⟩))) rfl rfl rfl rfl rfl (Gd.wanted .none) (O.nlP (.ptr rfl)) (.c (.inr (.inr (.inr ⟨6, _, _, rfl, rfl, of_blt rfl, by simp⟩))) rfl rfl rfl rfl rfl (Gd.wanted .none) (O.mv (.obj rfl)) .nil)))))))))))) (by kernel_rfl) <| DL.v 14 (O.as (.lit rfl)) rfl rfl rfl rfl .none <| DL.v 15 (O.as (.lit rfl)) rfl rfl rfl rfl .none <| DL.v 16 (O.as (.lit rfl)) rfl rfl rfl rfl .none <| DL.fin rfl rfl rfl (.n rfl (.n rfl (.n rfl (.n rfl .nil))))) ?_
      refine Px.sq ?_
      refine W.fz (G1 := [(2, .obj [iR eTok ([] : List Tok), iR eNon ([] : List Non), iR eProd_0 ([] : List Prod), SS ({ data := #[] }), SS ({ data := #[] })]), (3, I64 x65.f_e), (4, I64 x65.f_at), (5, SS x65.f_name)]) [2] (.z rfl rfl (FzL.obj (.z (.z (.z (.f (.f .nil)))))) (.n rfl rfl (.n rfl rfl (.n rfl rfl .nil)))) ?_
      refine W.rt ?_
      refine Px.sqR ?_
      obtain rfl := sm h
      exact Px.fin (Fin.ro (.c (ys0 := [iR eTok ([] : List Tok), iR eNon ([] : List Non), iR eProd_0 ([] : List Prod), SS ({ data := #[] }), SS ({ data := #[] })]) rfl at38 rfl rfl rfl (.f rfl (.f rfl (.f rfl (.f rfl (.f rfl .nil))))) (.f rfl rfl (.f rfl rfl (.f rfl rfl .nil)))) rfl (of_decide_eq_true (by kernel_rfl)) (.no .nil) rfl (.inr rfl))
    · replace h := cndF hb77 h
      refine W.sk ?_
      refine Px.sq ?_
      refine W.sq' ?_
      refine W.rx [(1, _), (2, _), (6, _)] (RunL.v (O.mv (.obj rfl)) rfl rfl .none <| RunL.v (O.bu (cs := [SS ({ data := #[36, 97, 99, 99, 101, 112, 116] }), SS ({ data := #[] })]) sc135 ze135 rfl rfl rfl) rfl rfl .none <| RunL.v (O.bs (ys := [.agg [SS ({ data := #[36, 97, 99, 99, 101, 112, 116] }), SS ({ data := #[] })]]) eNon [(⟨{ data := #[36, 97, 99, 99, 101, 112, 116] }, { data := #[] }⟩ : Non)] sl35 rfl rfl rfl rfl rfl rfl zt135 rfl rfl) rfl rfl .none <| RunL.v (O.nlP (.ptr rfl)) rfl rfl .none <| RunL.v (O.fO rfl (.ptr rfl) fd128_0 rfl) rfl rfl .none <| RunL.v (O.fO rfl (.ptr rfl) fd38_1 rfl) rfl rfl .none <| RunL.ef (G2 := [(1, .obj [SS a0.Pro, iR eDecl_0 a0.Decls, iR eRule_0 a0.Rules, SS a0.Tail]), (2, .obj [.nils, .nils, .nils, SS ({ data := #[] }), SS ({ data := #[] })]), (6, .obj [oR eTok x65.f_g.Toks, oR eNon [(⟨{ data := #[36, 97, 99, 99, 101, 112, 116] }, { data := #[] }⟩ : Non)], oR eProd_0 x65.f_g.Prods, SS x65.f_g.Pro, SS x65.f_g.Tail, oR eB x65.f_given, oR eNon x65.f_types, oR eS x65.f_lefts, I64 x65.f_e, I64 x65.f_at, SS x65.f_name, I64 x65.f_level, I64 x65.f_inner])]) rfl (EO.stB (y' := oR eNon [(⟨{ data := #[36, 97, 99, 99, 101, 112, 116] }, { data := #[] }⟩ : Non)]) (cs2 := [oR eTok x65.f_g.Toks, oR eNon [(⟨{ data := #[36, 97, 99, 99, 101, 112, 116] }, { data := #[] }⟩ : Non)], oR eProd_0 x65.f_g.Prods, SS x65.f_g.Pro, SS x65.f_g.Tail, oR eB x65.f_given, oR eNon x65.f_types, oR eS x65.f_lefts, I64 x65.f_e, I64 x65.f_at, SS x65.f_name, I64 x65.f_level, I64 x65.f_inner]) rfl rfl (.ptr rfl) (.own rfl) (.r rfl .nil) .refl rfl sz35 rfl rfl rfl rfl rfl (.n rfl rfl (.n rfl rfl (.b rfl .nil)))) <| RunL.fin (.n rfl (.n rfl (.n rfl .nil)))) ?_
      refine Px.sq ?_
      refine W.sq' ?_
      refine W.sq' ?_
      refine W.rx [(1, _), (2, _), (6, _), (18, _)] (RunL.v (O.as (.k rfl)) rfl rfl .none <| RunL.fin (.n rfl (.n rfl (.n rfl (.n rfl .nil))))) ?_
      refine Px.sq ?_
      refine W.bk ?_
      obtain ⟨x79, hl, h⟩ := bnd h
      refine W.tr (G1 := [(1, .obj [SS a0.Pro, iR eDecl_0 a0.Decls, iR eRule_0 a0.Rules, SS a0.Tail]), (2, .obj [.nils, .nils, .nils, SS ({ data := #[] }), SS ({ data := #[] })]), (6, .obj [oR eTok x65.f_g.Toks, oR eNon [(⟨{ data := #[36, 97, 99, 99, 101, 112, 116] }, { data := #[] }⟩ : Non)], oR eProd_0 x65.f_g.Prods, SS x65.f_g.Pro, SS x65.f_g.Tail, oR eB x65.f_given, oR eNon x65.f_types, oR eS x65.f_lefts, I64 x65.f_e, I64 x65.f_at, SS x65.f_name, I64 x65.f_level, I64 x65.f_inner]), (18, I64 0)]) (.n rfl (.n rfl (.n rfl (.n rfl .nil)))) ?_
      refine W.lp1 (s := ([(⟨{ data := #[36, 97, 99, 99, 101, 112, 116] }, { data := #[] }⟩ : Non)], 0)) (fun (s78 : List Non × Int) => [(1, .obj [SS a0.Pro, iR eDecl_0 a0.Decls, iR eRule_0 a0.Rules, SS a0.Tail]), (2, .obj [.nils, .nils, .nils, SS ({ data := #[] }), SS ({ data := #[] })]), (6, .obj [oR eTok x65.f_g.Toks, oR eNon s78.1, oR eProd_0 x65.f_g.Prods, SS x65.f_g.Pro, SS x65.f_g.Tail, oR eB x65.f_given, oR eNon x65.f_types, oR eS x65.f_lefts, I64 x65.f_e, I64 x65.f_at, SS x65.f_name, I64 x65.f_level, I64 x65.f_inner]), (18, I64 s78.2)]) 14 (fun (x79 : List Non) => [(1, .obj [SS a0.Pro, iR eDecl_0 a0.Decls, iR eRule_0 a0.Rules, SS a0.Tail]), (2, .obj [.nils, .nils, .nils, SS ({ data := #[] }), SS ({ data := #[] })]), (6, .obj [oR eTok x65.f_g.Toks, oR eNon x79, oR eProd_0 x65.f_g.Prods, SS x65.f_g.Pro, SS x65.f_g.Tail, oR eB x65.f_given, oR eNon x65.f_types, oR eS x65.f_lefts, I64 x65.f_e, I64 x65.f_at, SS x65.f_name, I64 x65.f_level, I64 x65.f_inner])]) hl (fun s78 o h => ?_) ?_
      · clear hl
        refine W.sq' ?_
        refine W.sq' ?_
        refine W.rx [(1, _), (2, _), (6, _), (18, _), (278, _)] (RunL.v (O.mv (.lit rfl)) rfl rfl .none <| RunL.v (O.mv (.obj rfl)) rfl rfl .none <| RunL.v (O.nlP (.ptr rfl)) rfl rfl .none <| RunL.v (O.fO rfl (.ptr rfl) fd128_3 rfl) rfl rfl .none <| RunL.v (O.ldO (y := .brw eS.z ⟨6, [7]⟩ x65.f_lefts.length) rfl (.ptr rfl) ct61 rfl rfl) rfl rfl .none <| RunL.v (O.lenO (.brw rfl) sl61) rfl rfl .none <| RunL.v (O.lss (.lit rfl) (.lit rfl)) rfl rfl .none <| RunL.fin (.n rfl (.n rfl (.n rfl (.n rfl (.n rfl .nil)))))) ?_
        refine Px.sq ?_
        refine W.cnd rfl (fun hb81 => ?_) (fun hb81 => ?_)
        · replace h := cndT hb81 h
          refine W.sk ?_
          refine Px.sq ?_
          refine W.sq' ?_
          refine W.bk ?_
          refine W.sq' ?_
          obtain ⟨x82, hx82, h⟩ := bnd h
          refine W.rx [(1, _), (2, _), (6, _), (18, _), (19, _)] (RunL.v (O.mv (.obj rfl)) rfl rfl .none <| RunL.v (O.nlP (.ptr rfl)) rfl rfl .none <| RunL.v (O.fO rfl (.ptr rfl) fd128_3 rfl) rfl rfl .none <| RunL.v (O.ldO (y := .brw eS.z ⟨6, [7]⟩ x65.f_lefts.length) rfl (.ptr rfl) ct61 rfl rfl) rfl rfl .none <| RunL.v (O.mv (.lit rfl)) rfl rfl .none <| RunL.v (O.ixO (en := eS) rfl (.brw rfl) (.lit rfl) sl61 hx82 rfl) rfl rfl .none <| RunL.v (O.ldE (en := eS) (x' := SS x82) rfl (.ptr rfl) ct9 hx82 rfl rfl) rfl rfl .none <| RunL.v (O.bu (cs := [SS x82, SS ({ data := #[] })]) sc135 ze135 rfl rfl rfl) rfl rfl .none <| RunL.v (O.al (cs := [SS ({ data := #[] }), SS ({ data := #[] })]) ze135 rfl rfl) rfl rfl .none <| RunL.sO (G2 := [(1, .obj [SS a0.Pro, iR eDecl_0 a0.Decls, iR eRule_0 a0.Rules, SS a0.Tail]), (2, .obj [.nils, .nils, .nils, SS ({ data := #[] }), SS ({ data := #[] })]), (6, .obj [oR eTok x65.f_g.Toks, oR eNon s78.1, oR eProd_0 x65.f_g.Prods, SS x65.f_g.Pro, SS x65.f_g.Tail, oR eB x65.f_given, oR eNon x65.f_types, oR eS x65.f_lefts, I64 x65.f_e, I64 x65.f_at, SS x65.f_name, I64 x65.f_level, I64 x65.f_inner]), (18, I64 s78.2), (19, .obj [SS x82, SS ({ data := #[] })])]) (cs2 := [SS x82, SS ({ data := #[] })]) rfl (.obj rfl) (.aggF rfl rfl) rfl sz135 rfl rfl rfl rfl (.n rfl rfl (.n rfl rfl (.n rfl rfl (.n rfl rfl (.b rfl .nil))))) <| RunL.fin (.n rfl (.n rfl (.n rfl (.n rfl (.n rfl .nil)))))) ?_
          refine Px.sq ?_
          refine W.sq' ?_
          refine W.sq' ?_
          obtain ⟨x83, hx83, h⟩ := bnd h
          refine W.rx [(1, _), (2, _), (6, _), (18, _), (19, _), (20, _)] (RunL.v (O.mv (.obj rfl)) rfl rfl .none <| RunL.v (O.fO rfl (.obj rfl) fd135_0 rfl) rfl rfl .none <| RunL.v (O.ldO (y := SS x82) rfl (.ptr rfl) ct9 rfl rfl) rfl rfl .none <| RunL.c (PC.vw (ys := [.ptr ⟨6, []⟩ 0, SS x82]) rfl (.c (View.p0 rfl rfl) (.s .nil)) (con69 (⟨(⟨x65.f_g.Toks, s78.1, x65.f_g.Prods, x65.f_g.Pro, x65.f_g.Tail⟩ : Grammar), x65.f_given, x65.f_types, x65.f_lefts, x65.f_e, x65.f_at, x65.f_name, x65.f_level, x65.f_inner⟩ : yuccaref9_maker) x82 _ hx83) call69 rfl) rfl rfl .none <| RunL.v (O.as (.lit rfl)) rfl rfl .none <| RunL.fin (.n rfl (.n rfl (.n rfl (.n rfl (.n rfl (.n rfl .nil))))))) ?_
          refine Px.sq ?_
          refine W.sq' ?_
          refine W.rx [(1, _), (2, _), (6, _), (18, _), (19, _), (20, _), (294, _)] (RunL.v (O.mv (.lit rfl)) rfl rfl .none <| RunL.v (O.geq (.lit rfl) (.k rfl)) rfl rfl .none <| RunL.fin (.n rfl (.n rfl (.n rfl (.n rfl (.n rfl (.n rfl (.n rfl .nil)))))))) ?_
          refine Px.sq ?_
          obtain ⟨j84, hj, h⟩ := bnd h
          refine W.jn [(1, .obj [SS a0.Pro, iR eDecl_0 a0.Decls, iR eRule_0 a0.Rules, SS a0.Tail]), (2, .obj [.nils, .nils, .nils, SS ({ data := #[] }), SS ({ data := #[] })]), (6, .obj [oR eTok x65.f_g.Toks, oR eNon s78.1, oR eProd_0 x65.f_g.Prods, SS x65.f_g.Pro, SS x65.f_g.Tail, oR eB x65.f_given, oR eNon x65.f_types, oR eS x65.f_lefts, I64 x65.f_e, I64 x65.f_at, SS x65.f_name, I64 x65.f_level, I64 x65.f_inner]), (18, I64 s78.2), (19, .obj [SS x82, SS j84])] ?_ ?_
          · clear h; have h := hj; clear hj
            refine W.cnd rfl (fun hb85 => ?_) (fun hb85 => ?_)
            · replace h := cndT hb85 h
              obtain ⟨x86, hx86, h⟩ := bnd h
              refine W.rx [(1, _), (2, _), (6, _), (18, _), (19, _)] (RunL.v (O.mv (.obj rfl)) rfl rfl .none <| RunL.v (O.nlP (.ptr rfl)) rfl rfl .none <| RunL.v (O.fO rfl (.ptr rfl) fd128_2 rfl) rfl rfl .none <| RunL.v (O.ldO (y := .brw eNon.z ⟨6, [6]⟩ x65.f_types.length) rfl (.ptr rfl) ct35 rfl rfl) rfl rfl .none <| RunL.v (O.mv (.lit rfl)) rfl rfl .none <| RunL.v (O.ixO (en := eNon) rfl (.brw rfl) (.lit rfl) sl35 hx86 rfl) rfl rfl .none <| RunL.v (O.fE (en := eNon) rfl (.ptr rfl) fd135_1 hx86 rfl rfl) rfl rfl .none <| RunL.v (O.ldE (en := eNon) (x' := SS x86.Tag) rfl (.ptr rfl) ct9 hx86 rfl rfl) rfl rfl .none <| RunL.v (O.fO rfl (.obj rfl) fd135_1 rfl) rfl rfl .none <| RunL.sO (G2 := [(1, .obj [SS a0.Pro, iR eDecl_0 a0.Decls, iR eRule_0 a0.Rules, SS a0.Tail]), (2, .obj [.nils, .nils, .nils, SS ({ data := #[] }), SS ({ data := #[] })]), (6, .obj [oR eTok x65.f_g.Toks, oR eNon s78.1, oR eProd_0 x65.f_g.Prods, SS x65.f_g.Pro, SS x65.f_g.Tail, oR eB x65.f_given, oR eNon x65.f_types, oR eS x65.f_lefts, I64 x65.f_e, I64 x65.f_at, SS x65.f_name, I64 x65.f_level, I64 x65.f_inner]), (18, I64 s78.2), (19, .obj [SS x82, SS x86.Tag])]) (cs2 := [SS x82, SS x86.Tag]) rfl (.ptr rfl) (.lit rfl) rfl sz9 rfl rfl rfl rfl (.n rfl rfl (.n rfl rfl (.n rfl rfl (.n rfl rfl (.b rfl .nil))))) <| RunL.fin (.n rfl (.n rfl (.n rfl (.n rfl (.n rfl .nil)))))) ?_
              obtain rfl := sm h
              exact Px.jn (.n rfl (.n rfl (.n rfl (.n rfl (.n rfl .nil)))))
            · replace h := cndF hb85 h
              refine W.sk ?_
              obtain rfl := sm h
              exact Px.jn (.n rfl (.n rfl (.n rfl (.n rfl (.n rfl .nil)))))
          refine Px.sq ?_
          obtain ⟨x87, hx87, h⟩ := bnd h
          refine W.rd [[], [], [1], [1, 2], [1, 2, 3], [1, 2, 3, 4], [], [6], [1, 2, 3, 4, 5, 6, 7], [0, 1, 2, 3, 4, 5, 6, 7, 8], [0, 1, 2, 3, 4, 5, 6, 7, 8, 9], [0, 1, 2, 3, 4, 5, 6, 7, 8, 9, 10], [0, 1, 2, 3, 4, 5, 6, 7, 8, 9, 10, 11]] [(1, _), (2, _), (6, _), (18, _)] mixo (by kernel_rfl) (DL.v 0 (O.mv (.obj rfl)) rfl rfl rfl rfl .none <| DL.v 1 (O.mv (.obj rfl)) rfl rfl rfl rfl .none <| DL.v 2 (O.nlP (.ptr rfl)) rfl rfl rfl rfl .none <| DL.v 3 (O.fO rfl (.ptr rfl) fd128_0 rfl) rfl rfl rfl rfl .none <| DL.v 4 (O.fO rfl (.ptr rfl) fd38_1 rfl) rfl rfl rfl rfl .none <| DL.v 5 (O.ldO (y := .brw eNon.z ⟨6, [1]⟩ s78.1.length) rfl (.ptr rfl) ct35 rfl rfl) rfl rfl rfl rfl .none <| DL.v 6 (O.ldON (cs' := [SS x82, SS j84]) rfl (.obj rfl) at135 rfl rfl) rfl rfl rfl rfl .none <| DL.vi 7 (x := iR eNon [(⟨x82, j84⟩ : Non)]) (O.bs (ys := [.agg [SS x82, SS j84]]) eNon [(⟨x82, j84⟩ : Non)] sl35 rfl rfl rfl rfl rfl rfl zt135 rfl rfl) rfl rfl rfl rfl .none <| DL.v 8 (O.ap (en := eNon) (r := x87) (.brw rfl) rfl (.imm rfl) .i ap35 rfl hx87) rfl rfl rfl rfl .none <| DL.v 9 (O.nlP (.ptr rfl)) rfl rfl rfl rfl .none <| DL.v 10 (O.fO rfl (.ptr rfl) fd128_0 rfl) rfl rfl rfl rfl .none <| DL.v 11 (O.fO rfl (.ptr rfl) fd38_1 rfl) rfl rfl rfl rfl .none <| DL.bp 12 (G2 := [(1, .obj [SS a0.Pro, iR eDecl_0 a0.Decls, iR eRule_0 a0.Rules, SS a0.Tail]), (2, .obj [.nils, .nils, .nils, SS ({ data := #[] }), SS ({ data := #[] })]), (6, .obj [oR eTok x65.f_g.Toks, oR eNon (s78.1 ++ [(⟨x82, j84⟩ : Non)]), oR eProd_0 x65.f_g.Prods, SS x65.f_g.Pro, SS x65.f_g.Tail, oR eB x65.f_given, oR eNon x65.f_types, oR eS x65.f_lefts, I64 x65.f_e, I64 x65.f_at, SS x65.f_name, I64 x65.f_level, I64 x65.f_inner]), (18, I64 s78.2)]) (EO.stP (g1 := _) (en := eNon) (M := [(⟨x82, j84⟩ : Non)]) (cs2 := [oR eTok x65.f_g.Toks, oR eNon (s78.1 ++ [(⟨x82, j84⟩ : Non)]), oR eProd_0 x65.f_g.Prods, SS x65.f_g.Pro, SS x65.f_g.Tail, oR eB x65.f_given, oR eNon x65.f_types, oR eS x65.f_lefts, I64 x65.f_e, I64 x65.f_at, SS x65.f_name, I64 x65.f_level, I64 x65.f_inner]) rfl rfl (.ptr rfl) (.pend rfl) rfl rfl rfl .ns .rf rfl rfl sz35 rfl rfl rfl rfl (.n rfl rfl (.n rfl rfl (.b rfl (.n rfl rfl .nil))))) rfl rfl rfl rfl (by kernel_rfl) (by kernel_rfl) <| DL.fin rfl rfl rfl (.n rfl (.n rfl (.n rfl (.n rfl .nil))))) ?_
          refine Px.bk ?_
          refine Px.sq ?_
          refine W.rx [(1, _), (2, _), (6, _), (18, _)] (RunL.v (O.mv (.lit rfl)) rfl rfl .none <| RunL.v (O.add (.lit rfl) (.k rfl)) rfl rfl .none <| RunL.re (G1 := [(1, .obj [SS a0.Pro, iR eDecl_0 a0.Decls, iR eRule_0 a0.Rules, SS a0.Tail]), (2, .obj [.nils, .nils, .nils, SS ({ data := #[] }), SS ({ data := #[] })]), (6, .obj [oR eTok x65.f_g.Toks, oR eNon (s78.1 ++ [(⟨x82, j84⟩ : Non)]), oR eProd_0 x65.f_g.Prods, SS x65.f_g.Pro, SS x65.f_g.Tail, oR eB x65.f_given, oR eNon x65.f_types, oR eS x65.f_lefts, I64 x65.f_e, I64 x65.f_at, SS x65.f_name, I64 x65.f_level, I64 x65.f_inner]), (280, I64 (w64 (s78.2 + 1)))]) (.n rfl (.n rfl (.n rfl (.n rfl .nil)))) <| RunL.v (O.as (.lit rfl)) rfl rfl .none <| RunL.fin (.n rfl (.n rfl (.n rfl (.n rfl .nil))))) ?_
          obtain rfl := sm h
          exact Px.go (.n rfl (.n rfl (.n rfl (.n rfl .nil))))
        · replace h := cndF hb81 h
          refine W.xi ?_
          refine Px.sqE ?_
          obtain rfl := sm h
          exact Px.x1 (.n rfl (.n rfl (.n rfl .nil)))
      refine Px.bkH ?_
      refine Px.sq ?_
      refine W.sq' ?_
      refine W.sq' ?_
      refine W.rx [(1, _), (2, _), (6, _), (21, _)] (RunL.v (O.as (.k rfl)) rfl rfl .none <| RunL.fin (.n rfl (.n rfl (.n rfl (.n rfl .nil))))) ?_
      refine Px.sq ?_
      refine W.bk ?_
      obtain ⟨x89, hl, h⟩ := bnd h
      refine W.tr (G1 := [(1, .obj [SS a0.Pro, iR eDecl_0 a0.Decls, iR eRule_0 a0.Rules, SS a0.Tail]), (2, .obj [.nils, .nils, .nils, SS ({ data := #[] }), SS ({ data := #[] })]), (6, .obj [oR eTok x65.f_g.Toks, oR eNon x79, oR eProd_0 x65.f_g.Prods, SS x65.f_g.Pro, SS x65.f_g.Tail, oR eB x65.f_given, oR eNon x65.f_types, oR eS x65.f_lefts, I64 x65.f_e, I64 x65.f_at, SS x65.f_name, I64 x65.f_level, I64 x65.f_inner]), (21, I64 1)]) (.n rfl (.n rfl (.n rfl (.n rfl .nil)))) ?_
      refine W.lp1 (s := (x79, 1)) (fun (s88 : List Non × Int) => [(1, .obj [SS a0.Pro, iR eDecl_0 a0.Decls, iR eRule_0 a0.Rules, SS a0.Tail]), (2, .obj [.nils, .nils, .nils, SS ({ data := #[] }), SS ({ data := #[] })]), (6, .obj [oR eTok x65.f_g.Toks, oR eNon s88.1, oR eProd_0 x65.f_g.Prods, SS x65.f_g.Pro, SS x65.f_g.Tail, oR eB x65.f_given, oR eNon x65.f_types, oR eS x65.f_lefts, I64 x65.f_e, I64 x65.f_at, SS x65.f_name, I64 x65.f_level, I64 x65.f_inner]), (21, I64 s88.2)]) 16 (fun (x89 : List Non) => [(1, .obj [SS a0.Pro, iR eDecl_0 a0.Decls, iR eRule_0 a0.Rules, SS a0.Tail]), (2, .obj [.nils, .nils, .nils, SS ({ data := #[] }), SS ({ data := #[] })]), (6, .obj [oR eTok x65.f_g.Toks, oR eNon x89, oR eProd_0 x65.f_g.Prods, SS x65.f_g.Pro, SS x65.f_g.Tail, oR eB x65.f_given, oR eNon x65.f_types, oR eS x65.f_lefts, I64 x65.f_e, I64 x65.f_at, SS x65.f_name, I64 x65.f_level, I64 x65.f_inner])]) hl (fun s88 o h => ?_) ?_
      · clear hl
        refine W.sq' ?_
        refine W.sq' ?_
        refine W.rx [(1, _), (2, _), (6, _), (21, _), (321, _)] (RunL.v (O.mv (.lit rfl)) rfl rfl .none <| RunL.v (O.mv (.obj rfl)) rfl rfl .none <| RunL.v (O.nlP (.ptr rfl)) rfl rfl .none <| RunL.v (O.fO rfl (.ptr rfl) fd128_8 rfl) rfl rfl .none <| RunL.v (O.ldO (y := I64 x65.f_inner) rfl (.ptr rfl) ct3 rfl rfl) rfl rfl .none <| RunL.v (O.leq (.lit rfl) (.lit rfl)) rfl rfl .none <| RunL.fin (.n rfl (.n rfl (.n rfl (.n rfl (.n rfl .nil)))))) ?_
        refine Px.sq ?_
        refine W.cnd rfl (fun hb91 => ?_) (fun hb91 => ?_)
        · replace h := cndT hb91 h
          refine W.sk ?_
          refine Px.sq ?_
          refine W.sq' ?_
          refine W.bk ?_
          obtain ⟨x92, hx92, h⟩ := bnd h
          obtain ⟨x93, hx93, h⟩ := bnd h
          obtain ⟨x94, hx94, h⟩ := bnd h
          refine W.rd [[], [], [1], [1, 2], [1, 2, 3], [1, 2, 3, 4], [], [6], [6, 7], [6, 7, 8], [6, 7, 8, 9], [1, 2, 3, 4, 5, 6, 7, 8, 9, 10], [0, 1, 2, 3, 4, 5, 6, 7, 8, 9, 10, 11], [0, 1, 2, 3, 4, 5, 6, 7, 8, 9, 10, 11, 12], [0, 1, 2, 3, 4, 5, 6, 7, 8, 9, 10, 11, 12, 13], [0, 1, 2, 3, 4, 5, 6, 7, 8, 9, 10, 11, 12, 13, 14]] [(1, _), (2, _), (6, _), (21, _)] mixo (by kernel_rfl) (DL.v 0 (O.mv (.obj rfl)) rfl rfl rfl rfl .none <| DL.v 1 (O.mv (.obj rfl)) rfl rfl rfl rfl .none <| DL.v 2 (O.nlP (.ptr rfl)) rfl rfl rfl rfl .none <| DL.v 3 (O.fO rfl (.ptr rfl) fd128_0 rfl) rfl rfl rfl rfl .none <| DL.v 4 (O.fO rfl (.ptr rfl) fd38_1 rfl) rfl rfl rfl rfl .none <| DL.v 5 (O.ldO (y := .brw eNon.z ⟨6, [1]⟩ s88.1.length) rfl (.ptr rfl) ct35 rfl rfl) rfl rfl rfl rfl .none <| DL.v 6 (O.mv (.lit rfl)) rfl rfl rfl rfl .none <| DL.c 7 (PC.go (.cc (.lit rfl) .nil) (con52 s88.2 _ hx92) call52 rfl) rfl rfl rfl rfl .none <| DL.v 8 (O.cat (.k rfl) (.lit rfl) hx93) rfl rfl rfl rfl .none <| DL.v 9 (O.bu (cs := [SS x93, SS ({ data := #[] })]) sc135 ze135 rfl rfl rfl) rfl rfl rfl rfl .none <| DL.vi 10 (x := iR eNon [(⟨x93, { data := #[] }⟩ : Non)]) (O.bs (ys := [.agg [SS x93, SS ({ data := #[] })]]) eNon [(⟨x93, { data := #[] }⟩ : Non)] sl35 rfl rfl rfl rfl rfl rfl zt135 rfl rfl) rfl rfl rfl rfl .none <| DL.v 11 (O.ap (en := eNon) (r := x94) (.brw rfl) rfl (.imm rfl) .i ap35 rfl hx94) rfl rfl rfl rfl .none <| DL.v 12 (O.nlP (.ptr rfl)) rfl rfl rfl rfl .none <| DL.v 13 (O.fO rfl (.ptr rfl) fd128_0 rfl) rfl rfl rfl rfl .none <| DL.v 14 (O.fO rfl (.ptr rfl) fd38_1 rfl) rfl rfl rfl rfl .none <| DL.bp 15 (G2 := [(1, .obj [SS a0.Pro, iR eDecl_0 a0.Decls, iR eRule_0 a0.Rules, SS a0.Tail]), (2, .obj [.nils, .nils, .nils, SS ({ data := #[] }), SS ({ data := #[] })]), (6, .obj [oR eTok x65.f_g.Toks, oR eNon (s88.1 ++ [(⟨x93, { data := #[] }⟩ : Non)]), oR eProd_0 x65.f_g.Prods, SS x65.f_g.Pro, SS x65.f_g.Tail, oR eB x65.f_given, oR eNon x65.f_types, oR eS x65.f_lefts, I64 x65.f_e, I64 x65.f_at, SS x65.f_name, I64 x65.f_level, I64 x65.f_inner]), (21, I64 s88.2)]) (EO.stP (g1 := _) (en := eNon) (M := [(⟨x93, { data := #[] }⟩ : Non)]) (cs2 := [oR eTok x65.f_g.Toks, oR eNon (s88.1 ++ [(⟨x93, { data := #[] }⟩ : Non)]), oR eProd_0 x65.f_g.Prods, SS x65.f_g.Pro, SS x65.f_g.Tail, oR eB x65.f_given, oR eNon x65.f_types, oR eS x65.f_lefts, I64 x65.f_e, I64 x65.f_at, SS x65.f_name, I64 x65.f_level, I64 x65.f_inner]) rfl rfl (.ptr rfl) (.pend rfl) rfl rfl rfl .ns .rf rfl rfl sz35 rfl rfl rfl rfl (.n rfl rfl (.n rfl rfl (.b rfl (.n rfl rfl .nil))))) rfl rfl rfl rfl (by kernel_rfl) (by kernel_rfl) <| DL.fin rfl rfl rfl (.n rfl (.n rfl (.n rfl (.n rfl .nil))))) ?_
          refine Px.bk ?_
          refine Px.sq ?_
          refine W.rx [(1, _), (2, _), (6, _), (21, _)] (RunL.v (O.mv (.lit rfl)) rfl rfl .none <| RunL.v (O.add (.lit rfl) (.k rfl)) rfl rfl .none <| RunL.re (G1 := [(1, .obj [SS a0.Pro, iR eDecl_0 a0.Decls, iR eRule_0 a0.Rules, SS a0.Tail]), (2, .obj [.nils, .nils, .nils, SS ({ data := #[] }), SS ({ data := #[] })]), (6, .obj [oR eTok x65.f_g.Toks, oR eNon (s88.1 ++ [(⟨x93, { data := #[] }⟩ : Non)]), oR eProd_0 x65.f_g.Prods, SS x65.f_g.Pro, SS x65.f_g.Tail, oR eB x65.f_given, oR eNon x65.f_types, oR eS x65.f_lefts, I64 x65.f_e, I64 x65.f_at, SS x65.f_name, I64 x65.f_level, I64 x65.f_inner]), (323, I64 (w64 (s88.2 + 1)))]) (.n rfl (.n rfl (.n rfl (.n rfl .nil)))) <| RunL.v (O.as (.lit rfl)) rfl rfl .none <| RunL.fin (.n rfl (.n rfl (.n rfl (.n rfl .nil))))) ?_
          obtain rfl := sm h
          exact Px.go (.n rfl (.n rfl (.n rfl (.n rfl .nil))))
        · replace h := cndF hb91 h
          refine W.xi ?_
          refine Px.sqE ?_
          obtain rfl := sm h
          exact Px.x1 (.n rfl (.n rfl (.n rfl .nil)))
      refine Px.bkH ?_
      refine Px.sq ?_
      refine W.sq' ?_
      refine W.rx [(1, _), (2, _), (6, _), (22, _)] (RunL.v (O.as (.k rfl)) rfl rfl .none <| RunL.fin (.n rfl (.n rfl (.n rfl (.n rfl .nil))))) ?_
      refine Px.sq ?_
      refine W.sq' ?_
      refine W.sq' ?_
      refine W.rx [(1, _), (2, _), (6, _), (22, _), (23, _)] (RunL.v (O.as (.k rfl)) rfl rfl .none <| RunL.fin (.n rfl (.n rfl (.n rfl (.n rfl (.n rfl .nil)))))) ?_
      refine Px.sq ?_
      refine W.bk ?_
      obtain ⟨x96, hl, h⟩ := bnd h
      refine W.tr (G1 := [(1, .obj [SS a0.Pro, iR eDecl_0 a0.Decls, iR eRule_0 a0.Rules, SS a0.Tail]), (2, .obj [.nils, .nils, .nils, SS ({ data := #[] }), SS ({ data := #[] })]), (6, .obj [oR eTok x65.f_g.Toks, oR eNon x89, oR eProd_0 x65.f_g.Prods, SS x65.f_g.Pro, SS x65.f_g.Tail, oR eB x65.f_given, oR eNon x65.f_types, oR eS x65.f_lefts, I64 x65.f_e, I64 x65.f_at, SS x65.f_name, I64 x65.f_level, I64 x65.f_inner]), (22, I64 57346), (23, I64 3)]) (.n rfl (.n rfl (.n rfl (.n rfl (.n rfl .nil))))) ?_
      refine W.lp1 (s := (x65.f_g.Toks, 57346, 3)) (fun (s95 : List Tok × Int × Int) => [(1, .obj [SS a0.Pro, iR eDecl_0 a0.Decls, iR eRule_0 a0.Rules, SS a0.Tail]), (2, .obj [.nils, .nils, .nils, SS ({ data := #[] }), SS ({ data := #[] })]), (6, .obj [oR eTok s95.1, oR eNon x89, oR eProd_0 x65.f_g.Prods, SS x65.f_g.Pro, SS x65.f_g.Tail, oR eB x65.f_given, oR eNon x65.f_types, oR eS x65.f_lefts, I64 x65.f_e, I64 x65.f_at, SS x65.f_name, I64 x65.f_level, I64 x65.f_inner]), (22, I64 s95.2.1), (23, I64 s95.2.2)]) 18 (fun (x96 : List Tok) => [(1, .obj [SS a0.Pro, iR eDecl_0 a0.Decls, iR eRule_0 a0.Rules, SS a0.Tail]), (2, .obj [.nils, .nils, .nils, SS ({ data := #[] }), SS ({ data := #[] })]), (6, .obj [oR eTok x96, oR eNon x89, oR eProd_0 x65.f_g.Prods, SS x65.f_g.Pro, SS x65.f_g.Tail, oR eB x65.f_given, oR eNon x65.f_types, oR eS x65.f_lefts, I64 x65.f_e, I64 x65.f_at, SS x65.f_name, I64 x65.f_level, I64 x65.f_inner])]) hl (fun s95 o h => ?_) ?_
      · clear hl
        refine W.sq' ?_
        refine W.sq' ?_
        refine W.rx [(1, _), (2, _), (6, _), (22, _), (23, _), (346, _)] (RunL.v (O.mv (.lit rfl)) rfl rfl .none <| RunL.v (O.mv (.obj rfl)) rfl rfl .none <| RunL.v (O.nlP (.ptr rfl)) rfl rfl .none <| RunL.v (O.fO rfl (.ptr rfl) fd128_0 rfl) rfl rfl .none <| RunL.v (O.fO rfl (.ptr rfl) fd38_0 rfl) rfl rfl .none <| RunL.v (O.ldO (y := .brw eTok.z ⟨6, [0]⟩ s95.1.length) rfl (.ptr rfl) ct34 rfl rfl) rfl rfl .none <| RunL.v (O.lenO (.brw rfl) sl34) rfl rfl .none <| RunL.v (O.lss (.lit rfl) (.lit rfl)) rfl rfl .none <| RunL.fin (.n rfl (.n rfl (.n rfl (.n rfl (.n rfl (.n rfl .nil))))))) ?_
        refine Px.sq ?_
        refine W.cnd rfl (fun hb98 => ?_) (fun hb98 => ?_)
        · replace h := cndT hb98 h
          refine W.sk ?_
          refine Px.sq ?_
          refine W.sq' ?_
          obtain ⟨j99, hj, h⟩ := bnd h
          refine W.jn [(1, .obj [SS a0.Pro, iR eDecl_0 a0.Decls, iR eRule_0 a0.Rules, SS a0.Tail]), (2, .obj [.nils, .nils, .nils, SS ({ data := #[] }), SS ({ data := #[] })]), (6, .obj [oR eTok j99.1, oR eNon x89, oR eProd_0 x65.f_g.Prods, SS x65.f_g.Pro, SS x65.f_g.Tail, oR eB x65.f_given, oR eNon x65.f_types, oR eS x65.f_lefts, I64 x65.f_e, I64 x65.f_at, SS x65.f_name, I64 x65.f_level, I64 x65.f_inner]), (22, I64 j99.2), (23, I64 s95.2.2)] ?_ ?_
          · clear h; have h := hj; clear hj
            refine W.bk ?_
            refine W.sq' ?_
            obtain ⟨x100, hx100, h⟩ := bnd h
            refine W.rx [(1, _), (2, _), (6, _), (22, _), (23, _), (356, _)] (RunL.v (O.mv (.obj rfl)) rfl rfl .none <| RunL.v (O.nlP (.ptr rfl)) rfl rfl .none <| RunL.v (O.fO rfl (.ptr rfl) fd128_1 rfl) rfl rfl .none <| RunL.v (O.ldO (y := .brw eB.z ⟨6, [5]⟩ x65.f_given.length) rfl (.ptr rfl) ct102 rfl rfl) rfl rfl .none <| RunL.v (O.mv (.lit rfl)) rfl rfl .none <| RunL.v (O.ixO (en := eB) rfl (.brw rfl) (.lit rfl) sl102 hx100 rfl) rfl rfl .none <| RunL.v (O.ldE (en := eB) (x' := BB x100) rfl (.ptr rfl) ct4 hx100 rfl rfl) rfl rfl .none <| RunL.v (O.not (.lit rfl)) rfl rfl .none <| RunL.fin (.n rfl (.n rfl (.n rfl (.n rfl (.n rfl (.n rfl .nil))))))) ?_
            refine Px.sq ?_
            obtain ⟨j101, hj, h⟩ := bnd h
            refine W.jn [(1, .obj [SS a0.Pro, iR eDecl_0 a0.Decls, iR eRule_0 a0.Rules, SS a0.Tail]), (2, .obj [.nils, .nils, .nils, SS ({ data := #[] }), SS ({ data := #[] })]), (6, .obj [oR eTok j101.1, oR eNon x89, oR eProd_0 x65.f_g.Prods, SS x65.f_g.Pro, SS x65.f_g.Tail, oR eB x65.f_given, oR eNon x65.f_types, oR eS x65.f_lefts, I64 x65.f_e, I64 x65.f_at, SS x65.f_name, I64 x65.f_level, I64 x65.f_inner]), (22, I64 j101.2), (23, I64 s95.2.2)] ?_ ?_
            · clear h; have h := hj; clear hj
              refine W.cnd rfl (fun hb102 => ?_) (fun hb102 => ?_)
              · replace h := cndT hb102 h
                refine W.sq' ?_
                obtain ⟨x103, hx103, h⟩ := bnd h
                refine W.rx [(1, _), (2, _), (6, _), (22, _), (23, _)] (RunL.v (O.mv (.obj rfl)) rfl rfl .none <| RunL.v (O.nlP (.ptr rfl)) rfl rfl .none <| RunL.v (O.fO rfl (.ptr rfl) fd128_0 rfl) rfl rfl .none <| RunL.v (O.fO rfl (.ptr rfl) fd38_0 rfl) rfl rfl .none <| RunL.v (O.ldO (y := .brw eTok.z ⟨6, [0]⟩ s95.1.length) rfl (.ptr rfl) ct34 rfl rfl) rfl rfl .none <| RunL.v (O.mv (.lit rfl)) rfl rfl .none <| RunL.v (O.mv (.lit rfl)) rfl rfl .none <| RunL.v (O.ixO (en := eTok) rfl (.brw rfl) (.lit rfl) sl34 hx103 rfl) rfl rfl .none <| RunL.v (O.fE (en := eTok) rfl (.ptr rfl) fd52_2 hx103 rfl rfl) rfl rfl .none <| RunL.ef (G2 := [(1, .obj [SS a0.Pro, iR eDecl_0 a0.Decls, iR eRule_0 a0.Rules, SS a0.Tail]), (2, .obj [.nils, .nils, .nils, SS ({ data := #[] }), SS ({ data := #[] })]), (6, .obj [oR eTok (s95.1.set s95.2.2.toNat (⟨x103.Name, x103.Lit, s95.2.1, x103.Level, x103.Assoc, x103.Tag⟩ : Tok)), oR eNon x89, oR eProd_0 x65.f_g.Prods, SS x65.f_g.Pro, SS x65.f_g.Tail, oR eB x65.f_given, oR eNon x65.f_types, oR eS x65.f_lefts, I64 x65.f_e, I64 x65.f_at, SS x65.f_name, I64 x65.f_level, I64 x65.f_inner]), (22, I64 s95.2.1), (23, I64 s95.2.2)]) rfl (EO.stE (en := eTok) (y2 := (⟨x103.Name, x103.Lit, s95.2.1, x103.Level, x103.Assoc, x103.Tag⟩ : Tok)) (cs' := [I64 s95.2.1]) (x2 := .obj [oR eTok (s95.1.set s95.2.2.toNat (⟨x103.Name, x103.Lit, s95.2.1, x103.Level, x103.Assoc, x103.Tag⟩ : Tok)), oR eNon x89, oR eProd_0 x65.f_g.Prods, SS x65.f_g.Pro, SS x65.f_g.Tail, oR eB x65.f_given, oR eNon x65.f_types, oR eS x65.f_lefts, I64 x65.f_e, I64 x65.f_at, SS x65.f_name, I64 x65.f_level, I64 x65.f_inner]) rfl rfl (.ptr rfl) (.lit rfl) rfl hx103 sz3 rfl rfl rfl rfl rfl rfl rfl (.n rfl rfl (.n rfl rfl (.b rfl (.n rfl rfl (.n rfl rfl .nil)))))) <| RunL.fin (.n rfl (.n rfl (.n rfl (.n rfl (.n rfl .nil)))))) ?_
                refine Px.sq ?_
                refine W.rx [(1, _), (2, _), (6, _), (22, _), (23, _)] (RunL.v (O.mv (.lit rfl)) rfl rfl .none <| RunL.v (O.add (.lit rfl) (.k rfl)) rfl rfl .none <| RunL.re (G1 := [(1, .obj [SS a0.Pro, iR eDecl_0 a0.Decls, iR eRule_0 a0.Rules, SS a0.Tail]), (2, .obj [.nils, .nils, .nils, SS ({ data := #[] }), SS ({ data := #[] })]), (6, .obj [oR eTok (s95.1.set s95.2.2.toNat (⟨x103.Name, x103.Lit, s95.2.1, x103.Level, x103.Assoc, x103.Tag⟩ : Tok)), oR eNon x89, oR eProd_0 x65.f_g.Prods, SS x65.f_g.Pro, SS x65.f_g.Tail, oR eB x65.f_given, oR eNon x65.f_types, oR eS x65.f_lefts, I64 x65.f_e, I64 x65.f_at, SS x65.f_name, I64 x65.f_level, I64 x65.f_inner]), (23, I64 s95.2.2), (367, I64 (w64 (s95.2.1 + 1)))]) (.n rfl (.n rfl (.n rfl (.n rfl (.n rfl .nil))))) <| RunL.v (O.as (.lit rfl)) rfl rfl .none <| RunL.fin (.n rfl (.n rfl (.n rfl (.n rfl (.n rfl .nil)))))) ?_
                obtain rfl := sm h
                exact Px.jn (.n rfl (.n rfl (.n rfl (.n rfl (.n rfl .nil)))))
              · replace h := cndF hb102 h
                refine W.sk ?_
                obtain rfl := sm h
                exact Px.jn (.n rfl (.n rfl (.n rfl (.n rfl (.n rfl .nil)))))
            refine Px.bk ?_
            obtain rfl := sm h
            exact Px.jn (.n rfl (.n rfl (.n rfl (.n rfl (.n rfl .nil)))))
          refine Px.sq ?_
          refine W.rx [(1, _), (2, _), (6, _), (22, _), (23, _)] (RunL.v (O.mv (.lit rfl)) rfl rfl .none <| RunL.v (O.add (.lit rfl) (.k rfl)) rfl rfl .none <| RunL.re (G1 := [(1, .obj [SS a0.Pro, iR eDecl_0 a0.Decls, iR eRule_0 a0.Rules, SS a0.Tail]), (2, .obj [.nils, .nils, .nils, SS ({ data := #[] }), SS ({ data := #[] })]), (6, .obj [oR eTok j99.1, oR eNon x89, oR eProd_0 x65.f_g.Prods, SS x65.f_g.Pro, SS x65.f_g.Tail, oR eB x65.f_given, oR eNon x65.f_types, oR eS x65.f_lefts, I64 x65.f_e, I64 x65.f_at, SS x65.f_name, I64 x65.f_level, I64 x65.f_inner]), (22, I64 j99.2), (348, I64 (w64 (s95.2.2 + 1)))]) (.n rfl (.n rfl (.n rfl (.n rfl (.n rfl .nil))))) <| RunL.v (O.as (.lit rfl)) rfl rfl .none <| RunL.fin (.n rfl (.n rfl (.n rfl (.n rfl (.n rfl .nil)))))) ?_
          obtain rfl := sm h
          exact Px.go (.n rfl (.n rfl (.n rfl (.n rfl (.n rfl .nil)))))
        · replace h := cndF hb98 h
          refine W.xi ?_
          refine Px.sqE ?_
          obtain rfl := sm h
          exact Px.x1 (.n rfl (.n rfl (.n rfl .nil)))
      refine Px.bkH ?_
      refine Px.sq ?_
      refine W.sq' ?_
      obtain ⟨c106, hj, h⟩ := bnd h
      refine W.rx [(1, .obj [SS a0.Pro, iR eDecl_0 a0.Decls, iR eRule_0 a0.Rules, SS a0.Tail]), (2, .obj [.nils, .nils, .nils, SS ({ data := #[] }), SS ({ data := #[] })]), (6, .obj [oR eTok x96, oR eNon x89, oR eProd_0 x65.f_g.Prods, SS x65.f_g.Pro, SS x65.f_g.Tail, oR eB x65.f_given, oR eNon x65.f_types, oR eS x65.f_lefts, I64 x65.f_e, I64 x65.f_at, SS x65.f_name, I64 x65.f_level, I64 x65.f_inner]), (24, BB c106)] ?_ ?_
      · refine RunL.v (O.mv (.obj rfl)) rfl rfl .none <| RunL.v (O.nlP (.ptr rfl)) rfl rfl .none <| RunL.v (O.fO rfl (.ptr rfl) fd128_0 rfl) rfl rfl .none <| RunL.v (O.fO rfl (.ptr rfl) fd38_0 rfl) rfl rfl .none <| RunL.v (O.ldO (y := .brw eTok.z ⟨6, [0]⟩ x96.length) rfl (.ptr rfl) ct34 rfl rfl) rfl rfl .none <| RunL.v (O.lenO (.brw rfl) sl34) rfl rfl .none <| RunL.v (O.gtr (.lit rfl) (.k rfl)) rfl rfl .none <| RunL.v (O.mv (.lit rfl)) rfl rfl .none ?_
        rcases cnd hj with ⟨hb104, hj⟩ | ⟨hb104, hj⟩
        · obtain rfl := sm hj
          exact RunL.ps rfl rfl hb104 rfl rfl <| RunL.ps rfl rfl hb104 rfl rfl <| RunL.ps rfl rfl hb104 rfl rfl <| RunL.ps rfl rfl hb104 rfl rfl <| RunL.ps rfl rfl hb104 rfl rfl <| RunL.ps rfl rfl hb104 rfl rfl <| RunL.ps rfl rfl hb104 rfl rfl <| RunL.v (O.pkT (.lit rfl) hb104 (.k rfl)) rfl rfl .none <| RunL.v (O.mv (.lit rfl)) rfl rfl .none <| RunL.ps rfl rfl rfl rfl rfl <| RunL.ps rfl rfl rfl rfl rfl <| RunL.ps rfl rfl rfl rfl rfl <| RunL.ps rfl rfl rfl rfl rfl <| RunL.ps rfl rfl rfl rfl rfl <| RunL.ps rfl rfl rfl rfl rfl <| RunL.ps rfl rfl rfl rfl rfl <| RunL.v (O.pkT (.lit rfl) rfl (.k rfl)) rfl rfl .none <| RunL.v (O.as (.lit rfl)) rfl rfl .none <| RunL.fin (.n rfl (.n rfl (.n rfl (.n rfl .nil))))
        · refine RunL.v (O.mv (.obj rfl)) rfl rfl (.yb rfl rfl hb104) <| RunL.v (O.nlP (.ptr rfl)) rfl rfl (.yb rfl rfl hb104) <| RunL.v (O.fO rfl (.ptr rfl) fd128_0 rfl) rfl rfl (.yb rfl rfl hb104) <| RunL.v (O.fO rfl (.ptr rfl) fd38_1 rfl) rfl rfl (.yb rfl rfl hb104) <| RunL.v (O.ldO (y := .brw eNon.z ⟨6, [1]⟩ x89.length) rfl (.ptr rfl) ct35 rfl rfl) rfl rfl (.yb rfl rfl hb104) <| RunL.v (O.lenO (.brw rfl) sl35) rfl rfl (.yb rfl rfl hb104) <| RunL.v (O.gtr (.lit rfl) (.k rfl)) rfl rfl (.yb rfl rfl hb104) <| RunL.v (O.pkF (.lit rfl) hb104 (.lit rfl)) rfl rfl .none <| RunL.v (O.mv (.lit rfl)) rfl rfl .none ?_
          rcases cnd hj with ⟨hb105, hj⟩ | ⟨hb105, hj⟩
          · obtain rfl := sm hj
            exact RunL.ps rfl rfl hb105 rfl rfl <| RunL.ps rfl rfl hb105 rfl rfl <| RunL.ps rfl rfl hb105 rfl rfl <| RunL.ps rfl rfl hb105 rfl rfl <| RunL.ps rfl rfl hb105 rfl rfl <| RunL.ps rfl rfl hb105 rfl rfl <| RunL.ps rfl rfl hb105 rfl rfl <| RunL.v (O.pkT (.lit rfl) hb105 (.k rfl)) rfl rfl .none <| RunL.v (O.as (.lit rfl)) rfl rfl .none <| RunL.fin (.n rfl (.n rfl (.n rfl (.n rfl .nil))))
          · obtain rfl := sm hj
            exact RunL.v (O.mv (.obj rfl)) rfl rfl (.yb rfl rfl hb105) <| RunL.v (O.nlP (.ptr rfl)) rfl rfl (.yb rfl rfl hb105) <| RunL.v (O.fO rfl (.ptr rfl) fd128_0 rfl) rfl rfl (.yb rfl rfl hb105) <| RunL.v (O.fO rfl (.ptr rfl) fd38_2 rfl) rfl rfl (.yb rfl rfl hb105) <| RunL.v (O.ldO (y := .brw eProd_0.z ⟨6, [2]⟩ x65.f_g.Prods.length) rfl (.ptr rfl) ct36 rfl rfl) rfl rfl (.yb rfl rfl hb105) <| RunL.v (O.lenO (.brw rfl) sl36) rfl rfl (.yb rfl rfl hb105) <| RunL.v (O.gtr (.lit rfl) (.k rfl)) rfl rfl (.yb rfl rfl hb105) <| RunL.v (O.pkF (.lit rfl) hb105 (.lit rfl)) rfl rfl .none <| RunL.v (O.as (.lit rfl)) rfl rfl .none <| RunL.fin (.n rfl (.n rfl (.n rfl (.n rfl .nil))))
      refine Px.sq ?_
      refine W.sq' ?_
      refine W.sq' ?_
      refine W.rx [(1, _), (2, _), (6, _), (24, _), (25, _)] (RunL.v (O.as (.k rfl)) rfl rfl .none <| RunL.fin (.n rfl (.n rfl (.n rfl (.n rfl (.n rfl .nil)))))) ?_
      refine Px.sq ?_
      refine W.bk ?_
      obtain ⟨x108, hl, h⟩ := bnd h
      refine W.tr (G1 := [(1, .obj [SS a0.Pro, iR eDecl_0 a0.Decls, iR eRule_0 a0.Rules, SS a0.Tail]), (2, .obj [.nils, .nils, .nils, SS ({ data := #[] }), SS ({ data := #[] })]), (6, .obj [oR eTok x96, oR eNon x89, oR eProd_0 x65.f_g.Prods, SS x65.f_g.Pro, SS x65.f_g.Tail, oR eB x65.f_given, oR eNon x65.f_types, oR eS x65.f_lefts, I64 x65.f_e, I64 x65.f_at, SS x65.f_name, I64 x65.f_level, I64 x65.f_inner]), (24, BB c106), (25, I64 0)]) (.n rfl (.n rfl (.n rfl (.n rfl (.n rfl .nil))))) ?_
      refine W.lp1 (s := (c106, 0)) (fun (s107 : Bool × Int) => [(1, .obj [SS a0.Pro, iR eDecl_0 a0.Decls, iR eRule_0 a0.Rules, SS a0.Tail]), (2, .obj [.nils, .nils, .nils, SS ({ data := #[] }), SS ({ data := #[] })]), (6, .obj [oR eTok x96, oR eNon x89, oR eProd_0 x65.f_g.Prods, SS x65.f_g.Pro, SS x65.f_g.Tail, oR eB x65.f_given, oR eNon x65.f_types, oR eS x65.f_lefts, I64 x65.f_e, I64 x65.f_at, SS x65.f_name, I64 x65.f_level, I64 x65.f_inner]), (24, BB s107.1), (25, I64 s107.2)]) 20 (fun (x108 : Bool) => [(1, .obj [SS a0.Pro, iR eDecl_0 a0.Decls, iR eRule_0 a0.Rules, SS a0.Tail]), (2, .obj [.nils, .nils, .nils, SS ({ data := #[] }), SS ({ data := #[] })]), (6, .obj [oR eTok x96, oR eNon x89, oR eProd_0 x65.f_g.Prods, SS x65.f_g.Pro, SS x65.f_g.Tail, oR eB x65.f_given, oR eNon x65.f_types, oR eS x65.f_lefts, I64 x65.f_e, I64 x65.f_at, SS x65.f_name, I64 x65.f_level, I64 x65.f_inner]), (24, BB x108)]) hl (fun s107 o h => ?_) ?_
      · clear hl
        refine W.sq' ?_
        refine W.sq' ?_
        refine W.rx [(1, _), (2, _), (6, _), (24, _), (25, _), (400, _)] (RunL.v (O.mv (.lit rfl)) rfl rfl .none <| RunL.v (O.mv (.obj rfl)) rfl rfl .none <| RunL.v (O.nlP (.ptr rfl)) rfl rfl .none <| RunL.v (O.fO rfl (.ptr rfl) fd128_0 rfl) rfl rfl .none <| RunL.v (O.fO rfl (.ptr rfl) fd38_2 rfl) rfl rfl .none <| RunL.v (O.ldO (y := .brw eProd_0.z ⟨6, [2]⟩ x65.f_g.Prods.length) rfl (.ptr rfl) ct36 rfl rfl) rfl rfl .none <| RunL.v (O.lenO (.brw rfl) sl36) rfl rfl .none <| RunL.v (O.lss (.lit rfl) (.lit rfl)) rfl rfl .none <| RunL.fin (.n rfl (.n rfl (.n rfl (.n rfl (.n rfl (.n rfl .nil))))))) ?_
        refine Px.sq ?_
        refine W.cnd rfl (fun hb110 => ?_) (fun hb110 => ?_)
        · replace h := cndT hb110 h
          refine W.sk ?_
          refine Px.sq ?_
          refine W.sq' ?_
          refine W.bk ?_
          obtain ⟨c113, hj, h⟩ := bnd h
          refine W.rx [(1, .obj [SS a0.Pro, iR eDecl_0 a0.Decls, iR eRule_0 a0.Rules, SS a0.Tail]), (2, .obj [.nils, .nils, .nils, SS ({ data := #[] }), SS ({ data := #[] })]), (6, .obj [oR eTok x96, oR eNon x89, oR eProd_0 x65.f_g.Prods, SS x65.f_g.Pro, SS x65.f_g.Tail, oR eB x65.f_given, oR eNon x65.f_types, oR eS x65.f_lefts, I64 x65.f_e, I64 x65.f_at, SS x65.f_name, I64 x65.f_level, I64 x65.f_inner]), (24, BB c113), (25, I64 s107.2)] ?_ ?_
          · refine RunL.v (O.mv (.lit rfl)) rfl rfl .none <| RunL.v (O.mv (.lit rfl)) rfl rfl .none ?_
            rcases cnd hj with ⟨hb111, hj⟩ | ⟨hb111, hj⟩
            · obtain rfl := sm hj
              exact RunL.ps rfl rfl hb111 rfl rfl <| RunL.ps rfl rfl hb111 rfl rfl <| RunL.ps rfl rfl hb111 rfl rfl <| RunL.ps rfl rfl hb111 rfl rfl <| RunL.ps rfl rfl hb111 rfl rfl <| RunL.ps rfl rfl hb111 rfl rfl <| RunL.ps rfl rfl hb111 rfl rfl <| RunL.ps rfl rfl hb111 rfl rfl <| RunL.ps rfl rfl hb111 rfl rfl <| RunL.ps rfl rfl hb111 rfl rfl <| RunL.ps rfl rfl hb111 rfl rfl <| RunL.v (O.pkT (.lit rfl) hb111 (.k rfl)) rfl rfl .none <| RunL.re (G1 := [(1, .obj [SS a0.Pro, iR eDecl_0 a0.Decls, iR eRule_0 a0.Rules, SS a0.Tail]), (2, .obj [.nils, .nils, .nils, SS ({ data := #[] }), SS ({ data := #[] })]), (6, .obj [oR eTok x96, oR eNon x89, oR eProd_0 x65.f_g.Prods, SS x65.f_g.Pro, SS x65.f_g.Tail, oR eB x65.f_given, oR eNon x65.f_types, oR eS x65.f_lefts, I64 x65.f_e, I64 x65.f_at, SS x65.f_name, I64 x65.f_level, I64 x65.f_inner]), (25, I64 s107.2), (416, BB true)]) (.n rfl (.n rfl (.n rfl (.n rfl (.n rfl .nil))))) <| RunL.v (O.as (.lit rfl)) rfl rfl .none <| RunL.fin (.n rfl (.n rfl (.n rfl (.n rfl (.n rfl .nil)))))
            · refine RunL.v (O.mv (.obj rfl)) rfl rfl (.yb rfl rfl hb111) <| RunL.v (O.nlP (.ptr rfl)) rfl rfl (.yb rfl rfl hb111) <| RunL.v (O.fO rfl (.ptr rfl) fd128_0 rfl) rfl rfl (.yb rfl rfl hb111) <| RunL.v (O.fO rfl (.ptr rfl) fd38_2 rfl) rfl rfl (.yb rfl rfl hb111) <| RunL.v (O.ldO (y := .brw eProd_0.z ⟨6, [2]⟩ x65.f_g.Prods.length) rfl (.ptr rfl) ct36 rfl rfl) rfl rfl (.yb rfl rfl hb111) <| RunL.v (O.mv (.lit rfl)) rfl rfl (.yb rfl rfl hb111) ?_
              obtain ⟨x112, hx112, hj⟩ := bnd hj
              obtain rfl := sm hj
              exact RunL.v (O.ixO (en := eProd_0) rfl (.brw rfl) (.lit rfl) sl36 hx112 rfl) rfl rfl (.yb rfl rfl hb111) <| RunL.v (O.fE (en := eProd_0) rfl (.ptr rfl) fd109_1 hx112 rfl rfl) rfl rfl (.yb rfl rfl hb111) <| RunL.v (O.ldE (en := eProd_0) (x' := iR eI x112.Right) rfl (.ptr rfl) ct27 hx112 rfl rfl) rfl rfl (.yb rfl rfl hb111) <| RunL.v (O.lenI (.imm rfl) sl27) rfl rfl (.yb rfl rfl hb111) <| RunL.v (O.gtr (.lit rfl) (.k rfl)) rfl rfl (.yb rfl rfl hb111) <| RunL.v (O.pkF (.lit rfl) hb111 (.lit rfl)) rfl rfl .none <| RunL.re (G1 := [(1, .obj [SS a0.Pro, iR eDecl_0 a0.Decls, iR eRule_0 a0.Rules, SS a0.Tail]), (2, .obj [.nils, .nils, .nils, SS ({ data := #[] }), SS ({ data := #[] })]), (6, .obj [oR eTok x96, oR eNon x89, oR eProd_0 x65.f_g.Prods, SS x65.f_g.Pro, SS x65.f_g.Tail, oR eB x65.f_given, oR eNon x65.f_types, oR eS x65.f_lefts, I64 x65.f_e, I64 x65.f_at, SS x65.f_name, I64 x65.f_level, I64 x65.f_inner]), (25, I64 s107.2), (416, BB (decide (8 < (x112.Right.length : Int))))]) (.n rfl (.n rfl (.n rfl (.n rfl (.n rfl .nil))))) <| RunL.v (O.as (.lit rfl)) rfl rfl .none <| RunL.fin (.n rfl (.n rfl (.n rfl (.n rfl (.n rfl .nil)))))
          refine Px.bk ?_
          refine Px.sq ?_
          refine W.rx [(1, _), (2, _), (6, _), (24, _), (25, _)] (RunL.v (O.mv (.lit rfl)) rfl rfl .none <| RunL.v (O.add (.lit rfl) (.k rfl)) rfl rfl .none <| RunL.re (G1 := [(1, .obj [SS a0.Pro, iR eDecl_0 a0.Decls, iR eRule_0 a0.Rules, SS a0.Tail]), (2, .obj [.nils, .nils, .nils, SS ({ data := #[] }), SS ({ data := #[] })]), (6, .obj [oR eTok x96, oR eNon x89, oR eProd_0 x65.f_g.Prods, SS x65.f_g.Pro, SS x65.f_g.Tail, oR eB x65.f_given, oR eNon x65.f_types, oR eS x65.f_lefts, I64 x65.f_e, I64 x65.f_at, SS x65.f_name, I64 x65.f_level, I64 x65.f_inner]), (24, BB c113), (402, I64 (w64 (s107.2 + 1)))]) (.n rfl (.n rfl (.n rfl (.n rfl (.n rfl .nil))))) <| RunL.v (O.as (.lit rfl)) rfl rfl .none <| RunL.fin (.n rfl (.n rfl (.n rfl (.n rfl (.n rfl .nil)))))) ?_
          obtain rfl := sm h
          exact Px.go (.n rfl (.n rfl (.n rfl (.n rfl (.n rfl .nil)))))
        · replace h := cndF hb110 h
          refine W.xi ?_
          refine Px.sqE ?_
          obtain rfl := sm h
          exact Px.x1 (.n rfl (.n rfl (.n rfl (.n rfl .nil))))
      refine Px.bkH ?_
      refine Px.sq ?_
      refine W.sq' ?_
      refine W.sq' ?_
      refine W.rx [(1, _), (2, _), (6, _), (417, _)] (RunL.v (O.mv (.lit rfl)) rfl rfl .none <| RunL.fin (.n rfl (.n rfl (.n rfl (.n rfl .nil))))) ?_
      refine Px.sq ?_
      refine W.cnd rfl (fun hb114 => ?_) (fun hb114 => ?_)
      · replace h := cndT hb114 h
        refine W.sq' ?_
        refine W.rx [(2, _), (3, _), (4, _), (5, _)] (RunL.v (O.bu (cs := [.nils, .nils, .nils, SS ({ data := #[] }), SS ({ data := #[] })]) sc38 ze38 rfl rfl rfl) rfl rfl .none <| RunL.sO (G2 := [(2, .obj [.nils, .nils, .nils, SS ({ data := #[] }), SS ({ data := #[] })])]) (cs2 := [.nils, .nils, .nils, SS ({ data := #[] }), SS ({ data := #[] })]) rfl (.obj rfl) (.aggF rfl rfl) rfl sz38 rfl rfl rfl rfl (.b rfl .nil) <| RunL.v (O.as (.k rfl)) rfl rfl .none <| RunL.v (O.as (.k rfl)) rfl rfl .none <| RunL.v (O.as (.k rfl)) rfl rfl .none <| RunL.fin (.n rfl (.n rfl (.n rfl (.n rfl .nil))))) ?_
        refine Px.sq ?_
        refine W.fz (G1 := [(2, .obj [iR eTok ([] : List Tok), iR eNon ([] : List Non), iR eProd_0 ([] : List Prod), SS ({ data := #[] }), SS ({ data := #[] })]), (3, I64 4), (4, I64 0), (5, SS ({ data := #[] }))]) [2] (.z rfl rfl (FzL.obj (.z (.z (.z (.f (.f .nil)))))) (.n rfl rfl (.n rfl rfl (.n rfl rfl .nil)))) ?_
        refine W.rt ?_
        refine Px.sqR ?_
        obtain rfl := sm h
        exact Px.fin (Fin.ro (.c (ys0 := [iR eTok ([] : List Tok), iR eNon ([] : List Non), iR eProd_0 ([] : List Prod), SS ({ data := #[] }), SS ({ data := #[] })]) rfl at38 rfl rfl rfl (.f rfl (.f rfl (.f rfl (.f rfl (.f rfl .nil))))) (.f rfl rfl (.f rfl rfl (.f rfl rfl .nil)))) rfl (of_decide_eq_true (by kernel_rfl)) (.no .nil) rfl (.inr rfl))
      · replace h := cndF hb114 h
        refine W.sk ?_
        refine Px.sq ?_
        refine W.sq' ?_
        refine W.rd [[], [], [], [2], [], [4], [0, 2, 3], [0, 2, 3, 6], [0, 2, 3, 6, 7], [0, 2, 3, 6, 7, 8], [0, 1, 2, 3, 4, 5, 6, 7, 8, 9], [0, 1, 2, 3, 4, 5, 6, 7, 8, 9, 10], [0, 1, 2, 3, 4, 5, 6, 7, 8, 9, 10, 11], [0, 1, 2, 3, 4, 5, 6, 7, 8, 9, 10, 11, 12]] [(2, _), (6, _)] mixo (by kernel_rfl) (DL.v 0 (O.mv (.obj rfl)) rfl rfl rfl rfl .none <| DL.v 1 (O.mv (.obj rfl)) rfl rfl rfl rfl .none <| DL.v 2 (O.fO rfl (.obj rfl) fd25_0 rfl) rfl rfl rfl rfl .none <| DL.v 3 (O.ldO (y := SS a0.Pro) rfl (.ptr rfl) ct9 rfl rfl) rfl rfl rfl rfl .none <| DL.v 4 (O.fO rfl (.obj rfl) fd25_3 rfl) rfl rfl rfl rfl .none <| DL.v 5 (O.ldO (y := SS a0.Tail) rfl (.ptr rfl) ct9 rfl rfl) rfl rfl rfl rfl .none <| DL.v 6 (O.nlP (.ptr rfl)) rfl rfl rfl rfl .none <| DL.v 7 (O.fO rfl (.ptr rfl) fd128_0 rfl) rfl rfl rfl rfl .none <| DL.v 8 (O.fO rfl (.ptr rfl) fd38_3 rfl) rfl rfl rfl rfl .none <| DL.bu 9 (G2 := [(1, .obj [SS a0.Pro, iR eDecl_0 a0.Decls, iR eRule_0 a0.Rules, SS a0.Tail]), (2, .obj [.nils, .nils, .nils, SS ({ data := #[] }), SS ({ data := #[] })]), (6, .obj [oR eTok x96, oR eNon x89, oR eProd_0 x65.f_g.Prods, SS a0.Pro, SS x65.f_g.Tail, oR eB x65.f_given, oR eNon x65.f_types, oR eS x65.f_lefts, I64 x65.f_e, I64 x65.f_at, SS x65.f_name, I64 x65.f_level, I64 x65.f_inner])]) (U := [(5, 424, some (SS a0.Tail)), (4, 423, some (.ptr ⟨1, []⟩ 3)), (1, 420, some (.ptr ⟨6, []⟩ 0))]) (EffOk.v (EO.eff (EO.sO (G2 := [(1, .obj [SS a0.Pro, iR eDecl_0 a0.Decls, iR eRule_0 a0.Rules, SS a0.Tail]), (2, .obj [.nils, .nils, .nils, SS ({ data := #[] }), SS ({ data := #[] })]), (6, .obj [oR eTok x96, oR eNon x89, oR eProd_0 x65.f_g.Prods, SS a0.Pro, SS x65.f_g.Tail, oR eB x65.f_given, oR eNon x65.f_types, oR eS x65.f_lefts, I64 x65.f_e, I64 x65.f_at, SS x65.f_name, I64 x65.f_level, I64 x65.f_inner])]) (cs2 := [oR eTok x96, oR eNon x89, oR eProd_0 x65.f_g.Prods, SS a0.Pro, SS x65.f_g.Tail, oR eB x65.f_given, oR eNon x65.f_types, oR eS x65.f_lefts, I64 x65.f_e, I64 x65.f_at, SS x65.f_name, I64 x65.f_level, I64 x65.f_inner]) rfl rfl rfl (.ptr rfl) (.lit rfl) rfl sz9 rfl rfl rfl rfl (.n rfl rfl (.n rfl rfl (.b rfl .nil)))))) rfl rfl (by kernel_rfl) rfl rfl rfl (.c (.inr (.inl ⟨_, rfl⟩)) rfl rfl rfl rfl rfl (Gd.wanted .none) (O.ldO (y := SS a0.Tail) rfl (.ptr rfl) ct9 rfl rfl) (.c (.inr (.inr (.inr ⟨1, _, _, rfl, rfl, of_blt rfl, by simp⟩))) rfl rfl rfl rfl rfl (Gd.wanted .none) (O.fO rfl (.obj rfl) fd25_3 rfl) (.c (.inr (.inr (.inr ⟨6, _, _, rfl, rfl, of_blt rfl, by simp⟩))) rfl rfl rfl rfl rfl (Gd.wanted .none) (O.mv (.obj rfl)) .nil))) (by kernel_rfl) <| DL.v 10 (O.nlP (.ptr rfl)) rfl rfl rfl rfl .none <| DL.v 11 (O.fO rfl (.ptr rfl) fd128_0 rfl) rfl rfl rfl rfl .none <| DL.v 12 (O.fO rfl (.ptr rfl) fd38_4 rfl) rfl rfl rfl rfl .none <| DL.sO 13 (G2 := [(2, .obj [.nils, .nils, .nils, SS ({ data := #[] }), SS ({ data := #[] })]), (6, .obj [oR eTok x96, oR eNon x89, oR eProd_0 x65.f_g.Prods, SS a0.Pro, SS a0.Tail, oR eB x65.f_given, oR eNon x65.f_types, oR eS x65.f_lefts, I64 x65.f_e, I64 x65.f_at, SS x65.f_name, I64 x65.f_level, I64 x65.f_inner])]) (cs2 := [oR eTok x96, oR eNon x89, oR eProd_0 x65.f_g.Prods, SS a0.Pro, SS a0.Tail, oR eB x65.f_given, oR eNon x65.f_types, oR eS x65.f_lefts, I64 x65.f_e, I64 x65.f_at, SS x65.f_name, I64 x65.f_level, I64 x65.f_inner]) rfl (by kernel_rfl) (by kernel_rfl) rfl rfl rfl (.ptr rfl) (.lit rfl) rfl sz9 rfl rfl rfl rfl (.n rfl rfl (.b rfl .nil)) <| DL.fin rfl rfl rfl (.n rfl (.n rfl .nil))) ?_
        refine Px.sq ?_
        refine W.sq' ?_
        refine W.fz (G1 := [(2, .obj [.nils, .nils, .nils, SS ({ data := #[] }), SS ({ data := #[] })]), (6, .obj [iR eTok x96, iR eNon x89, iR eProd_0 x65.f_g.Prods, SS a0.Pro, SS a0.Tail, oR eB x65.f_given, oR eNon x65.f_types, oR eS x65.f_lefts, I64 x65.f_e, I64 x65.f_at, SS x65.f_name, I64 x65.f_level, I64 x65.f_inner])]) [6] (.n rfl rfl (.z rfl rfl (FzL.obj (.z (.z (.z (.f (.f (.f (.f (.f (.f (.f (.f (.f (.f .nil)))))))))))))) .nil)) ?_
        refine W.rx [(2, _), (3, _), (4, _), (5, _)] (RunL.v (O.mv (.obj rfl)) rfl rfl .none <| RunL.v (O.nlP (.ptr rfl)) rfl rfl .none <| RunL.v (O.fO rfl (.ptr rfl) fd128_0 rfl) rfl rfl .none <| RunL.v (O.ldON (cs' := [iR eTok x96, iR eNon x89, iR eProd_0 x65.f_g.Prods, SS a0.Pro, SS a0.Tail]) rfl (.ptr rfl) at38 rfl rfl) rfl rfl .none <| RunL.sO (G2 := [(2, .obj [iR eTok x96, iR eNon x89, iR eProd_0 x65.f_g.Prods, SS a0.Pro, SS a0.Tail])]) (cs2 := [iR eTok x96, iR eNon x89, iR eProd_0 x65.f_g.Prods, SS a0.Pro, SS a0.Tail]) rfl (.obj rfl) (.aggF rfl rfl) rfl sz38 rfl rfl rfl rfl (.b rfl .nil) <| RunL.v (O.as (.k rfl)) rfl rfl .none <| RunL.v (O.as (.k rfl)) rfl rfl .none <| RunL.v (O.as (.k rfl)) rfl rfl .none <| RunL.fin (.n rfl (.n rfl (.n rfl (.n rfl .nil))))) ?_
        refine Px.sq ?_
        refine W.rt ?_
        obtain rfl := sm h
        exact Px.fin (Fin.ro (.c (ys0 := [iR eTok x96, iR eNon x89, iR eProd_0 x65.f_g.Prods, SS a0.Pro, SS a0.Tail]) rfl at38 rfl rfl rfl (.f rfl (.f rfl (.f rfl (.f rfl (.f rfl .nil))))) (.f rfl rfl (.f rfl rfl (.f rfl rfl .nil)))) rfl (of_decide_eq_true (by kernel_rfl)) (.no .nil) rfl (.inr rfl))
def pf18 (a0 : Source) : Option (Grammar × Bool) :=
 (pf50 a0).bind fun x1 =>
 some (x1.1, decide (x1.2.1 = 0))
theorem con18 (a0 : Source) (r : Grammar × Bool) (h : pf18 a0 = some r) : Con Try.prog 18 [.agg [SS a0.Pro, iR eDecl_0 a0.Decls, iR eRule_0 a0.Rules, SS a0.Tail]] [none] (.tup [.agg [iR eTok r.1.Toks, iR eNon r.1.Nons, iR eProd_0 r.1.Prods, SS r.1.Pro, SS r.1.Tail], BB r.2]) := by
  unfold pf18 at h
  refine Con.go (N := ⟨18, []⟩) Try.func18 rfl rfl rfl rfl (W.fin ?_)
  refine W.st [(0, .agg [SS a0.Pro, iR eDecl_0 a0.Decls, iR eRule_0 a0.Rules, SS a0.Tail])] ?_
  refine W.sq' ?_
  refine W.rx [(1, _), (2, _)] (RunL.v (O.box (.aggF rfl rfl) rfl) rfl rfl .none <| RunL.v (O.al (cs := [.nils, .nils, .nils, SS ({ data := #[] }), SS ({ data := #[] })]) ze38 rfl rfl) rfl rfl .none <| RunL.v (O.as (.k rfl)) rfl rfl .none <| RunL.fin (.n rfl (.n rfl .nil))) ?_
  refine Px.sq ?_
  refine W.sq' ?_
  obtain ⟨x1, hx1, h⟩ := bnd h
  refine W.rx [(2, _), (4, _), (5, _)] (RunL.v (O.ldON (cs' := [SS a0.Pro, iR eDecl_0 a0.Decls, iR eRule_0 a0.Rules, SS a0.Tail]) rfl (.obj rfl) at25 rfl rfl) rfl rfl .none <| RunL.c (PC.go (.cc (.aggF rfl rfl) .nil) (con50 a0 _ hx1) call50 rfl) rfl rfl .none <| RunL.v (O.mv (.tup rfl rfl)) rfl rfl .none <| RunL.v (O.ex (y := .agg [iR eTok x1.1.Toks, iR eNon x1.1.Nons, iR eProd_0 x1.1.Prods, SS x1.1.Pro, SS x1.1.Tail]) rfl rfl rfl) rfl rfl .none <| RunL.v (O.ex (y := I64 x1.2.1) rfl rfl rfl) rfl rfl .none <| RunL.v (O.ex (y := I64 x1.2.2.1) rfl rfl rfl) rfl rfl .none <| RunL.v (O.ex (y := SS x1.2.2.2) rfl rfl rfl) rfl rfl .none <| RunL.v (O.al (cs := [.nils, .nils, .nils, SS ({ data := #[] }), SS ({ data := #[] })]) ze38 rfl rfl) rfl rfl .none <| RunL.sO (G2 := [(2, .obj [.nils, .nils, .nils, SS ({ data := #[] }), SS ({ data := #[] })]), (4, .obj [iR eTok x1.1.Toks, iR eNon x1.1.Nons, iR eProd_0 x1.1.Prods, SS x1.1.Pro, SS x1.1.Tail]), (12, I64 x1.2.1), (13, I64 x1.2.2.1), (14, SS x1.2.2.2)]) (cs2 := [iR eTok x1.1.Toks, iR eNon x1.1.Nons, iR eProd_0 x1.1.Prods, SS x1.1.Pro, SS x1.1.Tail]) rfl (.obj rfl) (.aggF rfl rfl) rfl sz38 rfl rfl rfl rfl (.n rfl rfl (.b rfl (.n rfl rfl (.n rfl rfl (.n rfl rfl .nil))))) <| RunL.v (O.as (.lit rfl)) rfl rfl .none <| RunL.v (O.as (.lit rfl)) rfl rfl .none <| RunL.v (O.as (.lit rfl)) rfl rfl .none <| RunL.fin (.n rfl (.n rfl (.n rfl .nil)))) ?_
  refine Px.sq ?_
  refine W.sq' ?_
  refine W.rx [(2, _), (3, _)] (RunL.v (O.ldON (cs' := [iR eTok x1.1.Toks, iR eNon x1.1.Nons, iR eProd_0 x1.1.Prods, SS x1.1.Pro, SS x1.1.Tail]) rfl (.obj rfl) at38 rfl rfl) rfl rfl .none <| RunL.v (O.mv (.lit rfl)) rfl rfl .none <| RunL.v (O.eql (.lit rfl) (.k rfl)) rfl rfl .none <| RunL.sO (G2 := [(2, .obj [iR eTok x1.1.Toks, iR eNon x1.1.Nons, iR eProd_0 x1.1.Prods, SS x1.1.Pro, SS x1.1.Tail]), (17, BB (decide (x1.2.1 = 0)))]) (cs2 := [iR eTok x1.1.Toks, iR eNon x1.1.Nons, iR eProd_0 x1.1.Prods, SS x1.1.Pro, SS x1.1.Tail]) rfl (.obj rfl) (.aggF rfl rfl) rfl sz38 rfl rfl rfl rfl (.b rfl (.n rfl rfl .nil)) <| RunL.v (O.as (.lit rfl)) rfl rfl .none <| RunL.fin (.n rfl (.n rfl .nil))) ?_
  refine Px.sq ?_
  refine W.rt ?_
  obtain rfl := sm h
  exact Px.fin (Fin.ro (.c (ys0 := [iR eTok x1.1.Toks, iR eNon x1.1.Nons, iR eProd_0 x1.1.Prods, SS x1.1.Pro, SS x1.1.Tail]) rfl at38 rfl rfl rfl (.f rfl (.f rfl (.f rfl (.f rfl (.f rfl .nil))))) (.f rfl rfl .nil)) rfl (of_decide_eq_true (by kernel_rfl)) (.no .nil) rfl (.inr rfl))
def pf25 (a0 : Int) (a1 : Int) : Option (Int) :=
 (remO a0 a1).bind fun x1 =>
 ((bif decide (x1 < 0) then
 some (w64 (x1 + a1))
 else
 some x1)).bind fun j2 =>
 some j2
theorem con25 (a0 : Int) (a1 : Int) (r : Int) (h : pf25 a0 a1 = some r) : Con Try.prog 25 [I64 a0, I64 a1] [none, none] (I64 r) := by
  unfold pf25 at h
  refine Con.go (N := ⟨15, []⟩) Try.func25 rfl rfl rfl rfl (W.fin ?_)
  refine W.st [(0, I64 a0), (1, I64 a1)] ?_
  refine W.sq' ?_
  refine W.rx [(0, _), (1, _)] (RunL.v (O.as (.k rfl)) rfl rfl .none <| RunL.fin (.n rfl (.n rfl .nil))) ?_
  refine Px.sq ?_
  refine W.sq' ?_
  obtain ⟨x1, hx1, h⟩ := bnd h
  refine W.rx [(1, _), (5, _)] (RunL.v (O.mv (.lit rfl)) rfl rfl .none <| RunL.v (O.mv (.lit rfl)) rfl rfl .none <| RunL.v (O.rem (.lit rfl) (.lit rfl) hx1) rfl rfl .none <| RunL.v (O.as (.lit rfl)) rfl rfl .none <| RunL.fin (.n rfl (.n rfl .nil))) ?_
  refine Px.sq ?_
  refine W.sq' ?_
  refine W.sq' ?_
  refine W.rx [(1, _), (5, _), (10, _)] (RunL.v (O.mv (.lit rfl)) rfl rfl .none <| RunL.v (O.lss (.lit rfl) (.k rfl)) rfl rfl .none <| RunL.fin (.n rfl (.n rfl (.n rfl .nil)))) ?_
  refine Px.sq ?_
  obtain ⟨j2, hj, h⟩ := bnd h
  refine W.jn [(5, I64 j2)] ?_ ?_
  · clear h; have h := hj; clear hj
    refine W.cnd rfl (fun hb3 => ?_) (fun hb3 => ?_)
    · replace h := cndT hb3 h
      refine W.rx [(5, _)] (RunL.v (O.mv (.lit rfl)) rfl rfl .none <| RunL.v (O.mv (.lit rfl)) rfl rfl .none <| RunL.v (O.add (.lit rfl) (.lit rfl)) rfl rfl .none <| RunL.re (G1 := [(13, I64 (w64 (x1 + a1)))]) (.n rfl .nil) <| RunL.v (O.as (.lit rfl)) rfl rfl .none <| RunL.fin (.n rfl .nil)) ?_
      obtain rfl := sm h
      exact Px.jn (.n rfl .nil)
    · replace h := cndF hb3 h
      refine W.sk ?_
      obtain rfl := sm h
      exact Px.jn (.n rfl .nil)
  refine Px.sq ?_
  refine W.sq' ?_
  refine W.rx [(4, _)] (RunL.v (O.mv (.lit rfl)) rfl rfl .none <| RunL.v (O.as (.lit rfl)) rfl rfl .none <| RunL.fin (.n rfl .nil)) ?_
  refine Px.sq ?_
  refine W.rt ?_
  obtain rfl := sm h
  exact Px.fin (Fin.ro (.f rfl rfl .nil) rfl (of_decide_eq_true (by kernel_rfl)) (.no (.no .nil)) rfl (.inr rfl))
def pf23 (a0 : (List Int)) (a1 : Int) (a2 : Int) : Option (Grammar × Int × Bool) :=
 (loopM (R := List Decl × List Alt) (fun (s1 : List Decl × List Alt × Int) =>
 (bif decide (s1.2.2 < min (a0.length : Int) 9) then
 (pf52 s1.2.2).bind fun x5 =>
 (catO ({ data := #[116] }) x5).bind fun x6 =>
 (idx a0 s1.2.2).bind fun x7 =>
 (pf25 x7 3).bind fun x8 =>
 (appO s1.1 [(⟨w64 (2 + x8), { data := #[] }, [(⟨x6, false, 0, 0⟩ : Sym)], 0⟩ : Decl)]).bind fun x9 =>
 (appO s1.2.1 [(⟨[(⟨(⟨{ data := #[101] }, false, 0, 0⟩ : Sym), { data := #[] }, 0⟩ : Part), (⟨(⟨x6, false, 0, 0⟩ : Sym), { data := #[] }, 0⟩ : Part), (⟨(⟨{ data := #[101] }, false, 0, 0⟩ : Sym), { data := #[] }, 0⟩ : Part)], (⟨{ data := #[] }, false, 0, 0⟩ : Sym), 0⟩ : Alt)]).bind fun x10 =>
 some (.inl (s1.1 ++ [(⟨w64 (2 + x8), { data := #[] }, [(⟨x6, false, 0, 0⟩ : Sym)], 0⟩ : Decl)], s1.2.1 ++ [(⟨[(⟨(⟨{ data := #[101] }, false, 0, 0⟩ : Sym), { data := #[] }, 0⟩ : Part), (⟨(⟨x6, false, 0, 0⟩ : Sym), { data := #[] }, 0⟩ : Part), (⟨(⟨{ data := #[101] }, false, 0, 0⟩ : Sym), { data := #[] }, 0⟩ : Part)], (⟨{ data := #[] }, false, 0, 0⟩ : Sym), 0⟩ : Alt)], w64 (s1.2.2 + 1)))
 else
 some (.inr (s1.1, s1.2.1)))) (([] : List Decl), ([] : List Alt), 0)).bind fun x2 =>
 (appO x2.2 [(⟨[(⟨(⟨{ data := #[120] }, true, 0, 0⟩ : Sym), { data := #[] }, 0⟩ : Part)], (⟨{ data := #[] }, false, 0, 0⟩ : Sym), 0⟩ : Alt)]).bind fun x11 =>
 ((bif decide (0 < min (a0.length : Int) 9) then
 (pf52 a1).bind fun x14 =>
 (catO ({ data := #[116] }) x14).bind fun x15 =>
 (pf52 a2).bind fun x16 =>
 (catO ({ data := #[116] }) x16).bind fun x17 =>
 (appO (x2.2 ++ [(⟨[(⟨(⟨{ data := #[120] }, true, 0, 0⟩ : Sym), { data := #[] }, 0⟩ : Part)], (⟨{ data := #[] }, false, 0, 0⟩ : Sym), 0⟩ : Alt)]) [(⟨[(⟨(⟨x15, false, 0, 0⟩ : Sym), { data := #[] }, 0⟩ : Part), (⟨(⟨{ data := #[101] }, false, 0, 0⟩ : Sym), { data := #[] }, 0⟩ : Part)], (⟨x17, false, 0, 0⟩ : Sym), 0⟩ : Alt)]).bind fun x18 =>
 some ((x2.2 ++ [(⟨[(⟨(⟨{ data := #[120] }, true, 0, 0⟩ : Sym), { data := #[] }, 0⟩ : Part)], (⟨{ data := #[] }, false, 0, 0⟩ : Sym), 0⟩ : Alt)]) ++ [(⟨[(⟨(⟨x15, false, 0, 0⟩ : Sym), { data := #[] }, 0⟩ : Part), (⟨(⟨{ data := #[101] }, false, 0, 0⟩ : Sym), { data := #[] }, 0⟩ : Part)], (⟨x17, false, 0, 0⟩ : Sym), 0⟩ : Alt)])
 else
 some (x2.2 ++ [(⟨[(⟨(⟨{ data := #[120] }, true, 0, 0⟩ : Sym), { data := #[] }, 0⟩ : Part)], (⟨{ data := #[] }, false, 0, 0⟩ : Sym), 0⟩ : Alt)]))).bind fun j12 =>
 (pf18 (⟨{ data := #[] }, x2.1, [(⟨{ data := #[101] }, j12, 0⟩ : Rule)], { data := #[] }⟩ : Source)).bind fun x19 =>
 some (x19.1, min (a0.length : Int) 9, x19.2)
theorem con23 (a0 : (List Int)) (a1 : Int) (a2 : Int) (r : Grammar × Int × Bool) (h : pf23 a0 a1 a2 = some r) : Con Try.prog 23 [iR eI a0, I64 a1, I64 a2] [none, none, none] (.tup [.agg [iR eTok r.1.Toks, iR eNon r.1.Nons, iR eProd_0 r.1.Prods, SS r.1.Pro, SS r.1.Tail], I64 r.2.1, BB r.2.2]) := by
  unfold pf23 at h
  refine Con.go (N := ⟨96, []⟩) Try.func23 rfl rfl rfl rfl (W.fin ?_)
  refine W.st [(0, iR eI a0), (1, I64 a1), (2, I64 a2)] ?_
  refine W.sq' ?_
  refine W.rx [(0, _), (1, _), (2, _), (6, _)] (RunL.v (O.al (cs := [.nils, .nils, .nils, SS ({ data := #[] }), SS ({ data := #[] })]) ze38 rfl rfl) rfl rfl .none <| RunL.v (O.as (.k rfl)) rfl rfl .none <| RunL.v (O.as (.k rfl)) rfl rfl .none <| RunL.fin (.n rfl (.n rfl (.n rfl (.n rfl .nil))))) ?_
  refine Px.sq ?_
  refine W.sq' ?_
  refine W.rx [(0, _), (1, _), (2, _), (6, _), (9, _)] (RunL.v (O.al (cs := [SS ({ data := #[] }), .nils, .nils, SS ({ data := #[] })]) ze25 rfl rfl) rfl rfl .none <| RunL.fin (.n rfl (.n rfl (.n rfl (.n rfl (.n rfl .nil)))))) ?_
  refine Px.sq ?_
  refine W.sq' ?_
  refine W.rx [(0, _), (1, _), (2, _), (6, _), (9, _), (10, _)] (RunL.v (O.mv (.imm rfl)) rfl rfl .none <| RunL.v (O.lenI (.imm rfl) sl27) rfl rfl .none <| RunL.v (O.min' (.lit rfl) (.k rfl)) rfl rfl .none <| RunL.v (O.as (.lit rfl)) rfl rfl .none <| RunL.fin (.n rfl (.n rfl (.n rfl (.n rfl (.n rfl (.n rfl .nil))))))) ?_
  refine Px.sq ?_
  refine W.sq' ?_
  refine W.rx [(0, _), (1, _), (2, _), (6, _), (9, _), (10, _), (11, _)] (RunL.v (O.bu (cs := [SS ({ data := #[101] }), BB false, I64 0, I64 0]) sc91 ze91 rfl rfl rfl) rfl rfl .none <| RunL.v (O.bu (cs := [SS ({ data := #[101] }), BB false, I64 0, I64 0, SS ({ data := #[] }), I64 0]) sc100 ze100 rfl rfl rfl) rfl rfl .none <| RunL.v (O.al (cs := [SS ({ data := #[] }), BB false, I64 0, I64 0, SS ({ data := #[] }), I64 0]) ze100 rfl rfl) rfl rfl .none <| RunL.sO (G2 := [(0, iR eI a0), (1, I64 a1), (2, I64 a2), (6, .obj [.nils, .nils, .nils, SS ({ data := #[] }), SS ({ data := #[] })]), (9, .obj [SS ({ data := #[] }), .nils, .nils, SS ({ data := #[] })]), (10, I64 (min (a0.length : Int) 9)), (11, .obj [SS ({ data := #[101] }), BB false, I64 0, I64 0, SS ({ data := #[] }), I64 0])]) (cs2 := [SS ({ data := #[101] }), BB false, I64 0, I64 0, SS ({ data := #[] }), I64 0]) rfl (.obj rfl) (.aggF rfl rfl) rfl sz100 rfl rfl rfl rfl (.n rfl rfl (.n rfl rfl (.n rfl rfl (.n rfl rfl (.n rfl rfl (.n rfl rfl (.b rfl .nil))))))) <| RunL.fin (.n rfl (.n rfl (.n rfl (.n rfl (.n rfl (.n rfl (.n rfl .nil)))))))) ?_
  refine Px.sq ?_
  refine W.sq' ?_
  refine W.rx [(0, _), (1, _), (2, _), (6, _), (9, _), (10, _), (11, _), (12, _)] (RunL.v (O.bu (cs := [SS ({ data := #[101] }), .nils, I64 0]) sc95 ze95 rfl rfl rfl) rfl rfl .none <| RunL.v (O.al (cs := [SS ({ data := #[] }), .nils, I64 0]) ze95 rfl rfl) rfl rfl .none <| RunL.sO (G2 := [(0, iR eI a0), (1, I64 a1), (2, I64 a2), (6, .obj [.nils, .nils, .nils, SS ({ data := #[] }), SS ({ data := #[] })]), (9, .obj [SS ({ data := #[] }), .nils, .nils, SS ({ data := #[] })]), (10, I64 (min (a0.length : Int) 9)), (11, .obj [SS ({ data := #[101] }), BB false, I64 0, I64 0, SS ({ data := #[] }), I64 0]), (12, .obj [SS ({ data := #[101] }), .nils, I64 0])]) (cs2 := [SS ({ data := #[101] }), .nils, I64 0]) rfl (.obj rfl) (.aggF rfl rfl) rfl sz95 rfl rfl rfl rfl (.n rfl rfl (.n rfl rfl (.n rfl rfl (.n rfl rfl (.n rfl rfl (.n rfl rfl (.n rfl rfl (.b rfl .nil)))))))) <| RunL.fin (.n rfl (.n rfl (.n rfl (.n rfl (.n rfl (.n rfl (.n rfl (.n rfl .nil))))))))) ?_
  refine Px.sq ?_
  refine W.sq' ?_
  refine W.sq' ?_
  refine W.rx [(0, _), (1, _), (2, _), (6, _), (9, _), (10, _), (11, _), (12, _), (13, _)] (RunL.v (O.as (.k rfl)) rfl rfl .none <| RunL.fin (.n rfl (.n rfl (.n rfl (.n rfl (.n rfl (.n rfl (.n rfl (.n rfl (.n rfl .nil)))))))))) ?_
  refine Px.sq ?_
  refine W.bk ?_
  obtain ⟨x2, hl, h⟩ := bnd h
  refine W.tr (G1 := [(0, iR eI a0), (1, I64 a1), (2, I64 a2), (6, .obj [.nils, .nils, .nils, SS ({ data := #[] }), SS ({ data := #[] })]), (9, .obj [SS ({ data := #[] }), oR eDecl_0 ([] : List Decl), .nils, SS ({ data := #[] })]), (10, I64 (min (a0.length : Int) 9)), (11, .obj [SS ({ data := #[101] }), BB false, I64 0, I64 0, SS ({ data := #[] }), I64 0]), (12, .obj [SS ({ data := #[101] }), oR eAlt_0 ([] : List Alt), I64 0]), (13, I64 0)]) (.n rfl (.n rfl (.n rfl (.n rfl (.w rfl rfl (WkL.obj (.f (.o (.f (.f .nil))))) (.n rfl (.n rfl (.w rfl rfl (WkL.obj (.f (.o (.f .nil)))) (.n rfl .nil))))))))) ?_
  refine W.lp1 (s := (([] : List Decl), ([] : List Alt), 0)) (fun (s1 : List Decl × List Alt × Int) => [(0, iR eI a0), (1, I64 a1), (2, I64 a2), (6, .obj [.nils, .nils, .nils, SS ({ data := #[] }), SS ({ data := #[] })]), (9, .obj [SS ({ data := #[] }), oR eDecl_0 s1.1, .nils, SS ({ data := #[] })]), (10, I64 (min (a0.length : Int) 9)), (11, .obj [SS ({ data := #[101] }), BB false, I64 0, I64 0, SS ({ data := #[] }), I64 0]), (12, .obj [SS ({ data := #[101] }), oR eAlt_0 s1.2.1, I64 0]), (13, I64 s1.2.2)]) 0 (fun (x2 : List Decl × List Alt) => [(1, I64 a1), (2, I64 a2), (6, .obj [.nils, .nils, .nils, SS ({ data := #[] }), SS ({ data := #[] })]), (9, .obj [SS ({ data := #[] }), oR eDecl_0 x2.1, .nils, SS ({ data := #[] })]), (10, I64 (min (a0.length : Int) 9)), (11, .obj [SS ({ data := #[101] }), BB false, I64 0, I64 0, SS ({ data := #[] }), I64 0]), (12, .obj [SS ({ data := #[101] }), oR eAlt_0 x2.2, I64 0])]) hl (fun s1 o h => ?_) ?_
  · clear hl
    refine W.sq' ?_
    refine W.sq' ?_
    refine W.rx [(0, _), (1, _), (2, _), (6, _), (9, _), (10, _), (11, _), (12, _), (13, _), (25, _)] (RunL.v (O.mv (.lit rfl)) rfl rfl .none <| RunL.v (O.mv (.lit rfl)) rfl rfl .none <| RunL.v (O.lss (.lit rfl) (.lit rfl)) rfl rfl .none <| RunL.fin (.n rfl (.n rfl (.n rfl (.n rfl (.n rfl (.n rfl (.n rfl (.n rfl (.n rfl (.n rfl .nil))))))))))) ?_
    refine Px.sq ?_
    refine W.cnd rfl (fun hb4 => ?_) (fun hb4 => ?_)
    · replace h := cndT hb4 h
      refine W.sk ?_
      refine Px.sq ?_
      refine W.sq' ?_
      refine W.bk ?_
      refine W.sq' ?_
      obtain ⟨x5, hx5, h⟩ := bnd h
      obtain ⟨x6, hx6, h⟩ := bnd h
      refine W.rx [(0, _), (1, _), (2, _), (6, _), (9, _), (10, _), (11, _), (12, _), (13, _), (14, _)] (RunL.v (O.mv (.lit rfl)) rfl rfl .none <| RunL.c (PC.go (.cc (.lit rfl) .nil) (con52 s1.2.2 _ hx5) call52 rfl) rfl rfl .none <| RunL.v (O.cat (.k rfl) (.lit rfl) hx6) rfl rfl .none <| RunL.v (O.bu (cs := [SS x6, BB false, I64 0, I64 0]) sc91 ze91 rfl rfl rfl) rfl rfl .none <| RunL.v (O.al (cs := [SS ({ data := #[] }), BB false, I64 0, I64 0]) ze91 rfl rfl) rfl rfl .none <| RunL.sO (G2 := [(0, iR eI a0), (1, I64 a1), (2, I64 a2), (6, .obj [.nils, .nils, .nils, SS ({ data := #[] }), SS ({ data := #[] })]), (9, .obj [SS ({ data := #[] }), oR eDecl_0 s1.1, .nils, SS ({ data := #[] })]), (10, I64 (min (a0.length : Int) 9)), (11, .obj [SS ({ data := #[101] }), BB false, I64 0, I64 0, SS ({ data := #[] }), I64 0]), (12, .obj [SS ({ data := #[101] }), oR eAlt_0 s1.2.1, I64 0]), (13, I64 s1.2.2), (14, .obj [SS x6, BB false, I64 0, I64 0])]) (cs2 := [SS x6, BB false, I64 0, I64 0]) rfl (.obj rfl) (.aggF rfl rfl) rfl sz91 rfl rfl rfl rfl (.n rfl rfl (.n rfl rfl (.n rfl rfl (.n rfl rfl (.n rfl rfl (.n rfl rfl (.n rfl rfl (.n rfl rfl (.n rfl rfl (.b rfl .nil)))))))))) <| RunL.fin (.n rfl (.n rfl (.n rfl (.n rfl (.n rfl (.n rfl (.n rfl (.n rfl (.n rfl (.n rfl .nil))))))))))) ?_
      refine Px.sq ?_
      refine W.sq' ?_
      obtain ⟨x7, hx7, h⟩ := bnd h
      obtain ⟨x8, hx8, h⟩ := bnd h
      obtain ⟨x9, hx9, h⟩ := bnd h
      refine W.rd [[], [0], [], [], [2, 3], [2, 3, 4], [2, 3, 4, 5], [2, 3, 4, 5, 6], [], [8], [2, 3, 4, 5, 6, 7, 8, 9], [2, 3, 4, 5, 6, 7, 8, 9, 10], [0, 1, 2, 3, 4, 5, 6, 7, 8, 9, 10, 11], [0, 1, 2, 3, 4, 5, 6, 7, 8, 9, 10, 11, 12], [0, 1, 2, 3, 4, 5, 6, 7, 8, 9, 10, 11, 12, 13]] [(0, _), (1, _), (2, _), (6, _), (9, _), (10, _), (11, _), (12, _), (13, _), (14, _)] mixo (by kernel_rfl) (DL.v 0 (O.fO rfl (.obj rfl) fd25_1 rfl) rfl rfl rfl rfl .none <| DL.v 1 (O.ldO (y := .brw eDecl_0.z ⟨9, [1]⟩ s1.1.length) rfl (.ptr rfl) ct22 rfl rfl) rfl rfl rfl rfl .none <| DL.v 2 (O.mv (.imm rfl)) rfl rfl rfl rfl .none <| DL.v 3 (O.mv (.lit rfl)) rfl rfl rfl rfl .none <| DL.v 4 (O.ixI (.imm rfl) (.lit rfl) sl27 hx7) rfl rfl rfl rfl .none <| DL.v 5 (O.ldI (x := I64 x7) (.iptr rfl) ct3 rfl) rfl rfl rfl rfl .none <| DL.c 6 (PC.go (.cc (.lit rfl) (.cc (.k rfl) .nil)) (con25 x7 3 _ hx8) call25 rfl) rfl rfl rfl rfl .none <| DL.v 7 (O.add (.k rfl) (.lit rfl)) rfl rfl rfl rfl .none <| DL.v 8 (O.ldON (cs' := [SS x6, BB false, I64 0, I64 0]) rfl (.obj rfl) at91 rfl rfl) rfl rfl rfl rfl .none <| DL.vi 9 (x := iR eSym [(⟨x6, false, 0, 0⟩ : Sym)]) (O.bs (ys := [.agg [SS x6, BB false, I64 0, I64 0]]) eSym [(⟨x6, false, 0, 0⟩ : Sym)] sl87 rfl rfl rfl rfl rfl rfl zt91 rfl rfl) rfl rfl rfl rfl .none <| DL.v 10 (O.bu (cs := [I64 (w64 (2 + x8)), SS ({ data := #[] }), iR eSym [(⟨x6, false, 0, 0⟩ : Sym)], I64 0]) sc89 ze89 rfl rfl rfl) rfl rfl rfl rfl .none <| DL.vi 11 (x := iR eDecl_0 [(⟨w64 (2 + x8), { data := #[] }, [(⟨x6, false, 0, 0⟩ : Sym)], 0⟩ : Decl)]) (O.bs (ys := [.agg [I64 (w64 (2 + x8)), SS ({ data := #[] }), iR eSym [(⟨x6, false, 0, 0⟩ : Sym)], I64 0]]) eDecl_0 [(⟨w64 (2 + x8), { data := #[] }, [(⟨x6, false, 0, 0⟩ : Sym)], 0⟩ : Decl)] sl22 rfl rfl rfl rfl rfl rfl zt89 rfl rfl) rfl rfl rfl rfl .none <| DL.v 12 (O.ap (en := eDecl_0) (r := x9) (.brw rfl) rfl (.imm rfl) .i ap22 rfl hx9) rfl rfl rfl rfl .none <| DL.v 13 (O.fO rfl (.obj rfl) fd25_1 rfl) rfl rfl rfl rfl .none <| DL.bp 14 (G2 := [(0, iR eI a0), (1, I64 a1), (2, I64 a2), (6, .obj [.nils, .nils, .nils, SS ({ data := #[] }), SS ({ data := #[] })]), (9, .obj [SS ({ data := #[] }), oR eDecl_0 (s1.1 ++ [(⟨w64 (2 + x8), { data := #[] }, [(⟨x6, false, 0, 0⟩ : Sym)], 0⟩ : Decl)]), .nils, SS ({ data := #[] })]), (10, I64 (min (a0.length : Int) 9)), (11, .obj [SS ({ data := #[101] }), BB false, I64 0, I64 0, SS ({ data := #[] }), I64 0]), (12, .obj [SS ({ data := #[101] }), oR eAlt_0 s1.2.1, I64 0]), (13, I64 s1.2.2), (14, .obj [SS x6, BB false, I64 0, I64 0])]) (EO.stP (g1 := _) (en := eDecl_0) (M := [(⟨w64 (2 + x8), { data := #[] }, [(⟨x6, false, 0, 0⟩ : Sym)], 0⟩ : Decl)]) (cs2 := [SS ({ data := #[] }), oR eDecl_0 (s1.1 ++ [(⟨w64 (2 + x8), { data := #[] }, [(⟨x6, false, 0, 0⟩ : Sym)], 0⟩ : Decl)]), .nils, SS ({ data := #[] })]) rfl rfl (.ptr rfl) (.pend rfl) rfl rfl rfl .ns .rf rfl rfl sz22 rfl rfl rfl rfl (.n rfl rfl (.n rfl rfl (.n rfl rfl (.n rfl rfl (.b rfl (.n rfl rfl (.n rfl rfl (.n rfl rfl (.n rfl rfl (.n rfl rfl .nil))))))))))) rfl rfl rfl rfl (by kernel_rfl) (by kernel_rfl) <| DL.fin rfl rfl rfl (.n rfl (.n rfl (.n rfl (.n rfl (.n rfl (.n rfl (.n rfl (.n rfl (.n rfl (.n rfl .nil))))))))))) ?_
      refine Px.sq ?_
      obtain ⟨x10, hx10, h⟩ := bnd h
      refine W.rx [(0, _), (1, _), (2, _), (6, _), (9, _), (10, _), (11, _), (12, _), (13, _)] (RunL.v (O.fO rfl (.obj rfl) fd95_1 rfl) rfl rfl .none <| RunL.v (O.ldO (y := .brw eAlt_0.z ⟨12, [1]⟩ s1.2.1.length) rfl (.ptr rfl) ct93 rfl rfl) rfl rfl .none <| RunL.v (O.ldON (cs' := [SS ({ data := #[101] }), BB false, I64 0, I64 0, SS ({ data := #[] }), I64 0]) rfl (.obj rfl) at100 rfl rfl) rfl rfl .none <| RunL.v (O.ldON (cs' := [SS x6, BB false, I64 0, I64 0]) rfl (.obj rfl) at91 rfl rfl) rfl rfl .none <| RunL.v (O.bu (cs := [SS x6, BB false, I64 0, I64 0, SS ({ data := #[] }), I64 0]) sc100 ze100 rfl rfl rfl) rfl rfl .none <| RunL.v (O.ldON (cs' := [SS ({ data := #[101] }), BB false, I64 0, I64 0, SS ({ data := #[] }), I64 0]) rfl (.obj rfl) at100 rfl rfl) rfl rfl .none <| RunL.vi (x := iR ePart [(⟨(⟨{ data := #[101] }, false, 0, 0⟩ : Sym), { data := #[] }, 0⟩ : Part), (⟨(⟨x6, false, 0, 0⟩ : Sym), { data := #[] }, 0⟩ : Part), (⟨(⟨{ data := #[101] }, false, 0, 0⟩ : Sym), { data := #[] }, 0⟩ : Part)]) (O.bs (ys := [.agg [SS ({ data := #[101] }), BB false, I64 0, I64 0, SS ({ data := #[] }), I64 0], .agg [SS x6, BB false, I64 0, I64 0, SS ({ data := #[] }), I64 0], .agg [SS ({ data := #[101] }), BB false, I64 0, I64 0, SS ({ data := #[] }), I64 0]]) ePart [(⟨(⟨{ data := #[101] }, false, 0, 0⟩ : Sym), { data := #[] }, 0⟩ : Part), (⟨(⟨x6, false, 0, 0⟩ : Sym), { data := #[] }, 0⟩ : Part), (⟨(⟨{ data := #[101] }, false, 0, 0⟩ : Sym), { data := #[] }, 0⟩ : Part)] sl96 rfl rfl rfl rfl rfl rfl zt100 rfl rfl) rfl rfl .none <| RunL.v (O.bu (cs := [iR ePart [(⟨(⟨{ data := #[101] }, false, 0, 0⟩ : Sym), { data := #[] }, 0⟩ : Part), (⟨(⟨x6, false, 0, 0⟩ : Sym), { data := #[] }, 0⟩ : Part), (⟨(⟨{ data := #[101] }, false, 0, 0⟩ : Sym), { data := #[] }, 0⟩ : Part)], SS ({ data := #[] }), BB false, I64 0, I64 0, I64 0]) sc98 ze98 rfl rfl rfl) rfl rfl .none <| RunL.vi (x := iR eAlt_0 [(⟨[(⟨(⟨{ data := #[101] }, false, 0, 0⟩ : Sym), { data := #[] }, 0⟩ : Part), (⟨(⟨x6, false, 0, 0⟩ : Sym), { data := #[] }, 0⟩ : Part), (⟨(⟨{ data := #[101] }, false, 0, 0⟩ : Sym), { data := #[] }, 0⟩ : Part)], (⟨{ data := #[] }, false, 0, 0⟩ : Sym), 0⟩ : Alt)]) (O.bs (ys := [.agg [iR ePart [(⟨(⟨{ data := #[101] }, false, 0, 0⟩ : Sym), { data := #[] }, 0⟩ : Part), (⟨(⟨x6, false, 0, 0⟩ : Sym), { data := #[] }, 0⟩ : Part), (⟨(⟨{ data := #[101] }, false, 0, 0⟩ : Sym), { data := #[] }, 0⟩ : Part)], SS ({ data := #[] }), BB false, I64 0, I64 0, I64 0]]) eAlt_0 [(⟨[(⟨(⟨{ data := #[101] }, false, 0, 0⟩ : Sym), { data := #[] }, 0⟩ : Part), (⟨(⟨x6, false, 0, 0⟩ : Sym), { data := #[] }, 0⟩ : Part), (⟨(⟨{ data := #[101] }, false, 0, 0⟩ : Sym), { data := #[] }, 0⟩ : Part)], (⟨{ data := #[] }, false, 0, 0⟩ : Sym), 0⟩ : Alt)] sl93 rfl rfl rfl rfl rfl rfl zt98 rfl rfl) rfl rfl .none <| RunL.v (O.ap (en := eAlt_0) (r := x10) (.brw rfl) rfl (.imm rfl) .i ap93 rfl hx10) rfl rfl .none <| RunL.v (O.fO rfl (.obj rfl) fd95_1 rfl) rfl rfl .none <| RunL.ef (G2 := [(0, iR eI a0), (1, I64 a1), (2, I64 a2), (6, .obj [.nils, .nils, .nils, SS ({ data := #[] }), SS ({ data := #[] })]), (9, .obj [SS ({ data := #[] }), oR eDecl_0 (s1.1 ++ [(⟨w64 (2 + x8), { data := #[] }, [(⟨x6, false, 0, 0⟩ : Sym)], 0⟩ : Decl)]), .nils, SS ({ data := #[] })]), (10, I64 (min (a0.length : Int) 9)), (11, .obj [SS ({ data := #[101] }), BB false, I64 0, I64 0, SS ({ data := #[] }), I64 0]), (12, .obj [SS ({ data := #[101] }), oR eAlt_0 (s1.2.1 ++ [(⟨[(⟨(⟨{ data := #[101] }, false, 0, 0⟩ : Sym), { data := #[] }, 0⟩ : Part), (⟨(⟨x6, false, 0, 0⟩ : Sym), { data := #[] }, 0⟩ : Part), (⟨(⟨{ data := #[101] }, false, 0, 0⟩ : Sym), { data := #[] }, 0⟩ : Part)], (⟨{ data := #[] }, false, 0, 0⟩ : Sym), 0⟩ : Alt)]), I64 0]), (13, I64 s1.2.2)]) rfl (EO.stP (g1 := _) (en := eAlt_0) (M := [(⟨[(⟨(⟨{ data := #[101] }, false, 0, 0⟩ : Sym), { data := #[] }, 0⟩ : Part), (⟨(⟨x6, false, 0, 0⟩ : Sym), { data := #[] }, 0⟩ : Part), (⟨(⟨{ data := #[101] }, false, 0, 0⟩ : Sym), { data := #[] }, 0⟩ : Part)], (⟨{ data := #[] }, false, 0, 0⟩ : Sym), 0⟩ : Alt)]) (cs2 := [SS ({ data := #[101] }), oR eAlt_0 (s1.2.1 ++ [(⟨[(⟨(⟨{ data := #[101] }, false, 0, 0⟩ : Sym), { data := #[] }, 0⟩ : Part), (⟨(⟨x6, false, 0, 0⟩ : Sym), { data := #[] }, 0⟩ : Part), (⟨(⟨{ data := #[101] }, false, 0, 0⟩ : Sym), { data := #[] }, 0⟩ : Part)], (⟨{ data := #[] }, false, 0, 0⟩ : Sym), 0⟩ : Alt)]), I64 0]) rfl rfl (.ptr rfl) (.pend rfl) rfl rfl rfl .ns .rf rfl rfl sz93 rfl rfl rfl rfl (.n rfl rfl (.n rfl rfl (.n rfl rfl (.n rfl rfl (.n rfl rfl (.n rfl rfl (.n rfl rfl (.b rfl (.n rfl rfl .nil)))))))))) <| RunL.fin (.n rfl (.n rfl (.n rfl (.n rfl (.n rfl (.n rfl (.n rfl (.n rfl (.n rfl .nil)))))))))) ?_
      refine Px.bk ?_
      refine Px.sq ?_
      refine W.rx [(0, _), (1, _), (2, _), (6, _), (9, _), (10, _), (11, _), (12, _), (13, _)] (RunL.v (O.mv (.lit rfl)) rfl rfl .none <| RunL.v (O.add (.lit rfl) (.k rfl)) rfl rfl .none <| RunL.re (G1 := [(0, iR eI a0), (1, I64 a1), (2, I64 a2), (6, .obj [.nils, .nils, .nils, SS ({ data := #[] }), SS ({ data := #[] })]), (9, .obj [SS ({ data := #[] }), oR eDecl_0 (s1.1 ++ [(⟨w64 (2 + x8), { data := #[] }, [(⟨x6, false, 0, 0⟩ : Sym)], 0⟩ : Decl)]), .nils, SS ({ data := #[] })]), (10, I64 (min (a0.length : Int) 9)), (11, .obj [SS ({ data := #[101] }), BB false, I64 0, I64 0, SS ({ data := #[] }), I64 0]), (12, .obj [SS ({ data := #[101] }), oR eAlt_0 (s1.2.1 ++ [(⟨[(⟨(⟨{ data := #[101] }, false, 0, 0⟩ : Sym), { data := #[] }, 0⟩ : Part), (⟨(⟨x6, false, 0, 0⟩ : Sym), { data := #[] }, 0⟩ : Part), (⟨(⟨{ data := #[101] }, false, 0, 0⟩ : Sym), { data := #[] }, 0⟩ : Part)], (⟨{ data := #[] }, false, 0, 0⟩ : Sym), 0⟩ : Alt)]), I64 0]), (27, I64 (w64 (s1.2.2 + 1)))]) (.n rfl (.n rfl (.n rfl (.n rfl (.n rfl (.n rfl (.n rfl (.n rfl (.n rfl .nil))))))))) <| RunL.v (O.as (.lit rfl)) rfl rfl .none <| RunL.fin (.n rfl (.n rfl (.n rfl (.n rfl (.n rfl (.n rfl (.n rfl (.n rfl (.n rfl .nil)))))))))) ?_
      obtain rfl := sm h
      exact Px.go (.n rfl (.n rfl (.n rfl (.n rfl (.n rfl (.n rfl (.n rfl (.n rfl (.n rfl .nil)))))))))
    · replace h := cndF hb4 h
      refine W.xi ?_
      refine Px.sqE ?_
      obtain rfl := sm h
      exact Px.x1 (.n rfl (.n rfl (.n rfl (.n rfl (.n rfl (.n rfl (.n rfl .nil)))))))
  refine Px.bkH ?_
  refine Px.sq ?_
  refine W.sq' ?_
  obtain ⟨x11, hx11, h⟩ := bnd h
  refine W.rx [(1, _), (2, _), (6, _), (9, _), (10, _), (11, _), (12, _)] (RunL.v (O.fO rfl (.obj rfl) fd95_1 rfl) rfl rfl .none <| RunL.v (O.ldO (y := .brw eAlt_0.z ⟨12, [1]⟩ x2.2.length) rfl (.ptr rfl) ct93 rfl rfl) rfl rfl .none <| RunL.v (O.bu (cs := [SS ({ data := #[120] }), BB true, I64 0, I64 0]) sc91 ze91 rfl rfl rfl) rfl rfl .none <| RunL.v (O.bu (cs := [SS ({ data := #[120] }), BB true, I64 0, I64 0, SS ({ data := #[] }), I64 0]) sc100 ze100 rfl rfl rfl) rfl rfl .none <| RunL.vi (x := iR ePart [(⟨(⟨{ data := #[120] }, true, 0, 0⟩ : Sym), { data := #[] }, 0⟩ : Part)]) (O.bs (ys := [.agg [SS ({ data := #[120] }), BB true, I64 0, I64 0, SS ({ data := #[] }), I64 0]]) ePart [(⟨(⟨{ data := #[120] }, true, 0, 0⟩ : Sym), { data := #[] }, 0⟩ : Part)] sl96 rfl rfl rfl rfl rfl rfl zt100 rfl rfl) rfl rfl .none <| RunL.v (O.bu (cs := [iR ePart [(⟨(⟨{ data := #[120] }, true, 0, 0⟩ : Sym), { data := #[] }, 0⟩ : Part)], SS ({ data := #[] }), BB false, I64 0, I64 0, I64 0]) sc98 ze98 rfl rfl rfl) rfl rfl .none <| RunL.vi (x := iR eAlt_0 [(⟨[(⟨(⟨{ data := #[120] }, true, 0, 0⟩ : Sym), { data := #[] }, 0⟩ : Part)], (⟨{ data := #[] }, false, 0, 0⟩ : Sym), 0⟩ : Alt)]) (O.bs (ys := [.agg [iR ePart [(⟨(⟨{ data := #[120] }, true, 0, 0⟩ : Sym), { data := #[] }, 0⟩ : Part)], SS ({ data := #[] }), BB false, I64 0, I64 0, I64 0]]) eAlt_0 [(⟨[(⟨(⟨{ data := #[120] }, true, 0, 0⟩ : Sym), { data := #[] }, 0⟩ : Part)], (⟨{ data := #[] }, false, 0, 0⟩ : Sym), 0⟩ : Alt)] sl93 rfl rfl rfl rfl rfl rfl zt98 rfl rfl) rfl rfl .none <| RunL.v (O.ap (en := eAlt_0) (r := x11) (.brw rfl) rfl (.imm rfl) .i ap93 rfl hx11) rfl rfl .none <| RunL.v (O.fO rfl (.obj rfl) fd95_1 rfl) rfl rfl .none <| RunL.ef (G2 := [(1, I64 a1), (2, I64 a2), (6, .obj [.nils, .nils, .nils, SS ({ data := #[] }), SS ({ data := #[] })]), (9, .obj [SS ({ data := #[] }), oR eDecl_0 x2.1, .nils, SS ({ data := #[] })]), (10, I64 (min (a0.length : Int) 9)), (11, .obj [SS ({ data := #[101] }), BB false, I64 0, I64 0, SS ({ data := #[] }), I64 0]), (12, .obj [SS ({ data := #[101] }), oR eAlt_0 (x2.2 ++ [(⟨[(⟨(⟨{ data := #[120] }, true, 0, 0⟩ : Sym), { data := #[] }, 0⟩ : Part)], (⟨{ data := #[] }, false, 0, 0⟩ : Sym), 0⟩ : Alt)]), I64 0])]) rfl (EO.stP (g1 := _) (en := eAlt_0) (M := [(⟨[(⟨(⟨{ data := #[120] }, true, 0, 0⟩ : Sym), { data := #[] }, 0⟩ : Part)], (⟨{ data := #[] }, false, 0, 0⟩ : Sym), 0⟩ : Alt)]) (cs2 := [SS ({ data := #[101] }), oR eAlt_0 (x2.2 ++ [(⟨[(⟨(⟨{ data := #[120] }, true, 0, 0⟩ : Sym), { data := #[] }, 0⟩ : Part)], (⟨{ data := #[] }, false, 0, 0⟩ : Sym), 0⟩ : Alt)]), I64 0]) rfl rfl (.ptr rfl) (.pend rfl) rfl rfl rfl .ns .rf rfl rfl sz93 rfl rfl rfl rfl (.n rfl rfl (.n rfl rfl (.n rfl rfl (.n rfl rfl (.n rfl rfl (.n rfl rfl (.b rfl .nil)))))))) <| RunL.fin (.n rfl (.n rfl (.n rfl (.n rfl (.n rfl (.n rfl (.n rfl .nil)))))))) ?_
  refine Px.sq ?_
  refine W.sq' ?_
  refine W.sq' ?_
  refine W.rx [(1, _), (2, _), (6, _), (9, _), (10, _), (11, _), (12, _), (67, _)] (RunL.v (O.mv (.lit rfl)) rfl rfl .none <| RunL.v (O.gtr (.lit rfl) (.k rfl)) rfl rfl .none <| RunL.fin (.n rfl (.n rfl (.n rfl (.n rfl (.n rfl (.n rfl (.n rfl (.n rfl .nil))))))))) ?_
  refine Px.sq ?_
  obtain ⟨j12, hj, h⟩ := bnd h
  refine W.jn [(6, .obj [.nils, .nils, .nils, SS ({ data := #[] }), SS ({ data := #[] })]), (9, .obj [SS ({ data := #[] }), oR eDecl_0 x2.1, .nils, SS ({ data := #[] })]), (10, I64 (min (a0.length : Int) 9)), (12, .obj [SS ({ data := #[101] }), oR eAlt_0 j12, I64 0])] ?_ ?_
  · clear h; have h := hj; clear hj
    refine W.cnd rfl (fun hb13 => ?_) (fun hb13 => ?_)
    · replace h := cndT hb13 h
      obtain ⟨x14, hx14, h⟩ := bnd h
      obtain ⟨x15, hx15, h⟩ := bnd h
      obtain ⟨x16, hx16, h⟩ := bnd h
      obtain ⟨x17, hx17, h⟩ := bnd h
      obtain ⟨x18, hx18, h⟩ := bnd h
      refine W.rd [[], [0], [], [2], [2, 3], [2, 3, 4], [2, 3, 4, 5], [], [2, 3, 4, 5, 6, 7], [], [2, 3, 9], [2, 3, 9, 10], [2, 3, 9, 10, 11], [2, 3, 4, 5, 6, 7, 8, 9, 10, 11, 12], [2, 3, 4, 5, 6, 7, 8, 9, 10, 11, 12, 13], [0, 1, 2, 3, 4, 5, 6, 7, 8, 9, 10, 11, 12, 13, 14], [0, 1, 2, 3, 4, 5, 6, 7, 8, 9, 10, 11, 12, 13, 14, 15], [0, 1, 2, 3, 4, 5, 6, 7, 8, 9, 10, 11, 12, 13, 14, 15, 16]] [(6, _), (9, _), (10, _), (12, _)] mixo (by kernel_rfl) (DL.v 0 (O.fO rfl (.obj rfl) fd95_1 rfl) rfl rfl rfl rfl .none <| DL.v 1 (O.ldO (y := .brw eAlt_0.z ⟨12, [1]⟩ (x2.2 ++ [(⟨[(⟨(⟨{ data := #[120] }, true, 0, 0⟩ : Sym), { data := #[] }, 0⟩ : Part)], (⟨{ data := #[] }, false, 0, 0⟩ : Sym), 0⟩ : Alt)]).length) rfl (.ptr rfl) ct93 rfl rfl) rfl rfl rfl rfl .none <| DL.v 2 (O.mv (.lit rfl)) rfl rfl rfl rfl .none <| DL.c 3 (PC.go (.cc (.lit rfl) .nil) (con52 a1 _ hx14) call52 rfl) rfl rfl rfl rfl .none <| DL.v 4 (O.cat (.k rfl) (.lit rfl) hx15) rfl rfl rfl rfl .none <| DL.v 5 (O.bu (cs := [SS x15, BB false, I64 0, I64 0]) sc91 ze91 rfl rfl rfl) rfl rfl rfl rfl .none <| DL.v 6 (O.bu (cs := [SS x15, BB false, I64 0, I64 0, SS ({ data := #[] }), I64 0]) sc100 ze100 rfl rfl rfl) rfl rfl rfl rfl .none <| DL.v 7 (O.ldON (cs' := [SS ({ data := #[101] }), BB false, I64 0, I64 0, SS ({ data := #[] }), I64 0]) rfl (.obj rfl) at100 rfl rfl) rfl rfl rfl rfl .none <| DL.vi 8 (x := iR ePart [(⟨(⟨x15, false, 0, 0⟩ : Sym), { data := #[] }, 0⟩ : Part), (⟨(⟨{ data := #[101] }, false, 0, 0⟩ : Sym), { data := #[] }, 0⟩ : Part)]) (O.bs (ys := [.agg [SS x15, BB false, I64 0, I64 0, SS ({ data := #[] }), I64 0], .agg [SS ({ data := #[101] }), BB false, I64 0, I64 0, SS ({ data := #[] }), I64 0]]) ePart [(⟨(⟨x15, false, 0, 0⟩ : Sym), { data := #[] }, 0⟩ : Part), (⟨(⟨{ data := #[101] }, false, 0, 0⟩ : Sym), { data := #[] }, 0⟩ : Part)] sl96 rfl rfl rfl rfl rfl rfl zt100 rfl rfl) rfl rfl rfl rfl .none <| DL.v 9 (O.mv (.lit rfl)) rfl rfl rfl rfl .none <| DL.c 10 (PC.go (.cc (.lit rfl) .nil) (con52 a2 _ hx16) call52 rfl) rfl rfl rfl rfl .none <| DL.v 11 (O.cat (.k rfl) (.lit rfl) hx17) rfl rfl rfl rfl .none <| DL.v 12 (O.bu (cs := [SS x17, BB false, I64 0, I64 0]) sc91 ze91 rfl rfl rfl) rfl rfl rfl rfl .none <| DL.v 13 (O.bu (cs := [iR ePart [(⟨(⟨x15, false, 0, 0⟩ : Sym), { data := #[] }, 0⟩ : Part), (⟨(⟨{ data := #[101] }, false, 0, 0⟩ : Sym), { data := #[] }, 0⟩ : Part)], SS x17, BB false, I64 0, I64 0, I64 0]) sc98 ze98 rfl rfl rfl) rfl rfl rfl rfl .none <| DL.vi 14 (x := iR eAlt_0 [(⟨[(⟨(⟨x15, false, 0, 0⟩ : Sym), { data := #[] }, 0⟩ : Part), (⟨(⟨{ data := #[101] }, false, 0, 0⟩ : Sym), { data := #[] }, 0⟩ : Part)], (⟨x17, false, 0, 0⟩ : Sym), 0⟩ : Alt)]) (O.bs (ys := [.agg [iR ePart [(⟨(⟨x15, false, 0, 0⟩ : Sym), { data := #[] }, 0⟩ : Part), (⟨(⟨{ data := #[101] }, false, 0, 0⟩ : Sym), { data := #[] }, 0⟩ : Part)], SS x17, BB false, I64 0, I64 0, I64 0]]) eAlt_0 [(⟨[(⟨(⟨x15, false, 0, 0⟩ : Sym), { data := #[] }, 0⟩ : Part), (⟨(⟨{ data := #[101] }, false, 0, 0⟩ : Sym), { data := #[] }, 0⟩ : Part)], (⟨x17, false, 0, 0⟩ : Sym), 0⟩ : Alt)] sl93 rfl rfl rfl rfl rfl rfl zt98 rfl rfl) rfl rfl rfl rfl .none <| DL.v 15 (O.ap (en := eAlt_0) (r := x18) (.brw rfl) rfl (.imm rfl) .i ap93 rfl hx18) rfl rfl rfl rfl .none <| DL.v 16 (O.fO rfl (.obj rfl) fd95_1 rfl) rfl rfl rfl rfl .none <| DL.bp 17 (G2 := [(6, .obj [.nils, .nils, .nils, SS ({ data := #[] }), SS ({ data := #[] })]), (9, .obj [SS ({ data := #[] }), oR eDecl_0 x2.1, .nils, SS ({ data := #[] })]), (10, I64 (min (a0.length : Int) 9)), (12, .obj [SS ({ data := #[101] }), oR eAlt_0 ((x2.2 ++ [(⟨[(⟨(⟨{ data := #[120] }, true, 0, 0⟩ : Sym), { data := #[] }, 0⟩ : Part)], (⟨{ data := #[] }, false, 0, 0⟩ : Sym), 0⟩ : Alt)]) ++ [(⟨[(⟨(⟨x15, false, 0, 0⟩ : Sym), { data := #[] }, 0⟩ : Part), (⟨(⟨{ data := #[101] }, false, 0, 0⟩ : Sym), { data := #[] }, 0⟩ : Part)], (⟨x17, false, 0, 0⟩ : Sym), 0⟩ : Alt)]), I64 0])]) (EO.stP (g1 := _) (en := eAlt_0) (M := [(⟨[(⟨(⟨x15, false, 0, 0⟩ : Sym), { data := #[] }, 0⟩ : Part), (⟨(⟨{ data := #[101] }, false, 0, 0⟩ : Sym), { data := #[] }, 0⟩ : Part)], (⟨x17, false, 0, 0⟩ : Sym), 0⟩ : Alt)]) (cs2 := [SS ({ data := #[101] }), oR eAlt_0 ((x2.2 ++ [(⟨[(⟨(⟨{ data := #[120] }, true, 0, 0⟩ : Sym), { data := #[] }, 0⟩ : Part)], (⟨{ data := #[] }, false, 0, 0⟩ : Sym), 0⟩ : Alt)]) ++ [(⟨[(⟨(⟨x15, false, 0, 0⟩ : Sym), { data := #[] }, 0⟩ : Part), (⟨(⟨{ data := #[101] }, false, 0, 0⟩ : Sym), { data := #[] }, 0⟩ : Part)], (⟨x17, false, 0, 0⟩ : Sym), 0⟩ : Alt)]), I64 0]) rfl rfl (.ptr rfl) (.pend rfl) rfl rfl rfl .ns .rf rfl rfl sz93 rfl rfl rfl rfl (.n rfl rfl (.n rfl rfl (.n rfl rfl (.b rfl .nil))))) rfl rfl rfl rfl (by kernel_rfl) (by kernel_rfl) <| DL.fin rfl rfl rfl (.n rfl (.n rfl (.n rfl (.n rfl .nil))))) ?_
      obtain rfl := sm h
      exact Px.jn (.n rfl (.n rfl (.n rfl (.n rfl .nil))))
    · replace h := cndF hb13 h
      refine W.sk ?_
      obtain rfl := sm h
      exact Px.jn (.n rfl (.n rfl (.n rfl (.n rfl .nil))))
  refine Px.sq ?_
  refine W.sq' ?_
  refine W.fz (G1 := [(6, .obj [.nils, .nils, .nils, SS ({ data := #[] }), SS ({ data := #[] })]), (9, .obj [SS ({ data := #[] }), oR eDecl_0 x2.1, .nils, SS ({ data := #[] })]), (10, I64 (min (a0.length : Int) 9)), (12, .obj [SS ({ data := #[101] }), iR eAlt_0 j12, I64 0])]) [12] (.n rfl rfl (.n rfl rfl (.n rfl rfl (.z rfl rfl (FzL.obj (.f (.z (.f .nil)))) .nil)))) ?_
  refine W.rx [(6, _), (9, _), (10, _)] (RunL.v (O.ldON (cs' := [SS ({ data := #[101] }), iR eAlt_0 j12, I64 0]) rfl (.obj rfl) at95 rfl rfl) rfl rfl .none <| RunL.v (O.bs (ys := [.agg [SS ({ data := #[101] }), iR eAlt_0 j12, I64 0]]) eRule_0 [(⟨{ data := #[101] }, j12, 0⟩ : Rule)] sl23 rfl rfl rfl rfl rfl rfl zt95 rfl rfl) rfl rfl .none <| RunL.v (O.fO rfl (.obj rfl) fd25_2 rfl) rfl rfl .none <| RunL.ef (G2 := [(6, .obj [.nils, .nils, .nils, SS ({ data := #[] }), SS ({ data := #[] })]), (9, .obj [SS ({ data := #[] }), oR eDecl_0 x2.1, oR eRule_0 [(⟨{ data := #[101] }, j12, 0⟩ : Rule)], SS ({ data := #[] })]), (10, I64 (min (a0.length : Int) 9))]) rfl (EO.stB (y' := oR eRule_0 [(⟨{ data := #[101] }, j12, 0⟩ : Rule)]) (cs2 := [SS ({ data := #[] }), oR eDecl_0 x2.1, oR eRule_0 [(⟨{ data := #[101] }, j12, 0⟩ : Rule)], SS ({ data := #[] })]) rfl rfl (.ptr rfl) (.own rfl) (.r rfl .nil) .refl rfl sz23 rfl rfl rfl rfl rfl (.n rfl rfl (.b rfl (.n rfl rfl .nil)))) <| RunL.fin (.n rfl (.n rfl (.n rfl .nil)))) ?_
  refine Px.sq ?_
  refine W.sq' ?_
  refine W.fz (G1 := [(6, .obj [.nils, .nils, .nils, SS ({ data := #[] }), SS ({ data := #[] })]), (9, .obj [SS ({ data := #[] }), iR eDecl_0 x2.1, iR eRule_0 [(⟨{ data := #[101] }, j12, 0⟩ : Rule)], SS ({ data := #[] })]), (10, I64 (min (a0.length : Int) 9))]) [9] (.n rfl rfl (.z rfl rfl (FzL.obj (.f (.z (.z (.f .nil))))) (.n rfl rfl .nil))) ?_
  obtain ⟨x19, hx19, h⟩ := bnd h
  refine W.rx [(6, _), (10, _), (15, _), (16, _)] (RunL.v (O.ldON (cs' := [SS ({ data := #[] }), iR eDecl_0 x2.1, iR eRule_0 [(⟨{ data := #[101] }, j12, 0⟩ : Rule)], SS ({ data := #[] })]) rfl (.obj rfl) at25 rfl rfl) rfl rfl .none <| RunL.c (PC.go (.cc (.aggF rfl rfl) .nil) (con18 (⟨{ data := #[] }, x2.1, [(⟨{ data := #[101] }, j12, 0⟩ : Rule)], { data := #[] }⟩ : Source) _ hx19) call18 rfl) rfl rfl .none <| RunL.v (O.mv (.tup rfl rfl)) rfl rfl .none <| RunL.v (O.ex (y := .agg [iR eTok x19.1.Toks, iR eNon x19.1.Nons, iR eProd_0 x19.1.Prods, SS x19.1.Pro, SS x19.1.Tail]) rfl rfl rfl) rfl rfl .none <| RunL.v (O.ex (y := BB x19.2) rfl rfl rfl) rfl rfl .none <| RunL.v (O.al (cs := [.nils, .nils, .nils, SS ({ data := #[] }), SS ({ data := #[] })]) ze38 rfl rfl) rfl rfl .none <| RunL.sO (G2 := [(6, .obj [.nils, .nils, .nils, SS ({ data := #[] }), SS ({ data := #[] })]), (10, I64 (min (a0.length : Int) 9)), (15, .obj [iR eTok x19.1.Toks, iR eNon x19.1.Nons, iR eProd_0 x19.1.Prods, SS x19.1.Pro, SS x19.1.Tail]), (92, BB x19.2)]) (cs2 := [iR eTok x19.1.Toks, iR eNon x19.1.Nons, iR eProd_0 x19.1.Prods, SS x19.1.Pro, SS x19.1.Tail]) rfl (.obj rfl) (.aggF rfl rfl) rfl sz38 rfl rfl rfl rfl (.n rfl rfl (.n rfl rfl (.b rfl (.n rfl rfl .nil)))) <| RunL.v (O.as (.lit rfl)) rfl rfl .none <| RunL.fin (.n rfl (.n rfl (.n rfl (.n rfl .nil))))) ?_
  refine Px.sq ?_
  refine W.sq' ?_
  refine W.rx [(6, _), (7, _), (8, _)] (RunL.v (O.ldON (cs' := [iR eTok x19.1.Toks, iR eNon x19.1.Nons, iR eProd_0 x19.1.Prods, SS x19.1.Pro, SS x19.1.Tail]) rfl (.obj rfl) at38 rfl rfl) rfl rfl .none <| RunL.v (O.mv (.lit rfl)) rfl rfl .none <| RunL.v (O.mv (.lit rfl)) rfl rfl .none <| RunL.sO (G2 := [(6, .obj [iR eTok x19.1.Toks, iR eNon x19.1.Nons, iR eProd_0 x19.1.Prods, SS x19.1.Pro, SS x19.1.Tail]), (94, I64 (min (a0.length : Int) 9)), (95, BB x19.2)]) (cs2 := [iR eTok x19.1.Toks, iR eNon x19.1.Nons, iR eProd_0 x19.1.Prods, SS x19.1.Pro, SS x19.1.Tail]) rfl (.obj rfl) (.aggF rfl rfl) rfl sz38 rfl rfl rfl rfl (.b rfl (.n rfl rfl (.n rfl rfl .nil))) <| RunL.v (O.as (.lit rfl)) rfl rfl .none <| RunL.v (O.as (.lit rfl)) rfl rfl .none <| RunL.fin (.n rfl (.n rfl (.n rfl .nil)))) ?_
  refine Px.sq ?_
  refine W.rt ?_
  obtain rfl := sm h
  exact Px.fin (Fin.ro (.c (ys0 := [iR eTok x19.1.Toks, iR eNon x19.1.Nons, iR eProd_0 x19.1.Prods, SS x19.1.Pro, SS x19.1.Tail]) rfl at38 rfl rfl rfl (.f rfl (.f rfl (.f rfl (.f rfl (.f rfl .nil))))) (.f rfl rfl (.f rfl rfl .nil))) rfl (of_decide_eq_true (by kernel_rfl)) (.no (.no (.no .nil))) rfl (.inr rfl))
def pf20 (a0 : Grammar) (a1 : Int) : Option (Int × Int) :=
 ((bif decide (a1 < 0) then some true else (bif decide ((a0.Prods.length : Int) ≤ a1) then some true else ((idx a0.Prods a1).bind fun x3 => some (decide (x3.Prec < 0)))))).bind fun c4 =>
 (bif c4 then
 some (0, 0)
 else
 (idx a0.Prods a1).bind fun x6 =>
 (idx a0.Toks x6.Prec).bind fun x7 =>
 some (x7.Level, x7.Assoc))
theorem con20 (a0 : Grammar) (a1 : Int) (r : Int × Int) (h : pf20 a0 a1 = some r) : Con Try.prog 20 [.agg [iR eTok a0.Toks, iR eNon a0.Nons, iR eProd_0 a0.Prods, SS a0.Pro, SS a0.Tail], I64 a1] [none, none] (.tup [I64 r.1, I64 r.2]) := by
  unfold pf20 at h
  refine Con.go (N := ⟨39, []⟩) Try.func20 rfl rfl rfl rfl (W.fin ?_)
  refine W.st [(0, .agg [iR eTok a0.Toks, iR eNon a0.Nons, iR eProd_0 a0.Prods, SS a0.Pro, SS a0.Tail]), (1, I64 a1)] ?_
  refine W.sq' ?_
  refine W.rx [(1, _), (2, _)] (RunL.v (O.box (.aggF rfl rfl) rfl) rfl rfl .none <| RunL.v (O.as (.k rfl)) rfl rfl .none <| RunL.v (O.as (.k rfl)) rfl rfl .none <| RunL.fin (.n rfl (.n rfl .nil))) ?_
  refine Px.sq ?_
  refine W.sq' ?_
  refine W.sq' ?_
  obtain ⟨c4, hj, h⟩ := bnd h
  refine W.rx [(1, I64 a1), (2, .obj [iR eTok a0.Toks, iR eNon a0.Nons, iR eProd_0 a0.Prods, SS a0.Pro, SS a0.Tail]), (24, BB c4)] ?_ ?_
  · refine RunL.v (O.mv (.lit rfl)) rfl rfl .none <| RunL.v (O.lss (.lit rfl) (.k rfl)) rfl rfl .none <| RunL.v (O.mv (.lit rfl)) rfl rfl .none ?_
    rcases cnd hj with ⟨hb1, hj⟩ | ⟨hb1, hj⟩
    · obtain rfl := sm hj
      exact RunL.ps rfl rfl hb1 rfl rfl <| RunL.ps rfl rfl hb1 rfl rfl <| RunL.ps rfl rfl hb1 rfl rfl <| RunL.ps rfl rfl hb1 rfl rfl <| RunL.ps rfl rfl hb1 rfl rfl <| RunL.v (O.pkT (.lit rfl) hb1 (.k rfl)) rfl rfl .none <| RunL.v (O.mv (.lit rfl)) rfl rfl .none <| RunL.ps rfl rfl rfl rfl rfl <| RunL.ps rfl rfl rfl rfl rfl <| RunL.ps rfl rfl rfl rfl rfl <| RunL.ps rfl rfl rfl rfl rfl <| RunL.ps rfl rfl rfl rfl rfl <| RunL.ps rfl rfl rfl rfl rfl <| RunL.ps rfl rfl rfl rfl rfl <| RunL.v (O.pkT (.lit rfl) rfl (.k rfl)) rfl rfl .none <| RunL.fin (.n rfl (.n rfl (.n rfl .nil)))
    · refine RunL.v (O.mv (.lit rfl)) rfl rfl (.yb rfl rfl hb1) <| RunL.v (O.fO rfl (.obj rfl) fd38_2 rfl) rfl rfl (.yb rfl rfl hb1) <| RunL.v (O.ldO (y := iR eProd_0 a0.Prods) rfl (.ptr rfl) ct36 rfl rfl) rfl rfl (.yb rfl rfl hb1) <| RunL.v (O.lenI (.imm rfl) sl36) rfl rfl (.yb rfl rfl hb1) <| RunL.v (O.geq (.lit rfl) (.lit rfl)) rfl rfl (.yb rfl rfl hb1) <| RunL.v (O.pkF (.lit rfl) hb1 (.lit rfl)) rfl rfl .none <| RunL.v (O.mv (.lit rfl)) rfl rfl .none ?_
      rcases cnd hj with ⟨hb2, hj⟩ | ⟨hb2, hj⟩
      · obtain rfl := sm hj
        exact RunL.ps rfl rfl hb2 rfl rfl <| RunL.ps rfl rfl hb2 rfl rfl <| RunL.ps rfl rfl hb2 rfl rfl <| RunL.ps rfl rfl hb2 rfl rfl <| RunL.ps rfl rfl hb2 rfl rfl <| RunL.ps rfl rfl hb2 rfl rfl <| RunL.ps rfl rfl hb2 rfl rfl <| RunL.v (O.pkT (.lit rfl) hb2 (.k rfl)) rfl rfl .none <| RunL.fin (.n rfl (.n rfl (.n rfl .nil)))
      · refine RunL.v (O.fO rfl (.obj rfl) fd38_2 rfl) rfl rfl (.yb rfl rfl hb2) <| RunL.v (O.ldO (y := iR eProd_0 a0.Prods) rfl (.ptr rfl) ct36 rfl rfl) rfl rfl (.yb rfl rfl hb2) <| RunL.v (O.mv (.lit rfl)) rfl rfl (.yb rfl rfl hb2) ?_
        obtain ⟨x3, hx3, hj⟩ := bnd hj
        obtain rfl := sm hj
        exact RunL.v (O.ixI (.imm rfl) (.lit rfl) sl36 hx3) rfl rfl (.yb rfl rfl hb2) <| RunL.v (O.fI (.iptr rfl) fd109_2) rfl rfl (.yb rfl rfl hb2) <| RunL.v (O.ldI (x := I64 x3.Prec) (.iptr rfl) ct3 rfl) rfl rfl (.yb rfl rfl hb2) <| RunL.v (O.lss (.lit rfl) (.k rfl)) rfl rfl (.yb rfl rfl hb2) <| RunL.v (O.pkF (.lit rfl) hb2 (.lit rfl)) rfl rfl .none <| RunL.fin (.n rfl (.n rfl (.n rfl .nil)))
  refine Px.sq ?_
  refine W.cnd rfl (fun hb5 => ?_) (fun hb5 => ?_)
  · replace h := cndT hb5 h
    refine W.sq' ?_
    refine W.rx [(4, _), (5, _)] (RunL.v (O.as (.k rfl)) rfl rfl .none <| RunL.v (O.as (.k rfl)) rfl rfl .none <| RunL.fin (.n rfl (.n rfl .nil))) ?_
    refine Px.sq ?_
    refine W.rt ?_
    refine Px.sqR ?_
    obtain rfl := sm h
    exact Px.fin (Fin.ro (.f rfl rfl (.f rfl rfl .nil)) rfl (of_decide_eq_true (by kernel_rfl)) (.no (.no .nil)) rfl (.inr rfl))
  · replace h := cndF hb5 h
    refine W.sk ?_
    refine Px.sq ?_
    refine W.sq' ?_
    obtain ⟨x6, hx6, h⟩ := bnd h
    obtain ⟨x7, hx7, h⟩ := bnd h
    refine W.rd [[], [0], [], [2], [], [2, 3, 4], [2, 3, 4, 5], [2, 3, 4, 5, 6], [0, 1, 2, 3, 4, 5, 6, 7], [0, 1, 2, 3, 4, 5, 6, 7, 8], [], [0, 1, 2, 3, 4, 5, 6, 7, 8, 9, 10]] [(6, _)] mixo (by kernel_rfl) (DL.v 0 (O.fO rfl (.obj rfl) fd38_0 rfl) rfl rfl rfl rfl .none <| DL.v 1 (O.ldO (y := iR eTok a0.Toks) rfl (.ptr rfl) ct34 rfl rfl) rfl rfl rfl rfl .none <| DL.v 2 (O.fO rfl (.obj rfl) fd38_2 rfl) rfl rfl rfl rfl .none <| DL.v 3 (O.ldO (y := iR eProd_0 a0.Prods) rfl (.ptr rfl) ct36 rfl rfl) rfl rfl rfl rfl .none <| DL.v 4 (O.mv (.lit rfl)) rfl rfl rfl rfl .none <| DL.v 5 (O.ixI (.imm rfl) (.lit rfl) sl36 hx6) rfl rfl rfl rfl .none <| DL.v 6 (O.fI (.iptr rfl) fd109_2) rfl rfl rfl rfl .none <| DL.v 7 (O.ldI (x := I64 x6.Prec) (.iptr rfl) ct3 rfl) rfl rfl rfl rfl .none <| DL.v 8 (O.ixI (.imm rfl) (.lit rfl) sl34 hx7) rfl rfl rfl rfl .none <| DL.v 9 (O.ldIN (cs' := [SS x7.Name, BB x7.Lit, I64 x7.Num, I64 x7.Level, I64 x7.Assoc, SS x7.Tag]) (.iptr rfl) at52 rfl rfl) rfl rfl rfl rfl .none <| DL.v 10 (O.al (cs := [SS ({ data := #[] }), BB false, I64 0, I64 0, I64 0, SS ({ data := #[] })]) ze52 rfl rfl) rfl rfl rfl rfl .none <| DL.sO 11 (G2 := [(6, .obj [SS x7.Name, BB x7.Lit, I64 x7.Num, I64 x7.Level, I64 x7.Assoc, SS x7.Tag])]) (cs2 := [SS x7.Name, BB x7.Lit, I64 x7.Num, I64 x7.Level, I64 x7.Assoc, SS x7.Tag]) rfl (by kernel_rfl) (by kernel_rfl) rfl rfl rfl (.obj rfl) (.aggF rfl rfl) rfl sz52 rfl rfl rfl rfl (.b rfl .nil) <| DL.fin rfl rfl rfl (.n rfl .nil)) ?_
    refine Px.sq ?_
    refine W.sq' ?_
    refine W.rd [[], [0], [], [2], [0, 1], [0, 1, 2, 3, 4]] [(4, _), (5, _)] mixo (by kernel_rfl) (DL.v 0 (O.fO rfl (.obj rfl) fd52_3 rfl) rfl rfl rfl rfl .none <| DL.v 1 (O.ldO (y := I64 x7.Level) rfl (.ptr rfl) ct3 rfl rfl) rfl rfl rfl rfl .none <| DL.v 2 (O.fO rfl (.obj rfl) fd52_4 rfl) rfl rfl rfl rfl .none <| DL.v 3 (O.ldO (y := I64 x7.Assoc) rfl (.ptr rfl) ct3 rfl rfl) rfl rfl rfl rfl .none <| DL.v 4 (O.as (.lit rfl)) rfl rfl rfl rfl .none <| DL.v 5 (O.as (.lit rfl)) rfl rfl rfl rfl .none <| DL.fin rfl rfl rfl (.n rfl (.n rfl .nil))) ?_
    refine Px.sq ?_
    refine W.rt ?_
    obtain rfl := sm h
    exact Px.fin (Fin.ro (.f rfl rfl (.f rfl rfl .nil)) rfl (of_decide_eq_true (by kernel_rfl)) (.no (.no .nil)) rfl (.inr rfl))
def pf22 (a0 : Grammar) (a1 : Int) (a2 : Int) : Option (Int) :=
 (pf20 a0 a1).bind fun x1 =>
 ((bif decide (x1.1 = 0) then some true else (bif decide (a2 < 0) then some true else (bif decide ((a0.Toks.length : Int) ≤ a2) then some true else ((idx a0.Toks a2).bind fun x5 => some (decide (x5.Level = 0))))))).bind fun c6 =>
 (bif c6 then
 some 0
 else
 (idx a0.Toks a2).bind fun x8 =>
 (bif decide (x1.1 < x8.Level) then
 some 1
 else
 (bif decide (x8.Level < x1.1) then
 some 2
 else
 (bif decide (x8.Assoc = 1) then
 some 2
 else
 (bif decide (x8.Assoc = 2) then
 some 1
 else
 some 3)))))
theorem con22 (a0 : Grammar) (a1 : Int) (a2 : Int) (r : Int) (h : pf22 a0 a1 a2 = some r) : Con Try.prog 22 [.agg [iR eTok a0.Toks, iR eNon a0.Nons, iR eProd_0 a0.Prods, SS a0.Pro, SS a0.Tail], I64 a1, I64 a2] [none, none, none] (I64 r) := by
  unfold pf22 at h
  refine Con.go (N := ⟨61, []⟩) Try.func22 rfl rfl rfl rfl (W.fin ?_)
  refine W.st [(0, .agg [iR eTok a0.Toks, iR eNon a0.Nons, iR eProd_0 a0.Prods, SS a0.Pro, SS a0.Tail]), (1, I64 a1), (2, I64 a2)] ?_
  refine W.sq' ?_
  refine W.rx [(1, _), (2, _), (3, _)] (RunL.v (O.box (.aggF rfl rfl) rfl) rfl rfl .none <| RunL.v (O.as (.k rfl)) rfl rfl .none <| RunL.fin (.n rfl (.n rfl (.n rfl .nil)))) ?_
  refine Px.sq ?_
  refine W.sq' ?_
  obtain ⟨x1, hx1, h⟩ := bnd h
  refine W.rx [(2, _), (3, _), (7, _)] (RunL.v (O.ldON (cs' := [iR eTok a0.Toks, iR eNon a0.Nons, iR eProd_0 a0.Prods, SS a0.Pro, SS a0.Tail]) rfl (.obj rfl) at38 rfl rfl) rfl rfl .none <| RunL.v (O.mv (.lit rfl)) rfl rfl .none <| RunL.c (PC.go (.cc (.aggF rfl rfl) (.cc (.lit rfl) .nil)) (con20 a0 a1 _ hx1) call20 rfl) rfl rfl .none <| RunL.v (O.mv (.tupF rfl rfl)) rfl rfl .none <| RunL.v (O.ex (y := I64 x1.1) rfl rfl rfl) rfl rfl .none <| RunL.v (O.ex (y := I64 x1.2) rfl rfl rfl) rfl rfl .none <| RunL.v (O.as (.lit rfl)) rfl rfl .none <| RunL.v (O.as (.lit rfl)) rfl rfl .none <| RunL.fin (.n rfl (.n rfl (.n rfl .nil)))) ?_
  refine Px.sq ?_
  refine W.sq' ?_
  refine W.sq' ?_
  obtain ⟨c6, hj, h⟩ := bnd h
  refine W.rx [(2, I64 a2), (3, .obj [iR eTok a0.Toks, iR eNon a0.Nons, iR eProd_0 a0.Prods, SS a0.Pro, SS a0.Tail]), (7, I64 x1.1), (37, BB c6)] ?_ ?_
  · refine RunL.v (O.mv (.lit rfl)) rfl rfl .none <| RunL.v (O.eql (.lit rfl) (.k rfl)) rfl rfl .none <| RunL.v (O.mv (.lit rfl)) rfl rfl .none ?_
    rcases cnd hj with ⟨hb2, hj⟩ | ⟨hb2, hj⟩
    · obtain rfl := sm hj
      exact RunL.ps rfl rfl hb2 rfl rfl <| RunL.ps rfl rfl hb2 rfl rfl <| RunL.v (O.pkT (.lit rfl) hb2 (.k rfl)) rfl rfl .none <| RunL.v (O.mv (.lit rfl)) rfl rfl .none <| RunL.ps rfl rfl rfl rfl rfl <| RunL.ps rfl rfl rfl rfl rfl <| RunL.ps rfl rfl rfl rfl rfl <| RunL.ps rfl rfl rfl rfl rfl <| RunL.ps rfl rfl rfl rfl rfl <| RunL.v (O.pkT (.lit rfl) rfl (.k rfl)) rfl rfl .none <| RunL.v (O.mv (.lit rfl)) rfl rfl .none <| RunL.ps rfl rfl rfl rfl rfl <| RunL.ps rfl rfl rfl rfl rfl <| RunL.ps rfl rfl rfl rfl rfl <| RunL.ps rfl rfl rfl rfl rfl <| RunL.ps rfl rfl rfl rfl rfl <| RunL.ps rfl rfl rfl rfl rfl <| RunL.ps rfl rfl rfl rfl rfl <| RunL.v (O.pkT (.lit rfl) rfl (.k rfl)) rfl rfl .none <| RunL.fin (.n rfl (.n rfl (.n rfl (.n rfl .nil))))
    · refine RunL.v (O.mv (.lit rfl)) rfl rfl (.yb rfl rfl hb2) <| RunL.v (O.lss (.lit rfl) (.k rfl)) rfl rfl (.yb rfl rfl hb2) <| RunL.v (O.pkF (.lit rfl) hb2 (.lit rfl)) rfl rfl .none <| RunL.v (O.mv (.lit rfl)) rfl rfl .none ?_
      rcases cnd hj with ⟨hb3, hj⟩ | ⟨hb3, hj⟩
      · obtain rfl := sm hj
        exact RunL.ps rfl rfl hb3 rfl rfl <| RunL.ps rfl rfl hb3 rfl rfl <| RunL.ps rfl rfl hb3 rfl rfl <| RunL.ps rfl rfl hb3 rfl rfl <| RunL.ps rfl rfl hb3 rfl rfl <| RunL.v (O.pkT (.lit rfl) hb3 (.k rfl)) rfl rfl .none <| RunL.v (O.mv (.lit rfl)) rfl rfl .none <| RunL.ps rfl rfl rfl rfl rfl <| RunL.ps rfl rfl rfl rfl rfl <| RunL.ps rfl rfl rfl rfl rfl <| RunL.ps rfl rfl rfl rfl rfl <| RunL.ps rfl rfl rfl rfl rfl <| RunL.ps rfl rfl rfl rfl rfl <| RunL.ps rfl rfl rfl rfl rfl <| RunL.v (O.pkT (.lit rfl) rfl (.k rfl)) rfl rfl .none <| RunL.fin (.n rfl (.n rfl (.n rfl (.n rfl .nil))))
      · refine RunL.v (O.mv (.lit rfl)) rfl rfl (.yb rfl rfl hb3) <| RunL.v (O.fO rfl (.obj rfl) fd38_0 rfl) rfl rfl (.yb rfl rfl hb3) <| RunL.v (O.ldO (y := iR eTok a0.Toks) rfl (.ptr rfl) ct34 rfl rfl) rfl rfl (.yb rfl rfl hb3) <| RunL.v (O.lenI (.imm rfl) sl34) rfl rfl (.yb rfl rfl hb3) <| RunL.v (O.geq (.lit rfl) (.lit rfl)) rfl rfl (.yb rfl rfl hb3) <| RunL.v (O.pkF (.lit rfl) hb3 (.lit rfl)) rfl rfl .none <| RunL.v (O.mv (.lit rfl)) rfl rfl .none ?_
        rcases cnd hj with ⟨hb4, hj⟩ | ⟨hb4, hj⟩
        · obtain rfl := sm hj
          exact RunL.ps rfl rfl hb4 rfl rfl <| RunL.ps rfl rfl hb4 rfl rfl <| RunL.ps rfl rfl hb4 rfl rfl <| RunL.ps rfl rfl hb4 rfl rfl <| RunL.ps rfl rfl hb4 rfl rfl <| RunL.ps rfl rfl hb4 rfl rfl <| RunL.ps rfl rfl hb4 rfl rfl <| RunL.v (O.pkT (.lit rfl) hb4 (.k rfl)) rfl rfl .none <| RunL.fin (.n rfl (.n rfl (.n rfl (.n rfl .nil))))
        · refine RunL.v (O.fO rfl (.obj rfl) fd38_0 rfl) rfl rfl (.yb rfl rfl hb4) <| RunL.v (O.ldO (y := iR eTok a0.Toks) rfl (.ptr rfl) ct34 rfl rfl) rfl rfl (.yb rfl rfl hb4) <| RunL.v (O.mv (.lit rfl)) rfl rfl (.yb rfl rfl hb4) ?_
          obtain ⟨x5, hx5, hj⟩ := bnd hj
          obtain rfl := sm hj
          exact RunL.v (O.ixI (.imm rfl) (.lit rfl) sl34 hx5) rfl rfl (.yb rfl rfl hb4) <| RunL.v (O.fI (.iptr rfl) fd52_3) rfl rfl (.yb rfl rfl hb4) <| RunL.v (O.ldI (x := I64 x5.Level) (.iptr rfl) ct3 rfl) rfl rfl (.yb rfl rfl hb4) <| RunL.v (O.eql (.lit rfl) (.k rfl)) rfl rfl (.yb rfl rfl hb4) <| RunL.v (O.pkF (.lit rfl) hb4 (.lit rfl)) rfl rfl .none <| RunL.fin (.n rfl (.n rfl (.n rfl (.n rfl .nil))))
  refine Px.sq ?_
  refine W.cnd rfl (fun hb7 => ?_) (fun hb7 => ?_)
  · replace h := cndT hb7 h
    refine W.sq' ?_
    refine W.rx [(6, _)] (RunL.v (O.as (.k rfl)) rfl rfl .none <| RunL.fin (.n rfl .nil)) ?_
    refine Px.sq ?_
    refine W.rt ?_
    refine Px.sqR ?_
    obtain rfl := sm h
    exact Px.fin (Fin.ro (.f rfl rfl .nil) rfl (of_decide_eq_true (by kernel_rfl)) (.no (.no (.no .nil))) rfl (.inr rfl))
  · replace h := cndF hb7 h
    refine W.sk ?_
    refine Px.sq ?_
    refine W.sq' ?_
    obtain ⟨x8, hx8, h⟩ := bnd h
    refine W.rx [(7, _), (9, _)] (RunL.v (O.fO rfl (.obj rfl) fd38_0 rfl) rfl rfl .none <| RunL.v (O.ldO (y := iR eTok a0.Toks) rfl (.ptr rfl) ct34 rfl rfl) rfl rfl .none <| RunL.v (O.mv (.lit rfl)) rfl rfl .none <| RunL.v (O.ixI (.imm rfl) (.lit rfl) sl34 hx8) rfl rfl .none <| RunL.v (O.ldIN (cs' := [SS x8.Name, BB x8.Lit, I64 x8.Num, I64 x8.Level, I64 x8.Assoc, SS x8.Tag]) (.iptr rfl) at52 rfl rfl) rfl rfl .none <| RunL.v (O.al (cs := [SS ({ data := #[] }), BB false, I64 0, I64 0, I64 0, SS ({ data := #[] })]) ze52 rfl rfl) rfl rfl .none <| RunL.sO (G2 := [(7, I64 x1.1), (9, .obj [SS x8.Name, BB x8.Lit, I64 x8.Num, I64 x8.Level, I64 x8.Assoc, SS x8.Tag])]) (cs2 := [SS x8.Name, BB x8.Lit, I64 x8.Num, I64 x8.Level, I64 x8.Assoc, SS x8.Tag]) rfl (.obj rfl) (.aggF rfl rfl) rfl sz52 rfl rfl rfl rfl (.n rfl rfl (.b rfl .nil)) <| RunL.fin (.n rfl (.n rfl .nil))) ?_
    refine Px.sq ?_
    refine W.sq' ?_
    refine W.bk ?_
    refine W.sq' ?_
    refine W.rx [(7, _), (9, _), (43, _)] (RunL.v (O.fO rfl (.obj rfl) fd52_3 rfl) rfl rfl .none <| RunL.v (O.ldO (y := I64 x8.Level) rfl (.ptr rfl) ct3 rfl rfl) rfl rfl .none <| RunL.v (O.mv (.lit rfl)) rfl rfl .none <| RunL.v (O.gtr (.lit rfl) (.lit rfl)) rfl rfl .none <| RunL.v (O.as (.lit rfl)) rfl rfl .none <| RunL.fin (.n rfl (.n rfl (.n rfl .nil)))) ?_
    refine Px.sq ?_
    refine W.cnd rfl (fun hb9 => ?_) (fun hb9 => ?_)
    · replace h := cndT hb9 h
      refine W.sq' ?_
      refine W.rx [(6, _)] (RunL.v (O.as (.k rfl)) rfl rfl .none <| RunL.fin (.n rfl .nil)) ?_
      refine Px.sq ?_
      refine W.rt ?_
      refine Px.bkR ?_
      refine Px.sqR ?_
      obtain rfl := sm h
      exact Px.fin (Fin.ro (.f rfl rfl .nil) rfl (of_decide_eq_true (by kernel_rfl)) (.no (.no (.no .nil))) rfl (.inr rfl))
    · replace h := cndF hb9 h
      refine W.sq' ?_
      refine W.rx [(9, _), (48, _)] (RunL.v (O.fO rfl (.obj rfl) fd52_3 rfl) rfl rfl .none <| RunL.v (O.ldO (y := I64 x8.Level) rfl (.ptr rfl) ct3 rfl rfl) rfl rfl .none <| RunL.v (O.mv (.lit rfl)) rfl rfl .none <| RunL.v (O.lss (.lit rfl) (.lit rfl)) rfl rfl .none <| RunL.v (O.as (.lit rfl)) rfl rfl .none <| RunL.fin (.n rfl (.n rfl .nil))) ?_
      refine Px.sq ?_
      refine W.cnd rfl (fun hb10 => ?_) (fun hb10 => ?_)
      · replace h := cndT hb10 h
        refine W.sq' ?_
        refine W.rx [(6, _)] (RunL.v (O.as (.k rfl)) rfl rfl .none <| RunL.fin (.n rfl .nil)) ?_
        refine Px.sq ?_
        refine W.rt ?_
        refine Px.bkR ?_
        refine Px.sqR ?_
        obtain rfl := sm h
        exact Px.fin (Fin.ro (.f rfl rfl .nil) rfl (of_decide_eq_true (by kernel_rfl)) (.no (.no (.no .nil))) rfl (.inr rfl))
      · replace h := cndF hb10 h
        refine W.sq' ?_
        refine W.rx [(9, _), (53, _)] (RunL.v (O.fO rfl (.obj rfl) fd52_4 rfl) rfl rfl .none <| RunL.v (O.ldO (y := I64 x8.Assoc) rfl (.ptr rfl) ct3 rfl rfl) rfl rfl .none <| RunL.v (O.eql (.lit rfl) (.k rfl)) rfl rfl .none <| RunL.v (O.as (.lit rfl)) rfl rfl .none <| RunL.fin (.n rfl (.n rfl .nil))) ?_
        refine Px.sq ?_
        refine W.cnd rfl (fun hb11 => ?_) (fun hb11 => ?_)
        · replace h := cndT hb11 h
          refine W.sq' ?_
          refine W.rx [(6, _)] (RunL.v (O.as (.k rfl)) rfl rfl .none <| RunL.fin (.n rfl .nil)) ?_
          refine Px.sq ?_
          refine W.rt ?_
          refine Px.bkR ?_
          refine Px.sqR ?_
          obtain rfl := sm h
          exact Px.fin (Fin.ro (.f rfl rfl .nil) rfl (of_decide_eq_true (by kernel_rfl)) (.no (.no (.no .nil))) rfl (.inr rfl))
        · replace h := cndF hb11 h
          refine W.sq' ?_
          refine W.rx [(57, _)] (RunL.v (O.fO rfl (.obj rfl) fd52_4 rfl) rfl rfl .none <| RunL.v (O.ldO (y := I64 x8.Assoc) rfl (.ptr rfl) ct3 rfl rfl) rfl rfl .none <| RunL.v (O.eql (.lit rfl) (.k rfl)) rfl rfl .none <| RunL.v (O.as (.lit rfl)) rfl rfl .none <| RunL.fin (.n rfl .nil)) ?_
          refine Px.sq ?_
          refine W.cnd rfl (fun hb12 => ?_) (fun hb12 => ?_)
          · replace h := cndT hb12 h
            refine W.sq' ?_
            refine W.rx [(6, _)] (RunL.v (O.as (.k rfl)) rfl rfl .none <| RunL.fin (.n rfl .nil)) ?_
            refine Px.sq ?_
            refine W.rt ?_
            refine Px.bkR ?_
            refine Px.sqR ?_
            obtain rfl := sm h
            exact Px.fin (Fin.ro (.f rfl rfl .nil) rfl (of_decide_eq_true (by kernel_rfl)) (.no (.no (.no .nil))) rfl (.inr rfl))
          · replace h := cndF hb12 h
            refine W.sk ?_
            refine Px.bk ?_
            refine Px.sq ?_
            refine W.sq' ?_
            refine W.rx [(6, _)] (RunL.v (O.as (.k rfl)) rfl rfl .none <| RunL.fin (.n rfl .nil)) ?_
            refine Px.sq ?_
            refine W.rt ?_
            obtain rfl := sm h
            exact Px.fin (Fin.ro (.f rfl rfl .nil) rfl (of_decide_eq_true (by kernel_rfl)) (.no (.no (.no .nil))) rfl (.inr rfl))
def pf15  : Option (Bool) :=
 (pf23 [0, 0] 0 1).bind fun x1 =>
 (pf19 x1.1 2).bind fun x2 =>
 (pf19 x1.1 9).bind fun x3 =>
 ((bif x1.2.2 then (bif decide (x2.1 = 2) then (bif decide (x2.2 = 1) then (bif decide (x3.1 = 0) then (bif decide (x3.2 = 0) then ((pf21 x1.1 2 3).bind fun x9 => (bif decide (x9 = 2) then ((pf21 x1.1 1 4).bind fun x11 => (bif decide (x11 = 1) then ((pf21 x1.1 3 3).bind fun x13 => some (decide (x13 = 0))) else some false)) else some false)) else some false) else some false) else some false) else some false) else some false)).bind fun c14 =>
 some c14
end Go.Proofs
